/-
  WHAT THE FUNCTIONS THAT THE LAWS REACH COMPUTE: each function's contract, proved off its printed body (the text is written by program). No condition beyond those that each theorem states.
-/
import Derived.Test.YtbebcagblefhcaaGreatDoorC2
namespace Go.Proofs.YtbebcagblefhcaaGreatDoor
open Go Go.BL
set_option linter.unusedVariables false
set_option linter.unusedSimpArgs false
set_option maxRecDepth 4000
set_option maxHeartbeats 6400000
variable {J : JoinT}
theorem ZmJ (q1 q2 q3:Option Addr) (c1 c2 c3:Nat) (x:DHost) (s:DSess) (hs1:s.user.length≤2000000) (hs2:s.owner.length≤2000000) (hs3:s.name.length≤2000000) (q4:Option Addr) (c4:Nat) (set:List DSpan) (how fl:Int) (hd:x.domain.length≤2000000) (B:Kn) (hu:SlK B q1 c1 3 ZA x.users) (hf:SlK B q2 c2 5 Zf x.folders) (hi:SlK B q3 c3 4 ZC x.queue.items) (hs:SlK B q4 c4 2 ZfC set):Zu (pj J) 263 [.agg #[str x.domain,.slice q1 x.users.length c1,.slice q2 x.folders.length c2,.int .i64 x.queue.next,.slice q3 x.queue.items.length c3],.agg #[str s.user,str s.owner,str s.name],.slice q4 set.length c4,.int .i64 how,.int .i64 fl] B [] (fun v B' Ls=>Ls=[]∧∃p1 d1 p2 d2 p3 d3,v = .tuple #[.agg #[str (Zcd x s set how fl).1.domain,.slice p1 (Zcd x s set how fl).1.users.length d1,.slice p2 (Zcd x s set how fl).1.folders.length d2,.int .i64 (Zcd x s set how fl).1.queue.next,.slice p3 (Zcd x s set how fl).1.queue.items.length d3],.int .i64 (Zcd x s set how fl).2]∧SlK B' p1 d1 3 ZA (Zcd x s set how fl).1.users∧SlK B' p2 d2 5 Zf (Zcd x s set how fl).1.folders∧SlK B' p3 d3 4 ZC (Zcd x s set how fl).1.queue.items∧(Zcd x s set how fl).1.domain.length≤2000000):=by
 refine cB 75 Tryz.func263 (h:=?_)
 have hun:=hu.len
 have hfn:=hf.len
 have hin:=hi.len
 have hsn:=hs.len
 have hix:=Zdb (inF s.owner s.name) x.folders
 refine Za (xBx [_,_,_,_,_] (h:=fun b1=>xBx [_,_,_] (h:=fun b2=>xAl [_,_,_,_,_] Za6 (h:=fun b3=>xA (h:=tL3 (Zh (Za (xL [_,_,_,_,_] ZY 0 (h:=xR Zrl rfl (Zbp _ _ _ _ _ _ x om2 _ hu hf hi) (h:=?_))))))))))
 refine xN (h:=xM (h:=Zq (d:=20) rfl (fun g1=>?_) (fun g1=>?_)))
 try simp only [sQ,ne_eq] at g1
 rw [Zcd,if_pos (by simp [g1])]
 refine xP (h:=xP (h:=xP (h:=xT (h:=xM (h:=xP (h:=xP (h:=xP (h:=xT (h:=xM (h:=xP (h:=xP (h:=xP (h:=xT (h:=Zb (t:=true) rfl (fun _=>Za (xB [] [_,_,_,_,_] [_,_,_,_,_] ZdY Za6 (h:=xS [_,_,_,_,_] 2 [_,_,_,_,_] Zau (h:=xA (h:=tL3 (Zd (Zp ?_))))))) (fun h=>Bool.noConfusion h)))))))))))))))
 exact Zat .ret (.inl rfl) [_,_] [] rfl ⟨⟨_,rfl,.inr ⟨[_,_,_,_,_],ZY,Zaa 2 rfl rfl rfl,rfl⟩⟩,rfl,trivial⟩ ⟨rfl,none,0,none,0,none,0,rfl,SlK.nil,SlK.nil,SlK.nil,by simp [ZaU]⟩
 try simp only [sQ,ne_eq] at g1
 refine xM (h:=xR Zx7 rfl (Zim _ _ set _ hs) (h:=xN (h:=xF (h:=xM (h:=Zq (d:=25) rfl (fun g2=>?_) (fun g2=>?_))))))
 try simp only [sQ,ne_eq] at g2
 rw [Zcd,if_pos (by simp [g2])]
 refine xP (h:=xP (h:=xP (h:=xT (h:=xM (h:=xP (h:=xP (h:=xP (h:=xT (h:=Zb (t:=true) rfl (fun _=>Za (xB [] [_,_,_,_,_] [_,_,_,_,_] ZdY Za6 (h:=xS [_,_,_,_,_] 2 [_,_,_,_,_] Zau (h:=xA (h:=tL3 (Zd (Zp ?_))))))) (fun h=>Bool.noConfusion h))))))))))
 exact Zat .ret (.inl rfl) [_,_] [] rfl ⟨⟨_,rfl,.inr ⟨[_,_,_,_,_],ZY,Zaa 2 rfl rfl rfl,rfl⟩⟩,rfl,trivial⟩ ⟨rfl,none,0,none,0,none,0,rfl,SlK.nil,SlK.nil,SlK.nil,by simp [ZaU]⟩
 try simp only [sQ,ne_eq] at g2
 refine xM (h:=xR Zrp rfl (Zfa _ _) (h:=xN (h:=xF (h:=xM (h:=Zq (d:=30) rfl (fun g3=>?_) (fun g3=>?_))))))
 try simp only [sQ,ne_eq] at g3
 rw [Zcd,if_pos (fun h=>by have:=h.2.2.1;simp only [ZaW,g3] at this;cases this)]
 refine xP (h:=xP (h:=xP (h:=xT (h:=Zb (t:=true) rfl (fun _=>Za (xB [] [_,_,_,_,_] [_,_,_,_,_] ZdY Za6 (h:=xS [_,_,_,_,_] 2 [_,_,_,_,_] Zau (h:=xA (h:=tL3 (Zd (Zp ?_))))))) (fun h=>Bool.noConfusion h)))))
 exact Zat .ret (.inl rfl) [_,_] [] rfl ⟨⟨_,rfl,.inr ⟨[_,_,_,_,_],ZY,Zaa 2 rfl rfl rfl,rfl⟩⟩,rfl,trivial⟩ ⟨rfl,none,0,none,0,none,0,rfl,SlK.nil,SlK.nil,SlK.nil,by simp [ZaU]⟩
 try simp only [sQ,ne_eq] at g3
 refine xM (h:=xR ZjW rfl (Zct _ _ _ _) (h:=xN (h:=xF (h:=Zb rfl (fun g4=>?_) (fun g4=>?_)))))
 try simp only [sQ,ne_eq] at g4
 rw [Zcd,if_pos (fun h=>by have:=h.2.2.2;simp only [Zkv,g4] at this;cases this)]
 refine Za (xB [] [_,_,_,_,_] [_,_,_,_,_] ZdY Za6 (h:=xS [_,_,_,_,_] 2 [_,_,_,_,_] Zau (h:=xA (h:=tL3 (Zd (Zp ?_))))))
 exact Zat .ret (.inl rfl) [_,_] [] rfl ⟨⟨_,rfl,.inr ⟨[_,_,_,_,_],ZY,Zaa 2 rfl rfl rfl,rfl⟩⟩,rfl,trivial⟩ ⟨rfl,none,0,none,0,none,0,rfl,SlK.nil,SlK.nil,SlK.nil,by simp [ZaU]⟩
 try simp only [sQ,ne_eq] at g4
 have hok:Zz x=true:=by simpa using g1
 have hrr:=Zb0 hok
 have hnn : ¬ ¬ (Zz x=true∧ZeI set=true∧ZaW fl=true∧Zkv how=true):=fun h=>h ⟨hok,by simpa using g2,by simpa only [ZaW,Bool.not_eq_false] using g3,by simpa only [Zkv,Bool.not_eq_false] using g4⟩
 refine wSk (Za (xL [_,_,_,_,_] ZY 0 (h:=xL [_,_,_] ZfZ 1 (h:=xR Zx6 rfl (Zm5 _ _ _ _ _ _ x s om2 om2 om2 4 hrr oz _ hu hf) (h:=?_)))))
 refine xM (h:=xE (h:=xE (h:=xA (h:=xA (h:=Za (xL [_,_,_,_,_] ZY 0 (h:=xC Zol rfl (Zbh _ _ _ _ _ _ x _ hu hf hi) (h:=?_))))))))
 rintro _ B9 _ hle9 ⟨l9,a9,c9,q19,c19,q39,c39,rfl,rfl,hu9,hs9,hi9⟩
 obtain ⟨hf,hs⟩:=up2 hle9 hf hs
 have hu9n:=hu9.len
 have hi9n:=hi9.len
 refine xAl [_,_,_,_,_] Za6 (h:=fun b10=>xS [_,_,_,_,_] 4 [_,_,_,_,_] Zau (h:=tL5 (Zh (Za (xM (h:=Zdt (h:=Zb rfl (fun g5=>?_) (fun g5=>?_))))))))
 try simp only [sQ,ne_eq] at g5
 refine Za (xL [_,_,_,_,_] ZY 4 (h:=ZZ 3 rfl hs9 Zf.mono om3 (fun B11 hle11 hr11=>?_)))
 obtain ⟨hf,hs,hu9,hi9⟩:=up4 hle11 hf hs hu9 hi9
 have hr11n:=hr11.len
 refine xM (h:=?_)
 rw [Zcd,if_neg hnn,if_pos g5]
 refine xS [_,_,_,_,_] 2 [_,_,_,_,_] Zau (h:=xA (h:=tL5 (Zd (Zp ?_))))
 exact Zat .ret (.inl rfl) [_,_] [] rfl ⟨⟨_,rfl,.inr ⟨[_,_,_,_,_],ZY,Zaa 2 rfl rfl rfl,rfl⟩⟩,rfl,trivial⟩ ⟨rfl,_,_,_,_,_,_,(by first | rfl | (simp only [DHost.withFolders,List.length_set];rfl)),hu9,hr11,hi9,by first | assumption | (rw [ZR.2.2.1];assumption)⟩
 try simp only [sQ,ne_eq] at g5
 obtain ⟨hat,hk0,_,_,_⟩:=ZhW g5
 obtain ⟨f,hf0⟩ :∃f,x.folders[(atF x s 4).1.toNat]? = some f:=⟨_,List.getElem?_eq_getElem oz⟩
 have hfb:Zbm (⟨f.next,f.mail⟩:DBox)=true:=Zb3 (Zbt hok hf0)
 have hse:Zcd x s set how fl=(x.withFolders (x.folders.set (atF x s 4).1.toNat (f.withBox (Zbj ⟨f.next,f.mail⟩ (ZaD set f.mail.length) how fl).1)),0):=by rw [Zcd,if_neg hnn,if_neg (fun h=>h g5),Zdr hf0,Zio hf0];rfl
 refine wSk (Zh (ZV (keeps _ [0,3] _) mo kr ⟨Kn.le.refl _,Zae.refl _ _⟩ (fun _ _=>?_)))
 refine aW 0 rfl Z1 (h:=aT 1 rfl (Zx fun D B L hI=>Ze rfl rfl ZcM rfl (atL 0 (hI.2.1.trans rfl) rfl rfl) r4) (h:=aM 2 rfl (h:=?_)))
 obtain ⟨bb12,oo12,rfl⟩:=hf.base hf0
 obtain ⟨_,⟨qg13,cg13,qm13,cm13,rfl,hg13,hm13,hb13,hb13b⟩,hc13⟩:=hf.elem hf0
 have hg13n:=hg13.len
 have hm13n:=hm13.len
 have hm13s:=Z5 hm13
 refine aIx 3 rfl Tryz.underlying39 Zbo (h:=aW 4 rfl Zcx (h:=aT 5 rfl (Zx fun D B L hI=>ZX [_,_] rfl rfl ZbT rfl (ZmN (hc13.mono hI.1) 3 rfl rfl) r4) (h:=aW 6 rfl Z1 (h:=aT 7 rfl (Zx fun D B L hI=>Ze rfl rfl ZcM rfl (atL 0 (hI.2.1.trans rfl) rfl rfl) r4) (h:=aM 8 rfl (h:=aIx 9 rfl Tryz.underlying39 Zbo (h:=aW 10 rfl Zcx (h:=aT 11 rfl (Zx fun D B L hI=>ZX [_,_] rfl rfl ZbT rfl (ZmN (hc13.mono hI.1) 3 rfl rfl) r4) (h:=aM 12 rfl (h:=aM 14 rfl (h:=aM 15 rfl (h:=Zaf [13,20] kr kr kr ⟨?_,?_⟩))))))))))))
 refine (ZeD rfl rfl Zx5 rfl (Zkp _ _ (⟨f.next,f.mail⟩:DBox) _ _ set _ hm13 hs) ?_)
 intro v14 B14 hle14
 rintro ⟨a14,c14,rfl,hs14⟩
 replace hs:=up1 hle14 hs
 replace hm13:=hm13.mono ZS.mono hle14
 replace hs9:=hs9.mono Zf.mono hle14
 replace hu9:=hu9.mono ZA.mono hle14
 replace hi9:=hi9.mono ZC.mono hle14
 have hs14n:=hs14.len
 refine ⟨⟨hle14,t2⟩,(Zaf [16,20] kr kr kr ⟨?_,?_⟩)⟩
 refine (ZeD rfl rfl Zvd rfl (ZfU _ _ (⟨f.next,f.mail⟩:DBox) _ _ (ZaD set f.mail.length) how fl _ hm13 hs14) ?_)
 intro v15 B15 hle15
 rintro ⟨a15,c15,rfl,hs15⟩
 replace hs:=up1 hle15 hs
 replace hm13:=hm13.mono ZS.mono hle15
 replace hs14:=hs14.mono Zb9.mono hle15
 replace hs9:=hs9.mono Zf.mono hle15
 replace hu9:=hu9.mono ZA.mono hle15
 replace hi9:=hi9.mono ZC.mono hle15
 have hs15n:=hs15.len
 refine ⟨⟨(hle14.trans hle15),t2⟩,(aM 17 rfl (h:=aE 18 rfl (h:=aE 19 rfl (h:=Zo 20 kr rfl kr (Zac (l:=[_,_]) rfl rfl Zfo rfl (fun b16=>?_))))))⟩
 refine ⟨⟨(hle14.trans hle15),t2⟩,(Za4 21 kr rfl kr kr (ZE [_,_] 5 [_,_] rfl rfl ZcQ rfl rfl rfl rfl rfl rfl rfl rfl ?_))⟩
 refine aA 22 rfl (h:=Zv kr kr ?_)
 refine Zj (tL6 (Za (xW Z1 (h:=x1 ZcM 4 (h:=xM (h:=xL [_,_] ZbT 5 (h:=?_)))))))
 obtain ⟨bb17,_,hp17,⟨qg17,cg17,qm17,cm17,rfl,hg17,hm17,hb17,hb17b⟩,hw17,hc17⟩:=hs9.row hf0
 have hg17n:=hg17.len
 have hm17n:=hm17.len
 have hm17s:=Z5 hm17
 refine xIp hp17 Tryz.underlying39 Zbo (h:=xW Zcx (h:=Zm (ZeA (k:=((atF x s 4).1).toNat) (off:=3) (⟨f.owner,f.name,f.grants,(Zbj ⟨f.next,f.mail⟩ (ZaD set f.mail.length) how fl).1.next,(Zbj ⟨f.next,f.mail⟩ (ZaD set f.mail.length) how fl).1.mail⟩) [_,_] 3 hs9 hp17 hf0 rfl rfl ZcQ rfl rfl rfl rfl rfl rfl (by rintro _ ⟨_,_,_,_,rfl,e1,_,e3,e4⟩;exact ⟨_,_,_,_,rfl,e1,hs15,e3,e4⟩) (fun l18 hv18=>?_))))
 refine tL6 (Za (xL [_,_,_,_,_] ZY 4 (h:=ZZ 3 rfl hv18 Zf.mono om3 (fun B19 hle19 hr19=>?_))))
 obtain ⟨hs,hu9,hi9⟩:=up3 hle19 hs hu9 hi9
 have hr19n:=hr19.len
 refine xS [_,_,_,_,_] 2 [_,_,_,_,_] Zau (h:=?_)
 rw [hse]
 refine xA (h:=tL6 (Zd ?_))
 exact Zat .ret (.inl rfl) [_,_] [] rfl ⟨⟨_,rfl,.inr ⟨[_,_,_,_,_],ZY,Zaa 2 rfl rfl rfl,rfl⟩⟩,rfl,trivial⟩ ⟨rfl,_,_,_,_,_,_,(by first | rfl | (simp only [DHost.withFolders,List.length_set];rfl)),hu9,hr19,hi9,by first | assumption | (rw [ZR.2.2.1];assumption)⟩
 refine (Zac (l:=[_,_]) rfl rfl Zfo rfl (fun b20=>⟨⟨hle14,t2⟩,(Zo 16 kr rfl kr (ZeD rfl rfl Zvd rfl (ZfU _ _ (⟨f.next,f.mail⟩:DBox) _ _ (ZaD set f.mail.length) how fl _ hm13 hs14) ?_))⟩))
 intro v21 B21 hle21
 rintro ⟨a21,c21,rfl,hs21⟩
 replace hs:=up1 hle21 hs
 replace hm13:=hm13.mono ZS.mono hle21
 replace hs9:=hs9.mono Zf.mono hle21
 replace hu9:=hu9.mono ZA.mono hle21
 replace hi9:=hi9.mono ZC.mono hle21
 have hs21n:=hs21.len
 refine ⟨⟨(hle14.trans hle21),t2⟩,(aM 17 rfl (h:=aE 18 rfl (h:=aE 19 rfl (h:=Za4 21 kr rfl kr kr (ZE [_,_] 5 [_,_] rfl rfl ZcQ rfl rfl rfl rfl rfl rfl rfl rfl ?_)))))⟩
 refine aA 22 rfl (h:=Zv kr kr ?_)
 refine Zj (tL6 (Za (xW Z1 (h:=x1 ZcM 4 (h:=xM (h:=xL [_,_] ZbT 5 (h:=?_)))))))
 obtain ⟨bb22,_,hp22,⟨qg22,cg22,qm22,cm22,rfl,hg22,hm22,hb22,hb22b⟩,hw22,hc22⟩:=hs9.row hf0
 have hg22n:=hg22.len
 have hm22n:=hm22.len
 have hm22s:=Z5 hm22
 refine xIp hp22 Tryz.underlying39 Zbo (h:=xW Zcx (h:=Zm (ZeA (k:=((atF x s 4).1).toNat) (off:=3) (⟨f.owner,f.name,f.grants,(Zbj ⟨f.next,f.mail⟩ (ZaD set f.mail.length) how fl).1.next,(Zbj ⟨f.next,f.mail⟩ (ZaD set f.mail.length) how fl).1.mail⟩) [_,_] 3 hs9 hp22 hf0 rfl rfl ZcQ rfl rfl rfl rfl rfl rfl (by rintro _ ⟨_,_,_,_,rfl,e1,_,e3,e4⟩;exact ⟨_,_,_,_,rfl,e1,hs21,e3,e4⟩) (fun l23 hv23=>?_))))
 refine tL6 (Za (xL [_,_,_,_,_] ZY 4 (h:=ZZ 3 rfl hv23 Zf.mono om3 (fun B24 hle24 hr24=>?_))))
 obtain ⟨hs,hu9,hi9⟩:=up3 hle24 hs hu9 hi9
 have hr24n:=hr24.len
 refine xS [_,_,_,_,_] 2 [_,_,_,_,_] Zau (h:=?_)
 rw [hse]
 refine xA (h:=tL6 (Zd ?_))
 exact Zat .ret (.inl rfl) [_,_] [] rfl ⟨⟨_,rfl,.inr ⟨[_,_,_,_,_],ZY,Zaa 2 rfl rfl rfl,rfl⟩⟩,rfl,trivial⟩ ⟨rfl,_,_,_,_,_,_,(by first | rfl | (simp only [DHost.withFolders,List.length_set];rfl)),hu9,hr24,hi9,by first | assumption | (rw [ZR.2.2.1];assumption)⟩
 refine (Zac (l:=[_,_]) rfl rfl Zfo rfl (fun b25=>⟨⟨Kn.le.refl _,t2⟩,(Zo 13 kr rfl kr (ZeD rfl rfl Zx5 rfl (Zkp _ _ (⟨f.next,f.mail⟩:DBox) _ _ set _ hm13 hs) ?_))⟩))
 intro v26 B26 hle26
 rintro ⟨a26,c26,rfl,hs26⟩
 replace hm13:=hm13.mono ZS.mono hle26
 replace hs9:=hs9.mono Zf.mono hle26
 replace hu9:=hu9.mono ZA.mono hle26
 replace hi9:=hi9.mono ZC.mono hle26
 have hs26n:=hs26.len
 refine ⟨⟨hle26,t2⟩,(Zo 16 kr rfl kr (ZeD rfl rfl Zvd rfl (ZfU _ _ (⟨f.next,f.mail⟩:DBox) _ _ (ZaD set f.mail.length) how fl _ hm13 hs26) ?_))⟩
 intro v27 B27 hle27
 rintro ⟨a27,c27,rfl,hs27⟩
 replace hs9:=hs9.mono Zf.mono hle27
 replace hu9:=hu9.mono ZA.mono hle27
 replace hi9:=hi9.mono ZC.mono hle27
 have hs27n:=hs27.len
 refine ⟨⟨(hle26.trans hle27),t2⟩,(aM 17 rfl (h:=aE 18 rfl (h:=aE 19 rfl (h:=Za4 21 kr rfl kr kr (ZE [_,_] 5 [_,_] rfl rfl ZcQ rfl rfl rfl rfl rfl rfl rfl rfl ?_)))))⟩
 refine aA 22 rfl (h:=Zv kr kr ?_)
 refine Zj (tL6 (Za (xW Z1 (h:=x1 ZcM 4 (h:=xM (h:=xL [_,_] ZbT 5 (h:=?_)))))))
 obtain ⟨bb28,_,hp28,⟨qg28,cg28,qm28,cm28,rfl,hg28,hm28,hb28,hb28b⟩,hw28,hc28⟩:=hs9.row hf0
 have hg28n:=hg28.len
 have hm28n:=hm28.len
 have hm28s:=Z5 hm28
 refine xIp hp28 Tryz.underlying39 Zbo (h:=xW Zcx (h:=Zm (ZeA (k:=((atF x s 4).1).toNat) (off:=3) (⟨f.owner,f.name,f.grants,(Zbj ⟨f.next,f.mail⟩ (ZaD set f.mail.length) how fl).1.next,(Zbj ⟨f.next,f.mail⟩ (ZaD set f.mail.length) how fl).1.mail⟩) [_,_] 3 hs9 hp28 hf0 rfl rfl ZcQ rfl rfl rfl rfl rfl rfl (by rintro _ ⟨_,_,_,_,rfl,e1,_,e3,e4⟩;exact ⟨_,_,_,_,rfl,e1,hs27,e3,e4⟩) (fun l29 hv29=>?_))))
 refine tL6 (Za (xL [_,_,_,_,_] ZY 4 (h:=ZZ 3 rfl hv29 Zf.mono om3 (fun B30 hle30 hr30=>?_))))
 obtain ⟨hu9,hi9⟩:=up2 hle30 hu9 hi9
 have hr30n:=hr30.len
 refine xS [_,_,_,_,_] 2 [_,_,_,_,_] Zau (h:=?_)
 rw [hse]
 refine xA (h:=tL6 (Zd ?_))
 exact Zat .ret (.inl rfl) [_,_] [] rfl ⟨⟨_,rfl,.inr ⟨[_,_,_,_,_],ZY,Zaa 2 rfl rfl rfl,rfl⟩⟩,rfl,trivial⟩ ⟨rfl,_,_,_,_,_,_,(by first | rfl | (simp only [DHost.withFolders,List.length_set];rfl)),hu9,hr30,hi9,by first | assumption | (rw [ZR.2.2.1];assumption)⟩

theorem ZoH (q1 q2 q3:Option Addr) (c1 c2 c3:Nat) (x:DHost) (s:DSess) (hs1:s.user.length≤2000000) (hs2:s.owner.length≤2000000) (hs3:s.name.length≤2000000) (hd:x.domain.length≤2000000) (B:Kn) (hu:SlK B q1 c1 3 ZA x.users) (hf:SlK B q2 c2 5 Zf x.folders) (hi:SlK B q3 c3 4 ZC x.queue.items):Zu (pj J) 22 [.agg #[str x.domain,.slice q1 x.users.length c1,.slice q2 x.folders.length c2,.int .i64 x.queue.next,.slice q3 x.queue.items.length c3],.agg #[str s.user,str s.owner,str s.name]] B [] (fun v B' Ls=>Ls=[]∧∃p1 d1 p2 d2 p3 d3 p4 d4,v = .tuple #[.agg #[str (ZaN x s).1.domain,.slice p1 (ZaN x s).1.users.length d1,.slice p2 (ZaN x s).1.folders.length d2,.int .i64 (ZaN x s).1.queue.next,.slice p3 (ZaN x s).1.queue.items.length d3],.slice p4 (ZaN x s).2.1.length d4,.int .i64 (ZaN x s).2.2]∧SlK B' p1 d1 3 ZA (ZaN x s).1.users∧SlK B' p2 d2 5 Zf (ZaN x s).1.folders∧SlK B' p3 d3 4 ZC (ZaN x s).1.queue.items∧SlK B' p4 d4 1 Zb9 (ZaN x s).2.1∧(ZaN x s).1.domain.length≤2000000):=by
 refine cB 48 Tryz.func22 (h:=?_)
 have hun:=hu.len
 have hfn:=hf.len
 have hin:=hi.len
 have hix:=Zdb (inF s.owner s.name) x.folders
 refine Za (xBx [_,_,_,_,_] (h:=fun b1=>xBx [_,_,_] (h:=fun b2=>xAl [_,_,_,_,_] Za6 (h:=fun b3=>xA (h:=xA (h:=tL3 (Zh (Za (xL [_,_,_,_,_] ZY 0 (h:=xR Zrl rfl (Zbp _ _ _ _ _ _ x om2 _ hu hf hi) (h:=?_)))))))))))
 refine xN (h:=Zb rfl (fun g1=>?_) (fun g1=>?_))
 try simp only [sQ,ne_eq] at g1
 refine Za (xB [] [_,_,_,_,_] [_,_,_,_,_] ZdY Za6 (h:=xBs [] [] Tryz.underlying57 sz3 zo3 (h:=fun b5=>ZZ 3 rfl (ZT.lit0 (R:=Zb9) (w:=1)) Zb9.mono om3 (fun B6 hle6 hr6=>?_))))
 obtain ⟨hu,hf,hi⟩:=up3 hle6 hu hf hi
 have hr6n:=hr6.len
 refine xS [_,_,_,_,_] 2 [_,_,_,_,_] Zau (h:=?_)
 rw [ZaN,if_pos g1]
 refine xA (h:=xA (h:=tL4 (Zd (Zp ?_))))
 exact Zat .ret (.inl rfl) [_,_,_] [] rfl ⟨⟨_,rfl,.inr ⟨[_,_,_,_,_],ZY,Zaa 2 rfl rfl rfl,rfl⟩⟩,rfl,rfl,trivial⟩ ⟨rfl,none,0,none,0,none,0,_,_,rfl,SlK.nil,SlK.nil,SlK.nil,hr6,by simp [ZaU]⟩
 try simp only [sQ,ne_eq] at g1
 have hok:Zz x=true:=by simpa using g1
 have hrr:=Zb0 hok
 have hnn : ¬ Zz x=false:=by simp [hok]
 refine wSk (Za (xL [_,_,_,_,_] ZY 0 (h:=xL [_,_,_] ZfZ 1 (h:=xR Zx6 rfl (Zm5 _ _ _ _ _ _ x s om2 om2 om2 16 hrr oz _ hu hf) (h:=?_)))))
 refine xM (h:=xE (h:=xE (h:=xA (h:=xA (h:=Za (xL [_,_,_,_,_] ZY 0 (h:=xC Zol rfl (Zbh _ _ _ _ _ _ x _ hu hf hi) (h:=?_))))))))
 rintro _ B8 _ hle8 ⟨l8,a8,c8,q18,c18,q38,c38,rfl,rfl,hu8,hs8,hi8⟩
 replace hf:=up1 hle8 hf
 have hu8n:=hu8.len
 have hi8n:=hi8.len
 refine xAl [_,_,_,_,_] Za6 (h:=fun b9=>xS [_,_,_,_,_] 4 [_,_,_,_,_] Zau (h:=tL5 (Zh (Za (xM (h:=Zdt (h:=Zb rfl (fun g5=>?_) (fun g5=>?_))))))))
 try simp only [sQ,ne_eq] at g5
 refine Za (xL [_,_,_,_,_] ZY 4 (h:=ZZ 3 rfl hs8 Zf.mono om3 (fun B10 hle10 hr10=>?_)))
 obtain ⟨hf,hu8,hi8⟩:=up3 hle10 hf hu8 hi8
 have hr10n:=hr10.len
 refine xBs [] [] Tryz.underlying57 sz3 zo3 (h:=fun b11=>ZZ 5 rfl (ZT.lit0 (R:=Zb9) (w:=1)) Zb9.mono om3 (fun B12 hle12 hr12=>?_))
 obtain ⟨hf,hu8,hr10,hi8⟩:=up4 hle12 hf hu8 hr10 hi8
 have hr12n:=hr12.len
 refine xM (h:=?_)
 rw [ZaN,if_neg hnn,if_pos g5]
 refine xS [_,_,_,_,_] 2 [_,_,_,_,_] Zau (h:=xA (h:=xA (h:=tL6 (Zd (Zp ?_)))))
 exact Zat .ret (.inl rfl) [_,_,_] [] rfl ⟨⟨_,rfl,.inr ⟨[_,_,_,_,_],ZY,Zaa 2 rfl rfl rfl,rfl⟩⟩,rfl,rfl,trivial⟩ ⟨rfl,_,_,_,_,_,_,_,_,rfl,hu8,hr10,hi8,hr12,oy⟩
 try simp only [sQ,ne_eq] at g5
 obtain ⟨hat,hk0,_,_,_⟩:=ZhW g5
 obtain ⟨f,hf0⟩ :∃f,x.folders[(atF x s 16).1.toNat]? = some f:=⟨_,List.getElem?_eq_getElem oz⟩
 have hse:ZaN x s=(x.withFolders (x.folders.set (atF x s 16).1.toNat (f.withBox (expunge ⟨f.next,f.mail⟩).1)),(expunge ⟨f.next,f.mail⟩).2,0):=by rw [ZaN,if_neg hnn,if_neg (fun h=>h g5),Zdr hf0,Zio hf0];rfl
 have hxl:(expunge (⟨f.next,f.mail⟩:DBox)).1.mail.length≤f.mail.length∧(expunge (⟨f.next,f.mail⟩:DBox)).2.length≤f.mail.length:=Znp (⟨f.next,f.mail⟩:DBox)
 have hfb:Zbm (⟨f.next,f.mail⟩:DBox)=true:=Zb3 (Zbt hok hf0)
 have hfm:f.mail.length≤10:=(Zdq hfb).2.2
 refine wSk (Za (xW Z1 (h:=x1 ZcM 0 (h:=xM (h:=?_)))))
 obtain ⟨bb13,oo13,rfl⟩:=hf.base hf0
 obtain ⟨_,⟨qg14,cg14,qm14,cm14,rfl,hg14,hm14,hb14,hb14b⟩,hc14⟩:=hf.elem hf0
 have hg14n:=hg14.len
 have hm14n:=hm14.len
 have hm14s:=Z5 hm14
 refine xIx Tryz.underlying39 Zbo (h:=xW Zcx (h:=yL [_,_] ZbT hc14 3 (h:=xC Ztd rfl (ZcD _ _ (⟨f.next,f.mail⟩:DBox) _ hm14) (h:=?_))))
 rintro _ B15 _ hle15 ⟨l15,a15,c15,l15b,a15b,c15b,rfl,rfl,hs15,hs15b⟩
 replace hs8:=hs8.mono Zf.mono hle15
 replace hu8:=hu8.mono ZA.mono hle15
 replace hi8:=hi8.mono ZC.mono hle15
 replace hs15:=hs15.anyK (B':=B15) ZS.any
 replace hs15b:=hs15b.anyK (B':=B15) Zb9.any
 refine xM (h:=xE (h:=ZZ 5 rfl hs15 ZS.mono om3 (fun B16 hle16 hr16=>?_)))
 replace hs8:=hs8.mono Zf.mono hle16
 replace hu8:=hu8.mono ZA.mono hle16
 replace hi8:=hi8.mono ZC.mono hle16
 replace hs15b:=hs15b.mono Zb9.mono hle16
 have hr16n:=hr16.len
 refine Zm (Zic rfl rfl rfl rfl ?_)
 refine ZZ 6 rfl hs15b Zb9.mono (by first | omega | decide | (simp;done) | (simp;omega)) (fun B17 hle17 hr17=>?_)
 replace hr16:=hr16.mono ZS.mono hle17
 replace hs8:=hs8.mono Zf.mono hle17
 replace hu8:=hu8.mono ZA.mono hle17
 replace hi8:=hi8.mono ZC.mono hle17
 have hr17n:=hr17.len
 refine xAl [_,_] Zfo (h:=fun b18=>xS [_,_] 7 [_,_] ZcQ (h:=xA (h:=tL8 (Za (xW Z1 (h:=x1 ZcM 4 (h:=xM (h:=xL [_,_] ZbT 7 (h:=?_)))))))))
 obtain ⟨bb19,_,hp19,⟨qg19,cg19,qm19,cm19,rfl,hg19,hm19,hb19,hb19b⟩,hw19,hc19⟩:=hs8.row hf0
 have hg19n:=hg19.len
 have hm19n:=hm19.len
 have hm19s:=Z5 hm19
 refine xIp hp19 Tryz.underlying39 Zbo (h:=xW Zcx (h:=Zm (ZeA (k:=((atF x s 16).1).toNat) (off:=3) (⟨f.owner,f.name,f.grants,(expunge ⟨f.next,f.mail⟩).1.next,(expunge ⟨f.next,f.mail⟩).1.mail⟩) [_,_] 3 hs8 hp19 hf0 rfl rfl ZcQ rfl rfl rfl rfl rfl rfl (by rintro _ ⟨_,_,_,_,rfl,e1,_,e3,e4⟩;exact ⟨_,_,_,_,rfl,e1,hr16,e3,e4⟩) (fun l20 hv20=>?_))))
 refine tL8 (Za (xL [_,_,_,_,_] ZY 4 (h:=ZZ 3 rfl hv20 Zf.mono om3 (fun B21 hle21 hr21=>?_))))
 obtain ⟨hr17,hu8,hi8⟩:=up3 hle21 hr17 hu8 hi8
 have hr21n:=hr21.len
 refine xM (h:=?_)
 rw [hse]
 refine xS [_,_,_,_,_] 2 [_,_,_,_,_] Zau (h:=xA (h:=xA (h:=tL8 (Zd ?_))))
 exact Zat .ret (.inl rfl) [_,_,_] [] rfl ⟨⟨_,rfl,.inr ⟨[_,_,_,_,_],ZY,Zaa 2 rfl rfl rfl,rfl⟩⟩,rfl,rfl,trivial⟩ ⟨rfl,_,_,_,_,_,_,_,_,(by first | rfl | (simp only [DHost.withFolders,List.length_set];rfl)),hu8,hr21,hi8,hr17,oy⟩

theorem ZoJ (q1 q2 q3:Option Addr) (c1 c2 c3:Nat) (x:DHost) (s:DSess) (hs1:s.user.length≤2000000) (hs2:s.owner.length≤2000000) (hs3:s.name.length≤2000000) (q4:Option Addr) (c4:Nat) (set:List DSpan) (o n:Str) (hol:o.length≤2000000) (hnl:n.length≤2000000) (hd:x.domain.length≤2000000) (B:Kn) (hu:SlK B q1 c1 3 ZA x.users) (hf:SlK B q2 c2 5 Zf x.folders) (hi:SlK B q3 c3 4 ZC x.queue.items) (hs:SlK B q4 c4 2 ZfC set):Zu (pj J) 28 [.agg #[str x.domain,.slice q1 x.users.length c1,.slice q2 x.folders.length c2,.int .i64 x.queue.next,.slice q3 x.queue.items.length c3],.agg #[str s.user,str s.owner,str s.name],.slice q4 set.length c4,str o,str n] B [] (fun v B' Ls=>Ls=[]∧∃p1 d1 p2 d2 p3 d3,v = .tuple #[.agg #[str (ZeN x s set o n).1.domain,.slice p1 (ZeN x s set o n).1.users.length d1,.slice p2 (ZeN x s set o n).1.folders.length d2,.int .i64 (ZeN x s set o n).1.queue.next,.slice p3 (ZeN x s set o n).1.queue.items.length d3],.int .i64 (ZeN x s set o n).2]∧SlK B' p1 d1 3 ZA (ZeN x s set o n).1.users∧SlK B' p2 d2 5 Zf (ZeN x s set o n).1.folders∧SlK B' p3 d3 4 ZC (ZeN x s set o n).1.queue.items∧(ZeN x s set o n).1.domain.length≤2000000):=by
 refine cB 102 Tryz.func28 (h:=?_)
 have hun:=hu.len
 have hfn:=hf.len
 have hin:=hi.len
 have hsn:=hs.len
 have hix:=Zdb (inF s.owner s.name) x.folders
 have hix2:=Zdb (inF o n) x.folders
 refine Za (xBx [_,_,_,_,_] (h:=fun b1=>xBx [_,_,_] (h:=fun b2=>xAl [_,_,_,_,_] Za6 (h:=fun b3=>xA (h:=tL3 (Zh (Za (xL [_,_,_,_,_] ZY 0 (h:=xR Zrl rfl (Zbp _ _ _ _ _ _ x om2 _ hu hf hi) (h:=?_))))))))))
 refine xN (h:=xM (h:=Zq (d:=24) rfl (fun g1=>?_) (fun g1=>?_)))
 try simp only [sQ,ne_eq] at g1
 rw [ZeN,if_pos (by simp [g1])]
 refine xP (h:=xP (h:=xP (h:=xT (h:=Zb (t:=true) rfl (fun _=>Za (xB [] [_,_,_,_,_] [_,_,_,_,_] ZdY Za6 (h:=xS [_,_,_,_,_] 2 [_,_,_,_,_] Zau (h:=xA (h:=tL3 (Zd (Zp ?_))))))) (fun h=>Bool.noConfusion h)))))
 exact Zat .ret (.inl rfl) [_,_] [] rfl ⟨⟨_,rfl,.inr ⟨[_,_,_,_,_],ZY,Zaa 2 rfl rfl rfl,rfl⟩⟩,rfl,trivial⟩ ⟨rfl,none,0,none,0,none,0,rfl,SlK.nil,SlK.nil,SlK.nil,by simp [ZaU]⟩
 try simp only [sQ,ne_eq] at g1
 refine xM (h:=xR Zx7 rfl (Zim _ _ set _ hs) (h:=xN (h:=xF (h:=Zb rfl (fun g2=>?_) (fun g2=>?_)))))
 try simp only [sQ,ne_eq] at g2
 rw [ZeN,if_pos (by simp [g2])]
 refine Za (xB [] [_,_,_,_,_] [_,_,_,_,_] ZdY Za6 (h:=xS [_,_,_,_,_] 2 [_,_,_,_,_] Zau (h:=xA (h:=tL3 (Zd (Zp ?_))))))
 exact Zat .ret (.inl rfl) [_,_] [] rfl ⟨⟨_,rfl,.inr ⟨[_,_,_,_,_],ZY,Zaa 2 rfl rfl rfl,rfl⟩⟩,rfl,trivial⟩ ⟨rfl,none,0,none,0,none,0,rfl,SlK.nil,SlK.nil,SlK.nil,by simp [ZaU]⟩
 try simp only [sQ,ne_eq] at g2
 have hok:Zz x=true:=by simpa using g1
 have hrr:=Zb0 hok
 have hnn : ¬ ¬ (Zz x=true∧ZeI set=true):=fun h=>h ⟨hok,by simpa using g2⟩
 refine wSk (Za (xL [_,_,_,_,_] ZY 0 (h:=xL [_,_,_] ZfZ 1 (h:=xR Zx6 rfl (Zm5 _ _ _ _ _ _ x s om2 om2 om2 2 hrr oz _ hu hf) (h:=?_)))))
 refine xM (h:=xE (h:=xE (h:=xA (h:=xA (h:=Zh (Za (xM (h:=Zdt (h:=Zb rfl (fun g5=>?_) (fun g5=>?_))))))))))
 try simp only [sQ,ne_eq] at g5
 refine Za (xL [_,_,_,_,_] ZY 0 (h:=xC Zol rfl (Zbh _ _ _ _ _ _ x _ hu hf hi) (h:=?_)))
 rintro _ B7 _ hle7 ⟨l7,a7,c7,q17,c17,q37,c37,rfl,rfl,hu7,hs7,hi7⟩
 obtain ⟨hu,hf,hi,hs⟩:=up4 hle7 hu hf hi hs
 have hu7n:=hu7.len
 have hi7n:=hi7.len
 refine ZZ 3 rfl hs7 Zf.mono om3 (fun B8 hle8 hr8=>?_)
 obtain ⟨hu,hf,hi,hs,hu7,hi7⟩:=up6 hle8 hu hf hi hs hu7 hi7
 have hr8n:=hr8.len
 refine xM (h:=?_)
 rw [ZeN,if_neg hnn,if_pos g5]
 refine xS [_,_,_,_,_] 2 [_,_,_,_,_] Zau (h:=xA (h:=tL4 (Zd (Zp ?_))))
 exact Zat .ret (.inl rfl) [_,_] [] rfl ⟨⟨_,rfl,.inr ⟨[_,_,_,_,_],ZY,Zaa 2 rfl rfl rfl,rfl⟩⟩,rfl,trivial⟩ ⟨rfl,_,_,_,_,_,_,(by first | rfl | (simp only [DHost.withFolders,List.length_set];rfl)),hu7,hr8,hi7,by first | assumption | (rw [ZR.2.2.1];assumption)⟩
 try simp only [sQ,ne_eq] at g5
 obtain ⟨hat,hk0,_,_,_⟩:=ZhW g5
 obtain ⟨f,hf0⟩ :∃f,x.folders[(atF x s 2).1.toNat]? = some f:=⟨_,List.getElem?_eq_getElem oz⟩
 have hfb:Zbm (⟨f.next,f.mail⟩:DBox)=true:=Zb3 (Zbt hok hf0)
 have hnl3:=ZoY set f.mail.length
 have hnl4:f.mail.length≤10:=(Zdq hfb).2.2
 refine wSk (Za (xL [_,_,_,_,_] ZY 0 (h:=xM (h:=xM (h:=xR Zt0 rfl (Zc5 _ _ _ _ _ _ x o n om2 om2 _ hf) (h:=?_))))))
 refine xA (h:=Za (xL [_,_,_,_,_] ZY 0 (h:=xW ZfI (h:=x1 lk9 1 (h:=xM (h:=xR ZvB rfl (Zdo _ _ _ _ _ _ x s.user (ZaJ (inF o n) x.folders) 8 oz hrr oz _ hu hf) (h:=?_)))))))
 refine xA (h:=Za (xL [_,_,_,_,_] ZY 0 (h:=xC Zol rfl (Zbh _ _ _ _ _ _ x _ hu hf hi) (h:=?_))))
 rintro _ B11 _ hle11 ⟨l11,a11,c11,q111,c111,q311,c311,rfl,rfl,hu11,hs11,hi11⟩
 obtain ⟨hu,hf,hi,hs⟩:=up4 hle11 hu hf hi hs
 have hu11n:=hu11.len
 have hi11n:=hi11.len
 refine ZZ 3 rfl hs11 Zf.mono om3 (fun B12 hle12 hr12=>?_)
 obtain ⟨hu,hf,hi,hs,hu11,hi11⟩:=up6 hle12 hu hf hi hs hu11 hi11
 have hr12n:=hr12.len
 refine xAl [_,_,_,_,_] Za6 (h:=fun b13=>xS [_,_,_,_,_] 4 [_,_,_,_,_] Zau (h:=tL5 (Za (xW Z1 (h:=x1 ZcM 0 (h:=xM (h:=?_)))))))
 obtain ⟨bb14,oo14,rfl⟩:=hf.base hf0
 obtain ⟨_,⟨qg15,cg15,qm15,cm15,rfl,hg15,hm15,hb15,hb15b⟩,hc15⟩:=hf.elem hf0
 have hg15n:=hg15.len
 have hm15n:=hm15.len
 have hm15s:=Z5 hm15
 refine xIx Tryz.underlying39 Zbo (h:=xW Zcx (h:=yL [_,_] ZbT hc15 3 (h:=xM (h:=xQ Zx5 rfl (Zkp _ _ (⟨f.next,f.mail⟩:DBox) _ _ set _ hm15 hs) (h:=?_)))))
 intro v16 B16 hle16
 rintro ⟨a16,c16,rfl,hs16⟩
 obtain ⟨hu,hf,hi,hu11,hr12,hi11⟩:=up6 hle16 hu hf hi hu11 hr12 hi11
 have hs16n:=hs16.len
 refine xA (h:=Zh (Za (xA (h:=Zn (ZQ (α:=GCp) [0,1,2,3,4,5,6,10,11,12,14,15,16,28,37] (fun g=>[(13,.int .i64 g.c),(17,.int .i64 g.k)]) [4] (fun g=>[Z8 b13 [str g.x.domain,.slice g.q1 g.x.users.length g.c1,.slice g.q2 g.x.folders.length g.c2,.int .i64 g.x.queue.next,.slice g.q3 g.x.queue.items.length g.c3] 44]) (fun g Bx=>g.k≤(ZaD set f.mail.length).length∧(g.x,g.c)=(((ZaD set f.mail.length).take g.k).map (Zdf f.mail)).foldl (ZbK (ZaJ (inF o n) x.folders).toNat) (x,(Zgz x.users x.folders s.user (ZaJ (inF o n) x.folders) 8))∧(g.c=0→(Zgz x.users x.folders s.user (ZaJ (inF o n) x.folders) 8)=0)∧Zz g.x=true∧g.x.domain.length≤2000000∧g.x.folders.length=x.folders.length∧SlK Bx g.q1 g.c1 3 ZA g.x.users∧SlK Bx g.q2 g.c2 5 Zf g.x.folders∧SlK Bx g.q3 g.c3 4 ZC g.x.queue.items) (fun g=>(ZaD set f.mail.length).length - g.k) ⟨0,x,(Zgz x.users x.folders s.user (ZaJ (inF o n) x.folders) 8),_,_,_,_,_,_⟩ t2 rfl (⟨Nat.zero_le _,rfl,id,hok,hd,rfl,hu11,hr12,hi11⟩) (fun g B17 hle17 hI=>?_))))))
 obtain ⟨hgk,hgs,hgc,hgo,hgd,hgl,hgu,hgf,hgi⟩:=hI
 have hgun:=hgu.len
 have hgin:=hgi.len
 obtain ⟨hu,hf,hi,hs16⟩:=up4 hle17 hu hf hi hs16
 refine ZN [(0,_),(1,_),(2,_),(3,_),(4,_),(5,_),(6,_),(10,_),(11,_),(12,_),(13,_),(14,_),(15,_),(16,_),(17,_),(28,_),(37,_)] [_,_,_,_,_] t17 rfl (Zh (Za (xM (h:=xM (h:=xV Tryz.underlying57 (h:=Zag (h:=xM (h:=Zq (d:=64) rfl (fun g6=>?_) (fun g6=>?_)))))))))
 try simp only [sQ,ne_eq] at g6
 refine xM (h:=ZG (h:=xT (h:=Zb rfl (fun g7=>?_) (fun g7=>?_))))
 try simp only [sQ,ne_eq] at g7
 obtain ⟨_,hk8,_⟩:=Zew (hgc g7)
 obtain ⟨y,hy⟩:=ZaA (xs:=ZaD set f.mail.length) (i:=g.k) oz
 have hyb:=ZjI (List.mem_of_getElem? hy)
 refine wSk (Zh (Zn (Zh (ZV (keeps _ [0] _) mo kr ⟨Kn.le.refl _,Zae.refl _ _⟩ (fun _ _=>?_)))))
 refine aW 0 rfl Z1 (h:=aT 1 rfl (Zx fun D B L hI=>Ze rfl rfl ZcM rfl (atL 0 (hI.2.1.trans rfl) rfl rfl) r4) (h:=aM 2 rfl (h:=?_)))
 obtain ⟨_,⟨qg18,cg18,qm18,cm18,rfl,hg18,hm18,hb18,hb18b⟩,hc18⟩:=hf.elem hf0
 have hg18n:=hg18.len
 have hm18n:=hm18.len
 have hm18s:=Z5 hm18
 refine aIx 3 rfl Tryz.underlying39 Zbo (h:=aW 4 rfl Zcx (h:=aW 5 rfl Za0 (h:=aT 6 rfl (Zx fun D B L hI=>Ze rfl rfl Zgc rfl ((hc18.mono hI.1) _ 4 _ rfl) r4) (h:=aM 7 rfl (h:=aM 8 rfl (h:=?_))))))
 obtain ⟨bb19,oo19,rfl⟩:=hs16.base hy
 obtain ⟨_,rfl,hc20⟩:=hs16.elem hy
 refine aIx 9 rfl Tryz.underlying57 sz3 (h:=aT 10 rfl (Zx fun D B L hI=>Ze rfl rfl lk3 rfl ((hc20.mono hI.1) _ 0 _ rfl) r4) (h:=aU 11 rfl (h:=?_)))
 obtain ⟨m,hm⟩:=Zey (xs:=f.mail) (i:=(y - 1)) om om
 obtain ⟨bb22,oo22,rfl⟩:=hm18.base hm
 obtain ⟨_,⟨rfl,hb23⟩,hc23⟩:=hm18.elem hm
 refine aIx 12 rfl Tryz.underlying83 ZhC (h:=?_)
 have hmo:=(ZdG hfb).1 m (List.mem_of_getElem? hm)
 have hmt:m.text.length≤20:=by simp only [ZbC,Bool.and_eq_true,decide_eq_true_eq] at hmo;exact hmo.2
 have hme:Zdf f.mail y=m:=by simp only [Zdf,hm]
 refine aT 13 rfl (Zx fun D B L hI=>ZX [_,_,_] rfl rfl Zvz rfl (ZmN (hc23.mono hI.1) 0 rfl rfl) r4) (h:=Zo 14 kr rfl kr (Zac (l:=[_,_,_]) rfl rfl Zou rfl (fun b24=>?_)))
 refine ⟨⟨Kn.le.refl _,t1⟩,(ZO 15 kr rfl kr kr kr (ZE [_,_,_] 5 [_,_,_] rfl rfl ZhC rfl rfl rfl rfl rfl rfl rfl rfl ?_))⟩
 refine Zj (tL6 (Za (xL [_,_,_,_,_] ZY 4 (h:=xM (h:=xW ZiV (h:=x1 lk3 5 (h:=xW ZlZ (h:=x1 lk9 5 (h:=xQ Zxf rfl (ZhQ _ _ _ _ _ _ g.x (ZaJ (inF o n) x.folders) m.flags m.text om2 (oy) oz oz om2 _ hgu hgf hgi) (h:=?_))))))))))
 intro va Ba hlea
 rintro ⟨p1a,d1a,p2a,d2a,p3a,d3a,rfl,hua,hfa,hia,hda⟩
 obtain ⟨hu,hf,hi,hgu,hgf,hgi⟩:=up6 hlea hu hf hi hgu hgf hgi
 have huan:=hua.len
 have hfan:=hfa.len
 have hian:=hia.len
 refine xM (h:=xE (h:=xE (h:=xAl [_,_,_,_,_] Za6 (h:=fun b26=>xS [_,_,_,_,_] 6 [_,_,_,_,_] Zau (h:=xA (h:=tL7 (Za (xL [_,_,_,_,_] ZY 6 (h:=xS [_,_,_,_,_] 4 [_,_,_,_,_] Zau (h:=tL7 (Zc (xM (h:=xA (h:=Zw (Zj (Zc (xM (h:=xD (h:=xA (h:=?_))))))))))))))))))))
 exact ZD ⟨g.k+1,(ZbL g.x (ZaJ (inF o n) x.folders).toNat m.flags m.text).1,(ZbL g.x (ZaJ (inF o n) x.folders).toNat m.flags m.text).2,_,_,_,_,_,_⟩ [0,1,2,3,4] so2 ⟨so,by simp only [];rw [Zry hy,← hgs,hme,ZbK,if_pos g7],fun _=>hgc g7,ZhM hgo (by simp only [ZbC,Bool.and_eq_true,decide_eq_true_eq] at hmo;simp only [ZaW,Bool.and_eq_true,decide_eq_true_eq];exact hmo.1.2) hmt,hda,by simp only [];rw [ZR.2.2.2];exact hgl,hua,hfa,hia⟩ t17 rfl
 try simp only [sQ,ne_eq] at g7
 have hfin:=ZlW (n:=n) hnn g5 hf0 (Zrx hgs g7)
 refine ZU (Zak (Z3 (ZK (Zj (Zh (Za (xM (h:=Zdt (h:=Zb rfl (fun g8=>?_) (fun g8=>by simp at g8;exact absurd g8 g7))))))))))
 try simp only [sQ,ne_eq] at g8
 refine Za (xL [_,_,_,_,_] ZY 0 (h:=xC Zol rfl (Zbh _ _ _ _ _ _ x _ hu hf hi) (h:=?_)))
 rintro _ B27 _ hle27 ⟨l27,a27,c27,q127,c127,q327,c327,rfl,rfl,hu27,hs27,hi27⟩
 obtain ⟨hu,hf,hi,hgu,hgf,hgi⟩:=up6 hle27 hu hf hi hgu hgf hgi
 have hu27n:=hu27.len
 have hi27n:=hi27.len
 refine ZZ 5 rfl hs27 Zf.mono om3 (fun B28 hle28 hr28=>?_)
 obtain ⟨hu,hf,hi,hu27,hi27,hgu⟩:=up6 hle28 hu hf hi hu27 hi27 hgu
 obtain ⟨hgf,hgi⟩:=up2 hle28 hgf hgi
 have hr28n:=hr28.len
 refine xM (h:=?_)
 rw [hfin,if_neg g7]
 refine xS [_,_,_,_,_] 2 [_,_,_,_,_] Zau (h:=xA (h:=tL6 (Zd (Zp ?_))))
 exact Zat .ret (.inl rfl) [_,_] [] rfl ⟨⟨_,rfl,.inr ⟨[_,_,_,_,_],ZY,Zaa 2 rfl rfl rfl,rfl⟩⟩,rfl,trivial⟩ ⟨rfl,_,_,_,_,_,_,(by first | rfl | (simp only [DHost.withFolders,List.length_set];rfl)),hu27,hr28,hi27,by first | assumption | (rw [ZR.2.2.1];assumption)⟩
 try simp only [sQ,ne_eq] at g6
 rw [List.take_of_length_le oz] at hgs
 have hfin:=ZlW (n:=n) hnn g5 hf0 hgs
 refine xP (h:=xP (h:=xF (h:=Zb (t:=false) rfl (fun h=>Bool.noConfusion h) (fun _=>ZU (Zak (Z3 (ZK (Zj (Zh (Za (xM (h:=Zdt (h:=Zb rfl (fun g8=>?_) (fun g8=>?_))))))))))))))
 try simp only [sQ,ne_eq] at g8
 refine Za (xL [_,_,_,_,_] ZY 0 (h:=xC Zol rfl (Zbh _ _ _ _ _ _ x _ hu hf hi) (h:=?_)))
 rintro _ B29 _ hle29 ⟨l29,a29,c29,q129,c129,q329,c329,rfl,rfl,hu29,hs29,hi29⟩
 obtain ⟨hgu,hgf,hgi⟩:=up3 hle29 hgu hgf hgi
 have hu29n:=hu29.len
 have hi29n:=hi29.len
 refine ZZ 5 rfl hs29 Zf.mono om3 (fun B30 hle30 hr30=>?_)
 obtain ⟨hu29,hi29,hgu,hgf,hgi⟩:=up5 hle30 hu29 hi29 hgu hgf hgi
 have hr30n:=hr30.len
 refine xM (h:=?_)
 rw [hfin,if_neg g8]
 refine xS [_,_,_,_,_] 2 [_,_,_,_,_] Zau (h:=xA (h:=tL6 (Zd (Zp ?_))))
 exact Zat .ret (.inl rfl) [_,_] [] rfl ⟨⟨_,rfl,.inr ⟨[_,_,_,_,_],ZY,Zaa 2 rfl rfl rfl,rfl⟩⟩,rfl,trivial⟩ ⟨rfl,_,_,_,_,_,_,(by first | rfl | (simp only [DHost.withFolders,List.length_set];rfl)),hu29,hr30,hi29,by first | assumption | (rw [ZR.2.2.1];assumption)⟩
 try simp only [sQ,ne_eq] at g8
 rw [hfin,if_pos g8]
 refine wSk (Za (xL [_,_,_,_,_] ZY 4 (h:=xS [_,_,_,_,_] 2 [_,_,_,_,_] Zau (h:=xA (h:=tL5 (Zd ?_))))))
 exact Zat .ret (.inl rfl) [_,_] [] rfl ⟨⟨_,rfl,.inr ⟨[_,_,_,_,_],ZY,Zaa 2 rfl rfl rfl,rfl⟩⟩,rfl,trivial⟩ ⟨rfl,_,_,_,_,_,_,(by first | rfl | (simp only [DHost.withFolders,List.length_set];rfl)),hgu,hgf,hgi,by first | assumption | (rw [ZR.2.2.1];assumption)⟩

theorem Zwv (q1 q2 q3:Option Addr) (c1 c2 c3:Nat) (x:DHost) (e:DEvent) (he1:e.by_.length≤2000000) (he2:e.owner.length≤2000000) (he3:e.name.length≤2000000) (he4:e.to_.length≤2000000) (he5:e.text.length≤2000000) (hd:x.domain.length≤2000000) (B:Kn) (hu:SlK B q1 c1 3 ZA x.users) (hf:SlK B q2 c2 5 Zf x.folders) (hi:SlK B q3 c3 4 ZC x.queue.items):Zu (pj J) 216 [.agg #[str x.domain,.slice q1 x.users.length c1,.slice q2 x.folders.length c2,.int .i64 x.queue.next,.slice q3 x.queue.items.length c3],.agg #[.int .i64 e.kind,str e.by_,str e.owner,str e.name,str e.to_,str e.text,.int .i64 e.a,.int .i64 e.b]] B [] (fun v B' Ls=>Ls=[]∧∃p1 d1 p2 d2 p3 d3,v = .tuple #[.agg #[str (ZhU x e).1.domain,.slice p1 (ZhU x e).1.users.length d1,.slice p2 (ZhU x e).1.folders.length d2,.int .i64 (ZhU x e).1.queue.next,.slice p3 (ZhU x e).1.queue.items.length d3],.int .i64 (ZhU x e).2]∧SlK B' p1 d1 3 ZA (ZhU x e).1.users∧SlK B' p2 d2 5 Zf (ZhU x e).1.folders∧SlK B' p3 d3 4 ZC (ZhU x e).1.queue.items∧(ZhU x e).1.domain.length≤2000000):=by
 refine cB 124 Tryz.func216 (h:=?_)
 have hun:=hu.len
 have hfn:=hf.len
 have hin:=hi.len
 refine Za (xBx [_,_,_,_,_] (h:=fun b1=>xBx [_,_,_,_,_,_,_,_] (h:=fun b2=>xAl [_,_,_,_,_] Za6 (h:=fun b3=>xA (h:=tL3 (Za (xW Zf2 (h:=x1 lk9 1 (h:=xW ZkD (h:=x1 lk9 1 (h:=xW ZiW (h:=x1 lk9 1 (h:=xB [(0,_),(1,_),(2,_)] [_,_,_] [_,_,_] Zuu ZkW (h:=xAl [_,_,_] ZkW (h:=fun b4=>xS [_,_,_] 3 [_,_,_] ZmD (h:=tL4 (Za (xW Zbu (h:=x1 lk3 1 (h:=xW Zbu (h:=x1 lk3 1 (h:=xB [(0,_),(1,_)] [_,_] [_,_] Zzr ZvC (h:=xBs [(0,_)] [_,_] Tryz.underlying48 ZtO ZvC (h:=fun b5=>xA (h:=tL5 ?_)))))))))))))))))))))))))
 have hvq:ZT B (Z8 b5 [.int .i64 e.a,.int .i64 e.a] 72) (some ⟨b5,0,none⟩) 1 72 2 ZfC [⟨e.a,e.a⟩]:=ZT.lit (rows:=[[.int .i64 e.a,.int .i64 e.a]]) (.cons rfl .nil) (by intro row hr;simp only [List.mem_cons,List.not_mem_nil,or_false] at hr;rcases hr with rfl;rfl)
 refine ZdS 4 rfl hvq ZfC.mono om3 (fun B6 hle6 hr6=>?_)
 obtain ⟨hu,hf,hi⟩:=up3 hle6 hu hf hi
 have hr6n:=hr6.len
 refine Zh (Za (xW Zb6 (h:=x1 lk3 1 (h:=tL5 (Zn (Za (ZG (h:=xA (h:=Zb rfl (fun k1=>?_) (fun k1=>?_))))))))))
 try simp only [sQ,ne_eq] at k1
 rw [ZhU,if_pos k1]
 refine Za (xL [_,_,_,_,_] ZY 0 (h:=xW Zf2 (h:=x1 lk9 1 (h:=xW ZiW (h:=x1 lk9 1 (h:=xQ Zyo rfl (Zlq _ _ _ _ _ _ x e.by_ e.name om2 om2 om2 _ hu hf hi) (h:=?_)))))))
 intro v7 B7 hle7
 rintro ⟨p17,d17,p27,d27,p37,d37,rfl,hu7,hf7,hi7,hd7⟩
 obtain ⟨hu,hf,hi,hr6⟩:=up4 hle7 hu hf hi hr6
 have hu7n:=hu7.len
 have hf7n:=hf7.len
 have hi7n:=hi7.len
 refine xE (h:=xE (h:=xS [_,_,_,_,_] 2 [_,_,_,_,_] Zau (h:=xA (h:=tL5 (Zd (ZI (Zp ?_)))))))
 exact Zat .ret (.inl rfl) [_,_] [] rfl ⟨⟨_,rfl,.inr ⟨[_,_,_,_,_],ZY,Zaa 2 rfl rfl rfl,rfl⟩⟩,rfl,trivial⟩ ⟨rfl,_,_,_,_,_,_,rfl,hu7,hf7,hi7,oy⟩
 try simp only [sQ,ne_eq] at k1
 refine Za (ZG (h:=xA (h:=Zb rfl (fun k2=>?_) (fun k2=>?_))))
 try simp only [sQ,ne_eq] at k2
 rw [ZhU,if_neg k1,if_pos k2]
 refine Za (xL [_,_,_,_,_] ZY 0 (h:=xW Zf2 (h:=x1 lk9 1 (h:=xW ZkD (h:=x1 lk9 1 (h:=xW ZiW (h:=x1 lk9 1 (h:=xW Zee (h:=x1 lk9 1 (h:=xW Zbu (h:=x1 lk3 1 (h:=xQ Zyn rfl (ZmK _ _ _ _ _ _ x e.by_ e.owner e.name e.to_ e.a om2 om2 om2 om2 om2 _ hu hf hi) (h:=?_)))))))))))))
 intro v8 B8 hle8
 rintro ⟨p18,d18,p28,d28,p38,d38,rfl,hu8,hf8,hi8,hd8⟩
 obtain ⟨hu,hf,hi,hr6⟩:=up4 hle8 hu hf hi hr6
 have hu8n:=hu8.len
 have hf8n:=hf8.len
 have hi8n:=hi8.len
 refine xE (h:=xE (h:=xS [_,_,_,_,_] 2 [_,_,_,_,_] Zau (h:=xA (h:=tL5 (Zd (ZI (Zp ?_)))))))
 exact Zat .ret (.inl rfl) [_,_] [] rfl ⟨⟨_,rfl,.inr ⟨[_,_,_,_,_],ZY,Zaa 2 rfl rfl rfl,rfl⟩⟩,rfl,trivial⟩ ⟨rfl,_,_,_,_,_,_,rfl,hu8,hf8,hi8,oy⟩
 try simp only [sQ,ne_eq] at k2
 refine Za (ZG (h:=xA (h:=Zb rfl (fun k3=>?_) (fun k3=>?_))))
 try simp only [sQ,ne_eq] at k3
 rw [ZhU,if_neg k1,if_neg k2,if_pos k3]
 refine Za (xL [_,_,_,_,_] ZY 0 (h:=xW Zf2 (h:=x1 lk9 1 (h:=xW ZkD (h:=x1 lk9 1 (h:=xW ZiW (h:=x1 lk9 1 (h:=xW Zbu (h:=x1 lk3 1 (h:=xW Zq8 (h:=x1 lk9 1 (h:=xQ Zym rfl (Zqd _ _ _ _ _ _ x e.by_ e.owner e.name e.a e.text om2 om2 om2 om2 om2 _ hu hf hi) (h:=?_)))))))))))))
 intro v9 B9 hle9
 rintro ⟨p19,d19,p29,d29,p39,d39,rfl,hu9,hf9,hi9,hd9⟩
 obtain ⟨hu,hf,hi,hr6⟩:=up4 hle9 hu hf hi hr6
 have hu9n:=hu9.len
 have hf9n:=hf9.len
 have hi9n:=hi9.len
 refine xE (h:=xE (h:=xS [_,_,_,_,_] 2 [_,_,_,_,_] Zau (h:=xA (h:=tL5 (Zd (ZI (Zp ?_)))))))
 exact Zat .ret (.inl rfl) [_,_] [] rfl ⟨⟨_,rfl,.inr ⟨[_,_,_,_,_],ZY,Zaa 2 rfl rfl rfl,rfl⟩⟩,rfl,trivial⟩ ⟨rfl,_,_,_,_,_,_,rfl,hu9,hf9,hi9,oy⟩
 try simp only [sQ,ne_eq] at k3
 refine Za (ZG (h:=xA (h:=Zb rfl (fun k4=>?_) (fun k4=>?_))))
 try simp only [sQ,ne_eq] at k4
 refine Za (xL [_,_,_,_,_] ZY 0 (h:=xW Zf2 (h:=x1 lk9 1 (h:=xW Zee (h:=x1 lk9 1 (h:=xBs [(0,_)] [_] Tryz.underlying144 sz9 zo9 (h:=fun b10=>ZZ 5 rfl (ZT.strs (ls:=([e.to_]:List Str)) (by first | decide | (simp;done) | (simp;omega))) ZbO.mono om3 (fun B11 hle11 hr11=>?_))))))))
 obtain ⟨hu,hf,hi,hr6⟩:=up4 hle11 hu hf hi hr6
 have hr11n:=hr11.len
 refine xW Zq8 (h:=?_)
 rw [ZhU,if_neg k1,if_neg k2,if_neg k3,if_pos k4]
 refine x1 lk9 1 (h:=xB [(0,_),(1,_),(2,_)] [_,_,_] [_,_,_] Zsv Zov (h:=xQ Zyl rfl (Zlo _ _ _ _ _ _ x _ _ (⟨e.by_,([e.to_]:List Str),e.text⟩) om2 _ hu hf hi hr11 om2 om2) (h:=?_)))
 intro v12 B12 hle12
 rintro ⟨p112,d112,p212,d212,p312,d312,rfl,hu12,hf12,hi12,hd12⟩
 obtain ⟨hu,hf,hi,hr6⟩:=up4 hle12 hu hf hi hr6
 have hu12n:=hu12.len
 have hf12n:=hf12.len
 have hi12n:=hi12.len
 refine xE (h:=xE (h:=xS [_,_,_,_,_] 2 [_,_,_,_,_] Zau (h:=xA (h:=tL6 (Zd (ZI (Zp ?_)))))))
 exact Zat .ret (.inl rfl) [_,_] [] rfl ⟨⟨_,rfl,.inr ⟨[_,_,_,_,_],ZY,Zaa 2 rfl rfl rfl,rfl⟩⟩,rfl,trivial⟩ ⟨rfl,_,_,_,_,_,_,rfl,hu12,hf12,hi12,oy⟩
 try simp only [sQ,ne_eq] at k4
 refine Za (ZG (h:=xA (h:=Zb rfl (fun k5=>?_) (fun k5=>?_))))
 try simp only [sQ,ne_eq] at k5
 rw [ZhU,if_neg k1,if_neg k2,if_neg k3,if_neg k4,if_pos k5]
 refine Za (xL [_,_,_,_,_] ZY 0 (h:=xW Zbu (h:=x1 lk3 1 (h:=xW Zee (h:=x1 lk9 1 (h:=xQ Zyk rfl (Zj8 _ _ _ _ _ _ x e.a e.to_ om2 om2 _ hu hf hi) (h:=?_)))))))
 intro v13 B13 hle13
 rintro ⟨p113,d113,p213,d213,p313,d313,rfl,hu13,hf13,hi13,hd13⟩
 obtain ⟨hu,hf,hi,hr6⟩:=up4 hle13 hu hf hi hr6
 have hu13n:=hu13.len
 have hf13n:=hf13.len
 have hi13n:=hi13.len
 refine xE (h:=xE (h:=xS [_,_,_,_,_] 2 [_,_,_,_,_] Zau (h:=xA (h:=tL5 (Zd (ZI (Zp ?_)))))))
 exact Zat .ret (.inl rfl) [_,_] [] rfl ⟨⟨_,rfl,.inr ⟨[_,_,_,_,_],ZY,Zaa 2 rfl rfl rfl,rfl⟩⟩,rfl,trivial⟩ ⟨rfl,_,_,_,_,_,_,rfl,hu13,hf13,hi13,oy⟩
 try simp only [sQ,ne_eq] at k5
 refine Za (ZG (h:=xA (h:=Zb rfl (fun k6=>?_) (fun k6=>?_))))
 try simp only [sQ,ne_eq] at k6
 rw [ZhU,if_neg k1,if_neg k2,if_neg k3,if_neg k4,if_neg k5,if_pos k6]
 refine Za (xL [_,_,_,_,_] ZY 0 (h:=xL [_,_,_] ZfZ 3 (h:=xM (h:=xW Znk (h:=x1 lk3 1 (h:=xQ Zyj rfl (ZmJ _ _ _ _ _ _ x (⟨e.by_,e.owner,e.name⟩) om2 om2 om2 _ _ ([⟨e.a,e.a⟩]:List DSpan) 1 e.b om2 _ hu hf hi hr6) (h:=?_)))))))
 intro v14 B14 hle14
 rintro ⟨p114,d114,p214,d214,p314,d314,rfl,hu14,hf14,hi14,hd14⟩
 obtain ⟨hu,hf,hi,hr6⟩:=up4 hle14 hu hf hi hr6
 have hu14n:=hu14.len
 have hf14n:=hf14.len
 have hi14n:=hi14.len
 refine xE (h:=xE (h:=xS [_,_,_,_,_] 2 [_,_,_,_,_] Zau (h:=xA (h:=tL5 (Zd (ZI (Zp ?_)))))))
 exact Zat .ret (.inl rfl) [_,_] [] rfl ⟨⟨_,rfl,.inr ⟨[_,_,_,_,_],ZY,Zaa 2 rfl rfl rfl,rfl⟩⟩,rfl,trivial⟩ ⟨rfl,_,_,_,_,_,_,rfl,hu14,hf14,hi14,oy⟩
 try simp only [sQ,ne_eq] at k6
 refine Za (ZG (h:=xA (h:=Zb rfl (fun k7=>?_) (fun k7=>?_))))
 try simp only [sQ,ne_eq] at k7
 rw [ZhU,if_neg k1,if_neg k2,if_neg k3,if_neg k4,if_neg k5,if_neg k6,if_pos k7]
 refine Za (xL [_,_,_,_,_] ZY 0 (h:=xL [_,_,_] ZfZ 3 (h:=xQ Zz1 rfl (ZoH _ _ _ _ _ _ x (⟨e.by_,e.owner,e.name⟩) om2 om2 om2 om2 _ hu hf hi) (h:=?_))))
 intro v15 B15 hle15
 rintro ⟨p115,d115,p215,d215,p315,d315,p415,d415,rfl,hu15,hf15,hi15,hg15,hd15⟩
 obtain ⟨hu,hf,hi,hr6⟩:=up4 hle15 hu hf hi hr6
 have hu15n:=hu15.len
 have hf15n:=hf15.len
 have hi15n:=hi15.len
 have hg15n:=hg15.len
 refine xM (h:=xE (h:=xE (h:=xE (h:=xAl [_,_,_,_,_] Za6 (h:=fun b16=>xS [_,_,_,_,_] 5 [_,_,_,_,_] Zau (h:=xA (h:=xA (h:=tL6 (Za (xL [_,_,_,_,_] ZY 5 (h:=xM (h:=xS [_,_,_,_,_] 2 [_,_,_,_,_] Zau (h:=xA (h:=tL6 (Zd (ZI (Zp ?_)))))))))))))))))
 exact Zat .ret (.inl rfl) [_,_] [] rfl ⟨⟨_,rfl,.inr ⟨[_,_,_,_,_],ZY,Zaa 2 rfl rfl rfl,rfl⟩⟩,rfl,trivial⟩ ⟨rfl,_,_,_,_,_,_,rfl,hu15,hf15,hi15,oy⟩
 try simp only [sQ,ne_eq] at k7
 refine Za (ZG (h:=xA (h:=Zb rfl (fun k8=>?_) (fun k8=>?_))))
 try simp only [sQ,ne_eq] at k8
 rw [ZhU,if_neg k1,if_neg k2,if_neg k3,if_neg k4,if_neg k5,if_neg k6,if_neg k7,if_pos k8]
 refine Za (xL [_,_,_,_,_] ZY 0 (h:=xL [_,_,_] ZfZ 3 (h:=xM (h:=xW Zee (h:=x1 lk9 1 (h:=xQ Zz0 rfl (ZoJ _ _ _ _ _ _ x (⟨e.by_,e.owner,e.name⟩) om2 om2 om2 _ _ ([⟨e.a,e.a⟩]:List DSpan) e.to_ [105,110,98,111,120] om2 om2 om2 _ hu hf hi hr6) (h:=?_)))))))
 intro v17 B17 hle17
 rintro ⟨p117,d117,p217,d217,p317,d317,rfl,hu17,hf17,hi17,hd17⟩
 have hu17n:=hu17.len
 have hf17n:=hf17.len
 have hi17n:=hi17.len
 refine xE (h:=xE (h:=xS [_,_,_,_,_] 2 [_,_,_,_,_] Zau (h:=xA (h:=tL5 (Zd (ZI (Zp ?_)))))))
 exact Zat .ret (.inl rfl) [_,_] [] rfl ⟨⟨_,rfl,.inr ⟨[_,_,_,_,_],ZY,Zaa 2 rfl rfl rfl,rfl⟩⟩,rfl,trivial⟩ ⟨rfl,_,_,_,_,_,_,rfl,hu17,hf17,hi17,oy⟩
 try simp only [sQ,ne_eq] at k8
 rw [ZhU,if_neg k1,if_neg k2,if_neg k3,if_neg k4,if_neg k5,if_neg k6,if_neg k7,if_neg k8]
 refine ZL (Zw (Zj (Za (xB [] [_,_,_,_,_] [_,_,_,_,_] ZdY Za6 (h:=xS [_,_,_,_,_] 2 [_,_,_,_,_] Zau (h:=xA (h:=tL5 (Zd ?_))))))))
 exact Zat .ret (.inl rfl) [_,_] [] rfl ⟨⟨_,rfl,.inr ⟨[_,_,_,_,_],ZY,Zaa 2 rfl rfl rfl,rfl⟩⟩,rfl,trivial⟩ ⟨rfl,none,0,none,0,none,0,rfl,SlK.nil,SlK.nil,SlK.nil,by simp [ZaU]⟩

theorem Zsk (q1 q2 q3:Option Addr) (c1 c2 c3:Nat) (x:DHost) (e:DEvent) (he1:e.by_.length≤2000000) (he2:e.owner.length≤2000000) (he3:e.name.length≤2000000) (he4:e.to_.length≤2000000) (he5:e.text.length≤2000000) (hd:x.domain.length≤2000000) (B:Kn) (hu:SlK B q1 c1 3 ZA x.users) (hf:SlK B q2 c2 5 Zf x.folders) (hi:SlK B q3 c3 4 ZC x.queue.items):Zu (pj J) 171 [.agg #[str x.domain,.slice q1 x.users.length c1,.slice q2 x.folders.length c2,.int .i64 x.queue.next,.slice q3 x.queue.items.length c3],.agg #[.int .i64 e.kind,str e.by_,str e.owner,str e.name,str e.to_,str e.text,.int .i64 e.a,.int .i64 e.b]] B [] (fun v B' Ls=>Ls=[]∧∃p1 d1 p2 d2 p3 d3,v = .tuple #[.agg #[str (hDo x e).1.domain,.slice p1 (hDo x e).1.users.length d1,.slice p2 (hDo x e).1.folders.length d2,.int .i64 (hDo x e).1.queue.next,.slice p3 (hDo x e).1.queue.items.length d3],.int .i64 (hDo x e).2]∧SlK B' p1 d1 3 ZA (hDo x e).1.users∧SlK B' p2 d2 5 Zf (hDo x e).1.folders∧SlK B' p3 d3 4 ZC (hDo x e).1.queue.items∧(hDo x e).1.domain.length≤2000000):=by
 refine cB 25 Tryz.func171 (h:=?_)
 have hun:=hu.len
 have hfn:=hf.len
 have hin:=hi.len
 refine Za (xBx [_,_,_,_,_] (h:=fun b1=>xBx [_,_,_,_,_,_,_,_] (h:=fun b2=>xAl [_,_,_,_,_] Za6 (h:=fun b3=>xA (h:=tL3 (Zh (Za (xL [_,_,_,_,_] ZY 0 (h:=xR Zrl rfl (Zbp _ _ _ _ _ _ x om2 _ hu hf hi) (h:=?_))))))))))
 refine xN (h:=Zb rfl (fun g1=>?_) (fun g1=>?_))
 try simp only [sQ,ne_eq] at g1
 rw [hDo,if_pos g1]
 refine Za (xB [] [_,_,_,_,_] [_,_,_,_,_] ZdY Za6 (h:=xS [_,_,_,_,_] 2 [_,_,_,_,_] Zau (h:=xA (h:=tL3 (Zd (Zp ?_))))))
 exact Zat .ret (.inl rfl) [_,_] [] rfl ⟨⟨_,rfl,.inr ⟨[_,_,_,_,_],ZY,Zaa 2 rfl rfl rfl,rfl⟩⟩,rfl,trivial⟩ ⟨rfl,none,0,none,0,none,0,rfl,SlK.nil,SlK.nil,SlK.nil,by simp [ZaU]⟩
 try simp only [sQ,ne_eq] at g1
 have hnn : ¬ Zz x=false:=by simpa using g1
 refine wSk (Za (xL [_,_,_,_,_] ZY 0 (h:=xL [_,_,_,_,_,_,_,_] ZuI 1 (h:=xQ ZyA rfl (Zwv _ _ _ _ _ _ x e om2 om2 om2 om2 om2 om2 _ hu hf hi) (h:=?_)))))
 intro v5 B5 hle5
 rintro ⟨p15,d15,p25,d25,p35,d35,rfl,hu5,hf5,hi5,hd5⟩
 obtain ⟨hu,hf,hi⟩:=up3 hle5 hu hf hi
 have hu5n:=hu5.len
 have hf5n:=hf5.len
 have hi5n:=hi5.len
 refine xM (h:=xE (h:=xE (h:=xAl [_,_,_,_,_] Za6 (h:=fun b6=>xS [_,_,_,_,_] 3 [_,_,_,_,_] Zau (h:=xA (h:=tL4 (Zh (Za (xM (h:=ZG (h:=Zb rfl (fun g2=>?_) (fun g2=>?_))))))))))))
 try simp only [sQ,ne_eq] at g2
 refine Za (xL [_,_,_,_,_] ZY 0 (h:=xC Zol rfl (Zbh _ _ _ _ _ _ x _ hu hf hi) (h:=?_)))
 rintro _ B7 _ hle7 ⟨l7,a7,c7,q17,c17,q37,c37,rfl,rfl,hu7,hs7,hi7⟩
 obtain ⟨hu5,hf5,hi5⟩:=up3 hle7 hu5 hf5 hi5
 have hu7n:=hu7.len
 have hi7n:=hi7.len
 refine ZZ 4 rfl hs7 Zf.mono om3 (fun B8 hle8 hr8=>?_)
 obtain ⟨hu7,hi7,hu5,hf5,hi5⟩:=up5 hle8 hu7 hi7 hu5 hf5 hi5
 have hr8n:=hr8.len
 refine xM (h:=?_)
 rw [hDo,if_neg hnn,if_pos g2]
 refine xS [_,_,_,_,_] 2 [_,_,_,_,_] Zau (h:=xA (h:=tL5 (Zd (Zp ?_))))
 exact Zat .ret (.inl rfl) [_,_] [] rfl ⟨⟨_,rfl,.inr ⟨[_,_,_,_,_],ZY,Zaa 2 rfl rfl rfl,rfl⟩⟩,rfl,trivial⟩ ⟨rfl,_,_,_,_,_,_,(by rw [g2];rfl),hu7,hr8,hi7,by first | assumption | (rw [ZR.2.2.1];assumption)⟩
 try simp only [sQ,ne_eq] at g2
 rw [hDo,if_neg hnn,if_neg g2]
 refine wSk (Za (xL [_,_,_,_,_] ZY 3 (h:=xM (h:=xS [_,_,_,_,_] 2 [_,_,_,_,_] Zau (h:=xA (h:=tL4 (Zd ?_)))))))
 exact Zat .ret (.inl rfl) [_,_] [] rfl ⟨⟨_,rfl,.inr ⟨[_,_,_,_,_],ZY,Zaa 2 rfl rfl rfl,rfl⟩⟩,rfl,trivial⟩ ⟨rfl,_,_,_,_,_,_,(by first | rfl | (simp only [DHost.withFolders,List.length_set];rfl)),hu5,hf5,hi5,by first | assumption | (rw [ZR.2.2.1];assumption)⟩

theorem ZuC (b:Nat) (q:Option Addr) (m cp p:Nat) (q1:Option Addr) (c1:Nat) (ls:List Str) (hp:p≤900000000000) (hn:1≤ls.length) (hn2:ls.length≤1000000000000) (hm:m≤2000) (B:Kn) (hbm:Zan B q m) (hl:SlK B q1 c1 1 ZbO ls):Ex1 (pj J) 173 [ptr ⟨b,0,none⟩,.slice q1 ls.length c1] B (rd b q m cp p) (fun v s=>∃x,x∈ls∧v=str x∧s=rd b q m cp (p+1)):=by
 refine cB 12 Tryz.func173 (h:=?_)
 refine Za (xA (h:=Za (xM (h:=xM (h:=xM (h:=xV Tryz.underlying144 (h:=xX 0 rfl Z6 rfl (ZJ _ _ _ _ _ _ oz oz oz hm _ hbm) (h:=?_))))))))
 rintro _ _ ⟨rk,rfl,rka,rkb,rfl⟩
 obtain ⟨z,hz⟩:=Zey (xs:=ls) (i:=rk) om om
 obtain ⟨bb3,oo3,rfl⟩:=hl.base hz
 obtain ⟨_,⟨rfl,hb4⟩,hc4⟩:=hl.elem hz
 refine xIx Tryz.underlying144 sz9 (h:=y1 lk9 hc4 0 (h:=xA (h:=tL1 (Zd ?_))))
 exact e1 0 rfl t1 ⟨rfl,_,rfl,z,List.mem_of_getElem? hz,rfl,rfl⟩

theorem ZiA (b:Nat) (q:Option Addr) (m cp p:Nat) (hp:p≤850000000000) (hm:m≤2000) (B:Kn) (hbm:Zan B q m):Ex1 (pj J) 217 [ptr ⟨b,0,none⟩] B (rd b q m cp p) (fun v s=>∃(z:Int) (k:Nat),v = .int .i64 z∧-1≤z∧z≤80∧k≤p+3∧s=rd b q m cp k):=by
 refine cB 17 Tryz.func217 (h:=?_)
 refine Za (xA (h:=Zh (Za (xM (h:=xX 0 rfl Z6 rfl (ZJ _ _ _ _ _ _ oz oz oz hm _ hbm) (h:=?_))))))
 rintro _ _ ⟨r1,rfl,r1a,r1b,rfl⟩
 refine ZG (h:=tL1 (Zb rfl (fun g1=>?_) (fun g1=>?_)))
 refine Za (xBs [(0,_),(1,_),(2,_),(3,_)] [_,_,_,_] Tryz.underlying57 sz3 zo3 (h:=fun b2=>?_))
 have hvq3:ZT B (Z8 b2 (([(-1),0,63,64]:List Int).map fun x=>.int .i64 x) 3) (some ⟨b2,0,none⟩) 4 3 1 Zb9 ([(-1),0,63,64]:List Int):=ZT.ints
 refine xM (h:=xX 0 rfl Z6 rfl (ZJ _ _ _ _ _ _ oz oz oz hm _ hbm) (h:=?_))
 rintro _ _ ⟨r4,rfl,r4a,r4b,rfl⟩
 obtain ⟨e,he⟩:=Zey (xs:=([(-1),0,63,64]:List Int)) (i:=r4) om om
 obtain ⟨bb6,_,hp6,rfl,hw6,hc6⟩:=hvq3.row he
 refine xIp hp6 Tryz.underlying57 sz3 (h:=?_)
 have hme:=List.mem_of_getElem? he
 refine Zm (Ze rfl rfl lk3 rfl (hc6 _ 1 rfl 0 _ rfl) (xA (h:=tL2 (Zd (Zp ?_)))))
 exact e1 0 rfl t1 ⟨rfl,_,rfl,e,_,rfl,by simp only [List.mem_cons,List.not_mem_nil,or_false] at hme;omega,by simp only [List.mem_cons,List.not_mem_nil,or_false] at hme;omega,oz,rfl⟩
 refine wSk (Za (xM (h:=xX 0 rfl Z6 rfl (ZJ _ _ _ _ _ _ oz oz oz hm _ hbm) (h:=?_))))
 rintro _ _ ⟨r7,rfl,r7a,r7b,rfl⟩
 refine xY (h:=xM (h:=xX 0 rfl Z6 rfl (ZJ _ _ _ _ _ _ oz oz oz hm _ hbm) (h:=?_)))
 rintro _ _ ⟨r8,rfl,r8a,r8b,rfl⟩
 refine xD (h:=xA (h:=tL1 (Zd ?_)))
 exact e1 0 rfl t1 ⟨rfl,_,rfl,_,_,rfl,oz,oz,oz,rfl⟩

theorem Ziz (b:Nat) (q:Option Addr) (m cp p:Nat) (hp:p≤850000000000) (hm:m≤2000) (B:Kn) (hbm:Zan B q m):Ex1 (pj J) 120 [ptr ⟨b,0,none⟩] B (rd b q m cp p) (fun v s=>∃(x:Str) (k:Nat),v=str x∧x.length≤40∧k≤p+3∧s=rd b q m cp k):=by
 refine cB 11 Tryz.func120 (h:=?_)
 refine Za (xA (h:=Zh (Za (xM (h:=xX 0 rfl Z6 rfl (ZJ _ _ _ _ _ _ oz oz oz hm _ hbm) (h:=?_))))))
 rintro _ _ ⟨r1,rfl,r1a,r1b,rfl⟩
 refine ZG (h:=tL1 (Zb rfl (fun g1=>?_) (fun g1=>?_)))
 refine Za (xM (h:=xX 0 rfl ZkL rfl (ZcF _ _ _ _ _ oz hm _ hbm) (h:=?_)))
 rintro _ _ ⟨x2,rfl,hx2,rfl⟩
 refine xA (h:=tL1 (Zd (Zp ?_)))
 exact e1 0 rfl t1 ⟨rfl,_,rfl,_,_,rfl,oa,oz,rfl⟩
 refine wSk (Za (xM (h:=xBs [(0,_),(1,_),(2,_)] [_,_,_] Tryz.underlying144 sz9 zo9 (h:=fun b3=>xK [0,1] rfl Zgy rfl (Zqp _ _ _ _ _ _ ([[97,109,121],[98,111,98],[99,121,100]]:List Str) oz (by decide) (by decide) hm _ hbm) (h:=?_)))))
 rintro _ B4 _ hle4 ⟨rfl,x4,hx4,rfl,rfl⟩
 replace hx4:=(show∀y∈( ([[97,109,121],[98,111,98],[99,121,100]]:List Str):List Str),y.length≤40 from by decide) _ hx4
 refine xA (h:=tL2 (Zd ?_))
 exact e1 0 rfl t1 ⟨rfl,_,rfl,_,_,rfl,oa,oz,rfl⟩

theorem Zn8 (b:Nat) (q:Option Addr) (m cp p:Nat) (hp:p≤800000000000) (hm:m≤2000) (q1 q2 q3:Option Addr) (d1 d2 d3:Nat) (x:DHost) (B:Kn) (hbm:Zan B q m) (hf:SlK B q2 d2 5 Zf x.folders):Ex1 (pj J) 73 [ptr ⟨b,0,none⟩,.agg #[str x.domain,.slice q1 x.users.length d1,.slice q2 x.folders.length d2,.int .i64 x.queue.next,.slice q3 x.queue.items.length d3]] B (rd b q m cp p) (fun v s=>∃(y z:Str) (k:Nat),v = .tuple #[str y,str z]∧y.length≤2000000∧z.length≤2000000∧k≤p+6∧s=rd b q m cp k):=by
 refine cB 35 Tryz.func73 (h:=?_)
 have hfn:=hf.len
 refine Za (xBx [_,_,_,_,_] (h:=fun b1=>xA (h:=xA (h:=tL2 (Zh (Za (xW Z1 (h:=x1 ZcM 1 (h:=xV Tryz.underlying39 (h:=ZbG (h:=xM (h:=Zq (d:=12) rfl (fun g1=>?_) (fun g1=>?_)))))))))))))
 try simp only [sQ,ne_eq] at g1
 refine xM (h:=xX 0 rfl Z6 rfl (ZJ _ _ _ _ _ _ oz oz oz hm _ hbm) (h:=?_))
 rintro _ _ ⟨r2,rfl,r2a,r2b,rfl⟩
 refine ZbG (h:=xT (h:=tL2 (Zb rfl (fun g2=>?_) (fun g2=>?_))))
 try simp only [sQ,ne_eq] at g2
 refine Zh (ZV (keeps _ [1] _) mo kr ⟨Kn.le.refl _,Zae.refl _ _⟩ (fun _ _=>?_))
 refine aW 0 rfl Z1 (h:=aT 1 rfl (Zx fun D B L hI=>Ze rfl rfl ZcM rfl (atL 1 (hI.2.1.trans rfl) rfl rfl) r4) (h:=aM 2 rfl (h:=aW 3 rfl Z1 (h:=aT 4 rfl (Zx fun D B L hI=>Ze rfl rfl ZcM rfl (atL 1 (hI.2.1.trans rfl) rfl rfl) r4) (h:=aV 5 rfl Tryz.underlying39 (h:=Zaf [6,9] kr kr kr ⟨?_,?_⟩))))))
 refine (ZcA 0 rfl rfl rfl Z6 rfl (ZJ _ _ _ _ _ _ oz oz oz hm _ hbm) ?_)
 rintro _ _ ⟨rk,rfl,rka,rkb,rfl⟩
 refine ⟨⟨Kn.le.refl _,t1⟩,?_⟩
 obtain ⟨w,hw⟩:=Zey (xs:=x.folders) (i:=rk) om om
 obtain ⟨bb5,oo5,rfl⟩:=hf.base hw
 obtain ⟨_,⟨qg6,cg6,qm6,cm6,rfl,hg6,hm6,hb6,hb6b⟩,hc6⟩:=hf.elem hw
 have hg6n:=hg6.len
 have hm6n:=hm6.len
 have hm6s:=Z5 hm6
 refine aIx 7 rfl Tryz.underlying39 Zbo (h:=aT 8 rfl (Zx fun D B L hI=>ZX [_,_,_,_,_] rfl rfl ZhP rfl (ZmN (hc6.mono hI.1) 0 rfl rfl) r4) (h:=Zo 9 kr rfl kr (Zac (l:=[_,_,_,_,_]) rfl rfl ZdQ rfl (fun b7=>?_))))
 refine ⟨⟨Kn.le.refl _,t1⟩,(ZO 10 kr rfl kr kr kr (ZE [_,_,_,_,_] 2 [_,_,_,_,_] rfl rfl Zbo rfl rfl rfl rfl rfl rfl rfl rfl ?_))⟩
 refine Zj (tL3 (Zh (ZV (same _ _) mo kr ⟨rfl,rfl⟩ (fun _ _=>?_))))
 refine aW 0 rfl Zc8 (h:=aT 1 rfl (Zaj fun D=>Ze rfl rfl lk9 rfl (atL 2 rfl rfl rfl) r4) (h:=aW 2 rfl ZfH (h:=aT 3 rfl (Zaj fun D=>Ze rfl rfl lk9 rfl (atL 2 rfl rfl rfl) r4) (h:=aA 4 rfl (h:=aA 5 rfl (h:=Zv kr kr ?_))))))
 refine Zj (Zd (Zp ?_))
 exact Zoj .ret (.inl rfl) [_,_] 0 rfl t2 ⟨rfl,_,rfl,_,_,_,rfl,oa,oa,oz,rfl⟩
 refine (Zac (l:=[_,_,_,_,_]) rfl rfl ZdQ rfl (fun b8=>⟨⟨Kn.le.refl _,t1⟩,(Zo 6 kr rfl kr (ZcA 0 rfl rfl rfl Z6 rfl (ZJ _ _ _ _ _ _ oz oz oz hm _ hbm) ?_))⟩))
 rintro _ _ ⟨rk,rfl,rka,rkb,rfl⟩
 refine ⟨⟨Kn.le.refl _,t1⟩,?_⟩
 obtain ⟨w,hw⟩:=Zey (xs:=x.folders) (i:=rk) om om
 obtain ⟨bb11,oo11,rfl⟩:=hf.base hw
 obtain ⟨_,⟨qg12,cg12,qm12,cm12,rfl,hg12,hm12,hb12,hb12b⟩,hc12⟩:=hf.elem hw
 have hg12n:=hg12.len
 have hm12n:=hm12.len
 have hm12s:=Z5 hm12
 refine aIx 7 rfl Tryz.underlying39 Zbo (h:=aT 8 rfl (Zx fun D B L hI=>ZX [_,_,_,_,_] rfl rfl ZhP rfl (ZmN (hc12.mono hI.1) 0 rfl rfl) r4) (h:=ZO 10 kr rfl kr kr kr (ZE [_,_,_,_,_] 2 [_,_,_,_,_] rfl rfl Zbo rfl rfl rfl rfl rfl rfl rfl rfl ?_)))
 refine Zj (tL3 (Zh (ZV (same _ _) mo kr ⟨rfl,rfl⟩ (fun _ _=>?_))))
 refine aW 0 rfl Zc8 (h:=aT 1 rfl (Zaj fun D=>Ze rfl rfl lk9 rfl (atL 2 rfl rfl rfl) r4) (h:=aW 2 rfl ZfH (h:=aT 3 rfl (Zaj fun D=>Ze rfl rfl lk9 rfl (atL 2 rfl rfl rfl) r4) (h:=aA 4 rfl (h:=aA 5 rfl (h:=Zv kr kr ?_))))))
 refine Zj (Zd (Zp ?_))
 exact Zoj .ret (.inl rfl) [_,_] 0 rfl t2 ⟨rfl,_,rfl,_,_,_,rfl,oa,oa,oz,rfl⟩
 try simp only [sQ,ne_eq] at g2
 refine wSk (Za (xM (h:=xX 0 rfl Zvk rfl (Ziz _ _ _ _ _ oz hm _ hbm) (h:=?_))))
 rintro _ _ ⟨x13,k13,rfl,hx13,hk13,rfl⟩
 refine xA (h:=tL2 (Za (xM (h:=xM (h:=xX 0 rfl ZkL rfl (ZcF _ _ _ _ _ oz hm _ hbm) (h:=?_))))))
 rintro _ _ ⟨x14,rfl,hx14,rfl⟩
 refine xA (h:=xA (h:=tL2 (Zd ?_)))
 exact Zoj .ret (.inl rfl) [_,_] 0 rfl t2 ⟨rfl,_,rfl,_,_,_,rfl,oa,oa,oz,rfl⟩
 try simp only [sQ,ne_eq] at g1
 refine xP (h:=xP (h:=xP (h:=xF (h:=Zb (t:=false) rfl (fun h=>Bool.noConfusion h) (fun _=>wSk (Za (xM (h:=xX 0 rfl Zvk rfl (Ziz _ _ _ _ _ oz hm _ hbm) (h:=?_)))))))))
 rintro _ _ ⟨x15,k15,rfl,hx15,hk15,rfl⟩
 refine xA (h:=tL2 (Za (xM (h:=xM (h:=xX 0 rfl ZkL rfl (ZcF _ _ _ _ _ oz hm _ hbm) (h:=?_))))))
 rintro _ _ ⟨x16,rfl,hx16,rfl⟩
 refine xA (h:=xA (h:=tL2 (Zd ?_)))
 exact Zoj .ret (.inl rfl) [_,_] 0 rfl t2 ⟨rfl,_,rfl,_,_,_,rfl,oa,oa,oz,rfl⟩

theorem Zo5 (b:Nat) (q:Option Addr) (m cp p:Nat) (hp:p≤750000000000) (hm:m≤2000) (q1 q2 q3:Option Addr) (d1 d2 d3:Nat) (x:DHost) (hleft :∀y,y∈x.queue.items→0<y.left.length) (B:Kn) (hbm:Zan B q m) (hi:SlK B q3 d3 4 ZC x.queue.items):Zu (pj J) 172 [ptr ⟨b,0,none⟩,.agg #[str x.domain,.slice q1 x.users.length d1,.slice q2 x.folders.length d2,.int .i64 x.queue.next,.slice q3 x.queue.items.length d3]] B [rd b q m cp p] (fun v B' Ls=>∃(e:DEvent) (k:Nat),v = .agg #[.int .i64 e.kind,str e.by_,str e.owner,str e.name,str e.to_,str e.text,.int .i64 e.a,.int .i64 e.b]∧e.by_.length≤40∧e.owner.length≤40∧e.name.length≤40∧e.to_.length≤2000000∧e.text.length≤40∧k≤p+60∧Ls=[rd b q m cp k]):=by
 refine cB 148 Tryz.func172 (h:=?_)
 have hin:=hi.len
 refine Za (xBx [_,_,_,_,_] (h:=fun b1=>xAl [_,_,_,_,_,_,_,_] Zt7 (h:=fun b2=>tL3 (Za (xBs [(0,_),(1,_),(2,_)] [_,_,_] Tryz.underlying144 sz9 zo9 (h:=fun b3=>xA (h:=tL4 (Za (ZZ 3 rfl (ZT.strs (ls:=([[97,109,121],[98,111,98],[99,121,100]]:List Str)) (by first | decide | (simp;done) | (simp;omega))) ZbO.mono om3 (fun B4 hle4 hr4=>?_))))))))))
 replace hi:=up1 hle4 hi
 replace hbm:=hbm.mono hle4
 have hr4n:=hr4.len
 refine xM (h:=xM (h:=xX 0 rfl Zgy rfl (ZuC _ _ _ _ _ _ _ ([[97,109,121],[98,111,98],[99,121,100]]:List Str) oz (by decide) (by decide) hm _ hbm hr4) (h:=?_)))
 rintro _ _ ⟨x5,hx5,rfl,rfl⟩
 replace hx5:=(show∀y∈(([[97,109,121],[98,111,98],[99,121,100]]:List Str):List Str),y.length≤40 from by decide) _ hx5
 refine xM (h:=xM (h:=xX 0 rfl Zgy rfl (ZuC _ _ _ _ _ _ _ ([[97,109,121],[98,111,98],[99,121,100]]:List Str) oz (by decide) (by decide) hm _ hbm hr4) (h:=?_)))
 rintro _ _ ⟨x6,hx6,rfl,rfl⟩
 replace hx6:=(show∀y∈(([[97,109,121],[98,111,98],[99,121,100]]:List Str):List Str),y.length≤40 from by decide) _ hx6
 refine xM (h:=xBs [(0,_),(1,_),(2,_),(3,_)] [_,_,_,_] Tryz.underlying144 sz9 zo9 (h:=fun b7=>xK [0,4] rfl Zgy rfl (Zqp _ _ _ _ _ _ ([[105,110,98,111,120],[105,110,98,111,120],[98,111,120,49],[120]]:List Str) oz (by decide) (by decide) hm _ hbm) (h:=?_)))
 rintro _ B8 _ hle8 ⟨rfl,x8,hx8,rfl,rfl⟩
 replace hx8:=(show∀y∈( ([[105,110,98,111,120],[105,110,98,111,120],[98,111,120,49],[120]]:List Str):List Str),y.length≤40 from by decide) _ hx8
 refine xM (h:=xM (h:=xX 0 rfl Zgy rfl (ZuC _ _ _ _ _ _ _ ([[97,109,121],[98,111,98],[99,121,100]]:List Str) oz (by decide) (by decide) hm _ hbm hr4) (h:=?_)))
 rintro _ _ ⟨x9,hx9,rfl,rfl⟩
 replace hx9:=(show∀y∈(([[97,109,121],[98,111,98],[99,121,100]]:List Str):List Str),y.length≤40 from by decide) _ hx9
 refine xM (h:=xX 0 rfl Zro rfl (Ze9 _ _ _ _ _ oz hm _ hbm) (h:=?_))
 rintro _ _ ⟨x10,rfl,hx10,rfl⟩
 refine xB [(1,_),(2,_),(3,_),(4,_),(5,_)] [_,_,_,_,_,_,_,_] [_,_,_,_,_,_,_,_] ZxJ Zt7 (h:=xAl [_,_,_,_,_,_,_,_] Zt7 (h:=fun b11=>xS [_,_,_,_,_,_,_,_] 5 [_,_,_,_,_,_,_,_] Zwc (h:=tL6 (Zk5 (α:=DEvent × Nat) [0,1,3,4,5,6] (fun g=>[]) [0,5] (fun g=>[rd b q m cp g.2,Z8 b11 [.int .i64 g.1.kind,str g.1.by_,str g.1.owner,str g.1.name,str g.1.to_,str g.1.text,.int .i64 g.1.a,.int .i64 g.1.b] 244]) (fun g=>[]) (fun g Bx=>g.1.by_.length≤40∧g.1.owner.length≤40∧g.1.name.length≤40∧g.1.to_.length≤2000000∧g.1.text.length≤40∧g.2≤p+7) ?_ (fun g B12 hle12 hF=>?_)))))
 refine Za (xM (h:=xX 0 rfl Z6 rfl (ZJ _ _ _ _ _ _ oz oz oz hm _ hbm) (h:=?_)))
 rintro _ _ ⟨r13,rfl,r13a,r13b,rfl⟩
 refine ZbG (h:=tL6 (Zb rfl (fun e1=>?_) (fun e1=>?_)))
 try simp only [sQ,ne_eq] at e1
 refine Zc (xW Zf2 (h:=x1 lk9 5 (h:=xW ZkD (h:=xS [_] 5 [_,_,_,_,_,_,_,_] sz9 (h:=?_)))))
 exact ZH ⟨⟨0,x5,x5,x8,x9,x10,0,0⟩,((((((p+1)+1)+1)+1)+2)+1)⟩ [0,1,2,3,4,5] ⟨ob,ob,ob,ob,ob,ob⟩ t6 rfl
 try simp only [sQ,ne_eq] at e1
 refine ZL ?_
 exact ZH ⟨⟨0,x5,x6,x8,x9,x10,0,0⟩,((((((p+1)+1)+1)+1)+2)+1)⟩ [0,1,2,3,4,5] ⟨ob,ob,ob,ob,ob,ob⟩ t6 rfl
 obtain ⟨hg1,hg2,hg3,hg4,hg5,hgp⟩:=hF
 replace hi:=up1 hle12 hi
 replace hbm:=hbm.mono hle12
 refine ZN [(0,_),(1,_),(3,_),(4,_),(5,_),(6,_)] [_,_,_,_,_,_] t6 rfl (Zk5 (α:=DEvent × Nat) [0,1,3,4,5,6] (fun j=>[]) [0,5] (fun j=>[rd b q m cp j.2,Z8 b11 [.int .i64 j.1.kind,str j.1.by_,str j.1.owner,str j.1.name,str j.1.to_,str j.1.text,.int .i64 j.1.a,.int .i64 j.1.b] 244]) (fun j=>[]) (fun j Bx=>j.1.by_.length≤40∧j.1.owner.length≤40∧j.1.name.length≤40∧j.1.to_.length≤2000000∧j.1.text.length≤40∧j.2≤p+20) ?_ (fun j B14 hle14 hF=>?_))
 refine Za (xM (h:=xX 0 rfl Z6 rfl (ZJ _ _ _ _ _ _ oz oz oz hm _ hbm) (h:=?_)))
 rintro _ _ ⟨rk,rfl,rka,rkb,rfl⟩
 refine tL6 (Zn (Za (ZG (h:=xA (h:=Zb rfl (fun a0=>?_) (fun a0=>?_))))))
 try simp only [sQ,ne_eq] at a0
 refine Zc (xW Zb6 (h:=xS [_] 5 [_,_,_,_,_,_,_,_] sz3 (h:=Zw ?_)))
 exact ZH ⟨⟨1,g.1.by_,g.1.owner,g.1.name,g.1.to_,g.1.text,g.1.a,g.1.b⟩,(g.2+1)⟩ [0,1,2,3,4,5] ⟨ob,ob,ob,ob,ob,ob⟩ t6 rfl
 try simp only [sQ,ne_eq] at a0
 refine Zh (Za (ZG (h:=xA (h:=Zb rfl (fun a1=>?_) (fun a1=>?_)))))
 try simp only [sQ,ne_eq] at a1
 refine wSk (Zb rfl (fun a1t=>?_) (fun a1t=>by simp [a1] at a1t))
 try simp only [sQ,ne_eq] at a1t
 refine Za (xW Zb6 (h:=xS [_] 5 [_,_,_,_,_,_,_,_] sz3 (h:=tL6 (Za (xM (h:=xX 0 rfl ZwF rfl (ZiA _ _ _ _ _ oz hm _ hbm) (h:=?_)))))))
 rintro _ _ ⟨z16,k16,rfl,hz16,hz16b,hk16,rfl⟩
 refine xW Zbu (h:=xS [_] 5 [_,_,_,_,_,_,_,_] sz3 (h:=tL6 (Za (xM (h:=xX 0 rfl Z6 rfl (ZJ _ _ _ _ _ _ oz oz oz hm _ hbm) (h:=?_))))))
 rintro _ _ ⟨r17,rfl,r17a,r17b,rfl⟩
 refine ZG (h:=tL6 (Zb rfl (fun b1=>?_) (fun b1=>?_)))
 try simp only [sQ,ne_eq] at b1
 refine Zc (xW Zee (h:=xS [_] 5 [_,_,_,_,_,_,_,_] sz9 (h:=Zw ?_)))
 exact ZH ⟨⟨2,g.1.by_,g.1.owner,g.1.name,[97,110,121,111,110,101],g.1.text,z16,g.1.b⟩,(k16+1)⟩ [0,1,2,3,4,5] ⟨ob,ob,ob,ob,ob,ob⟩ t6 rfl
 try simp only [sQ,ne_eq] at b1
 refine ZL (Zw ?_)
 exact ZH ⟨⟨2,g.1.by_,g.1.owner,g.1.name,g.1.to_,g.1.text,z16,g.1.b⟩,(k16+1)⟩ [0,1,2,3,4,5] ⟨ob,ob,ob,ob,ob,ob⟩ t6 rfl
 try simp only [sQ,ne_eq] at a1
 refine Zc (ZG (h:=xA (h:=Zj (Zb rfl (fun a2=>?_) (fun a2=>?_)))))
 try simp only [sQ,ne_eq] at a2
 refine Za (xW Zb6 (h:=xS [_] 5 [_,_,_,_,_,_,_,_] sz3 (h:=tL6 (Za (xM (h:=xX 0 rfl ZwF rfl (ZiA _ _ _ _ _ oz hm _ hbm) (h:=?_)))))))
 rintro _ _ ⟨z18,k18,rfl,hz18,hz18b,hk18,rfl⟩
 refine xW Zbu (h:=xS [_] 5 [_,_,_,_,_,_,_,_] sz3 (h:=tL6 (Za (xM (h:=xX 0 rfl Z6 rfl (ZJ _ _ _ _ _ _ oz oz oz hm _ hbm) (h:=?_))))))
 rintro _ _ ⟨r19,rfl,r19a,r19b,rfl⟩
 refine ZG (h:=tL6 (Zb rfl (fun b1=>?_) (fun b1=>?_)))
 try simp only [sQ,ne_eq] at b1
 refine Zc (xW Zee (h:=xS [_] 5 [_,_,_,_,_,_,_,_] sz9 (h:=Zw ?_)))
 exact ZH ⟨⟨2,g.1.by_,g.1.owner,g.1.name,[97,110,121,111,110,101],g.1.text,z18,g.1.b⟩,(k18+1)⟩ [0,1,2,3,4,5] ⟨ob,ob,ob,ob,ob,ob⟩ t6 rfl
 try simp only [sQ,ne_eq] at b1
 refine ZL (Zw ?_)
 exact ZH ⟨⟨2,g.1.by_,g.1.owner,g.1.name,g.1.to_,g.1.text,z18,g.1.b⟩,(k18+1)⟩ [0,1,2,3,4,5] ⟨ob,ob,ob,ob,ob,ob⟩ t6 rfl
 try simp only [sQ,ne_eq] at a2
 refine Zh (Za (ZG (h:=xA (h:=Zb rfl (fun a3=>?_) (fun a3=>?_)))))
 try simp only [sQ,ne_eq] at a3
 refine wSk (Zb rfl (fun a3t=>?_) (fun a3t=>by simp [a3] at a3t))
 try simp only [sQ,ne_eq] at a3t
 refine Za (xW Zb6 (h:=xS [_] 5 [_,_,_,_,_,_,_,_] sz3 (h:=tL6 (Zc (xM (h:=xX 0 rfl Z6 rfl (ZJ _ _ _ _ _ _ oz oz oz hm _ hbm) (h:=?_)))))))
 rintro _ _ ⟨r20,rfl,r20a,r20b,rfl⟩
 refine xW Zbu (h:=xS [_] 5 [_,_,_,_,_,_,_,_] sz3 (h:=Zw ?_))
 exact ZH ⟨⟨3,g.1.by_,g.1.owner,g.1.name,g.1.to_,g.1.text,r20,g.1.b⟩,((g.2+1)+1)⟩ [0,1,2,3,4,5] ⟨ob,ob,ob,ob,ob,ob⟩ t6 rfl
 try simp only [sQ,ne_eq] at a3
 refine Za (ZG (h:=xA (h:=Zb rfl (fun a4=>?_) (fun a4=>?_))))
 try simp only [sQ,ne_eq] at a4
 refine wSk (Zb rfl (fun a4t=>?_) (fun a4t=>by simp [a4] at a4t))
 try simp only [sQ,ne_eq] at a4t
 refine Za (xW Zb6 (h:=xS [_] 5 [_,_,_,_,_,_,_,_] sz3 (h:=tL6 (Zc (xM (h:=xX 0 rfl Z6 rfl (ZJ _ _ _ _ _ _ oz oz oz hm _ hbm) (h:=?_)))))))
 rintro _ _ ⟨r21,rfl,r21a,r21b,rfl⟩
 refine xW Zbu (h:=xS [_] 5 [_,_,_,_,_,_,_,_] sz3 (h:=Zw ?_))
 exact ZH ⟨⟨3,g.1.by_,g.1.owner,g.1.name,g.1.to_,g.1.text,r21,g.1.b⟩,((g.2+1)+1)⟩ [0,1,2,3,4,5] ⟨ob,ob,ob,ob,ob,ob⟩ t6 rfl
 try simp only [sQ,ne_eq] at a4
 refine Zc (ZG (h:=xA (h:=Zj (Zb rfl (fun a5=>?_) (fun a5=>?_)))))
 try simp only [sQ,ne_eq] at a5
 refine Za (xW Zb6 (h:=xS [_] 5 [_,_,_,_,_,_,_,_] sz3 (h:=tL6 (Zc (xM (h:=xX 0 rfl Z6 rfl (ZJ _ _ _ _ _ _ oz oz oz hm _ hbm) (h:=?_)))))))
 rintro _ _ ⟨r22,rfl,r22a,r22b,rfl⟩
 refine xW Zbu (h:=xS [_] 5 [_,_,_,_,_,_,_,_] sz3 (h:=Zw ?_))
 exact ZH ⟨⟨3,g.1.by_,g.1.owner,g.1.name,g.1.to_,g.1.text,r22,g.1.b⟩,((g.2+1)+1)⟩ [0,1,2,3,4,5] ⟨ob,ob,ob,ob,ob,ob⟩ t6 rfl
 try simp only [sQ,ne_eq] at a5
 refine Zh (Za (ZG (h:=xA (h:=Zb rfl (fun a6=>?_) (fun a6=>?_)))))
 try simp only [sQ,ne_eq] at a6
 refine wSk (Zb rfl (fun a6t=>?_) (fun a6t=>by simp [a6] at a6t))
 try simp only [sQ,ne_eq] at a6t
 refine Zc (xW Zb6 (h:=xS [_] 5 [_,_,_,_,_,_,_,_] sz3 (h:=Zw ?_)))
 exact ZH ⟨⟨4,g.1.by_,g.1.owner,g.1.name,g.1.to_,g.1.text,g.1.a,g.1.b⟩,(g.2+1)⟩ [0,1,2,3,4,5] ⟨ob,ob,ob,ob,ob,ob⟩ t6 rfl
 try simp only [sQ,ne_eq] at a6
 refine Zc (ZG (h:=xA (h:=Zj (Zb rfl (fun a7=>?_) (fun a7=>?_)))))
 try simp only [sQ,ne_eq] at a7
 refine Zc (xW Zb6 (h:=xS [_] 5 [_,_,_,_,_,_,_,_] sz3 (h:=Zw ?_)))
 exact ZH ⟨⟨4,g.1.by_,g.1.owner,g.1.name,g.1.to_,g.1.text,g.1.a,g.1.b⟩,(g.2+1)⟩ [0,1,2,3,4,5] ⟨ob,ob,ob,ob,ob,ob⟩ t6 rfl
 try simp only [sQ,ne_eq] at a7
 refine Zh (Za (ZG (h:=xA (h:=Zb rfl (fun a8=>?_) (fun a8=>?_)))))
 try simp only [sQ,ne_eq] at a8
 refine wSk (Zb rfl (fun a8t=>?_) (fun a8t=>by simp [a8] at a8t))
 try simp only [sQ,ne_eq] at a8t
 refine Za (xW Zb6 (h:=xS [_] 5 [_,_,_,_,_,_,_,_] sz3 (h:=tL6 (Za (xM (h:=xX 0 rfl Z6 rfl (ZJ _ _ _ _ _ _ oz oz oz hm _ hbm) (h:=?_)))))))
 rintro _ _ ⟨r23,rfl,r23a,r23b,rfl⟩
 refine xD (h:=xW Zbu (h:=xS [_] 5 [_,_,_,_,_,_,_,_] sz3 (h:=tL6 (Za (xW ZcK (h:=xW ZaC (h:=x1 Ze7 1 (h:=xV Tryz.underlying40 (h:=ZbG (h:=xM (h:=Zq (d:=71) rfl (fun d1=>?_) (fun d1=>?_))))))))))))
 try simp only [sQ,ne_eq] at d1
 refine xM (h:=xX 0 rfl Z6 rfl (ZJ _ _ _ _ _ _ oz oz oz hm _ hbm) (h:=?_))
 rintro _ _ ⟨r24,rfl,r24a,r24b,rfl⟩
 refine ZbG (h:=xT (h:=tL6 (Zb rfl (fun d2=>?_) (fun d2=>?_))))
 try simp only [sQ,ne_eq] at d2
 refine Zh (ZV (keeps _ [1] _) mo kr ⟨Kn.le.refl _,Zae.refl _ _⟩ (fun _ _=>?_))
 refine aW 0 rfl ZcK (h:=aW 1 rfl ZaC (h:=aT 2 rfl (Zx fun D B L hI=>Ze rfl rfl Ze7 rfl (atL 1 (hI.2.1.trans rfl) rfl rfl) r4) (h:=aM 3 rfl (h:=aW 4 rfl ZcK (h:=aW 5 rfl ZaC (h:=aT 6 rfl (Zx fun D B L hI=>Ze rfl rfl Ze7 rfl (atL 1 (hI.2.1.trans rfl) rfl rfl) r4) (h:=aV 7 rfl Tryz.underlying40 (h:=Zaf [8,11] kr kr kr ⟨?_,?_⟩))))))))
 refine (ZcA 0 rfl rfl rfl Z6 rfl (ZJ _ _ _ _ _ _ oz oz oz hm _ hbm) ?_)
 rintro _ _ ⟨rkd,rfl,rkda,rkdb,rfl⟩
 refine ⟨⟨Kn.le.refl _,t1⟩,?_⟩
 obtain ⟨w,hw⟩:=Zey (xs:=x.queue.items) (i:=rkd) om om
 obtain ⟨bb27,oo27,rfl⟩:=hi.base hw
 obtain ⟨_,⟨qi28,ci28,rfl,hi28,hb28,hb28b⟩,hc28⟩:=hi.elem hw
 have hi28n:=hi28.len
 refine aIx 9 rfl Tryz.underlying40 Zbn (h:=?_)
 have hwl:=hleft w (List.mem_of_getElem? hw)
 refine aT 10 rfl (Zx fun D B L hI=>ZX [_,_,_,_] rfl rfl Zec rfl (ZmN (hc28.mono hI.1) 0 rfl rfl) r4) (h:=Zo 11 kr rfl kr (Zac (l:=[_,_,_,_]) rfl rfl Zc1 rfl (fun b29=>?_)))
 refine ⟨⟨Kn.le.refl _,t1⟩,(ZO 12 kr rfl kr kr kr (ZE [_,_,_,_] 6 [_,_,_,_] rfl rfl Zbn rfl rfl rfl rfl rfl rfl rfl rfl ?_))⟩
 refine Zj (tL7 (Za (xW ZdE (h:=x1 lk3 6 (h:=xW Zbu (h:=xS [_] 5 [_,_,_,_,_,_,_,_] sz3 (h:=tL7 (ZV (keeps _ [5,6] _) mo kr ⟨Kn.le.refl _,Zae.refl _ _⟩ (fun _ _=>?_)))))))))
 refine aW 0 rfl ZaR (h:=aT 1 rfl (Zx fun D B L hI=>Ze rfl rfl Zda rfl (atL 6 (hI.2.2.1.trans rfl) rfl rfl) r4) (h:=aM 2 rfl (h:=aW 3 rfl ZaR (h:=aT 4 rfl (Zx fun D B L hI=>Ze rfl rfl Zda rfl (atL 6 (hI.2.2.1.trans rfl) rfl rfl) r4) (h:=aV 5 rfl Tryz.underlying144 (h:=Zo 6 kr rfl kr (ZcA 0 rfl rfl rfl Z6 rfl (ZJ _ _ _ _ _ _ oz oz oz hm _ hbm) ?_)))))))
 rintro _ _ ⟨rke,rfl,rkea,rkeb,rfl⟩
 refine ⟨⟨Kn.le.refl _,t2⟩,?_⟩
 obtain ⟨ws,hws⟩:=Zey (xs:=w.left) (i:=rke) om om
 obtain ⟨bb32,oo32,rfl⟩:=hi28.base hws
 obtain ⟨_,⟨rfl,hb33⟩,hc33⟩:=hi28.elem hws
 refine aIx 7 rfl Tryz.underlying144 sz9 (h:=aT 8 rfl (Zx fun D B L hI=>Ze rfl rfl lk9 rfl ((hc33.mono hI.1) _ 0 _ rfl) r4) (h:=aW 9 rfl Zee (h:=ZO 10 kr rfl kr kr kr (ZE [_] 5 [_,_,_,_,_,_,_,_] rfl rfl sz9 rfl rfl rfl rfl rfl rfl rfl rfl ?_))))
 refine Zw ?_
 exact ZH ⟨⟨5,g.1.by_,g.1.owner,g.1.name,ws,g.1.text,w.id,g.1.b⟩,(((((g.2+1)+1)+1)+1)+1)⟩ [0,1,2,3,4,5] ⟨ob,ob,ob,ob,ob,ob⟩ t6 rfl
 refine (Zac (l:=[_,_,_,_]) rfl rfl Zc1 rfl (fun b34=>⟨⟨Kn.le.refl _,t1⟩,(Zo 8 kr rfl kr (ZcA 0 rfl rfl rfl Z6 rfl (ZJ _ _ _ _ _ _ oz oz oz hm _ hbm) ?_))⟩))
 rintro _ _ ⟨rkd,rfl,rkda,rkdb,rfl⟩
 refine ⟨⟨Kn.le.refl _,t1⟩,?_⟩
 obtain ⟨w,hw⟩:=Zey (xs:=x.queue.items) (i:=rkd) om om
 obtain ⟨bb37,oo37,rfl⟩:=hi.base hw
 obtain ⟨_,⟨qi38,ci38,rfl,hi38,hb38,hb38b⟩,hc38⟩:=hi.elem hw
 have hi38n:=hi38.len
 refine aIx 9 rfl Tryz.underlying40 Zbn (h:=?_)
 have hwl:=hleft w (List.mem_of_getElem? hw)
 refine aT 10 rfl (Zx fun D B L hI=>ZX [_,_,_,_] rfl rfl Zec rfl (ZmN (hc38.mono hI.1) 0 rfl rfl) r4) (h:=ZO 12 kr rfl kr kr kr (ZE [_,_,_,_] 6 [_,_,_,_] rfl rfl Zbn rfl rfl rfl rfl rfl rfl rfl rfl ?_))
 refine Zj (tL7 (Za (xW ZdE (h:=x1 lk3 6 (h:=xW Zbu (h:=xS [_] 5 [_,_,_,_,_,_,_,_] sz3 (h:=tL7 (ZV (keeps _ [5,6] _) mo kr ⟨Kn.le.refl _,Zae.refl _ _⟩ (fun _ _=>?_)))))))))
 refine aW 0 rfl ZaR (h:=aT 1 rfl (Zx fun D B L hI=>Ze rfl rfl Zda rfl (atL 6 (hI.2.2.1.trans rfl) rfl rfl) r4) (h:=aM 2 rfl (h:=aW 3 rfl ZaR (h:=aT 4 rfl (Zx fun D B L hI=>Ze rfl rfl Zda rfl (atL 6 (hI.2.2.1.trans rfl) rfl rfl) r4) (h:=aV 5 rfl Tryz.underlying144 (h:=Zo 6 kr rfl kr (ZcA 0 rfl rfl rfl Z6 rfl (ZJ _ _ _ _ _ _ oz oz oz hm _ hbm) ?_)))))))
 rintro _ _ ⟨rke,rfl,rkea,rkeb,rfl⟩
 refine ⟨⟨Kn.le.refl _,t2⟩,?_⟩
 obtain ⟨ws,hws⟩:=Zey (xs:=w.left) (i:=rke) om om
 obtain ⟨bb41,oo41,rfl⟩:=hi38.base hws
 obtain ⟨_,⟨rfl,hb42⟩,hc42⟩:=hi38.elem hws
 refine aIx 7 rfl Tryz.underlying144 sz9 (h:=aT 8 rfl (Zx fun D B L hI=>Ze rfl rfl lk9 rfl ((hc42.mono hI.1) _ 0 _ rfl) r4) (h:=aW 9 rfl Zee (h:=ZO 10 kr rfl kr kr kr (ZE [_] 5 [_,_,_,_,_,_,_,_] rfl rfl sz9 rfl rfl rfl rfl rfl rfl rfl rfl ?_))))
 refine Zw ?_
 exact ZH ⟨⟨5,g.1.by_,g.1.owner,g.1.name,ws,g.1.text,w.id,g.1.b⟩,(((((g.2+1)+1)+1)+1)+1)⟩ [0,1,2,3,4,5] ⟨ob,ob,ob,ob,ob,ob⟩ t6 rfl
 try simp only [sQ,ne_eq] at d2
 refine ZL (Zw ?_)
 exact ZH ⟨⟨5,g.1.by_,g.1.owner,g.1.name,g.1.to_,g.1.text,(1+r23),g.1.b⟩,(((g.2+1)+1)+1)⟩ [0,1,2,3,4,5] ⟨ob,ob,ob,ob,ob,ob⟩ t6 rfl
 try simp only [sQ,ne_eq] at d1
 refine xP (h:=xP (h:=xP (h:=xF (h:=Zb (t:=false) rfl (fun h=>Bool.noConfusion h) (fun _=>ZL (Zw ?_))))))
 exact ZH ⟨⟨5,g.1.by_,g.1.owner,g.1.name,g.1.to_,g.1.text,(1+r23),g.1.b⟩,((g.2+1)+1)⟩ [0,1,2,3,4,5] ⟨ob,ob,ob,ob,ob,ob⟩ t6 rfl
 try simp only [sQ,ne_eq] at a8
 refine Zc (ZG (h:=xA (h:=Zj (Zb rfl (fun a9=>?_) (fun a9=>?_)))))
 try simp only [sQ,ne_eq] at a9
 refine Za (xW Zb6 (h:=xS [_] 5 [_,_,_,_,_,_,_,_] sz3 (h:=tL6 (Za (xM (h:=xX 0 rfl Z6 rfl (ZJ _ _ _ _ _ _ oz oz oz hm _ hbm) (h:=?_)))))))
 rintro _ _ ⟨r43,rfl,r43a,r43b,rfl⟩
 refine xD (h:=xW Zbu (h:=xS [_] 5 [_,_,_,_,_,_,_,_] sz3 (h:=tL6 (Za (xW ZcK (h:=xW ZaC (h:=x1 Ze7 1 (h:=xV Tryz.underlying40 (h:=ZbG (h:=xM (h:=Zq (d:=71) rfl (fun d1=>?_) (fun d1=>?_))))))))))))
 try simp only [sQ,ne_eq] at d1
 refine xM (h:=xX 0 rfl Z6 rfl (ZJ _ _ _ _ _ _ oz oz oz hm _ hbm) (h:=?_))
 rintro _ _ ⟨r44,rfl,r44a,r44b,rfl⟩
 refine ZbG (h:=xT (h:=tL6 (Zb rfl (fun d2=>?_) (fun d2=>?_))))
 try simp only [sQ,ne_eq] at d2
 refine Zh (ZV (keeps _ [1] _) mo kr ⟨Kn.le.refl _,Zae.refl _ _⟩ (fun _ _=>?_))
 refine aW 0 rfl ZcK (h:=aW 1 rfl ZaC (h:=aT 2 rfl (Zx fun D B L hI=>Ze rfl rfl Ze7 rfl (atL 1 (hI.2.1.trans rfl) rfl rfl) r4) (h:=aM 3 rfl (h:=aW 4 rfl ZcK (h:=aW 5 rfl ZaC (h:=aT 6 rfl (Zx fun D B L hI=>Ze rfl rfl Ze7 rfl (atL 1 (hI.2.1.trans rfl) rfl rfl) r4) (h:=aV 7 rfl Tryz.underlying40 (h:=Zaf [8,11] kr kr kr ⟨?_,?_⟩))))))))
 refine (ZcA 0 rfl rfl rfl Z6 rfl (ZJ _ _ _ _ _ _ oz oz oz hm _ hbm) ?_)
 rintro _ _ ⟨rkd,rfl,rkda,rkdb,rfl⟩
 refine ⟨⟨Kn.le.refl _,t1⟩,?_⟩
 obtain ⟨w,hw⟩:=Zey (xs:=x.queue.items) (i:=rkd) om om
 obtain ⟨bb47,oo47,rfl⟩:=hi.base hw
 obtain ⟨_,⟨qi48,ci48,rfl,hi48,hb48,hb48b⟩,hc48⟩:=hi.elem hw
 have hi48n:=hi48.len
 refine aIx 9 rfl Tryz.underlying40 Zbn (h:=?_)
 have hwl:=hleft w (List.mem_of_getElem? hw)
 refine aT 10 rfl (Zx fun D B L hI=>ZX [_,_,_,_] rfl rfl Zec rfl (ZmN (hc48.mono hI.1) 0 rfl rfl) r4) (h:=Zo 11 kr rfl kr (Zac (l:=[_,_,_,_]) rfl rfl Zc1 rfl (fun b49=>?_)))
 refine ⟨⟨Kn.le.refl _,t1⟩,(ZO 12 kr rfl kr kr kr (ZE [_,_,_,_] 6 [_,_,_,_] rfl rfl Zbn rfl rfl rfl rfl rfl rfl rfl rfl ?_))⟩
 refine Zj (tL7 (Za (xW ZdE (h:=x1 lk3 6 (h:=xW Zbu (h:=xS [_] 5 [_,_,_,_,_,_,_,_] sz3 (h:=tL7 (ZV (keeps _ [5,6] _) mo kr ⟨Kn.le.refl _,Zae.refl _ _⟩ (fun _ _=>?_)))))))))
 refine aW 0 rfl ZaR (h:=aT 1 rfl (Zx fun D B L hI=>Ze rfl rfl Zda rfl (atL 6 (hI.2.2.1.trans rfl) rfl rfl) r4) (h:=aM 2 rfl (h:=aW 3 rfl ZaR (h:=aT 4 rfl (Zx fun D B L hI=>Ze rfl rfl Zda rfl (atL 6 (hI.2.2.1.trans rfl) rfl rfl) r4) (h:=aV 5 rfl Tryz.underlying144 (h:=Zo 6 kr rfl kr (ZcA 0 rfl rfl rfl Z6 rfl (ZJ _ _ _ _ _ _ oz oz oz hm _ hbm) ?_)))))))
 rintro _ _ ⟨rke,rfl,rkea,rkeb,rfl⟩
 refine ⟨⟨Kn.le.refl _,t2⟩,?_⟩
 obtain ⟨ws,hws⟩:=Zey (xs:=w.left) (i:=rke) om om
 obtain ⟨bb52,oo52,rfl⟩:=hi48.base hws
 obtain ⟨_,⟨rfl,hb53⟩,hc53⟩:=hi48.elem hws
 refine aIx 7 rfl Tryz.underlying144 sz9 (h:=aT 8 rfl (Zx fun D B L hI=>Ze rfl rfl lk9 rfl ((hc53.mono hI.1) _ 0 _ rfl) r4) (h:=aW 9 rfl Zee (h:=ZO 10 kr rfl kr kr kr (ZE [_] 5 [_,_,_,_,_,_,_,_] rfl rfl sz9 rfl rfl rfl rfl rfl rfl rfl rfl ?_))))
 refine Zw ?_
 exact ZH ⟨⟨5,g.1.by_,g.1.owner,g.1.name,ws,g.1.text,w.id,g.1.b⟩,(((((g.2+1)+1)+1)+1)+1)⟩ [0,1,2,3,4,5] ⟨ob,ob,ob,ob,ob,ob⟩ t6 rfl
 refine (Zac (l:=[_,_,_,_]) rfl rfl Zc1 rfl (fun b54=>⟨⟨Kn.le.refl _,t1⟩,(Zo 8 kr rfl kr (ZcA 0 rfl rfl rfl Z6 rfl (ZJ _ _ _ _ _ _ oz oz oz hm _ hbm) ?_))⟩))
 rintro _ _ ⟨rkd,rfl,rkda,rkdb,rfl⟩
 refine ⟨⟨Kn.le.refl _,t1⟩,?_⟩
 obtain ⟨w,hw⟩:=Zey (xs:=x.queue.items) (i:=rkd) om om
 obtain ⟨bb57,oo57,rfl⟩:=hi.base hw
 obtain ⟨_,⟨qi58,ci58,rfl,hi58,hb58,hb58b⟩,hc58⟩:=hi.elem hw
 have hi58n:=hi58.len
 refine aIx 9 rfl Tryz.underlying40 Zbn (h:=?_)
 have hwl:=hleft w (List.mem_of_getElem? hw)
 refine aT 10 rfl (Zx fun D B L hI=>ZX [_,_,_,_] rfl rfl Zec rfl (ZmN (hc58.mono hI.1) 0 rfl rfl) r4) (h:=ZO 12 kr rfl kr kr kr (ZE [_,_,_,_] 6 [_,_,_,_] rfl rfl Zbn rfl rfl rfl rfl rfl rfl rfl rfl ?_))
 refine Zj (tL7 (Za (xW ZdE (h:=x1 lk3 6 (h:=xW Zbu (h:=xS [_] 5 [_,_,_,_,_,_,_,_] sz3 (h:=tL7 (ZV (keeps _ [5,6] _) mo kr ⟨Kn.le.refl _,Zae.refl _ _⟩ (fun _ _=>?_)))))))))
 refine aW 0 rfl ZaR (h:=aT 1 rfl (Zx fun D B L hI=>Ze rfl rfl Zda rfl (atL 6 (hI.2.2.1.trans rfl) rfl rfl) r4) (h:=aM 2 rfl (h:=aW 3 rfl ZaR (h:=aT 4 rfl (Zx fun D B L hI=>Ze rfl rfl Zda rfl (atL 6 (hI.2.2.1.trans rfl) rfl rfl) r4) (h:=aV 5 rfl Tryz.underlying144 (h:=Zo 6 kr rfl kr (ZcA 0 rfl rfl rfl Z6 rfl (ZJ _ _ _ _ _ _ oz oz oz hm _ hbm) ?_)))))))
 rintro _ _ ⟨rke,rfl,rkea,rkeb,rfl⟩
 refine ⟨⟨Kn.le.refl _,t2⟩,?_⟩
 obtain ⟨ws,hws⟩:=Zey (xs:=w.left) (i:=rke) om om
 obtain ⟨bb61,oo61,rfl⟩:=hi58.base hws
 obtain ⟨_,⟨rfl,hb62⟩,hc62⟩:=hi58.elem hws
 refine aIx 7 rfl Tryz.underlying144 sz9 (h:=aT 8 rfl (Zx fun D B L hI=>Ze rfl rfl lk9 rfl ((hc62.mono hI.1) _ 0 _ rfl) r4) (h:=aW 9 rfl Zee (h:=ZO 10 kr rfl kr kr kr (ZE [_] 5 [_,_,_,_,_,_,_,_] rfl rfl sz9 rfl rfl rfl rfl rfl rfl rfl rfl ?_))))
 refine Zw ?_
 exact ZH ⟨⟨5,g.1.by_,g.1.owner,g.1.name,ws,g.1.text,w.id,g.1.b⟩,(((((g.2+1)+1)+1)+1)+1)⟩ [0,1,2,3,4,5] ⟨ob,ob,ob,ob,ob,ob⟩ t6 rfl
 try simp only [sQ,ne_eq] at d2
 refine ZL (Zw ?_)
 exact ZH ⟨⟨5,g.1.by_,g.1.owner,g.1.name,g.1.to_,g.1.text,(1+r43),g.1.b⟩,(((g.2+1)+1)+1)⟩ [0,1,2,3,4,5] ⟨ob,ob,ob,ob,ob,ob⟩ t6 rfl
 try simp only [sQ,ne_eq] at d1
 refine xP (h:=xP (h:=xP (h:=xF (h:=Zb (t:=false) rfl (fun h=>Bool.noConfusion h) (fun _=>ZL (Zw ?_))))))
 exact ZH ⟨⟨5,g.1.by_,g.1.owner,g.1.name,g.1.to_,g.1.text,(1+r43),g.1.b⟩,((g.2+1)+1)⟩ [0,1,2,3,4,5] ⟨ob,ob,ob,ob,ob,ob⟩ t6 rfl
 try simp only [sQ,ne_eq] at a9
 refine Zh (Za (ZG (h:=xA (h:=Zb rfl (fun a10=>?_) (fun a10=>?_)))))
 try simp only [sQ,ne_eq] at a10
 refine wSk (Zb rfl (fun a10t=>?_) (fun a10t=>by simp [a10] at a10t))
 try simp only [sQ,ne_eq] at a10t
 refine Za (xW Zb6 (h:=xS [_] 5 [_,_,_,_,_,_,_,_] sz3 (h:=tL6 (Za (xM (h:=xX 0 rfl Z6 rfl (ZJ _ _ _ _ _ _ oz oz oz hm _ hbm) (h:=?_)))))))
 rintro _ _ ⟨r63,rfl,r63a,r63b,rfl⟩
 refine xW Zbu (h:=xS [_] 5 [_,_,_,_,_,_,_,_] sz3 (h:=tL6 (Zc (xM (h:=xX 0 rfl Z6 rfl (ZJ _ _ _ _ _ _ oz oz oz hm _ hbm) (h:=?_))))))
 rintro _ _ ⟨r64,rfl,r64a,r64b,rfl⟩
 refine xY (h:=xM (h:=xX 0 rfl Z6 rfl (ZJ _ _ _ _ _ _ oz oz oz hm _ hbm) (h:=?_)))
 rintro _ _ ⟨r65,rfl,r65a,r65b,rfl⟩
 refine xD (h:=xW Znk (h:=xS [_] 5 [_,_,_,_,_,_,_,_] sz3 (h:=Zw ?_)))
 exact ZH ⟨⟨6,g.1.by_,g.1.owner,g.1.name,g.1.to_,g.1.text,r63,((r64*8)+r65)⟩,((((g.2+1)+1)+1)+1)⟩ [0,1,2,3,4,5] ⟨ob,ob,ob,ob,ob,ob⟩ t6 rfl
 try simp only [sQ,ne_eq] at a10
 refine Zc (ZG (h:=xA (h:=Zj (Zb rfl (fun a11=>?_) (fun a11=>?_)))))
 try simp only [sQ,ne_eq] at a11
 refine Za (xW Zb6 (h:=xS [_] 5 [_,_,_,_,_,_,_,_] sz3 (h:=tL6 (Za (xM (h:=xX 0 rfl Z6 rfl (ZJ _ _ _ _ _ _ oz oz oz hm _ hbm) (h:=?_)))))))
 rintro _ _ ⟨r66,rfl,r66a,r66b,rfl⟩
 refine xW Zbu (h:=xS [_] 5 [_,_,_,_,_,_,_,_] sz3 (h:=tL6 (Zc (xM (h:=xX 0 rfl Z6 rfl (ZJ _ _ _ _ _ _ oz oz oz hm _ hbm) (h:=?_))))))
 rintro _ _ ⟨r67,rfl,r67a,r67b,rfl⟩
 refine xY (h:=xM (h:=xX 0 rfl Z6 rfl (ZJ _ _ _ _ _ _ oz oz oz hm _ hbm) (h:=?_)))
 rintro _ _ ⟨r68,rfl,r68a,r68b,rfl⟩
 refine xD (h:=xW Znk (h:=xS [_] 5 [_,_,_,_,_,_,_,_] sz3 (h:=Zw ?_)))
 exact ZH ⟨⟨6,g.1.by_,g.1.owner,g.1.name,g.1.to_,g.1.text,r66,((r67*8)+r68)⟩,((((g.2+1)+1)+1)+1)⟩ [0,1,2,3,4,5] ⟨ob,ob,ob,ob,ob,ob⟩ t6 rfl
 try simp only [sQ,ne_eq] at a11
 refine Za (ZG (h:=xA (h:=Zb rfl (fun a12=>?_) (fun a12=>?_))))
 try simp only [sQ,ne_eq] at a12
 refine Zc (xW Zb6 (h:=xS [_] 5 [_,_,_,_,_,_,_,_] sz3 (h:=Zw ?_)))
 exact ZH ⟨⟨7,g.1.by_,g.1.owner,g.1.name,g.1.to_,g.1.text,g.1.a,g.1.b⟩,(g.2+1)⟩ [0,1,2,3,4,5] ⟨ob,ob,ob,ob,ob,ob⟩ t6 rfl
 try simp only [sQ,ne_eq] at a12
 refine Za (ZG (h:=xA (h:=Zb rfl (fun a13=>?_) (fun a13=>?_))))
 try simp only [sQ,ne_eq] at a13
 refine Za (xW Zb6 (h:=xS [_] 5 [_,_,_,_,_,_,_,_] sz3 (h:=tL6 (Zc (xM (h:=xX 0 rfl Z6 rfl (ZJ _ _ _ _ _ _ oz oz oz hm _ hbm) (h:=?_)))))))
 rintro _ _ ⟨r69,rfl,r69a,r69b,rfl⟩
 refine xW Zbu (h:=xS [_] 5 [_,_,_,_,_,_,_,_] sz3 (h:=Zw ?_))
 exact ZH ⟨⟨8,g.1.by_,g.1.owner,g.1.name,g.1.to_,g.1.text,r69,g.1.b⟩,((g.2+1)+1)⟩ [0,1,2,3,4,5] ⟨ob,ob,ob,ob,ob,ob⟩ t6 rfl
 try simp only [sQ,ne_eq] at a13
 refine ZL (Zw ?_)
 exact ZH ⟨⟨g.1.kind,g.1.by_,g.1.owner,g.1.name,g.1.to_,g.1.text,g.1.a,g.1.b⟩,(g.2+1)⟩ [0,1,2,3,4,5] ⟨ob,ob,ob,ob,ob,ob⟩ t6 rfl
 obtain ⟨hj1,hj2,hj3,hj4,hj5,hjp⟩:=hF
 replace hbm:=hbm.mono hle14
 refine ZN [(0,_),(1,_),(3,_),(4,_),(5,_),(6,_)] [_,_,_,_,_,_] t6 rfl (Zk5 (α:=DEvent × Nat) [0,1,3,4,5,6] (fun o=>[]) [0,5] (fun o=>[rd b q m cp o.2,Z8 b11 [.int .i64 o.1.kind,str o.1.by_,str o.1.owner,str o.1.name,str o.1.to_,str o.1.text,.int .i64 o.1.a,.int .i64 o.1.b] 244]) (fun o=>[]) (fun o Bx=>o.1.by_.length≤40∧o.1.owner.length≤40∧o.1.name.length≤40∧o.1.to_.length≤2000000∧o.1.text.length≤40∧o.2≤p+40) ?_ (fun o B70 hle70 hF=>?_))
 refine Za (xM (h:=xX 0 rfl Z6 rfl (ZJ _ _ _ _ _ _ oz oz oz hm _ hbm) (h:=?_)))
 rintro _ _ ⟨rz,rfl,rza,rzb,rfl⟩
 refine tL6 (Zn (Za (ZG (h:=xA (h:=Zb rfl (fun f0=>?_) (fun f0=>?_))))))
 try simp only [sQ,ne_eq] at f0
 refine Zc (xM (h:=xX 0 rfl Z6 rfl (ZJ _ _ _ _ _ _ oz oz oz hm _ hbm) (h:=?_)))
 rintro _ _ ⟨r72,rfl,r72a,r72b,rfl⟩
 refine xU (h:=xW Zb6 (h:=xS [_] 5 [_,_,_,_,_,_,_,_] sz3 (h:=Zw ?_)))
 exact ZH ⟨⟨(r72 - 1),j.1.by_,j.1.owner,j.1.name,j.1.to_,j.1.text,j.1.a,j.1.b⟩,((j.2+1)+1)⟩ [0,1,2,3,4,5] ⟨ob,ob,ob,ob,ob,ob⟩ t6 rfl
 try simp only [sQ,ne_eq] at f0
 refine Za (ZG (h:=xA (h:=Zb rfl (fun f1=>?_) (fun f1=>?_))))
 try simp only [sQ,ne_eq] at f1
 refine Zc (xM (h:=xX 0 rfl Z6 rfl (ZJ _ _ _ _ _ _ oz oz oz hm _ hbm) (h:=?_)))
 rintro _ _ ⟨r73,rfl,r73a,r73b,rfl⟩
 refine xU (h:=xW Zbu (h:=xS [_] 5 [_,_,_,_,_,_,_,_] sz3 (h:=Zw ?_)))
 exact ZH ⟨⟨j.1.kind,j.1.by_,j.1.owner,j.1.name,j.1.to_,j.1.text,(r73 - 5),j.1.b⟩,((j.2+1)+1)⟩ [0,1,2,3,4,5] ⟨ob,ob,ob,ob,ob,ob⟩ t6 rfl
 try simp only [sQ,ne_eq] at f1
 refine Za (ZG (h:=xA (h:=Zb rfl (fun f2=>?_) (fun f2=>?_))))
 try simp only [sQ,ne_eq] at f2
 refine Zc (xM (h:=xX 0 rfl ZkL rfl (ZcF _ _ _ _ _ oz hm _ hbm) (h:=?_)))
 rintro _ _ ⟨x74,rfl,hx74,rfl⟩
 refine xW Zf2 (h:=xS [_] 5 [_,_,_,_,_,_,_,_] sz9 (h:=Zw ?_))
 exact ZH ⟨⟨j.1.kind,x74,j.1.owner,j.1.name,j.1.to_,j.1.text,j.1.a,j.1.b⟩,((j.2+1)+2)⟩ [0,1,2,3,4,5] ⟨ob,ob,ob,ob,ob,ob⟩ t6 rfl
 try simp only [sQ,ne_eq] at f2
 refine Za (ZG (h:=xA (h:=Zb rfl (fun f3=>?_) (fun f3=>?_))))
 try simp only [sQ,ne_eq] at f3
 refine Zc (xM (h:=xX 0 rfl ZkL rfl (ZcF _ _ _ _ _ oz hm _ hbm) (h:=?_)))
 rintro _ _ ⟨x75,rfl,hx75,rfl⟩
 refine xW ZiW (h:=xS [_] 5 [_,_,_,_,_,_,_,_] sz9 (h:=Zw ?_))
 exact ZH ⟨⟨j.1.kind,j.1.by_,j.1.owner,x75,j.1.to_,j.1.text,j.1.a,j.1.b⟩,((j.2+1)+2)⟩ [0,1,2,3,4,5] ⟨ob,ob,ob,ob,ob,ob⟩ t6 rfl
 try simp only [sQ,ne_eq] at f3
 refine ZL (Zw ?_)
 exact ZH ⟨⟨j.1.kind,j.1.by_,j.1.owner,j.1.name,j.1.to_,j.1.text,j.1.a,j.1.b⟩,(j.2+1)⟩ [0,1,2,3,4,5] ⟨ob,ob,ob,ob,ob,ob⟩ t6 rfl
 obtain ⟨ho1,ho2,ho3,ho4,ho5,hop⟩:=hF
 refine ZN [(0,_),(1,_),(3,_),(4,_),(5,_),(6,_)] [_,_,_,_,_,_] t6 rfl (Za (xL [_,_,_,_,_,_,_,_] ZuI 5 (h:=xS [_,_,_,_,_,_,_,_] 2 [_,_,_,_,_,_,_,_] Zwc (h:=tL6 (Zd ?_)))))
 exact eN [0] rfl ⟨⟨_,rfl,.inr ⟨[_,_,_,_,_,_,_,_],ZuI,Zaa 2 rfl rfl rfl,rfl⟩⟩,trivial⟩ ⟨o.1,o.2,rfl,oy,oy,oy,oy,oy,oz,rfl⟩

theorem ZdV (q:Option Addr) (cp:Nat) (x:DBox) (fl:Int) (t:Str) (ht:t.length≤2000000) (B:Kn) (hm:SlK B q cp 3 ZS x.mail):Zu (pj J) 211 [.agg #[.int .i64 x.next,.slice q x.mail.length cp],.int .i64 fl,str t] B [] (fun v B' Ls=>∃l a c,Ls=[l]∧v = .tuple #[.agg #[.int .i64 (ZM x fl t).1.next,.slice a (ZM x fl t).1.mail.length c],.bool (ZM x fl t).2]∧ZT B' l a c 89 3 ZS (ZM x fl t).1.mail):=by
 refine cB 28 Tryz.func211 (h:=?_)
 have hxn:=hm.len
 refine Za (xBx [_,_] (h:=fun b1=>xAl [_,_] Zfo (h:=fun b2=>xA (h:=tL2 (Zh (Za (xL [_,_] ZbT 0 (h:=xR Ztk rfl (Zgk _ _ (⟨x.next,x.mail⟩:DBox) _ hm) (h:=xN (h:=xM (h:=Zq (d:=11) rfl (fun g1=>?_) (fun g1=>?_))))))))))))
 try simp only [sQ,ne_eq] at g1
 have he:=Zfi (b:=x) (fl:=fl) (t:=t) (by simp [g1])
 refine xP (h:=xP (h:=xP (h:=xT (h:=xM (h:=xP (h:=xP (h:=xP (h:=xT (h:=Zb (t:=true) rfl (fun _=>Za (xB [] [_,_] [_,_] Zn0 Zfo (h:=xS [_,_] 1 [_,_] ZcQ (h:=xA (h:=tL2 (Zd (Zp ?_))))))) (fun h=>Bool.noConfusion h))))))))))
 exact Zvb .ret (.inl rfl) [_,_] ⟨⟨_,rfl,.inr ⟨[_,_],ZbT,Zaa 1 rfl rfl rfl,rfl⟩⟩,rfl,trivial⟩ ⟨_,none,0,rfl,by rw [he];rfl,by rw [he];exact ZT.nil⟩
 try simp only [sQ,ne_eq] at g1
 refine xM (h:=xR Zrp rfl (Zfa _ _) (h:=xN (h:=xF (h:=xM (h:=Zq (d:=16) rfl (fun g2=>?_) (fun g2=>?_))))))
 try simp only [sQ,ne_eq] at g2
 have he:=Zfi (b:=x) (fl:=fl) (t:=t) (fun h=>by have:=h.2.1;simp only [ZaW,g2] at this;cases this)
 refine xP (h:=xP (h:=xP (h:=xT (h:=Zb (t:=true) rfl (fun _=>Za (xB [] [_,_] [_,_] Zn0 Zfo (h:=xS [_,_] 1 [_,_] ZcQ (h:=xA (h:=tL2 (Zd (Zp ?_))))))) (fun h=>Bool.noConfusion h)))))
 exact Zvb .ret (.inl rfl) [_,_] ⟨⟨_,rfl,.inr ⟨[_,_],ZbT,Zaa 1 rfl rfl rfl,rfl⟩⟩,rfl,trivial⟩ ⟨_,none,0,rfl,by rw [he];rfl,by rw [he];exact ZT.nil⟩
 try simp only [sQ,ne_eq] at g2
 refine xM (h:=xVs Tryz.underlying9 (h:=ZbG (h:=xF (h:=Zb rfl (fun g3=>?_) (fun g3=>?_)))))
 try simp only [sQ,ne_eq] at g3
 have he:=Zfi (b:=x) (fl:=fl) (t:=t) (by simp;omega)
 refine Za (xB [] [_,_] [_,_] Zn0 Zfo (h:=xS [_,_] 1 [_,_] ZcQ (h:=xA (h:=tL2 (Zd (Zp ?_))))))
 exact Zvb .ret (.inl rfl) [_,_] ⟨⟨_,rfl,.inr ⟨[_,_],ZbT,Zaa 1 rfl rfl rfl,rfl⟩⟩,rfl,trivial⟩ ⟨_,none,0,rfl,by rw [he];rfl,by rw [he];exact ZT.nil⟩
 try simp only [sQ,ne_eq] at g3
 have hok:Zbm x=true:=by simpa using g1
 rw [ZkQ ⟨hok,by simpa only [ZaW,Bool.not_eq_false] using g2,oz⟩]
 refine wSk (Za (xL [_,_] ZbT 0 (h:=xM (h:=xM (h:=xC ZwQ rfl (ZiE _ _ (⟨x.next,x.mail⟩:DBox) fl t oz (oy) _ hm) (h:=?_))))))
 rintro _ B5 _ hle5 ⟨l5,a5,c5,rfl,rfl,hs5⟩
 replace hs5:=hs5.anyK (B':=B5) ZS.any
 refine xE (h:=xE (h:=xS [_,_] 1 [_,_] ZcQ (h:=xA (h:=tL3 (Zd ?_)))))
 exact Zat .ret (.inl rfl) [_,_] [2] rfl ⟨⟨_,rfl,.inr ⟨[_,_],ZbT,Zaa 1 rfl rfl rfl,rfl⟩⟩,rfl,trivial⟩ ⟨_,_,_,rfl,rfl,hs5⟩

theorem ZsL (b:Nat) (q:Option Addr) (m cp p:Nat) (hp:p≤800000000000) (hm:m≤2000) (B:Kn) (hbm:Zan B q m):Zu (pj J) 167 [ptr ⟨b,0,none⟩] B [rd b q m cp p] (fun v B' Ls=>∃(q':Option Addr) (cp':Nat) (gs:List DGrant) (k:Nat),v = .slice q' gs.length cp'∧SlK B' q' cp' 2 Z0 gs∧k≤p+60∧Ls=[rd b q m cp k]):=by
 refine cB 52 Tryz.func167 (h:=?_)
 refine Za (xA (h:=Za (xBs [] [] Tryz.underlying82 ZbP ZdM (h:=fun b1=>xA (h:=tL2 (Za (xM (h:=xX 0 rfl Z6 rfl (ZJ _ _ _ _ _ _ oz oz oz hm _ hbm) (h:=?_)))))))))
 rintro _ _ ⟨rn,rfl,rna,rnb,rfl⟩
 refine xA (h:=tL2 (Zh (Za (xA (h:=Zn (ZQ (α:=GAc) [0,2,4] (fun g=>[(3,.slice g.a g.xs.length g.c),(5,.int .i64 g.k)]) [0,1] (fun g=>[rd b q m cp g.p,g.l]) (fun g Bx=>g.k≤4∧g.p≤p+1+5*g.k∧g.xs.length≤4*g.k∧ZT Bx g.l g.a g.c 224 2 Z0 g.xs) (fun g=>4 - g.k) ⟨0,_,_,_,_,[]⟩ t2 rfl (⟨Nat.zero_le _,Nat.le_refl _,Nat.le_refl _,.lit0⟩) (fun g B3 hle3 hI=>?_)))))))
 obtain ⟨hk,hgp,hgl,hv⟩:=hI
 replace hbm:=hbm.mono hle3
 refine ZN [(0,_),(2,_),(3,_),(4,_),(5,_)] [_,_] t5 rfl (Zh (Za (xM (h:=xM (h:=Zag (h:=Zb rfl (fun g1=>?_) (fun g1=>?_)))))))
 try simp only [sQ,ne_eq] at g1
 refine wSk (Zh (Zn (Za (xM (h:=xM (h:=xBs [(0,_),(1,_),(2,_),(3,_),(4,_)] [_,_,_,_,_] Tryz.underlying144 sz9 zo9 (h:=fun b4=>xK [0,2] rfl Zgy rfl (Zqp _ _ _ _ _ _ ([[97,109,121],[98,111,98],[99,121,100],[97,110,121,111,110,101],[100,97,110]]:List Str) oz (by decide) (by decide) hm _ hbm) (h:=?_))))))))
 rintro _ Bu _ hleu ⟨rfl,xu,hxu,rfl,rfl⟩
 replace hxu:=(show∀y∈( ([[97,109,121],[98,111,98],[99,121,100],[97,110,121,111,110,101],[100,97,110]]:List Str):List Str),y.length≤40 from by decide) _ hxu
 refine xM (h:=xX 0 rfl Z6 rfl (ZJ _ _ _ _ _ _ oz oz oz hm _ hbm) (h:=?_))
 rintro _ _ ⟨re,rfl,rea,reb,rfl⟩
 refine Zm (Zk4 (a:=re) (b:=8) rfl rfl rfl rfl (ZaY oz oz) ?_)
 have ht1:=Int.tmod_nonneg 63 (show 0≤re*8 by omega)
 have ht2:=Int.tmod_lt_of_pos (re*8) (show (0:Int)<63 by decide)
 refine Zm (ZhB (a:=(re*8)) (b:=63) (r:=Int.tmod (re*8) 63) rfl rfl rfl rfl (by decide) rfl ?_)
 refine xD (h:=xM (h:=xX 0 rfl Z6 rfl (ZJ _ _ _ _ _ _ oz oz oz hm _ hbm) (h:=?_)))
 rintro _ _ ⟨rf,rfl,rfa,rfb,rfl⟩
 refine xD (h:=xK [1] rfl Zvf rfl (Zu.borrow fun hma=>Ze2 _ _ g.xs xu ((1+(Int.tmod (re*8) 63))+rf) om2 _ (hv.lend Z0.mono hma om)) (h:=?_))
 rintro _ Ba _ hlea ⟨BBa,_,rfl,hBa,_,hma,_,la,aa,ca,rfl,rfl,hsa⟩
 replace hv:=hv.mono Z0.mono hlea
 replace hbm:=hbm.mono hlea
 have hsan:=hsa.cap
 replace hsa:=hsa.anyK (B':=Ba) Z0.any
 refine xM (h:=xE (h:=xE (h:=xA (h:=xA (h:=tL4 (Za (xM (h:=Zb rfl (fun g2=>?_) (fun g2=>?_)))))))))
 try simp only [sQ,ne_eq] at g2
 refine Zc (xM (h:=xA (h:=Zw (Zj (Zc (xM (h:=xD (h:=xA (h:=?_)))))))))
 exact ZD ⟨g.k+1,(((g.p+1)+1)+1),la,aa,ca,((Zb5 g.xs xu ((1+(Int.tmod (re*8) 63))+rf)).1)⟩ [0,3] so2 ⟨so,so,by first | (simp only [];omega) | exact Nat.le_trans (Zfy _ _ _) (so),hsa⟩ t5 rfl
 try simp only [sQ,ne_eq] at g2
 refine ZL (Zw (Zj (Zc (xM (h:=xD (h:=xA (h:=?_)))))))
 exact ZD ⟨g.k+1,(((g.p+1)+1)+1),g.l,g.a,g.c,g.xs⟩ [0,1] so2 ⟨so,so,by first | (simp only [];omega) | exact Nat.le_trans (Zfy _ _ _) (so),hv⟩ t5 rfl
 try simp only [sQ,ne_eq] at g1
 refine ZU (Zak (Z3 (ZK (Zj (Zh (Za (xM (h:=xX 0 rfl Z6 rfl (ZJ _ _ _ _ _ _ oz oz oz hm _ hbm) (h:=?_)))))))))
 rintro _ _ ⟨rk2,rfl,rk2a,rk2b,rfl⟩
 refine tL2 (Zn (Za (ZG (h:=xA (h:=Zb rfl (fun g3=>?_) (fun g3=>?_))))))
 try simp only [sQ,ne_eq] at g3
 refine Zc (xM (h:=xM (h:=xX 0 rfl ZkL rfl (ZcF _ _ _ _ _ oz hm _ hbm) (h:=?_))))
 rintro _ _ ⟨xs,rfl,hxs,rfl⟩
 refine xM (h:=xX 0 rfl Z6 rfl (ZJ _ _ _ _ _ _ oz oz oz hm _ hbm) (h:=?_))
 rintro _ _ ⟨ry,rfl,rya,ryb,rfl⟩
 refine xB [(0,_),(1,_)] [_,_] [_,_] Zuv ZdM (h:=xBs [(0,_)] [_,_] Tryz.underlying82 ZbP ZdM (h:=fun b12=>Zm (Zbe (z:=⟨xs,ry⟩) (R:=Z0) 1 rfl hv rfl rfl rfl Zrk Zp8 rfl rfl (ZaO.box 2 rfl) rfl rfl (⟨rfl,by first | assumption | omega | (simp;done) | (simp;omega)⟩) om (fun l13 p13 c13 hv13=>?_))))
 refine xA (h:=Zw (Zj (Za (xM (h:=ZZ 1 rfl hv13 Z0.mono om3 (fun B14 hle14 hr14=>?_))))))
 have hr14n:=hr14.len
 refine xA (h:=tL3 (Zd ?_))
 exact eN [0] rfl t1 ⟨_,_,_,_,rfl,hr14,oz,rfl⟩
 try simp only [sQ,ne_eq] at g3
 refine Za (ZG (h:=xA (h:=Zb rfl (fun g4=>?_) (fun g4=>?_))))
 try simp only [sQ,ne_eq] at g4
 refine Zc (xM (h:=xM (h:=Zm (ZvY (R:=Z0) 1 rfl hv rfl rfl rfl Zrk Zp8 rfl rfl Z0.one om (fun l15 p15 c15 hv15=>?_)))))
 refine xA (h:=Zw (Zj (Za (xM (h:=ZZ 1 rfl hv15 Z0.mono om3 (fun B16 hle16 hr16=>?_))))))
 have hr16n:=hr16.len
 refine xA (h:=tL2 (Zd ?_))
 exact eN [0] rfl t1 ⟨_,_,_,_,rfl,hr16,oz,rfl⟩
 try simp only [sQ,ne_eq] at g4
 refine ZL (Zw (Zj (Za (xM (h:=ZZ 1 rfl hv Z0.mono om3 (fun B17 hle17 hr17=>?_))))))
 have hr17n:=hr17.len
 refine xA (h:=tL2 (Zd ?_))
 exact eN [0] rfl t1 ⟨_,_,_,_,rfl,hr17,oz,rfl⟩

set_option maxHeartbeats 1600000 in
theorem ZsM (b:Nat) (q:Option Addr) (m cp p:Nat) (hp:p≤800000000000) (hm:m≤2000) (B:Kn) (hbm:Zan B q m):Zu (pj J) 168 [ptr ⟨b,0,none⟩] B [rd b q m cp p] (fun v B' Ls=>∃(q':Option Addr) (cp':Nat) (x:DBox) (k:Nat),v = .agg #[.int .i64 x.next,.slice q' x.mail.length cp']∧SlK B' q' cp' 3 ZS x.mail∧k≤p+300∧Ls=[rd b q m cp k]):=by
 refine ZcX 91 Tryz.func168 rfl rfl rfl (Nat.le_of_ble_eq_true rfl) ?_
 refine Za (xAl [_,_] Zfo (h:=fun b1=>ZgE [_,_] rfl (Za (xM (h:=xX 0 rfl Z6 rfl (ZJ _ _ _ _ _ _ oz oz oz hm _ hbm) (h:=?_))))))
 rintro _ _ ⟨rn0,rfl,rn0a,rn0b,rfl⟩
 refine xD (h:=xBs [] [] Tryz.underlying83 ZhC Zou (h:=fun b3=>xB [(0,_),(1,_)] [_,_] [_,_] Zn0 Zfo (h:=xAl [_,_] Zfo (h:=fun b4=>xS [_,_] 3 [_,_] ZcQ (h:=ZgE [_,_,_,_] rfl (Za (xM (h:=xX 0 rfl Z6 rfl (ZJ _ _ _ _ _ _ oz oz oz hm _ hbm) (h:=?_)))))))))
 rintro _ _ ⟨rb0,rfl,rb0a,rb0b,rfl⟩
 refine xA (h:=ZgE [_,_,_,_] rfl (Zk5 (α:=Int × Nat) [0,2,3] (fun g=>[(4,.int .i64 g.1)]) [0] (fun g=>[rd b q m cp g.2]) (fun g=>[]) (fun g Bx=>Bx=B∧0≤g.1∧g.1≤14∧g.2≤p+3) ?_ (fun g B6 hle6 hF=>?_)))
 refine Za (xM (h:=xX 0 rfl Z6 rfl (ZJ _ _ _ _ _ _ oz oz oz hm _ hbm) (h:=?_)))
 rintro _ _ ⟨rc0,rfl,rc0a,rc0b,rfl⟩
 refine ZG (h:=ZgE [_,_,_,_] rfl (Zb rfl (fun g0=>?_) (fun g0=>?_)))
 try simp only [sQ,ne_eq] at g0
 refine Zc (xA (h:=?_))
 exact ZH ⟨14,(((p+1)+1)+1)⟩ [0,1,2,3] ⟨rfl,so,so,so⟩ t4 rfl
 try simp only [sQ,ne_eq] at g0
 refine ZL ?_
 exact ZH ⟨rb0,(((p+1)+1)+1)⟩ [0,1,2,3] ⟨rfl,so,so,so⟩ t4 rfl
 obtain ⟨rfl,hg0,hg1,hgp⟩:=hF
 refine ZN [(0,_),(2,_),(3,_),(4,_)] [_,_,_,_] t4 rfl (Zh (Za (xA (h:=Zn (ZQ (α:=GBo) [0,2,3,4] (fun h=>[(5,.int .i64 h.k)]) [0,2,3] (fun h=>[rd b q m cp h.p,h.l,Z8 b4 [.int .i64 h.x.next,.slice h.a h.x.mail.length h.c] 85]) (fun h Bx=>h.k≤15∧h.p≤p+4+10*h.k∧0≤h.x.next∧h.x.next≤200∧h.x.mail.length≤20∧ZT Bx h.l h.a h.c 89 3 ZS h.x.mail) (fun h=>15 - h.k) ⟨0,g.2,_,_,_,⟨1+rn0,[]⟩⟩ t1 rfl (⟨Nat.zero_le _,(so),(so),(so),Nat.zero_le _,.lit0⟩) (fun h B8 hle8 hI=>?_))))))
 obtain ⟨hk,hhp,hh0,hh1,hhl,hv⟩:=hI
 replace hbm:=hbm.mono hle8
 refine ZN [(0,_),(2,_),(3,_),(4,_),(5,_)] [_,_,_,_] t5 rfl (Zh (Za (xM (h:=xM (h:=Zag (h:=Zb rfl (fun g1=>?_) (fun g1=>?_)))))))
 try simp only [sQ,ne_eq] at g1
 refine ZL (Zj (Zh (Zn (Zh (ZV (keeps _ [3] _) mo kr ⟨Kn.le.refl _,Zae.refl _ _⟩ (fun _ _=>?_))))))
 refine aT 0 rfl (Zx fun D B L hI=>ZX [_,_] rfl rfl ZbT rfl (Zaa 3 (hI.2.1.trans rfl) rfl rfl) r4) (h:=aM 1 rfl (h:=aM 3 rfl (h:=Zaf [2,9] kr kr kr ⟨?_,?_⟩)))
 refine (ZcA 0 rfl rfl rfl Z6 rfl (ZJ _ _ _ _ _ _ oz oz oz hm _ hbm) ?_)
 rintro _ _ ⟨rf,rfl,rfa,rfb,rfl⟩
 refine ⟨⟨Kn.le.refl _,t1⟩,(Zaf [4,9] kr kr kr ⟨?_,?_⟩)⟩
 refine (ZcA 0 rfl rfl rfl Zro rfl (Ze9 _ _ _ _ _ oz hm _ hbm) ?_)
 rintro _ _ ⟨xt,rfl,hxt,rfl⟩
 refine ⟨⟨Kn.le.refl _,t1⟩,(Zaf [5,9] kr kr kr ⟨?_,?_⟩)⟩
 refine (Zao [2] rfl rfl rfl rfl Ztf rfl (Zu.borrow fun hma=>ZdV _ _ (⟨h.x.next,h.x.mail⟩:DBox) rf xt om2 _ (hv.lend ZS.mono hma om)) ?_)
 rintro _ Ba _ hlea ⟨BBa,_,rfl,hBa,_,hma,_,la,aa,ca,rfl,rfl,hsa⟩
 replace hv:=hv.mono ZS.mono hlea
 replace hbm:=hbm.mono hlea
 replace hsa:=hsa.anyK (B':=Ba) ZS.any
 refine ⟨⟨hlea,t1⟩,?_⟩
 have hb1:=Zd4 (⟨h.x.next,h.x.mail⟩:DBox) rf xt
 refine aM 6 rfl (h:=aE 7 rfl (h:=aE 8 rfl (h:=Zo 9 kr rfl kr (Zac (l:=[_,_]) rfl rfl Zfo rfl (fun b12=>?_)))))
 refine ⟨⟨hlea,t1⟩,(Za4 10 kr rfl kr kr (ZE [_,_] 5 [_,_] rfl rfl ZcQ rfl rfl rfl rfl rfl rfl rfl rfl ?_))⟩
 refine aA 11 rfl (h:=Zv kr kr ?_)
 refine Zj (ZgE [_,_,_,_,_,_] rfl (Zh (Za (xM (h:=Zb rfl (fun g2=>?_) (fun g2=>?_))))))
 try simp only [sQ,ne_eq] at g2
 refine Za (xL [_,_] ZbT 5 (h:=xS [_,_] 3 [_,_] ZcQ (h:=ZgE [_,_,_,_,_,_] rfl (ZV (keeps _ [3] _) mo kr ⟨Kn.le.refl _,Zae.refl _ _⟩ (fun _ _=>?_)))))
 refine aW 0 rfl ZcP (h:=aT 1 rfl (Zx fun D B L hI=>Ze rfl rfl lk3 rfl (atL 3 (hI.2.1.trans rfl) rfl rfl) r4) (h:=aM 2 rfl (h:=Zo 3 kr rfl kr (ZcA 0 rfl rfl rfl Z6 rfl (ZJ _ _ _ _ _ _ oz oz oz hm _ hbm) ?_))))
 rintro _ _ ⟨rd,rfl,rda,rdb,rfl⟩
 refine ⟨⟨Kn.le.refl _,t1⟩,(aD 4 rfl (h:=aW 5 rfl ZcP (h:=ZO 6 kr rfl kr kr kr (ZE [_] 3 [_,_] rfl rfl sz3 rfl rfl rfl rfl rfl rfl rfl rfl ?_))))⟩
 refine Zj (Za (xM (h:=xX 0 rfl Z6 rfl (ZJ _ _ _ _ _ _ oz oz oz hm _ hbm) (h:=?_))))
 rintro _ _ ⟨re,rfl,rea,reb,rfl⟩
 refine ZG (h:=ZgE [_,_,_,_,_,_] rfl (Zb rfl (fun g3=>?_) (fun g3=>?_)))
 try simp only [sQ,ne_eq] at g3
 refine Zc (xL [_,_] ZbT 3 (h:=Zm (Zao [4] rfl rfl rfl rfl Ztd rfl (Zu.borrow fun hm15=>ZcD _ _ (⟨((ZM (⟨h.x.next,h.x.mail⟩:DBox) rf xt).1.next+rd),(ZM (⟨h.x.next,h.x.mail⟩:DBox) rf xt).1.mail⟩:DBox) _ (hsa.lend ZS.mono hm15 om)) ?_)))
 rintro _ B15 _ hle15 ⟨BB15,_,rfl,hB15,_,hm15,_,l15,a15,c15,l15b,a15b,c15b,rfl,rfl,hs15,hs15b⟩
 replace hv:=hv.mono ZS.mono hle15
 replace hsa:=hsa.mono ZS.mono hle15
 replace hbm:=hbm.mono hle15
 replace hs15:=hs15.anyK (B':=B15) ZS.any
 replace hs15b:=hs15b.anyK (B':=B15) Zb9.any
 refine xM (h:=xE (h:=xE (h:=xS [_,_] 3 [_,_] ZcQ (h:=Zw (Zj (Zc (xM (h:=xD (h:=xA (h:=?_))))))))))
 exact ZD ⟨h.k+1,((((h.p+1)+2)+1)+1),l15,a15,c15,⟨((expunge (⟨((ZM (⟨h.x.next,h.x.mail⟩:DBox) rf xt).1.next+rd),(ZM (⟨h.x.next,h.x.mail⟩:DBox) rf xt).1.mail⟩:DBox)).1.next),((expunge (⟨((ZM (⟨h.x.next,h.x.mail⟩:DBox) rf xt).1.next+rd),(ZM (⟨h.x.next,h.x.mail⟩:DBox) rf xt).1.mail⟩:DBox)).1.mail)⟩⟩ [0,1,6,3] so2 ⟨so,so,by first | (simp only [];omega) | exact (ZB _).1,by first | (simp only [];omega) | exact Int.le_trans (ZB _).2.1 (by decide),by first | (simp only [];omega) | exact Nat.le_trans (ZB _).2.2 (by decide),hs15⟩ t5 rfl
 try simp only [sQ,ne_eq] at g3
 refine ZL (Zw (Zj (Zc (xM (h:=xD (h:=xA (h:=?_)))))))
 exact ZD ⟨h.k+1,((((h.p+1)+2)+1)+1),la,aa,ca,⟨((ZM (⟨h.x.next,h.x.mail⟩:DBox) rf xt).1.next+rd),((ZM (⟨h.x.next,h.x.mail⟩:DBox) rf xt).1.mail)⟩⟩ [0,1,4,3] so2 ⟨so,so,by first | (simp only [];omega) | exact (ZB _).1,by first | (simp only [];omega) | exact Int.le_trans (ZB _).2.1 (by decide),by first | (simp only [];omega) | exact Nat.le_trans (ZB _).2.2 (by decide),hsa⟩ t5 rfl
 try simp only [sQ,ne_eq] at g2
 refine ZL (Zj (Za (xM (h:=xX 0 rfl Z6 rfl (ZJ _ _ _ _ _ _ oz oz oz hm _ hbm) (h:=?_)))))
 rintro _ _ ⟨re,rfl,rea,reb,rfl⟩
 refine ZG (h:=ZgE [_,_,_,_,_,_] rfl (Zb rfl (fun g3=>?_) (fun g3=>?_)))
 try simp only [sQ,ne_eq] at g3
 refine Zc (xL [_,_] ZbT 3 (h:=Zm (Zao [2] rfl rfl rfl rfl Ztd rfl (Zu.borrow fun hm17=>ZcD _ _ (⟨h.x.next,h.x.mail⟩:DBox) _ (hv.lend ZS.mono hm17 om)) ?_)))
 rintro _ B17 _ hle17 ⟨BB17,_,rfl,hB17,_,hm17,_,l17,a17,c17,l17b,a17b,c17b,rfl,rfl,hs17,hs17b⟩
 replace hv:=hv.mono ZS.mono hle17
 replace hsa:=hsa.mono ZS.mono hle17
 replace hbm:=hbm.mono hle17
 replace hs17:=hs17.anyK (B':=B17) ZS.any
 replace hs17b:=hs17b.anyK (B':=B17) Zb9.any
 refine xM (h:=xE (h:=xE (h:=xS [_,_] 3 [_,_] ZcQ (h:=Zw (Zj (Zc (xM (h:=xD (h:=xA (h:=?_))))))))))
 exact ZD ⟨h.k+1,(((h.p+1)+2)+1),l17,a17,c17,⟨((expunge (⟨h.x.next,h.x.mail⟩:DBox)).1.next),((expunge (⟨h.x.next,h.x.mail⟩:DBox)).1.mail)⟩⟩ [0,1,6,3] so2 ⟨so,so,by first | (simp only [];omega) | exact (ZB _).1,by first | (simp only [];omega) | exact Int.le_trans (ZB _).2.1 (by decide),by first | (simp only [];omega) | exact Nat.le_trans (ZB _).2.2 (by decide),hs17⟩ t5 rfl
 try simp only [sQ,ne_eq] at g3
 refine ZL (Zw (Zj (Zc (xM (h:=xD (h:=xA (h:=?_)))))))
 exact ZD ⟨h.k+1,(((h.p+1)+2)+1),h.l,h.a,h.c,⟨h.x.next,h.x.mail⟩⟩ [0,1,2,3] so2 ⟨so,so,by first | (simp only [];omega) | exact (ZB _).1,by first | (simp only [];omega) | exact Int.le_trans (ZB _).2.1 (by decide),by first | (simp only [];omega) | exact Nat.le_trans (ZB _).2.2 (by decide),hv⟩ t5 rfl
 refine (Zac (l:=[_,_]) rfl rfl Zfo rfl (fun b18=>⟨⟨Kn.le.refl _,t1⟩,(Zo 5 kr rfl kr (Zao [2] rfl rfl rfl rfl Ztf rfl (Zu.borrow fun hma=>ZdV _ _ (⟨h.x.next,h.x.mail⟩:DBox) rf xt om2 _ (hv.lend ZS.mono hma om)) ?_))⟩))
 rintro _ Ba _ hlea ⟨BBa,_,rfl,hBa,_,hma,_,la,aa,ca,rfl,rfl,hsa⟩
 replace hv:=hv.mono ZS.mono hlea
 replace hbm:=hbm.mono hlea
 replace hsa:=hsa.anyK (B':=Ba) ZS.any
 refine ⟨⟨hlea,t1⟩,?_⟩
 have hb1:=Zd4 (⟨h.x.next,h.x.mail⟩:DBox) rf xt
 refine aM 6 rfl (h:=aE 7 rfl (h:=aE 8 rfl (h:=Za4 10 kr rfl kr kr (ZE [_,_] 4 [_,_] rfl rfl ZcQ rfl rfl rfl rfl rfl rfl rfl rfl ?_))))
 refine aA 11 rfl (h:=Zv kr kr ?_)
 refine Zj (ZgE [_,_,_,_,_,_] rfl (Zh (Za (xM (h:=Zb rfl (fun g2=>?_) (fun g2=>?_))))))
 try simp only [sQ,ne_eq] at g2
 refine Za (xL [_,_] ZbT 4 (h:=xS [_,_] 3 [_,_] ZcQ (h:=ZgE [_,_,_,_,_,_] rfl (ZV (keeps _ [3] _) mo kr ⟨Kn.le.refl _,Zae.refl _ _⟩ (fun _ _=>?_)))))
 refine aW 0 rfl ZcP (h:=aT 1 rfl (Zx fun D B L hI=>Ze rfl rfl lk3 rfl (atL 3 (hI.2.1.trans rfl) rfl rfl) r4) (h:=aM 2 rfl (h:=Zo 3 kr rfl kr (ZcA 0 rfl rfl rfl Z6 rfl (ZJ _ _ _ _ _ _ oz oz oz hm _ hbm) ?_))))
 rintro _ _ ⟨rd,rfl,rda,rdb,rfl⟩
 refine ⟨⟨Kn.le.refl _,t1⟩,(aD 4 rfl (h:=aW 5 rfl ZcP (h:=ZO 6 kr rfl kr kr kr (ZE [_] 3 [_,_] rfl rfl sz3 rfl rfl rfl rfl rfl rfl rfl rfl ?_))))⟩
 refine Zj (Za (xM (h:=xX 0 rfl Z6 rfl (ZJ _ _ _ _ _ _ oz oz oz hm _ hbm) (h:=?_))))
 rintro _ _ ⟨re,rfl,rea,reb,rfl⟩
 refine ZG (h:=ZgE [_,_,_,_,_,_] rfl (Zb rfl (fun g3=>?_) (fun g3=>?_)))
 try simp only [sQ,ne_eq] at g3
 refine Zc (xL [_,_] ZbT 3 (h:=Zm (Zao [5] rfl rfl rfl rfl Ztd rfl (Zu.borrow fun hm22=>ZcD _ _ (⟨((ZM (⟨h.x.next,h.x.mail⟩:DBox) rf xt).1.next+rd),(ZM (⟨h.x.next,h.x.mail⟩:DBox) rf xt).1.mail⟩:DBox) _ (hsa.lend ZS.mono hm22 om)) ?_)))
 rintro _ B22 _ hle22 ⟨BB22,_,rfl,hB22,_,hm22,_,l22,a22,c22,l22b,a22b,c22b,rfl,rfl,hs22,hs22b⟩
 replace hv:=hv.mono ZS.mono hle22
 replace hsa:=hsa.mono ZS.mono hle22
 replace hbm:=hbm.mono hle22
 replace hs22:=hs22.anyK (B':=B22) ZS.any
 replace hs22b:=hs22b.anyK (B':=B22) Zb9.any
 refine xM (h:=xE (h:=xE (h:=xS [_,_] 3 [_,_] ZcQ (h:=Zw (Zj (Zc (xM (h:=xD (h:=xA (h:=?_))))))))))
 exact ZD ⟨h.k+1,((((h.p+1)+2)+1)+1),l22,a22,c22,⟨((expunge (⟨((ZM (⟨h.x.next,h.x.mail⟩:DBox) rf xt).1.next+rd),(ZM (⟨h.x.next,h.x.mail⟩:DBox) rf xt).1.mail⟩:DBox)).1.next),((expunge (⟨((ZM (⟨h.x.next,h.x.mail⟩:DBox) rf xt).1.next+rd),(ZM (⟨h.x.next,h.x.mail⟩:DBox) rf xt).1.mail⟩:DBox)).1.mail)⟩⟩ [0,1,6,3] so2 ⟨so,so,by first | (simp only [];omega) | exact (ZB _).1,by first | (simp only [];omega) | exact Int.le_trans (ZB _).2.1 (by decide),by first | (simp only [];omega) | exact Nat.le_trans (ZB _).2.2 (by decide),hs22⟩ t5 rfl
 try simp only [sQ,ne_eq] at g3
 refine ZL (Zw (Zj (Zc (xM (h:=xD (h:=xA (h:=?_)))))))
 exact ZD ⟨h.k+1,((((h.p+1)+2)+1)+1),la,aa,ca,⟨((ZM (⟨h.x.next,h.x.mail⟩:DBox) rf xt).1.next+rd),((ZM (⟨h.x.next,h.x.mail⟩:DBox) rf xt).1.mail)⟩⟩ [0,1,5,3] so2 ⟨so,so,by first | (simp only [];omega) | exact (ZB _).1,by first | (simp only [];omega) | exact Int.le_trans (ZB _).2.1 (by decide),by first | (simp only [];omega) | exact Nat.le_trans (ZB _).2.2 (by decide),hsa⟩ t5 rfl
 try simp only [sQ,ne_eq] at g2
 refine ZL (Zj (Za (xM (h:=xX 0 rfl Z6 rfl (ZJ _ _ _ _ _ _ oz oz oz hm _ hbm) (h:=?_)))))
 rintro _ _ ⟨re,rfl,rea,reb,rfl⟩
 refine ZG (h:=ZgE [_,_,_,_,_,_] rfl (Zb rfl (fun g3=>?_) (fun g3=>?_)))
 try simp only [sQ,ne_eq] at g3
 refine Zc (xL [_,_] ZbT 3 (h:=Zm (Zao [2] rfl rfl rfl rfl Ztd rfl (Zu.borrow fun hm24=>ZcD _ _ (⟨h.x.next,h.x.mail⟩:DBox) _ (hv.lend ZS.mono hm24 om)) ?_)))
 rintro _ B24 _ hle24 ⟨BB24,_,rfl,hB24,_,hm24,_,l24,a24,c24,l24b,a24b,c24b,rfl,rfl,hs24,hs24b⟩
 replace hv:=hv.mono ZS.mono hle24
 replace hsa:=hsa.mono ZS.mono hle24
 replace hbm:=hbm.mono hle24
 replace hs24:=hs24.anyK (B':=B24) ZS.any
 replace hs24b:=hs24b.anyK (B':=B24) Zb9.any
 refine xM (h:=xE (h:=xE (h:=xS [_,_] 3 [_,_] ZcQ (h:=Zw (Zj (Zc (xM (h:=xD (h:=xA (h:=?_))))))))))
 exact ZD ⟨h.k+1,(((h.p+1)+2)+1),l24,a24,c24,⟨((expunge (⟨h.x.next,h.x.mail⟩:DBox)).1.next),((expunge (⟨h.x.next,h.x.mail⟩:DBox)).1.mail)⟩⟩ [0,1,6,3] so2 ⟨so,so,by first | (simp only [];omega) | exact (ZB _).1,by first | (simp only [];omega) | exact Int.le_trans (ZB _).2.1 (by decide),by first | (simp only [];omega) | exact Nat.le_trans (ZB _).2.2 (by decide),hs24⟩ t5 rfl
 try simp only [sQ,ne_eq] at g3
 refine ZL (Zw (Zj (Zc (xM (h:=xD (h:=xA (h:=?_)))))))
 exact ZD ⟨h.k+1,(((h.p+1)+2)+1),h.l,h.a,h.c,⟨h.x.next,h.x.mail⟩⟩ [0,1,2,3] so2 ⟨so,so,by first | (simp only [];omega) | exact (ZB _).1,by first | (simp only [];omega) | exact Int.le_trans (ZB _).2.1 (by decide),by first | (simp only [];omega) | exact Nat.le_trans (ZB _).2.2 (by decide),hv⟩ t5 rfl
 refine (Zac (l:=[_,_]) rfl rfl Zfo rfl (fun b25=>⟨⟨Kn.le.refl _,t1⟩,(Zo 4 kr rfl kr (ZcA 0 rfl rfl rfl Zro rfl (Ze9 _ _ _ _ _ oz hm _ hbm) ?_))⟩))
 rintro _ _ ⟨xt,rfl,hxt,rfl⟩
 refine ⟨⟨Kn.le.refl _,t1⟩,(Zo 5 kr rfl kr (Zao [2] rfl rfl rfl rfl Ztf rfl (Zu.borrow fun hma=>ZdV _ _ (⟨h.x.next,h.x.mail⟩:DBox) rf xt om2 _ (hv.lend ZS.mono hma om)) ?_))⟩
 rintro _ Ba _ hlea ⟨BBa,_,rfl,hBa,_,hma,_,la,aa,ca,rfl,rfl,hsa⟩
 replace hv:=hv.mono ZS.mono hlea
 replace hbm:=hbm.mono hlea
 replace hsa:=hsa.anyK (B':=Ba) ZS.any
 refine ⟨⟨hlea,t1⟩,?_⟩
 have hb1:=Zd4 (⟨h.x.next,h.x.mail⟩:DBox) rf xt
 refine aM 6 rfl (h:=aE 7 rfl (h:=aE 8 rfl (h:=Za4 10 kr rfl kr kr (ZE [_,_] 4 [_,_] rfl rfl ZcQ rfl rfl rfl rfl rfl rfl rfl rfl ?_))))
 refine aA 11 rfl (h:=Zv kr kr ?_)
 refine Zj (ZgE [_,_,_,_,_,_] rfl (Zh (Za (xM (h:=Zb rfl (fun g2=>?_) (fun g2=>?_))))))
 try simp only [sQ,ne_eq] at g2
 refine Za (xL [_,_] ZbT 4 (h:=xS [_,_] 3 [_,_] ZcQ (h:=ZgE [_,_,_,_,_,_] rfl (ZV (keeps _ [3] _) mo kr ⟨Kn.le.refl _,Zae.refl _ _⟩ (fun _ _=>?_)))))
 refine aW 0 rfl ZcP (h:=aT 1 rfl (Zx fun D B L hI=>Ze rfl rfl lk3 rfl (atL 3 (hI.2.1.trans rfl) rfl rfl) r4) (h:=aM 2 rfl (h:=Zo 3 kr rfl kr (ZcA 0 rfl rfl rfl Z6 rfl (ZJ _ _ _ _ _ _ oz oz oz hm _ hbm) ?_))))
 rintro _ _ ⟨rd,rfl,rda,rdb,rfl⟩
 refine ⟨⟨Kn.le.refl _,t1⟩,(aD 4 rfl (h:=aW 5 rfl ZcP (h:=ZO 6 kr rfl kr kr kr (ZE [_] 3 [_,_] rfl rfl sz3 rfl rfl rfl rfl rfl rfl rfl rfl ?_))))⟩
 refine Zj (Za (xM (h:=xX 0 rfl Z6 rfl (ZJ _ _ _ _ _ _ oz oz oz hm _ hbm) (h:=?_))))
 rintro _ _ ⟨re,rfl,rea,reb,rfl⟩
 refine ZG (h:=ZgE [_,_,_,_,_,_] rfl (Zb rfl (fun g3=>?_) (fun g3=>?_)))
 try simp only [sQ,ne_eq] at g3
 refine Zc (xL [_,_] ZbT 3 (h:=Zm (Zao [5] rfl rfl rfl rfl Ztd rfl (Zu.borrow fun hm30=>ZcD _ _ (⟨((ZM (⟨h.x.next,h.x.mail⟩:DBox) rf xt).1.next+rd),(ZM (⟨h.x.next,h.x.mail⟩:DBox) rf xt).1.mail⟩:DBox) _ (hsa.lend ZS.mono hm30 om)) ?_)))
 rintro _ B30 _ hle30 ⟨BB30,_,rfl,hB30,_,hm30,_,l30,a30,c30,l30b,a30b,c30b,rfl,rfl,hs30,hs30b⟩
 replace hv:=hv.mono ZS.mono hle30
 replace hsa:=hsa.mono ZS.mono hle30
 replace hbm:=hbm.mono hle30
 replace hs30:=hs30.anyK (B':=B30) ZS.any
 replace hs30b:=hs30b.anyK (B':=B30) Zb9.any
 refine xM (h:=xE (h:=xE (h:=xS [_,_] 3 [_,_] ZcQ (h:=Zw (Zj (Zc (xM (h:=xD (h:=xA (h:=?_))))))))))
 exact ZD ⟨h.k+1,((((h.p+1)+2)+1)+1),l30,a30,c30,⟨((expunge (⟨((ZM (⟨h.x.next,h.x.mail⟩:DBox) rf xt).1.next+rd),(ZM (⟨h.x.next,h.x.mail⟩:DBox) rf xt).1.mail⟩:DBox)).1.next),((expunge (⟨((ZM (⟨h.x.next,h.x.mail⟩:DBox) rf xt).1.next+rd),(ZM (⟨h.x.next,h.x.mail⟩:DBox) rf xt).1.mail⟩:DBox)).1.mail)⟩⟩ [0,1,6,3] so2 ⟨so,so,by first | (simp only [];omega) | exact (ZB _).1,by first | (simp only [];omega) | exact Int.le_trans (ZB _).2.1 (by decide),by first | (simp only [];omega) | exact Nat.le_trans (ZB _).2.2 (by decide),hs30⟩ t5 rfl
 try simp only [sQ,ne_eq] at g3
 refine ZL (Zw (Zj (Zc (xM (h:=xD (h:=xA (h:=?_)))))))
 exact ZD ⟨h.k+1,((((h.p+1)+2)+1)+1),la,aa,ca,⟨((ZM (⟨h.x.next,h.x.mail⟩:DBox) rf xt).1.next+rd),((ZM (⟨h.x.next,h.x.mail⟩:DBox) rf xt).1.mail)⟩⟩ [0,1,5,3] so2 ⟨so,so,by first | (simp only [];omega) | exact (ZB _).1,by first | (simp only [];omega) | exact Int.le_trans (ZB _).2.1 (by decide),by first | (simp only [];omega) | exact Nat.le_trans (ZB _).2.2 (by decide),hsa⟩ t5 rfl
 try simp only [sQ,ne_eq] at g2
 refine ZL (Zj (Za (xM (h:=xX 0 rfl Z6 rfl (ZJ _ _ _ _ _ _ oz oz oz hm _ hbm) (h:=?_)))))
 rintro _ _ ⟨re,rfl,rea,reb,rfl⟩
 refine ZG (h:=ZgE [_,_,_,_,_,_] rfl (Zb rfl (fun g3=>?_) (fun g3=>?_)))
 try simp only [sQ,ne_eq] at g3
 refine Zc (xL [_,_] ZbT 3 (h:=Zm (Zao [2] rfl rfl rfl rfl Ztd rfl (Zu.borrow fun hm32=>ZcD _ _ (⟨h.x.next,h.x.mail⟩:DBox) _ (hv.lend ZS.mono hm32 om)) ?_)))
 rintro _ B32 _ hle32 ⟨BB32,_,rfl,hB32,_,hm32,_,l32,a32,c32,l32b,a32b,c32b,rfl,rfl,hs32,hs32b⟩
 replace hv:=hv.mono ZS.mono hle32
 replace hsa:=hsa.mono ZS.mono hle32
 replace hbm:=hbm.mono hle32
 replace hs32:=hs32.anyK (B':=B32) ZS.any
 replace hs32b:=hs32b.anyK (B':=B32) Zb9.any
 refine xM (h:=xE (h:=xE (h:=xS [_,_] 3 [_,_] ZcQ (h:=Zw (Zj (Zc (xM (h:=xD (h:=xA (h:=?_))))))))))
 exact ZD ⟨h.k+1,(((h.p+1)+2)+1),l32,a32,c32,⟨((expunge (⟨h.x.next,h.x.mail⟩:DBox)).1.next),((expunge (⟨h.x.next,h.x.mail⟩:DBox)).1.mail)⟩⟩ [0,1,6,3] so2 ⟨so,so,by first | (simp only [];omega) | exact (ZB _).1,by first | (simp only [];omega) | exact Int.le_trans (ZB _).2.1 (by decide),by first | (simp only [];omega) | exact Nat.le_trans (ZB _).2.2 (by decide),hs32⟩ t5 rfl
 try simp only [sQ,ne_eq] at g3
 refine ZL (Zw (Zj (Zc (xM (h:=xD (h:=xA (h:=?_)))))))
 exact ZD ⟨h.k+1,(((h.p+1)+2)+1),h.l,h.a,h.c,⟨h.x.next,h.x.mail⟩⟩ [0,1,2,3] so2 ⟨so,so,by first | (simp only [];omega) | exact (ZB _).1,by first | (simp only [];omega) | exact Int.le_trans (ZB _).2.1 (by decide),by first | (simp only [];omega) | exact Nat.le_trans (ZB _).2.2 (by decide),hv⟩ t5 rfl
 refine (Zac (l:=[_,_]) rfl rfl Zfo rfl (fun b33=>⟨⟨Kn.le.refl _,t1⟩,(Zo 2 kr rfl kr (ZcA 0 rfl rfl rfl Z6 rfl (ZJ _ _ _ _ _ _ oz oz oz hm _ hbm) ?_))⟩))
 rintro _ _ ⟨rf,rfl,rfa,rfb,rfl⟩
 refine ⟨⟨Kn.le.refl _,t1⟩,(Zo 4 kr rfl kr (ZcA 0 rfl rfl rfl Zro rfl (Ze9 _ _ _ _ _ oz hm _ hbm) ?_))⟩
 rintro _ _ ⟨xt,rfl,hxt,rfl⟩
 refine ⟨⟨Kn.le.refl _,t1⟩,(Zo 5 kr rfl kr (Zao [2] rfl rfl rfl rfl Ztf rfl (Zu.borrow fun hma=>ZdV _ _ (⟨h.x.next,h.x.mail⟩:DBox) rf xt om2 _ (hv.lend ZS.mono hma om)) ?_))⟩
 rintro _ Ba _ hlea ⟨BBa,_,rfl,hBa,_,hma,_,la,aa,ca,rfl,rfl,hsa⟩
 replace hv:=hv.mono ZS.mono hlea
 replace hbm:=hbm.mono hlea
 replace hsa:=hsa.anyK (B':=Ba) ZS.any
 refine ⟨⟨hlea,t1⟩,?_⟩
 have hb1:=Zd4 (⟨h.x.next,h.x.mail⟩:DBox) rf xt
 refine aM 6 rfl (h:=aE 7 rfl (h:=aE 8 rfl (h:=Za4 10 kr rfl kr kr (ZE [_,_] 4 [_,_] rfl rfl ZcQ rfl rfl rfl rfl rfl rfl rfl rfl ?_))))
 refine aA 11 rfl (h:=Zv kr kr ?_)
 refine Zj (ZgE [_,_,_,_,_,_] rfl (Zh (Za (xM (h:=Zb rfl (fun g2=>?_) (fun g2=>?_))))))
 try simp only [sQ,ne_eq] at g2
 refine Za (xL [_,_] ZbT 4 (h:=xS [_,_] 3 [_,_] ZcQ (h:=ZgE [_,_,_,_,_,_] rfl (ZV (keeps _ [3] _) mo kr ⟨Kn.le.refl _,Zae.refl _ _⟩ (fun _ _=>?_)))))
 refine aW 0 rfl ZcP (h:=aT 1 rfl (Zx fun D B L hI=>Ze rfl rfl lk3 rfl (atL 3 (hI.2.1.trans rfl) rfl rfl) r4) (h:=aM 2 rfl (h:=Zo 3 kr rfl kr (ZcA 0 rfl rfl rfl Z6 rfl (ZJ _ _ _ _ _ _ oz oz oz hm _ hbm) ?_))))
 rintro _ _ ⟨rd,rfl,rda,rdb,rfl⟩
 refine ⟨⟨Kn.le.refl _,t1⟩,(aD 4 rfl (h:=aW 5 rfl ZcP (h:=ZO 6 kr rfl kr kr kr (ZE [_] 3 [_,_] rfl rfl sz3 rfl rfl rfl rfl rfl rfl rfl rfl ?_))))⟩
 refine Zj (Za (xM (h:=xX 0 rfl Z6 rfl (ZJ _ _ _ _ _ _ oz oz oz hm _ hbm) (h:=?_))))
 rintro _ _ ⟨re,rfl,rea,reb,rfl⟩
 refine ZG (h:=ZgE [_,_,_,_,_,_] rfl (Zb rfl (fun g3=>?_) (fun g3=>?_)))
 try simp only [sQ,ne_eq] at g3
 refine Zc (xL [_,_] ZbT 3 (h:=Zm (Zao [5] rfl rfl rfl rfl Ztd rfl (Zu.borrow fun hm39=>ZcD _ _ (⟨((ZM (⟨h.x.next,h.x.mail⟩:DBox) rf xt).1.next+rd),(ZM (⟨h.x.next,h.x.mail⟩:DBox) rf xt).1.mail⟩:DBox) _ (hsa.lend ZS.mono hm39 om)) ?_)))
 rintro _ B39 _ hle39 ⟨BB39,_,rfl,hB39,_,hm39,_,l39,a39,c39,l39b,a39b,c39b,rfl,rfl,hs39,hs39b⟩
 replace hv:=hv.mono ZS.mono hle39
 replace hsa:=hsa.mono ZS.mono hle39
 replace hbm:=hbm.mono hle39
 replace hs39:=hs39.anyK (B':=B39) ZS.any
 replace hs39b:=hs39b.anyK (B':=B39) Zb9.any
 refine xM (h:=xE (h:=xE (h:=xS [_,_] 3 [_,_] ZcQ (h:=Zw (Zj (Zc (xM (h:=xD (h:=xA (h:=?_))))))))))
 exact ZD ⟨h.k+1,((((h.p+1)+2)+1)+1),l39,a39,c39,⟨((expunge (⟨((ZM (⟨h.x.next,h.x.mail⟩:DBox) rf xt).1.next+rd),(ZM (⟨h.x.next,h.x.mail⟩:DBox) rf xt).1.mail⟩:DBox)).1.next),((expunge (⟨((ZM (⟨h.x.next,h.x.mail⟩:DBox) rf xt).1.next+rd),(ZM (⟨h.x.next,h.x.mail⟩:DBox) rf xt).1.mail⟩:DBox)).1.mail)⟩⟩ [0,1,6,3] so2 ⟨so,so,by first | (simp only [];omega) | exact (ZB _).1,by first | (simp only [];omega) | exact Int.le_trans (ZB _).2.1 (by decide),by first | (simp only [];omega) | exact Nat.le_trans (ZB _).2.2 (by decide),hs39⟩ t5 rfl
 try simp only [sQ,ne_eq] at g3
 refine ZL (Zw (Zj (Zc (xM (h:=xD (h:=xA (h:=?_)))))))
 exact ZD ⟨h.k+1,((((h.p+1)+2)+1)+1),la,aa,ca,⟨((ZM (⟨h.x.next,h.x.mail⟩:DBox) rf xt).1.next+rd),((ZM (⟨h.x.next,h.x.mail⟩:DBox) rf xt).1.mail)⟩⟩ [0,1,5,3] so2 ⟨so,so,by first | (simp only [];omega) | exact (ZB _).1,by first | (simp only [];omega) | exact Int.le_trans (ZB _).2.1 (by decide),by first | (simp only [];omega) | exact Nat.le_trans (ZB _).2.2 (by decide),hsa⟩ t5 rfl
 try simp only [sQ,ne_eq] at g2
 refine ZL (Zj (Za (xM (h:=xX 0 rfl Z6 rfl (ZJ _ _ _ _ _ _ oz oz oz hm _ hbm) (h:=?_)))))
 rintro _ _ ⟨re,rfl,rea,reb,rfl⟩
 refine ZG (h:=ZgE [_,_,_,_,_,_] rfl (Zb rfl (fun g3=>?_) (fun g3=>?_)))
 try simp only [sQ,ne_eq] at g3
 refine Zc (xL [_,_] ZbT 3 (h:=Zm (Zao [2] rfl rfl rfl rfl Ztd rfl (Zu.borrow fun hm41=>ZcD _ _ (⟨h.x.next,h.x.mail⟩:DBox) _ (hv.lend ZS.mono hm41 om)) ?_)))
 rintro _ B41 _ hle41 ⟨BB41,_,rfl,hB41,_,hm41,_,l41,a41,c41,l41b,a41b,c41b,rfl,rfl,hs41,hs41b⟩
 replace hv:=hv.mono ZS.mono hle41
 replace hsa:=hsa.mono ZS.mono hle41
 replace hbm:=hbm.mono hle41
 replace hs41:=hs41.anyK (B':=B41) ZS.any
 replace hs41b:=hs41b.anyK (B':=B41) Zb9.any
 refine xM (h:=xE (h:=xE (h:=xS [_,_] 3 [_,_] ZcQ (h:=Zw (Zj (Zc (xM (h:=xD (h:=xA (h:=?_))))))))))
 exact ZD ⟨h.k+1,(((h.p+1)+2)+1),l41,a41,c41,⟨((expunge (⟨h.x.next,h.x.mail⟩:DBox)).1.next),((expunge (⟨h.x.next,h.x.mail⟩:DBox)).1.mail)⟩⟩ [0,1,6,3] so2 ⟨so,so,by first | (simp only [];omega) | exact (ZB _).1,by first | (simp only [];omega) | exact Int.le_trans (ZB _).2.1 (by decide),by first | (simp only [];omega) | exact Nat.le_trans (ZB _).2.2 (by decide),hs41⟩ t5 rfl
 try simp only [sQ,ne_eq] at g3
 refine ZL (Zw (Zj (Zc (xM (h:=xD (h:=xA (h:=?_)))))))
 exact ZD ⟨h.k+1,(((h.p+1)+2)+1),h.l,h.a,h.c,⟨h.x.next,h.x.mail⟩⟩ [0,1,2,3] so2 ⟨so,so,by first | (simp only [];omega) | exact (ZB _).1,by first | (simp only [];omega) | exact Int.le_trans (ZB _).2.1 (by decide),by first | (simp only [];omega) | exact Nat.le_trans (ZB _).2.2 (by decide),hv⟩ t5 rfl
 try simp only [sQ,ne_eq] at g1
 refine ZU (Zak (Z3 (ZK (Zj (Zh (Za (xM (h:=xX 0 rfl Z6 rfl (ZJ _ _ _ _ _ _ oz oz oz hm _ hbm) (h:=?_)))))))))
 rintro _ _ ⟨rz0,rfl,rz0a,rz0b,rfl⟩
 refine ZgE [_,_,_,_] rfl (Zn (Za (ZG (h:=xA (h:=Zb rfl (fun g4=>?_) (fun g4=>?_))))))
 try simp only [sQ,ne_eq] at g4
 refine Zc (xBs [(0,_),(1,_),(2,_),(3,_)] [_,_,_,_] Tryz.underlying57 sz3 zo3 (h:=fun b43=>xM (h:=xX 0 rfl Z6 rfl (ZJ _ _ _ _ _ _ oz oz oz hm _ hbm) (h:=?_))))
 rintro _ _ ⟨rz1,rfl,rz1a,rz1b,rfl⟩
 have hvq45:ZT B8 (Z8 b43 (([0,99,100,101]:List Int).map fun x=>.int .i64 x) 3) (some ⟨b43,0,none⟩) 4 3 1 Zb9 ([0,99,100,101]:List Int):=ZT.ints
 obtain ⟨e,he⟩:=Zey (xs:=([0,99,100,101]:List Int)) (i:=rz1) om om
 obtain ⟨bb47,_,hp47,rfl,hw47,hc47⟩:=hvq45.row he
 refine xIp hp47 Tryz.underlying57 sz3 (h:=Zm (Ze rfl rfl lk3 rfl (hc47 _ 4 rfl 0 _ rfl) (xW ZcP (h:=xS [_] 3 [_,_] sz3 (h:=Zw (Zj (Za (xL [_,_] ZbT 3 (h:=ZZ 2 rfl hv ZS.mono om3 (fun B48 hle48 hr48=>?_))))))))))
 replace hvq45:=hvq45.mono Zb9.mono hle48
 replace hbm:=hbm.mono hle48
 have hr48n:=hr48.len
 refine xS [_,_] 1 [_,_] ZcQ (h:=ZgE [_,_,_,_,_] rfl (Zd ?_))
 exact Zat .ret (.inl rfl) [_] [0] rfl ⟨⟨_,rfl,.inr ⟨[_,_],ZbT,Zaa 1 rfl rfl rfl,rfl⟩⟩,trivial⟩ ⟨_,_,⟨e,h.x.mail⟩,_,(ol),hr48,oz,rfl⟩
 try simp only [sQ,ne_eq] at g4
 refine Za (ZG (h:=xA (h:=Zb rfl (fun g5=>?_) (fun g5=>?_))))
 try simp only [sQ,ne_eq] at g5
 refine Za (xW Za0 (h:=x1 Zgc 3 (h:=xV Tryz.underlying83 (h:=ZbG (h:=Zb rfl (fun g6=>?_) (fun g6=>?_))))))
 try simp only [sQ,ne_eq] at g6
 refine ZV (keeps _ [2,3] _) mo kr ⟨Kn.le.refl _,Zae.refl _ _⟩ (fun _ _=>?_)
 refine aW 0 rfl Za0 (h:=aT 1 rfl (Zx fun D B L hI=>Ze rfl rfl Zgc rfl (atL 3 (hI.2.2.1.trans rfl) rfl rfl) r4) (h:=aM 2 rfl (h:=aW 3 rfl Za0 (h:=aT 4 rfl (Zx fun D B L hI=>Ze rfl rfl Zgc rfl (atL 3 (hI.2.2.1.trans rfl) rfl rfl) r4) (h:=aV 5 rfl Tryz.underlying83 (h:=aM 7 rfl (h:=Zo 6 kr rfl kr (ZcA 0 rfl rfl rfl Z6 rfl (ZJ _ _ _ _ _ _ oz oz oz hm _ hbm) ?_))))))))
 rintro _ _ ⟨rz1,rfl,rz1a,rz1b,rfl⟩
 refine ⟨⟨Kn.le.refl _,t2⟩,(Zo 8 kr rfl kr (ZcA 0 rfl rfl rfl Z6 rfl (ZJ _ _ _ _ _ _ oz oz oz hm _ hbm) ?_))⟩
 rintro _ _ ⟨rz2,rfl,rz2a,rz2b,rfl⟩
 refine ⟨⟨Kn.le.refl _,t2⟩,?_⟩
 obtain ⟨z,hz⟩:=Zey (xs:=h.x.mail) (i:=rz1) om om
 obtain ⟨bb52,_,hp52,⟨rfl,hb52⟩,hw52,hc52⟩:=hv.row hz
 refine aT 9 rfl (Zx fun D B L hI=>Zgf hp52 rfl rfl Tryz.underlying83 ZhC rfl rfl om om r4) (h:=?_)
 refine aW 10 rfl Zhw (h:=ZO 11 kr rfl kr kr kr (ZeA (k:=(rz1).toNat) (off:=0) (⟨rz2,z.flags,z.text⟩) [_] 2 hv hp52 hz rfl rfl sz3 rfl rfl rfl rfl rfl rfl (by rintro _ ⟨rfl,e1⟩;exact ⟨rfl,e1⟩) (fun l53 hv53=>?_)))
 refine Zw (Zj (Za (xL [_,_] ZbT 3 (h:=ZZ 2 rfl hv53 ZS.mono om3 (fun B54 hle54 hr54=>?_)))))
 replace hbm:=hbm.mono hle54
 have hr54n:=hr54.len
 refine xS [_,_] 1 [_,_] ZcQ (h:=ZgE [_,_,_,_] rfl (Zd ?_))
 exact Zat .ret (.inl rfl) [_] [0] rfl ⟨⟨_,rfl,.inr ⟨[_,_],ZbT,Zaa 1 rfl rfl rfl,rfl⟩⟩,trivial⟩ ⟨_,_,⟨h.x.next,(h.x.mail.set ((rz1).toNat) (⟨rz2,z.flags,z.text⟩))⟩,_,(ol),hr54,oz,rfl⟩
 try simp only [sQ,ne_eq] at g6
 refine ZL (Zw (Zj (Za (xL [_,_] ZbT 3 (h:=ZZ 2 rfl hv ZS.mono om3 (fun B55 hle55 hr55=>?_))))))
 replace hbm:=hbm.mono hle55
 have hr55n:=hr55.len
 refine xS [_,_] 1 [_,_] ZcQ (h:=ZgE [_,_,_,_] rfl (Zd ?_))
 exact Zat .ret (.inl rfl) [_] [0] rfl ⟨⟨_,rfl,.inr ⟨[_,_],ZbT,Zaa 1 rfl rfl rfl,rfl⟩⟩,trivial⟩ ⟨_,_,⟨h.x.next,h.x.mail⟩,_,(ol),hr55,oz,rfl⟩
 try simp only [sQ,ne_eq] at g5
 refine Za (ZG (h:=xA (h:=Zb rfl (fun g7=>?_) (fun g7=>?_))))
 try simp only [sQ,ne_eq] at g7
 refine Za (xW Za0 (h:=x1 Zgc 3 (h:=xV Tryz.underlying83 (h:=ZbG (h:=Zb rfl (fun g8=>?_) (fun g8=>?_))))))
 try simp only [sQ,ne_eq] at g8
 refine ZV (keeps _ [2,3] _) mo kr ⟨Kn.le.refl _,Zae.refl _ _⟩ (fun _ _=>?_)
 refine aW 0 rfl Za0 (h:=aT 1 rfl (Zx fun D B L hI=>Ze rfl rfl Zgc rfl (atL 3 (hI.2.2.1.trans rfl) rfl rfl) r4) (h:=aM 2 rfl (h:=aW 3 rfl Za0 (h:=aT 4 rfl (Zx fun D B L hI=>Ze rfl rfl Zgc rfl (atL 3 (hI.2.2.1.trans rfl) rfl rfl) r4) (h:=aV 5 rfl Tryz.underlying83 (h:=Zo 6 kr rfl kr (ZcA 0 rfl rfl rfl Z6 rfl (ZJ _ _ _ _ _ _ oz oz oz hm _ hbm) ?_)))))))
 rintro _ _ ⟨rz1,rfl,rz1a,rz1b,rfl⟩
 refine ⟨⟨Kn.le.refl _,t2⟩,?_⟩
 obtain ⟨z,hz⟩:=Zey (xs:=h.x.mail) (i:=rz1) om om
 obtain ⟨bb58,_,hp58,⟨rfl,hb58⟩,hw58,hc58⟩:=hv.row hz
 refine aT 7 rfl (Zx fun D B L hI=>Zgf hp58 rfl rfl Tryz.underlying83 ZhC rfl rfl om om r4) (h:=?_)
 refine aW 8 rfl ZiV (h:=ZO 9 kr rfl kr kr kr (ZeA (k:=(rz1).toNat) (off:=1) (⟨z.uid,32,z.text⟩) [_] 2 hv hp58 hz rfl rfl sz3 rfl rfl rfl rfl rfl rfl (by rintro _ ⟨rfl,e1⟩;exact ⟨rfl,e1⟩) (fun l59 hv59=>?_)))
 refine Zw (Zj (Za (xL [_,_] ZbT 3 (h:=ZZ 2 rfl hv59 ZS.mono om3 (fun B60 hle60 hr60=>?_)))))
 replace hbm:=hbm.mono hle60
 have hr60n:=hr60.len
 refine xS [_,_] 1 [_,_] ZcQ (h:=ZgE [_,_,_,_] rfl (Zd ?_))
 exact Zat .ret (.inl rfl) [_] [0] rfl ⟨⟨_,rfl,.inr ⟨[_,_],ZbT,Zaa 1 rfl rfl rfl,rfl⟩⟩,trivial⟩ ⟨_,_,⟨h.x.next,(h.x.mail.set ((rz1).toNat) (⟨z.uid,32,z.text⟩))⟩,_,(ol),hr60,oz,rfl⟩
 try simp only [sQ,ne_eq] at g8
 refine ZL (Zw (Zj (Za (xL [_,_] ZbT 3 (h:=ZZ 2 rfl hv ZS.mono om3 (fun B61 hle61 hr61=>?_))))))
 replace hbm:=hbm.mono hle61
 have hr61n:=hr61.len
 refine xS [_,_] 1 [_,_] ZcQ (h:=ZgE [_,_,_,_] rfl (Zd ?_))
 exact Zat .ret (.inl rfl) [_] [0] rfl ⟨⟨_,rfl,.inr ⟨[_,_],ZbT,Zaa 1 rfl rfl rfl,rfl⟩⟩,trivial⟩ ⟨_,_,⟨h.x.next,h.x.mail⟩,_,(ol),hr61,oz,rfl⟩
 try simp only [sQ,ne_eq] at g7
 refine ZL (Zw (Zj (Za (xL [_,_] ZbT 3 (h:=ZZ 2 rfl hv ZS.mono om3 (fun B62 hle62 hr62=>?_))))))
 replace hbm:=hbm.mono hle62
 have hr62n:=hr62.len
 refine xS [_,_] 1 [_,_] ZcQ (h:=ZgE [_,_,_,_] rfl (Zd ?_))
 exact Zat .ret (.inl rfl) [_] [0] rfl ⟨⟨_,rfl,.inr ⟨[_,_],ZbT,Zaa 1 rfl rfl rfl,rfl⟩⟩,trivial⟩ ⟨_,_,⟨h.x.next,h.x.mail⟩,_,(ol),hr62,oz,rfl⟩

theorem ZlJ (b:Nat) (q:Option Addr) (m cp p:Nat) (hp:p≤700000000000) (hm:m≤2000) (B:Kn) (hbm:Zan B q m):Zu (pj J) 119 [ptr ⟨b,0,none⟩] B [rd b q m cp p] (fun v B' Ls=>∃(x:DHost) (p1 p2 p3:Option Addr) (d1 d2 d3 k:Nat),v = .agg #[str x.domain,.slice p1 x.users.length d1,.slice p2 x.folders.length d2,.int .i64 x.queue.next,.slice p3 x.queue.items.length d3]∧SlK B' p1 d1 3 ZA x.users∧SlK B' p2 d2 5 Zf x.folders∧SlK B' p3 d3 4 ZC x.queue.items∧x.domain.length≤2000000∧Zz x=true∧k≤p+6000∧Ls=[rd b q m cp k]):=by
 refine cB 37 Tryz.func119 (h:=?_)
 refine Za (xAl [_,_,_,_,_] Za6 (h:=fun b1=>tL2 (Za (xB [(0,_),(1,_),(2,_)] [_,_,_] [_,_,_] Zkh ZcN (h:=xM (h:=xX 0 rfl Z6 rfl (ZJ _ _ _ _ _ _ oz oz oz hm _ hbm) (h:=?_)))))))
 rintro _ _ ⟨ra,rfl,raa,rab,rfl⟩
 refine xD (h:=xB [(0,_),(1,_),(2,_)] [_,_,_] [_,_,_] Zkh ZcN (h:=xM (h:=xX 0 rfl Z6 rfl (ZJ _ _ _ _ _ _ oz oz oz hm _ hbm) (h:=?_))))
 rintro _ _ ⟨rb,rfl,rba,rbb,rfl⟩
 refine xD (h:=xB [(0,_),(1,_),(2,_)] [_,_,_] [_,_,_] Zkh ZcN (h:=xBs [(0,_),(1,_),(2,_)] [_,_,_,_,_,_,_,_,_] Tryz.underlying38 ZbQ ZcN (h:=fun b4=>?_)))
 have hdl:(ZfL ra rb).length=3:=rfl
 have hvq:ZT B (Z8 b4 [str [97,109,121],str [97,49],int 60,str [98,111,98],str [98,50],int (20+ra),str [99,121,100],str [99,51],int (100+rb)] 142) (some ⟨b4,0,none⟩) 3 142 3 ZA (ZfL ra rb):=ZT.lit (rows:=[[str [97,109,121],str [97,49],int 60],[str [98,111,98],str [98,50],int (20+ra)],[str [99,121,100],str [99,51],int (100+rb)]]) (.cons ⟨rfl,by simp,by simp⟩ (.cons ⟨rfl,by simp,by simp⟩ (.cons ⟨rfl,by simp,by simp⟩ .nil))) (by intro row hr;simp only [List.mem_cons,List.not_mem_nil,or_false] at hr;rcases hr with rfl | rfl | rfl <;> rfl)
 have hdu:=Zrt (a:=ra) (b:=rb) oz oz oz oz
 refine ZZ 2 rfl hvq ZA.mono om3 (fun B5 hle5 hr5=>?_)
 replace hbm:=hbm.mono hle5
 have hr5n:=hr5.len
 refine xQ ZyU rfl (Zqe _ _ [104,111,115,116,46,111,114,103] (ZfL ra rb) om2 om2 _ hr5) (h:=?_)
 intro vh Bh hleh
 rintro ⟨q1h,c1h,q2h,c2h,q3h,c3h,rfl,huh,hfh,hih⟩
 replace hbm:=hbm.mono hleh
 have huhn:=huh.len
 have hfhn:=hfh.len
 have hihn:=hih.len
 refine xM (h:=xE (h:=xE (h:=xAl [_,_,_,_,_] Za6 (h:=fun b7=>xS [_,_,_,_,_] 3 [_,_,_,_,_] Zau (h:=xA (h:=tL4 (Za (xM (h:=xX 0 rfl Z6 rfl (ZJ _ _ _ _ _ _ oz oz oz hm _ hbm) (h:=?_))))))))))
 rintro _ _ ⟨rn,rfl,rna,rnb,rfl⟩
 refine xA (h:=tL4 (Zh (Za (xA (h:=Zn (ZQ (α:=GHo) [0,2,3,5] (fun g=>[(6,.int .i64 g.k)]) [0,3] (fun g=>[rd b q m cp g.p,Z8 b7 [str g.x.domain,.slice g.q1 g.x.users.length g.c1,.slice g.q2 g.x.folders.length g.c2,.int .i64 g.x.queue.next,.slice g.q3 g.x.queue.items.length g.c3] 44]) (fun g Bx=>g.k≤40∧g.p≤p+4+60*g.k∧Zz g.x=true∧g.x.domain.length≤2000000∧SlK Bx g.q1 g.c1 3 ZA g.x.users∧SlK Bx g.q2 g.c2 5 Zf g.x.folders∧SlK Bx g.q3 g.c3 4 ZC g.x.queue.items) (fun g=>40 - g.k) ⟨0,_,(Zco [104,111,115,116,46,111,114,103] (ZfL ra rb)).1,_,_,_,_,_,_⟩ t1 rfl (⟨Nat.zero_le _,(so),(by rw [hdu.1];exact hdu.2),(by rw [hdu.1];exact (by decide:(8:Nat)≤2000000)),huh,hfh,hih⟩) (fun g B9 hle9 hI=>?_)))))))
 obtain ⟨hk,hgp,hgo,hgd,hgu,hgf,hgi⟩:=hI
 have hgin:=hgi.len
 have hleft:=Zne hgo
 replace hbm:=hbm.mono hle9
 refine ZN [(0,_),(2,_),(3,_),(5,_),(6,_)] [_,_,_,_] t5 rfl (Zh (Za (xM (h:=xM (h:=Zag (h:=Zb rfl (fun g1=>?_) (fun g1=>?_)))))))
 try simp only [sQ,ne_eq] at g1
 refine wSk (Zh (Zn (ZV (keeps _ [3] _) mo kr ⟨Kn.le.refl _,Zae.refl _ _⟩ (fun _ _=>?_))))
 refine aT 0 rfl (Zx fun D B L hI=>ZX [_,_,_,_,_] rfl rfl ZY rfl (Zaa 3 (hI.2.1.trans rfl) rfl rfl) r4) (h:=aM 1 rfl (h:=aT 2 rfl (Zx fun D B L hI=>ZX [_,_,_,_,_] rfl rfl ZY rfl (Zaa 3 (hI.2.1.trans rfl) rfl rfl) r4) (h:=Zo 3 kr rfl kr (Zao [0] rfl rfl rfl rfl ZyS rfl (Zo5 _ _ _ _ _ oz hm _ _ _ _ _ _ g.x (oy) _ hbm hgi) ?_))))
 rintro _ Be _ hlee ⟨ee,ke,rfl,hee1,hee2,hee3,hee4,hee5,hke,rfl⟩
 obtain ⟨hgu,hgf,hgi⟩:=up3 hlee hgu hgf hgi
 refine ⟨⟨hlee,t1⟩,(Zo 4 kr rfl kr (ZeD rfl rfl ZyT rfl (Zsk _ _ _ _ _ _ g.x ee om2 om2 om2 om2 om2 om2 _ hgu hgf hgi) ?_))⟩
 intro vy By hley
 rintro ⟨p1y,d1y,p2y,d2y,p3y,d3y,rfl,huy,hfy,hiy,hdy⟩
 obtain ⟨hgu,hgf,hgi⟩:=up3 hley hgu hgf hgi
 have huyn:=huy.len
 have hfyn:=hfy.len
 have hiyn:=hiy.len
 refine ⟨⟨(hlee.trans hley),t1⟩,(aM 5 rfl (h:=aE 6 rfl (h:=aE 7 rfl (h:=Za4 8 kr rfl kr kr (ZE [_,_,_,_,_] 3 [_,_,_,_,_] rfl rfl Zau rfl rfl rfl rfl rfl rfl rfl rfl ?_)))))⟩
 refine Zv kr kr ?_
 refine Zw (Zj (Zc (xM (h:=xD (h:=xA (h:=?_))))))
 exact ZD ⟨g.k+1,ke,(hDo g.x ee).1,_,_,_,_,_,_⟩ [0,1,2,3] so2 ⟨so,so,Zws hgo,hdy,huy,hfy,hiy⟩ t5 rfl
 try simp only [sQ,ne_eq] at g1
 refine ZU (Zak (Z3 (ZK (Zj (Za (xL [_,_,_,_,_] ZY 3 (h:=xS [_,_,_,_,_] 1 [_,_,_,_,_] Zau (h:=tL4 (Zd ?_)))))))))
 exact eN [0] rfl ⟨⟨_,rfl,.inr ⟨[_,_,_,_,_],ZY,Zaa 1 rfl rfl rfl,rfl⟩⟩,trivial⟩ ⟨_,_,_,_,_,_,_,_,rfl,hgu,hgf,hgi,oy,hgo,so2,rfl⟩

theorem Zo2 (b:Nat) (q:Option Addr) (m cp p:Nat) (hp:p≤650000000000) (hm:m≤2000) (B:Kn) (hbm:Zan B q m):Zu (pj J) 118 [ptr ⟨b,0,none⟩] B [rd b q m cp p] (fun v B' Ls=>∃(x:DHost) (p1 p2 p3:Option Addr) (d1 d2 d3 k:Nat),v = .agg #[str x.domain,.slice p1 x.users.length d1,.slice p2 x.folders.length d2,.int .i64 x.queue.next,.slice p3 x.queue.items.length d3]∧SlK B' p1 d1 3 ZA x.users∧SlK B' p2 d2 5 Zf x.folders∧SlK B' p3 d3 4 ZC x.queue.items∧x.domain.length≤2000000∧k≤p+8000∧Ls=[rd b q m cp k]):=by
 refine cB 57 Tryz.func118 (h:=?_)
 refine Za (xAl [_,_,_,_,_] Za6 (h:=fun b1=>tL2 (Za (xM (h:=xK [0] rfl ZwN rfl (ZlJ _ _ _ _ _ oz hm _ hbm) (h:=?_))))))
 rintro _ Bh _ hleh ⟨xh,p1h,p2h,p3h,d1h,d2h,d3h,kh,rfl,huh,hfh,hih,hdh,hoh,hkh,rfl⟩
 replace hbm:=hbm.mono hleh
 have huhn:=huh.len
 have hfhn:=hfh.len
 have hihn:=hih.len
 have hpos:=Zpa hoh
 refine xC Zol rfl (Zbh _ _ _ _ _ _ xh _ huh hfh hih) (h:=?_)
 rintro _ B3 _ hle3 ⟨l3,a3,c3,q13,c13,q33,c33,rfl,rfl,hu3,hs3,hi3⟩
 replace hbm:=hbm.mono hle3
 have hu3n:=hu3.len
 have hi3n:=hi3.len
 refine xAl [_,_,_,_,_] Za6 (h:=fun b4=>xS [_,_,_,_,_] 3 [_,_,_,_,_] Zau (h:=tL4 (Zh (Za (xM (h:=xX 0 rfl Z6 rfl (ZJ _ _ _ _ _ _ oz oz oz hm _ hbm) (h:=?_)))))))
 rintro _ _ ⟨rk,rfl,rka,rkb,rfl⟩
 refine tL4 (Zn (Za (ZG (h:=xA (h:=Zb rfl (fun g0=>?_) (fun g0=>?_))))))
 try simp only [sQ,ne_eq] at g0
 refine Zc (xM (h:=xX 0 rfl ZyZ rfl (Zm3 _ _ _ _ _ oz hm _ hbm) (h:=?_)))
 rintro _ _ ⟨x6,rfl,hx6,rfl⟩
 refine xW Zl0 (h:=xS [_] 3 [_,_,_,_,_] sz9 (h:=Zw (Zj (Za (xL [_,_,_,_,_] ZY 3 (h:=ZZ 2 rfl hs3 Zf.mono om3 (fun B7 hle7 hr7=>?_)))))))
 obtain ⟨hu3,hi3⟩:=up2 hle7 hu3 hi3
 replace hbm:=hbm.mono hle7
 have hr7n:=hr7.len
 refine xS [_,_,_,_,_] 1 [_,_,_,_,_] Zau (h:=tL4 (Zd ?_))
 exact eN [0] rfl ⟨⟨_,rfl,.inr ⟨[_,_,_,_,_],ZY,Zaa 1 rfl rfl rfl,rfl⟩⟩,trivial⟩ ⟨⟨x6,xh.users,xh.folders,⟨xh.queue.next,xh.queue.items⟩⟩,_,_,_,_,_,_,_,(ol),hu3,hr7,hi3,by first | assumption | omega | (simp only [];omega),so2,rfl⟩
 try simp only [sQ,ne_eq] at g0
 refine Za (ZG (h:=xA (h:=Zb rfl (fun g1=>?_) (fun g1=>?_))))
 try simp only [sQ,ne_eq] at g1
 refine Zc (xM (h:=xK [0] rfl ZyY rfl (Zo3 _ _ _ _ _ oz hm _ hbm) (h:=?_)))
 rintro _ B8 _ hle8 ⟨q8,cp8,us8,p8,rfl,hu8,hun8,hp8,rfl⟩
 replace hs3:=hs3.mono Zf.mono hle8
 replace hu3:=hu3.mono ZA.mono hle8
 replace hi3:=hi3.mono ZC.mono hle8
 replace hbm:=hbm.mono hle8
 have hu8n:=hu8.len
 refine Zm (Zav rfl rfl Zcg rfl ?_)
 refine Zm (ZE [_] 3 [_,_,_,_,_] rfl rfl ZzF rfl rfl rfl rfl rfl rfl rfl rfl ?_)
 refine Zw (Zj ?_)
 refine Za ?_
 refine Zm (ZX [_,_,_,_,_] rfl rfl ZY rfl (Zaa 3 rfl rfl rfl) ?_)
 refine ZZ 2 rfl hs3 Zf.mono (by first | omega | decide | (simp;done) | (simp;omega)) (fun B9 hle9 hr9=>?_)
 obtain ⟨hu8,hi3⟩:=up2 hle9 hu8 hi3
 replace hbm:=hbm.mono hle9
 have hr9n:=hr9.len
 refine xS [_,_,_,_,_] 1 [_,_,_,_,_] Zau (h:=tL4 (Zd ?_))
 exact eN [0] rfl ⟨⟨_,rfl,.inr ⟨[_,_,_,_,_],ZY,Zaa 1 rfl rfl rfl,rfl⟩⟩,trivial⟩ ⟨⟨xh.domain,us8,xh.folders,⟨xh.queue.next,xh.queue.items⟩⟩,_,_,_,_,_,_,_,(ol),hu8,hr9,hi3,by first | assumption | omega | (simp only [];omega),so2,rfl⟩
 try simp only [sQ,ne_eq] at g1
 refine Za (ZG (h:=xA (h:=Zb rfl (fun g2=>?_) (fun g2=>?_))))
 try simp only [sQ,ne_eq] at g2
 refine Zc (xW Z1 (h:=x1 ZcM 3 (h:=ZZ 2 rfl hs3 Zf.mono om3 (fun B10 hle10 hr10=>?_))))
 obtain ⟨hu3,hi3⟩:=up2 hle10 hu3 hi3
 replace hbm:=hbm.mono hle10
 have hr10n:=hr10.len
 obtain ⟨hq11,q11,cp11,hv11,hr11⟩:=hr10.cutE 1 xh.folders.length om om
 have hr11n:=hr11.len
 refine Zm (Zhg (a:=1) (b:=xh.folders.length) hv11 om hq11 rfl rfl Tryz.underlying39 Zbo rfl ⟨_,_,rfl,by first | omega | (simp;done) | (simp;omega)⟩ rfl ?_)
 refine xW Z1 (h:=xS [_] 3 [_,_,_,_,_] ZrT (h:=Zw (Zj (Za (xL [_,_,_,_,_] ZY 3 (h:=xS [_,_,_,_,_] 1 [_,_,_,_,_] Zau (h:=tL4 (Zd ?_))))))))
 exact eN [0] rfl ⟨⟨_,rfl,.inr ⟨[_,_,_,_,_],ZY,Zaa 1 rfl rfl rfl,rfl⟩⟩,trivial⟩ ⟨⟨xh.domain,xh.users,((xh.folders.take xh.folders.length).drop 1),⟨xh.queue.next,xh.queue.items⟩⟩,_,_,_,_,_,_,_,(ol),hu3,hr11,hi3,by first | assumption | omega | (simp only [];omega),so2,rfl⟩
 try simp only [sQ,ne_eq] at g2
 refine Za (ZG (h:=xA (h:=Zb rfl (fun g3=>?_) (fun g3=>?_))))
 try simp only [sQ,ne_eq] at g3
 refine ZV (keeps _ [2,3] _) mo kr ⟨Kn.le.refl _,Zae.refl _ _⟩ (fun _ _=>?_)
 refine aW 0 rfl Z1 (h:=aT 1 rfl (Zx fun D B L hI=>Ze rfl rfl ZcM rfl (atL 3 (hI.2.2.1.trans rfl) rfl rfl) r4) (h:=aM 2 rfl (h:=aW 3 rfl Z1 (h:=aT 4 rfl (Zx fun D B L hI=>Ze rfl rfl ZcM rfl (atL 3 (hI.2.2.1.trans rfl) rfl rfl) r4) (h:=aV 5 rfl Tryz.underlying39 (h:=aM 7 rfl (h:=Zo 6 kr rfl kr (ZcA 0 rfl rfl rfl Z6 rfl (ZJ _ _ _ _ _ _ oz oz oz hm _ hbm) ?_))))))))
 rintro _ _ ⟨rw,rfl,rwa,rwb,rfl⟩
 refine ⟨⟨Kn.le.refl _,t2⟩,(Zo 8 kr rfl kr (Zao [0] rfl rfl rfl rfl ZyX rfl (ZsL _ _ _ _ _ oz hm _ hbm) ?_))⟩
 rintro _ Ba _ hlea ⟨qa,cpa,gsa,ka,rfl,hga,hka,rfl⟩
 replace hs3:=hs3.mono Zf.mono hlea
 replace hu3:=hu3.mono ZA.mono hlea
 replace hi3:=hi3.mono ZC.mono hlea
 replace hbm:=hbm.mono hlea
 have hgan:=hga.len
 refine ⟨⟨hlea,t2⟩,?_⟩
 obtain ⟨z,hz⟩:=Zey (xs:=xh.folders) (i:=rw) om om
 obtain ⟨bb15,_,hp15,⟨qg15,cg15,qm15,cm15,rfl,hg15,hm15,hb15,hb15b⟩,hw15,hc15⟩:=hs3.row hz
 have hg15n:=hg15.len
 have hm15n:=hm15.len
 have hm15s:=Z5 hm15
 refine aT 9 rfl (Zx fun D B L hI=>Zgf hp15 rfl rfl Tryz.underlying39 Zbo rfl rfl om om r4) (h:=?_)
 refine aW 10 rfl Zeq (h:=ZO 11 kr rfl kr kr kr (ZeA (k:=(rw).toNat) (off:=2) (⟨z.owner,z.name,gsa,z.next,z.mail⟩) [_] 2 hs3 hp15 hz rfl rfl Zv8 rfl rfl rfl rfl rfl rfl (by rintro _ ⟨_,_,_,_,rfl,_,e2,e3,e4⟩;exact ⟨_,_,_,_,rfl,hga,e2,e3,e4⟩) (fun l16 hv16=>?_)))
 refine Zw (Zj (Za (xL [_,_,_,_,_] ZY 3 (h:=ZZ 2 rfl hv16 Zf.mono om3 (fun B17 hle17 hr17=>?_)))))
 obtain ⟨hga,hu3,hi3⟩:=up3 hle17 hga hu3 hi3
 replace hbm:=hbm.mono hle17
 have hr17n:=hr17.len
 refine xS [_,_,_,_,_] 1 [_,_,_,_,_] Zau (h:=tL4 (Zd ?_))
 exact Zat .ret (.inl rfl) [_] [0] rfl ⟨⟨_,rfl,.inr ⟨[_,_,_,_,_],ZY,Zaa 1 rfl rfl rfl,rfl⟩⟩,trivial⟩ ⟨⟨xh.domain,xh.users,(xh.folders.set ((rw).toNat) (⟨z.owner,z.name,gsa,z.next,z.mail⟩)),⟨xh.queue.next,xh.queue.items⟩⟩,_,_,_,_,_,_,_,(by first | rfl | (simp only [List.length_set];rfl)),hu3,hr17,hi3,by first | assumption | omega | (simp only [];omega),by first | omega | (simp only [];omega),rfl⟩
 try simp only [sQ,ne_eq] at g3
 refine Za (ZG (h:=xA (h:=Zb rfl (fun g4=>?_) (fun g4=>?_))))
 try simp only [sQ,ne_eq] at g4
 refine ZV (keeps _ [2,3] _) mo kr ⟨Kn.le.refl _,Zae.refl _ _⟩ (fun _ _=>?_)
 refine aW 0 rfl Z1 (h:=aT 1 rfl (Zx fun D B L hI=>Ze rfl rfl ZcM rfl (atL 3 (hI.2.2.1.trans rfl) rfl rfl) r4) (h:=aM 2 rfl (h:=aW 3 rfl Z1 (h:=aT 4 rfl (Zx fun D B L hI=>Ze rfl rfl ZcM rfl (atL 3 (hI.2.2.1.trans rfl) rfl rfl) r4) (h:=aV 5 rfl Tryz.underlying39 (h:=aM 7 rfl (h:=Zo 6 kr rfl kr (ZcA 0 rfl rfl rfl Z6 rfl (ZJ _ _ _ _ _ _ oz oz oz hm _ hbm) ?_))))))))
 rintro _ _ ⟨rw,rfl,rwa,rwb,rfl⟩
 refine ⟨⟨Kn.le.refl _,t2⟩,(Zo 8 kr rfl kr (Zao [0] rfl rfl rfl rfl ZyW rfl (ZsM _ _ _ _ _ oz hm _ hbm) ?_))⟩
 rintro _ Ba _ hlea ⟨qa,cpa,xa,ka,rfl,hga,hka,rfl⟩
 replace hs3:=hs3.mono Zf.mono hlea
 replace hu3:=hu3.mono ZA.mono hlea
 replace hi3:=hi3.mono ZC.mono hlea
 replace hbm:=hbm.mono hlea
 have hgan:=hga.len
 refine ⟨⟨hlea,t2⟩,?_⟩
 obtain ⟨z,hz⟩:=Zey (xs:=xh.folders) (i:=rw) om om
 obtain ⟨bb21,_,hp21,⟨qg21,cg21,qm21,cm21,rfl,hg21,hm21,hb21,hb21b⟩,hw21,hc21⟩:=hs3.row hz
 have hg21n:=hg21.len
 have hm21n:=hm21.len
 have hm21s:=Z5 hm21
 refine aT 9 rfl (Zx fun D B L hI=>Zgf hp21 rfl rfl Tryz.underlying39 Zbo rfl rfl om om r4) (h:=?_)
 refine aW 10 rfl Zcx (h:=ZO 11 kr rfl kr kr kr (ZeA (k:=(rw).toNat) (off:=3) (⟨z.owner,z.name,z.grants,xa.next,xa.mail⟩) [_,_] 2 hs3 hp21 hz rfl rfl ZcQ rfl rfl rfl rfl rfl rfl (by rintro _ ⟨_,_,_,_,rfl,e1,_,e3,e4⟩;exact ⟨_,_,_,_,rfl,e1,hga,e3,e4⟩) (fun l22 hv22=>?_)))
 refine Zw (Zj (Za (xL [_,_,_,_,_] ZY 3 (h:=ZZ 2 rfl hv22 Zf.mono om3 (fun B23 hle23 hr23=>?_)))))
 obtain ⟨hu3,hi3⟩:=up2 hle23 hu3 hi3
 replace hbm:=hbm.mono hle23
 have hr23n:=hr23.len
 refine xS [_,_,_,_,_] 1 [_,_,_,_,_] Zau (h:=tL4 (Zd ?_))
 exact Zat .ret (.inl rfl) [_] [0] rfl ⟨⟨_,rfl,.inr ⟨[_,_,_,_,_],ZY,Zaa 1 rfl rfl rfl,rfl⟩⟩,trivial⟩ ⟨⟨xh.domain,xh.users,(xh.folders.set ((rw).toNat) (⟨z.owner,z.name,z.grants,xa.next,xa.mail⟩)),⟨xh.queue.next,xh.queue.items⟩⟩,_,_,_,_,_,_,_,(by first | rfl | (simp only [List.length_set];rfl)),hu3,hr23,hi3,by first | assumption | omega | (simp only [];omega),by first | omega | (simp only [];omega),rfl⟩
 try simp only [sQ,ne_eq] at g4
 refine Za (ZG (h:=xA (h:=Zb rfl (fun g5=>?_) (fun g5=>?_))))
 try simp only [sQ,ne_eq] at g5
 refine Zc (xM (h:=xK [0] rfl ZyV rfl (Zo4 _ _ _ _ _ oz hm _ hbm) (h:=?_)))
 rintro _ B24 _ hle24 ⟨aq24,cq24,qq24,p24,rfl,hq24,hp24,rfl⟩
 replace hs3:=hs3.mono Zf.mono hle24
 replace hu3:=hu3.mono ZA.mono hle24
 replace hi3:=hi3.mono ZC.mono hle24
 have hq24n:=hq24.len
 refine Zm (Zav rfl rfl ZcK rfl ?_)
 refine Zm (ZE [_,_] 3 [_,_,_,_,_] rfl rfl Zfz rfl rfl rfl rfl rfl rfl rfl rfl ?_)
 refine Zw (Zj ?_)
 refine Za ?_
 refine Zm (ZX [_,_,_,_,_] rfl rfl ZY rfl (Zaa 3 rfl rfl rfl) ?_)
 refine ZZ 2 rfl hs3 Zf.mono (by first | omega | decide | (simp;done) | (simp;omega)) (fun B25 hle25 hr25=>?_)
 obtain ⟨hq24,hu3⟩:=up2 hle25 hq24 hu3
 have hr25n:=hr25.len
 refine xS [_,_,_,_,_] 1 [_,_,_,_,_] Zau (h:=tL4 (Zd ?_))
 exact eN [0] rfl ⟨⟨_,rfl,.inr ⟨[_,_,_,_,_],ZY,Zaa 1 rfl rfl rfl,rfl⟩⟩,trivial⟩ ⟨⟨xh.domain,xh.users,xh.folders,⟨qq24.next,qq24.items⟩⟩,_,_,_,_,_,_,_,(ol),hu3,hr25,hq24,by first | assumption | omega | (simp only [];omega),so2,rfl⟩
 try simp only [sQ,ne_eq] at g5
 refine ZL (Zw (Zj (Za (xL [_,_,_,_,_] ZY 3 (h:=ZZ 2 rfl hs3 Zf.mono om3 (fun B26 hle26 hr26=>?_))))))
 obtain ⟨hu3,hi3⟩:=up2 hle26 hu3 hi3
 have hr26n:=hr26.len
 refine xS [_,_,_,_,_] 1 [_,_,_,_,_] Zau (h:=tL4 (Zd ?_))
 exact eN [0] rfl ⟨⟨_,rfl,.inr ⟨[_,_,_,_,_],ZY,Zaa 1 rfl rfl rfl,rfl⟩⟩,trivial⟩ ⟨⟨xh.domain,xh.users,xh.folders,⟨xh.queue.next,xh.queue.items⟩⟩,_,_,_,_,_,_,_,(ol),hu3,hr26,hi3,by first | assumption | omega | (simp only [];omega),so2,rfl⟩

theorem ZsK (b:Nat) (q:Option Addr) (m cp p:Nat) (hp:p≤600000000000) (hm:m≤2000) (B:Kn) (hbm:Zan B q m):Zu (pj J) 71 [ptr ⟨b,0,none⟩] B [rd b q m cp p] (fun v B' Ls=>∃(x:DHost) (p1 p2 p3:Option Addr) (d1 d2 d3 k:Nat),v = .agg #[str x.domain,.slice p1 x.users.length d1,.slice p2 x.folders.length d2,.int .i64 x.queue.next,.slice p3 x.queue.items.length d3]∧SlK B' p1 d1 3 ZA x.users∧SlK B' p2 d2 5 Zf x.folders∧SlK B' p3 d3 4 ZC x.queue.items∧x.domain.length≤2000000∧k≤p+9000∧Ls=[rd b q m cp k]):=by
 refine cB 10 Tryz.func71 (h:=?_)
 refine Za (xAl [_,_,_,_,_] Za6 (h:=fun b1=>tL2 (Zh (Za (xM (h:=xX 0 rfl Z6 rfl (ZJ _ _ _ _ _ _ oz oz oz hm _ hbm) (h:=?_)))))))
 rintro _ _ ⟨r2,rfl,r2a,r2b,rfl⟩
 refine ZG (h:=tL2 (Zb rfl (fun g0=>?_) (fun g0=>?_)))
 refine Za (xM (h:=xK [0] rfl Zzl rfl (Zo2 _ _ _ _ _ oz hm _ hbm) (h:=?_)))
 rintro _ Bh _ hleh ⟨xh,p1h,p2h,p3h,d1h,d2h,d3h,kh,rfl,huh,hfh,hih,hdh,hkh,rfl⟩
 replace hbm:=hbm.mono hleh
 have huhn:=huh.len
 have hfhn:=hfh.len
 have hihn:=hih.len
 refine xS [_,_,_,_,_] 1 [_,_,_,_,_] Zau (h:=tL2 (Zd (Zp ?_)))
 exact eN [0] rfl ⟨⟨_,rfl,.inr ⟨[_,_,_,_,_],ZY,Zaa 1 rfl rfl rfl,rfl⟩⟩,trivial⟩ ⟨_,_,_,_,_,_,_,_,rfl,huh,hfh,hih,oy,so2,rfl⟩
 refine wSk (Za (xM (h:=xK [0] rfl ZwN rfl (ZlJ _ _ _ _ _ oz hm _ hbm) (h:=?_))))
 rintro _ Bh _ hleh ⟨xh,p1h,p2h,p3h,d1h,d2h,d3h,kh,rfl,huh,hfh,hih,hdh,hoh,hkh,rfl⟩
 have huhn:=huh.len
 have hfhn:=hfh.len
 have hihn:=hih.len
 refine xS [_,_,_,_,_] 1 [_,_,_,_,_] Zau (h:=tL2 (Zd ?_))
 exact eN [0] rfl ⟨⟨_,rfl,.inr ⟨[_,_,_,_,_],ZY,Zaa 1 rfl rfl rfl,rfl⟩⟩,trivial⟩ ⟨_,_,_,_,_,_,_,_,rfl,huh,hfh,hih,oy,so2,rfl⟩

theorem ZnD (q:Option Addr) (cp:Nat) (gs:List DGrant) (o u:Str) (ho:o.length≤2000000) (hn:u.length≤2000000) (B:Kn) (hg:SlK B q cp 2 Z0 gs):ZaX (pj J) 160 [.slice q gs.length cp,str o,str u] B (.int .i64 (ZkV gs o u)):=by
 refine cB 35 Tryz.func160 (h:=?_)
 refine Za (xA (h:=Za (xM (h:=xC ZwI rfl (Zot _ _ _ _ hg) (h:=?_)))))
 rintro _ Bm _ hlem ⟨mm,lm,rfl,rfl,rfl,hlm⟩
 refine xM (h:=xE (h:=xE (h:=xA (h:=xA (h:=tL1 (Zh (Za (xM (h:=xN (h:=xM (h:=Zq (d:=16) rfl (fun g1=>?_) (fun g1=>?_))))))))))))
 try simp only [sQ,ne_eq] at g1
 refine xP (h:=xP (h:=xP (h:=xT (h:=xM (h:=xP (h:=xP (h:=xP (h:=xT (h:=Zb (t:=true) rfl (fun _=>Za (xA (h:=Zd (Zp ?_)))) (fun h=>Bool.noConfusion h))))))))))
 exact eR t1 ⟨ZaH (ZkU (by simp [g1])).symm,rfl,rfl⟩
 try simp only [sQ,ne_eq] at g1
 refine xM (h:=xR Zl7 rfl (Zcu _ om2 _) (h:=?_))
 refine xN (h:=xF (h:=xM (h:=Zq (d:=21) rfl (fun g2=>?_) (fun g2=>?_))))
 try simp only [sQ,ne_eq] at g2
 refine xP (h:=xP (h:=xP (h:=xT (h:=Zb (t:=true) rfl (fun _=>Za (xA (h:=Zd (Zp ?_)))) (fun h=>Bool.noConfusion h)))))
 exact eR t1 ⟨ZaH (ZkU (by simp [g2])).symm,rfl,rfl⟩
 try simp only [sQ,ne_eq] at g2
 refine xM (h:=xR Zl7 rfl (Zcu _ om2 _) (h:=?_))
 refine xN (h:=xF (h:=Zb rfl (fun g3=>?_) (fun g3=>?_)))
 try simp only [sQ,ne_eq] at g3
 refine Za (xA (h:=Zd (Zp ?_)))
 exact eR t1 ⟨ZaH (ZkU (by simp [g3])).symm,rfl,rfl⟩
 try simp only [sQ,ne_eq] at g3
 have hce:=ZtA (gs:=gs) (o:=o) (u:=u) g1 g2 (by simpa using g3)
 obtain ⟨bm,hmb,hml⟩:=hlm g1
 subst hmb
 clear hlm
 have hlm:=hml
 refine wSk (Zh (Za (xM (h:=xM (h:=Zeh (h:=Zb rfl (fun g4=>?_) (fun g4=>?_)))))))
 try simp only [sQ,ne_eq] at g4
 refine Za (xA (h:=Zd (Zp ?_)))
 exact eR t1 ⟨ZaH (by rw [hce,if_pos g4]),rfl,rfl⟩
 try simp only [sQ,ne_eq] at g4
 refine wSk (Za (xM (h:=xM (h:=Zm (ZnK (k:=u) 0 rfl hlm rfl rfl Tryz.underlying281 Tryz.underlying9 zo3 rfl rfl (xM (h:=Zm (ZnK (k:=[97,110,121,111,110,101]) 0 rfl hlm rfl rfl Tryz.underlying281 Tryz.underlying9 zo3 rfl rfl (Zm (Zxt rfl rfl rfl rfl (xA (h:=Zd ?_))))))))))))
 exact eR t1 ⟨ZaH (by rw [hce,if_neg g4];rfl),rfl,rfl⟩

theorem Zwm (b o:Nat) (q1 q2 q3:Option Addr) (c1 c2 c3:Nat) (x:DHost) (qa qb:Option Addr) (ca cb:Nat) (u:Str) (f:DFolder) (rr:Int) (hn:u.length≤2000000) (ho:f.owner.length≤2000000) (B:Kn) (hh:ZaI B b o [str x.domain,.slice q1 x.users.length c1,.slice q2 x.folders.length c2,.int .i64 x.queue.next,.slice q3 x.queue.items.length c3]) (hu:SlK B q1 c1 3 ZA x.users) (hg:SlK B qa ca 2 Z0 f.grants):ZaX (pj J) 114 [ptr ⟨b,o,none⟩,str u,.agg #[str f.owner,str f.name,.slice qa f.grants.length ca,.int .i64 f.next,.slice qb f.mail.length cb],.int .i64 rr] B (.bool (ZqF x.users f u rr)):=by
 refine cB 29 Tryz.func114 (h:=?_)
 refine Za (xBx [_,_,_,_,_] (h:=fun b1=>xA (h:=tL1 (Za (xW Zeq (h:=x1 ZtU 0 (h:=xW Zc8 (h:=x1 lk9 0 (h:=xM (h:=xR Zy2 rfl (ZnD _ _ f.grants f.owner u om2 om2 _ hg) (h:=?_)))))))))))
 refine xA (h:=Za (xM (h:=xM (h:=xR Zth rfl (ZhR _ _ _ _ _ _ _ _ x u om2 _ hh hu) (h:=?_)))))
 refine xM (h:=Zq (d:=19) rfl (fun g1=>?_) (fun g1=>?_))
 refine xM (h:=ZdN (h:=xT (h:=xM (h:=Zq (d:=23) rfl (fun g2=>?_) (fun g2=>?_)))))
 refine xM (h:=xM (h:=Zm (Zv0 rfl rfl rfl rfl (Zdt (h:=xT (h:=xA (h:=Zd ?_)))))))
 exact eR t1 ⟨Zk (by simp [ZqF,g1,g2]),rfl,rfl⟩
 refine xP (h:=xP (h:=xP (h:=xP (h:=xF (h:=xA (h:=Zd ?_))))))
 exact eR t1 ⟨Zk (by simp [ZqF,g1,g2];try omega),rfl,rfl⟩
 refine xP (h:=xP (h:=xF (h:=xM (h:=xP (h:=xP (h:=xP (h:=xP (h:=xF (h:=xA (h:=Zd ?_))))))))))
 exact eR t1 ⟨Zk (by simp [ZqF,g1]),rfl,rfl⟩

theorem ZlI (b:Nat) (q:Option Addr) (m cp p:Nat) (hp:p≤750000000000) (hm:m≤2000) (q1 q2 q3:Option Addr) (d1 d2 d3:Nat) (x:DHost) (B:Kn) (hbm:Zan B q m) (hf:SlK B q2 d2 5 Zf x.folders):Ex1 (pj J) 72 [ptr ⟨b,0,none⟩,.agg #[str x.domain,.slice q1 x.users.length d1,.slice q2 x.folders.length d2,.int .i64 x.queue.next,.slice q3 x.queue.items.length d3]] B (rd b q m cp p) (fun v s=>∃(w y z:Str) (k:Nat),v = .agg #[str w,str y,str z]∧w.length≤2000000∧y.length≤2000000∧z.length≤2000000∧k≤p+12∧s=rd b q m cp k):=by
 refine cB 25 Tryz.func72 (h:=?_)
 refine Za (xBx [_,_,_,_,_] (h:=fun b1=>xAl [_,_,_] ZkW (h:=fun b2=>tL3 (Za (xM (h:=xL [_,_,_,_,_] ZY 1 (h:=xX 0 rfl Zzy rfl (Zn8 _ _ _ _ _ oz hm _ _ _ _ _ _ _ _ hbm hf) (h:=?_))))))))
 rintro _ _ ⟨yo,zo,ko,rfl,hyo,hzo,hko,rfl⟩
 refine xM (h:=xE (h:=xE (h:=xA (h:=xA (h:=tL3 (Za (xM (h:=xM (h:=xM (h:=xB [(0,_),(1,_),(2,_)] [_,_,_] [_,_,_] Zuu ZkW (h:=xAl [_,_,_] ZkW (h:=fun b4=>xS [_,_,_] 3 [_,_,_] ZmD (h:=tL4 (Zh (Za (xM (h:=xX 0 rfl Z6 rfl (ZJ _ _ _ _ _ _ oz oz oz hm _ hbm) (h:=?_))))))))))))))))))
 rintro _ _ ⟨rn,rfl,rna,rnb,rfl⟩
 refine ZG (h:=tL4 (Zb rfl (fun g1=>?_) (fun g1=>?_)))
 refine Zc (xM (h:=xX 0 rfl Zvk rfl (Ziz _ _ _ _ _ oz hm _ hbm) (h:=?_)))
 rintro _ _ ⟨xu,ku,rfl,hxu,hku,rfl⟩
 refine xW ZfI (h:=xS [_] 3 [_,_,_] sz9 (h:=Zj (Za (xL [_,_,_] ZfZ 3 (h:=xS [_,_,_] 2 [_,_,_] ZmD (h:=tL4 (Zd ?_)))))))
 exact e1 0 rfl ⟨⟨_,rfl,.inr ⟨[_,_,_],ZfZ,Zaa 2 rfl rfl rfl,rfl⟩⟩,trivial⟩ ⟨rfl,_,rfl,_,_,_,_,rfl,oz,oa,oa,oz,rfl⟩
 refine wSk (Za (xL [_,_,_] ZfZ 3 (h:=xS [_,_,_] 2 [_,_,_] ZmD (h:=tL4 (Zd ?_)))))
 exact e1 0 rfl ⟨⟨_,rfl,.inr ⟨[_,_,_],ZfZ,Zaa 2 rfl rfl rfl,rfl⟩⟩,trivial⟩ ⟨rfl,_,rfl,_,_,_,_,rfl,oa,oa,oa,oz,rfl⟩

theorem Zwx (v:Value) (Q:Value→Kn→Cells→Prop) (B:Kn) (L:Cells):hb Tryz.prog (Extern.ReflectliteType.typeOf #[.iface 372 v]) Q B L=Q (.iface 317 (.agg #[.pointer (some ⟨5,372,none⟩)])) B L:=by kernel_rfl

theorem Zwy (v:Value) (k:Nat) (Q:FuncId × Value→Kn→Cells→Prop) (B:Kn) (L:Cells):hb Tryz.prog (Go.method (k+1) 317 v "Comparable") Q B L=Q (313,v) B L:=by kernel_rfl

end Go.Proofs.YtbebcagblefhcaaGreatDoor
