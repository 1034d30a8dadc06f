/-
  WHAT THE FUNCTIONS THAT THE LAWS REACH COMPUTE: each function's contract, proved off its printed body (the text is written by program). No condition beyond those that each theorem states.
-/
import Derived.Test.YtikanaeckjcelaaGreatDoorC2
namespace Go.Proofs.YtikanaeckjcelaaGreatDoor
open Go Go.BL
set_option linter.unusedVariables false
set_option linter.unusedSimpArgs false
set_option maxRecDepth 4000
set_option maxHeartbeats 6400000
variable {J : JoinT}
theorem Zpw (fl how ot:Int) (h1:0≤fl∧fl≤31) (h2:0≤ot∧ot≤31) (B:Kn):ZaM (pj J) 188 [.int .i64 fl,.int .i64 how,.int .i64 ot] B (.int .i64 (chg fl how ot)):=by
 refine cB 60 Tryz.func188 (h:=?_)
 refine Za (xA (h:=Za (xA (h:=Zg (Za (xA (h:=Zl (ZO (α:=Nat × Int) [0,1,2,6] (fun g=>[(7,.int .i64 g.2),(8,.int .i64 g.1)]) [] (fun g=>[]) (fun g Bx=>Bx=B∧g.1≤5∧g.2=ZjN fl how ot g.1) (fun g=>5 - g.1) (0,0) t2 rfl (⟨rfl,oz,rfl⟩) (fun g B1 hle1 hI=>?_)))))))))
 obtain ⟨rfl,hk,hs⟩:=hI
 have hbd:=ZoP fl how ot g.1 hk
 refine ZM [(0,_),(1,_),(2,_),(6,_),(7,_),(8,_)] [] t6 rfl (Zg (Za (xM (h:=Zaf (h:=Zb rfl (fun g1=>?_) (fun g1=>?_))))))
 try simp only [sQ,ne_eq] at g1
 have hp:=Zlw (k:=g.1) oz
 have hb1 : -2<Int.tmod (Int.tdiv fl (Zdx g.1)) 2∧Int.tmod (Int.tdiv fl (Zdx g.1)) 2<2:=⟨Int.lt_tmod_of_pos _ (by decide),Int.tmod_lt_of_pos _ (by decide)⟩
 have hb2 : -2<Int.tmod (Int.tdiv ot (Zdx g.1)) 2∧Int.tmod (Int.tdiv ot (Zdx g.1)) 2<2:=⟨Int.lt_tmod_of_pos _ (by decide),Int.tmod_lt_of_pos _ (by decide)⟩
 refine wSk (Zg (Zl (Za (xM (h:=xM (h:=xR Zvq rfl (Znz g.1 om2 _) (h:=?_)))))))
 refine Zn (Ziw (a:=fl) (b:=(Zdx g.1)) (r:=Int.tdiv fl (Zdx g.1)) rfl rfl rfl rfl oz (Zko oz oz oz) ?_)
 refine Zn (Zh2 (a:=(Int.tdiv fl (Zdx g.1))) (b:=2) (r:=Int.tmod (Int.tdiv fl (Zdx g.1)) 2) rfl rfl rfl rfl (by decide) rfl ?_)
 refine xA (h:=Za (xM (h:=xM (h:=xR Zvq rfl (Znz g.1 om2 _) (h:=?_)))))
 refine Zn (Ziw (a:=ot) (b:=(Zdx g.1)) (r:=Int.tdiv ot (Zdx g.1)) rfl rfl rfl rfl oz (Zko oz oz oz) ?_)
 refine Zn (Zh2 (a:=(Int.tdiv ot (Zdx g.1))) (b:=2) (r:=Int.tmod (Int.tdiv ot (Zdx g.1)) 2) rfl rfl rfl rfl (by decide) rfl ?_)
 refine xA (h:=Zka 11 (Zfx fl how ot g.1) [0,1,2,6,7,8,9,10,13] ?_ ?_)
 refine xM (h:=ZE (h:=xM (h:=Zo (d:=28) rfl (fun g1=>?_) (fun g1=>?_))))
 try simp only [sQ,ne_eq] at g1
 refine xM (h:=xM (h:=xD (h:=Zbp (h:=xT (h:=xM (h:=Zo (d:=34) rfl (fun g2=>?_) (fun g2=>?_)))))))
 try simp only [sQ,ne_eq] at g2
 refine xP (h:=xP (h:=xP (h:=xP (h:=xP (h:=xP (h:=xP (h:=xP (h:=xP (h:=xP (h:=xT (h:=xM (h:=xP (h:=xP (h:=xP (h:=xP (h:=xP (h:=xP (h:=xT (h:=xA (h:=?_))))))))))))))))))))
 exact ⟨rfl,rfl,rfl,Zdq rfl (by rw [Bool.eq_iff_iff];simp only [Zfx,decide_eq_true_eq,Bool.or_eq_true,Bool.and_eq_true,Bool.false_eq_true,true_iff,false_iff];simp only [ZkP];omega),t9⟩
 try simp only [sQ,ne_eq] at g2
 refine xM (h:=ZE (h:=xM (h:=Zo (d:=37) rfl (fun g3=>?_) (fun g3=>?_))))
 try simp only [sQ,ne_eq] at g3
 refine xM (h:=ZE (h:=xT (h:=xM (h:=Zo (d:=41) rfl (fun g4=>?_) (fun g4=>?_)))))
 try simp only [sQ,ne_eq] at g4
 refine xM (h:=ZE (h:=xT (h:=xF (h:=xM (h:=Zo (d:=46) rfl (fun g5=>?_) (fun g5=>?_))))))
 try simp only [sQ,ne_eq] at g5
 refine xP (h:=xP (h:=xP (h:=xP (h:=xP (h:=xP (h:=xT (h:=xA (h:=?_))))))))
 exact ⟨rfl,rfl,rfl,Zdq rfl (by rw [Bool.eq_iff_iff];simp only [Zfx,decide_eq_true_eq,Bool.or_eq_true,Bool.and_eq_true,Bool.false_eq_true,true_iff,false_iff];simp only [ZkP];omega),t9⟩
 try simp only [sQ,ne_eq] at g5
 refine xM (h:=ZE (h:=xM (h:=Zo (d:=49) rfl (fun g6=>?_) (fun g6=>?_))))
 try simp only [sQ,ne_eq] at g6
 refine xM (h:=ZE (h:=xT (h:=xF (h:=xA (h:=?_)))))
 exact ⟨rfl,rfl,rfl,Zdq rfl (by rw [Bool.eq_iff_iff];simp only [Zfx,decide_eq_true_eq,Bool.or_eq_true,Bool.and_eq_true,Bool.false_eq_true,true_iff,false_iff];simp only [ZkP];omega),t9⟩
 try simp only [sQ,ne_eq] at g6
 refine xP (h:=xP (h:=xF (h:=xF (h:=xA (h:=?_)))))
 exact ⟨rfl,rfl,rfl,Zdq rfl (by rw [Bool.eq_iff_iff];simp only [Zfx,decide_eq_true_eq,Bool.or_eq_true,Bool.and_eq_true,Bool.false_eq_true,true_iff,false_iff];simp only [ZkP];omega),t9⟩
 try simp only [sQ,ne_eq] at g4
 refine xP (h:=xP (h:=xF (h:=xF (h:=xM (h:=xM (h:=ZE (h:=xM (h:=Zo (d:=49) rfl (fun g7=>?_) (fun g7=>?_)))))))))
 try simp only [sQ,ne_eq] at g7
 refine xM (h:=ZE (h:=xT (h:=xF (h:=xA (h:=?_)))))
 exact ⟨rfl,rfl,rfl,Zdq rfl (by rw [Bool.eq_iff_iff];simp only [Zfx,decide_eq_true_eq,Bool.or_eq_true,Bool.and_eq_true,Bool.false_eq_true,true_iff,false_iff];simp only [ZkP];omega),t9⟩
 try simp only [sQ,ne_eq] at g7
 refine xP (h:=xP (h:=xF (h:=xF (h:=xA (h:=?_)))))
 exact ⟨rfl,rfl,rfl,Zdq rfl (by rw [Bool.eq_iff_iff];simp only [Zfx,decide_eq_true_eq,Bool.or_eq_true,Bool.and_eq_true,Bool.false_eq_true,true_iff,false_iff];simp only [ZkP];omega),t9⟩
 try simp only [sQ,ne_eq] at g3
 refine xP (h:=xP (h:=xF (h:=xM (h:=xP (h:=xP (h:=xF (h:=xF (h:=xM (h:=xM (h:=ZE (h:=xM (h:=Zo (d:=49) rfl (fun g8=>?_) (fun g8=>?_)))))))))))))
 try simp only [sQ,ne_eq] at g8
 refine xM (h:=ZE (h:=xT (h:=xF (h:=xA (h:=?_)))))
 exact ⟨rfl,rfl,rfl,Zdq rfl (by rw [Bool.eq_iff_iff];simp only [Zfx,decide_eq_true_eq,Bool.or_eq_true,Bool.and_eq_true,Bool.false_eq_true,true_iff,false_iff];simp only [ZkP];omega),t9⟩
 try simp only [sQ,ne_eq] at g8
 refine xP (h:=xP (h:=xF (h:=xF (h:=xA (h:=?_)))))
 exact ⟨rfl,rfl,rfl,Zdq rfl (by rw [Bool.eq_iff_iff];simp only [Zfx,decide_eq_true_eq,Bool.or_eq_true,Bool.and_eq_true,Bool.false_eq_true,true_iff,false_iff];simp only [ZkP];omega),t9⟩
 try simp only [sQ,ne_eq] at g1
 refine xP (h:=xP (h:=xP (h:=xP (h:=xF (h:=xM (h:=xM (h:=ZE (h:=xM (h:=Zo (d:=37) rfl (fun g9=>?_) (fun g9=>?_))))))))))
 try simp only [sQ,ne_eq] at g9
 refine xM (h:=ZE (h:=xT (h:=xM (h:=Zo (d:=41) rfl (fun g10=>?_) (fun g10=>?_)))))
 try simp only [sQ,ne_eq] at g10
 refine xM (h:=ZE (h:=xT (h:=xF (h:=xM (h:=Zo (d:=46) rfl (fun g11=>?_) (fun g11=>?_))))))
 try simp only [sQ,ne_eq] at g11
 refine xP (h:=xP (h:=xP (h:=xP (h:=xP (h:=xP (h:=xT (h:=xA (h:=?_))))))))
 exact ⟨rfl,rfl,rfl,Zdq rfl (by rw [Bool.eq_iff_iff];simp only [Zfx,decide_eq_true_eq,Bool.or_eq_true,Bool.and_eq_true,Bool.false_eq_true,true_iff,false_iff];simp only [ZkP];omega),t9⟩
 try simp only [sQ,ne_eq] at g11
 refine xM (h:=ZE (h:=xM (h:=Zo (d:=49) rfl (fun g12=>?_) (fun g12=>?_))))
 try simp only [sQ,ne_eq] at g12
 refine xM (h:=ZE (h:=xT (h:=xF (h:=xA (h:=?_)))))
 exact ⟨rfl,rfl,rfl,Zdq rfl (by rw [Bool.eq_iff_iff];simp only [Zfx,decide_eq_true_eq,Bool.or_eq_true,Bool.and_eq_true,Bool.false_eq_true,true_iff,false_iff];simp only [ZkP];omega),t9⟩
 try simp only [sQ,ne_eq] at g12
 refine xP (h:=xP (h:=xF (h:=xF (h:=xA (h:=?_)))))
 exact ⟨rfl,rfl,rfl,Zdq rfl (by rw [Bool.eq_iff_iff];simp only [Zfx,decide_eq_true_eq,Bool.or_eq_true,Bool.and_eq_true,Bool.false_eq_true,true_iff,false_iff];simp only [ZkP];omega),t9⟩
 try simp only [sQ,ne_eq] at g10
 refine xP (h:=xP (h:=xF (h:=xF (h:=xM (h:=xM (h:=ZE (h:=xM (h:=Zo (d:=49) rfl (fun g13=>?_) (fun g13=>?_)))))))))
 try simp only [sQ,ne_eq] at g13
 refine xM (h:=ZE (h:=xT (h:=xF (h:=xA (h:=?_)))))
 exact ⟨rfl,rfl,rfl,Zdq rfl (by rw [Bool.eq_iff_iff];simp only [Zfx,decide_eq_true_eq,Bool.or_eq_true,Bool.and_eq_true,Bool.false_eq_true,true_iff,false_iff];simp only [ZkP];omega),t9⟩
 try simp only [sQ,ne_eq] at g13
 refine xP (h:=xP (h:=xF (h:=xF (h:=xA (h:=?_)))))
 exact ⟨rfl,rfl,rfl,Zdq rfl (by rw [Bool.eq_iff_iff];simp only [Zfx,decide_eq_true_eq,Bool.or_eq_true,Bool.and_eq_true,Bool.false_eq_true,true_iff,false_iff];simp only [ZkP];omega),t9⟩
 try simp only [sQ,ne_eq] at g9
 refine xP (h:=xP (h:=xF (h:=xM (h:=xP (h:=xP (h:=xF (h:=xF (h:=xM (h:=xM (h:=ZE (h:=xM (h:=Zo (d:=49) rfl (fun g14=>?_) (fun g14=>?_)))))))))))))
 try simp only [sQ,ne_eq] at g14
 refine xM (h:=ZE (h:=xT (h:=xF (h:=xA (h:=?_)))))
 exact ⟨rfl,rfl,rfl,Zdq rfl (by rw [Bool.eq_iff_iff];simp only [Zfx,decide_eq_true_eq,Bool.or_eq_true,Bool.and_eq_true,Bool.false_eq_true,true_iff,false_iff];simp only [ZkP];omega),t9⟩
 try simp only [sQ,ne_eq] at g14
 refine xP (h:=xP (h:=xF (h:=xF (h:=xA (h:=?_)))))
 exact ⟨rfl,rfl,rfl,Zdq rfl (by rw [Bool.eq_iff_iff];simp only [Zfx,decide_eq_true_eq,Bool.or_eq_true,Bool.and_eq_true,Bool.false_eq_true,true_iff,false_iff];simp only [ZkP];omega),t9⟩
 refine Za (xM (h:=Zb rfl (fun g2=>?_) (fun g2=>?_)))
 try simp only [sQ,ne_eq] at g2
 refine Zc (xM (h:=xM (h:=xR Zvq rfl (Znz g.1 om2 _) (h:=?_))))
 refine xD (h:=xA (h:=ZA (Zj (Zc (xM (h:=xD (h:=xA (h:=?_))))))))
 exact ZD (g.1+1,g.2+Zdx g.1) [] so2 ⟨rfl,so,by simp only [ZjN];rw [if_pos g2,hs]⟩ t6 rfl
 try simp only [sQ,ne_eq] at g2
 refine ZL (ZA (Zj (Zc (xM (h:=xD (h:=xA (h:=?_)))))))
 exact ZD (g.1+1,g.2) [] so2 ⟨rfl,so,by simp only [ZjN];rw [if_neg (by simp [g2]),hs]⟩ t6 rfl
 try simp only [sQ,ne_eq] at g1
 refine ZS (Zae (ZX (ZI (Zj (Za (xM (h:=xA (h:=Zd ?_))))))))
 exact eR t1 ⟨Za1 (by rw [hs,show g.1=5 from by omega];rfl),rfl,rfl⟩

theorem Zmq (q:Option Addr) (cp:Nat) (x:DBox) (q2:Option Addr) (cp2:Nat) (xs:List Int)  (B:Kn) (hx:SlK B q cp 3 ZN x.mail) (hn:SlK B q2 cp2 1 Zcf xs):ZaM (pj J) 187 [.agg #[.int .i64 x.next,.slice q x.mail.length cp],.slice q2 xs.length cp2] B (.bool (Zeu x.mail.length xs)):=by
 refine cB 37 Tryz.func187 (h:=?_)
 have hxn:=hx.len
 have hnn:=hn.len
 refine Za (xBx [_,_] (h:=fun b1=>xA (h:=tL1 (Zg (Za (xA (h:=Zl (ZO (α:=Nat × Int) [0,1,2] (fun g=>[(5,.int .i64 g.1)]) [] (fun g=>[]) (fun g Bx=>Bx=B∧g.1≤xs.length∧Zd8 x.mail.length (xs.take g.1)=(true,g.2)∧Prev (fun y=>y) 0 xs g.1 g.2) (fun g=>xs.length - g.1) (0,0) t1 rfl (⟨rfl,Nat.zero_le _,Zff,.zero⟩) (fun g B2 hle2 hI=>?_)))))))))
 obtain ⟨rfl,hk,hs,hp⟩:=hI
 refine ZM [(0,_),(1,_),(2,_),(5,_)] [_] t4 rfl (Zg (Za (xM (h:=xM (h:=xV Tryz.underlying185 (h:=Zaf (h:=Zb rfl (fun g1=>?_) (fun g1=>?_))))))))
 try simp only [sQ,ne_eq] at g1
 refine wSk (Zg (Zl (Zg (Z0 (same _ _) mo kr ⟨rfl,rfl⟩ (fun _ _=>?_)))))
 refine aM 0 rfl (h:=aM 1 rfl (h:=?_))
 obtain ⟨m,hm⟩:=Zag (xs:=xs) (i:=g.1) om
 obtain ⟨bb4,oo4,rfl⟩:=hn.base hm
 obtain ⟨_,rfl,hc5⟩:=hn.elem hm
 refine aIx 2 rfl Tryz.underlying185 sz3 (h:=aT 3 rfl (Zar fun D=>Zf rfl rfl lk3 rfl (hc5 _ 0 _ rfl) r4) (h:=aW 4 rfl ZaP (h:=aT 5 rfl (Zar fun D=>Zf rfl rfl Zfl rfl (atL 0 rfl rfl rfl) r4) (h:=aV 6 rfl Tryz.underlying38 (h:=aT 7 rfl (Zar fun D=>Zbc rfl rfl ZeF rfl (ZcA _ _ _ _) r4) (h:=aN 8 rfl (h:=aM 9 rfl (h:=ZaH (d:=21) rfl (fun g2=>?_) (fun g2=>?_)))))))))
 try simp only [sQ,ne_eq] at g2
 refine aZ 10 rfl (h:=aZ 11 rfl (h:=aZ 12 rfl (h:=aZ 13 rfl (h:=aZ 14 rfl (h:=aZ 15 rfl (h:=aZ 16 rfl (h:=aZ 17 rfl (h:=aZ 18 rfl (h:=aZ 19 rfl (h:=aZ 20 rfl (h:=aZ 21 rfl (h:=aZ 22 rfl (h:=aZ 23 rfl (h:=aPT 24 rfl (h:=Zz kr kr ?_)))))))))))))))
 refine Zj (Zb (t:=true) rfl (fun _=>Za (xA (h:=Zd (ZH (Zp (Z3 (ZH (Zp ?_)))))))) (fun h=>Bool.noConfusion h))
 exact eR t1 ⟨Zh (Zkq hm hs (by simp [ZqW,g2];try omega)).symm,rfl,rfl⟩
 try simp only [sQ,ne_eq] at g2
 refine aM 10 rfl (h:=Zm3 11 rfl (h:=aM 12 rfl (h:=ZaH (d:=24) rfl (fun g6=>?_) (fun g6=>?_))))
 try simp only [sQ,ne_eq] at g6
 refine aM 13 rfl (h:=aM 14 rfl (h:=aU 15 rfl (h:=?_)))
 obtain ⟨y,hy⟩:=ZeB (xs:=xs) (i:=(↑g.1 - 1)) om om
 obtain ⟨_,rfl,hc8⟩:=hn.elem hy
 refine aIx 16 rfl Tryz.underlying185 sz3 (h:=?_)
 have hpe:=hp.at hy oz
 refine aT 17 rfl (Zar fun D=>Zf rfl rfl lk3 rfl (hc8 _ 0 _ rfl) r4) (h:=aM 18 rfl (h:=aM 19 rfl (h:=aIx 20 rfl Tryz.underlying185 sz3 (h:=aT 21 rfl (Zar fun D=>Zf rfl rfl lk3 rfl (hc5 _ 0 _ rfl) r4) (h:=Zxa 22 rfl (h:=aPT 23 rfl (h:=aPF 24 rfl (h:=Zz kr kr ?_))))))))
 refine Zj (Zb rfl (fun g7=>?_) (fun g7=>?_))
 try simp only [sQ,ne_eq] at g7
 refine Za (xA (h:=Zd (ZH (Zp (Z3 (ZH (Zp ?_)))))))
 exact eR t1 ⟨Zh (Zkq hm hs (by simp [ZqW,g2,hpe];try omega)).symm,rfl,rfl⟩
 try simp only [sQ,ne_eq] at g7
 refine ZL (ZA (Zj (Zc (xM (h:=xD (h:=xA (h:=?_)))))))
 exact ZD (g.1+1,m) [0] so2 ⟨rfl,oz,Zcm hm hs (by rw [hpe];simp [ZqW,g2];simp at g2;omega),.succ hm⟩ t4 rfl
 try simp only [sQ,ne_eq] at g6
 refine aZ 13 rfl (h:=aZ 14 rfl (h:=aZ 15 rfl (h:=aZ 16 rfl (h:=aZ 17 rfl (h:=aZ 18 rfl (h:=aZ 19 rfl (h:=aZ 20 rfl (h:=aZ 21 rfl (h:=aZ 22 rfl (h:=aPF 23 rfl (h:=aPF 24 rfl (h:=Zz kr kr ?_))))))))))))
 refine Zj (Zb (t:=false) rfl (fun h=>Bool.noConfusion h) (fun _=>ZL (ZA (Zj (Zc (xM (h:=xD (h:=xA (h:=?_)))))))))
 exact ZD (g.1+1,m) [0] so2 ⟨rfl,oz,Zcm hm hs (by rw [hp.at0 oz];simp [ZqW,g2];simp at g2;omega),.succ hm⟩ t4 rfl
 try simp only [sQ,ne_eq] at g1
 refine ZS (Zae (ZX (ZI (Zj (Za (xA (h:=Zd ?_)))))))
 exact eR t1 ⟨Zh (Zpg (Zei hs oz)).symm,rfl,rfl⟩

theorem Zga (q:Option Addr) (cp:Nat) (x:DBox) (q2:Option Addr) (cp2:Nat) (xs:List Int) (how fl:Int) (B:Kn) (hx:SlK B q cp 3 ZN x.mail) (hn:SlK B q2 cp2 1 Zcf xs):Zv (pj J) 184 [.agg #[.int .i64 x.next,.slice q x.mail.length cp],.slice q2 xs.length cp2,.int .i64 how,.int .i64 fl] B [] (fun v B' Ls=>Ls=[]∧∃a c,v = .tuple #[.agg #[.int .i64 (Zbo x xs how fl).1.next,.slice a (Zbo x xs how fl).1.mail.length c],.bool (Zbo x xs how fl).2]∧SlK B' a c 3 ZN (Zbo x xs how fl).1.mail):=by
 refine cB 61 Tryz.func184 (h:=?_)
 have hxn:=hx.len
 have hnn:=hn.len
 refine Za (xBx [_,_] (h:=fun b1=>xAl [_,_] Ze6 (h:=fun b2=>xA (h:=tL2 (Zg (Za (xL [_,_] ZbA 0 (h:=xR Ztx rfl (ZgG _ _ (⟨x.next,x.mail⟩:DBox) _ hx) (h:=xN (h:=xM (h:=Zo (d:=16) rfl (fun g1=>?_) (fun g1=>?_))))))))))))
 try simp only [sQ,ne_eq] at g1
 rw [ZeZ (by simp [g1])]
 refine xP (h:=xP (h:=xP (h:=xP (h:=xT (h:=xM (h:=xP (h:=xP (h:=xP (h:=xT (h:=xM (h:=xP (h:=xP (h:=xP (h:=xT (h:=Zb (t:=true) rfl (fun _=>Za (xB [] [_,_] [_,_] Zns Ze6 (h:=xS [_,_] 1 [_,_] ZcE (h:=xA (h:=tL2 (Zd (Zp ?_))))))) (fun h=>Bool.noConfusion h))))))))))))))))
 exact Zas .ret (.inl rfl) [_,_] [] rfl ⟨⟨_,rfl,.inr ⟨[_,_],ZbA,Z9 1 rfl rfl rfl,rfl⟩⟩,rfl,trivial⟩ ⟨rfl,none,0,rfl,SlK.nil⟩
 try simp only [sQ,ne_eq] at g1
 refine xL [_,_] ZbA 0 (h:=xM (h:=xR Zx9 rfl (Zmq _ _ (⟨x.next,x.mail⟩:DBox) _ _ xs _ hx hn) (h:=xN (h:=xF (h:=xM (h:=Zo (d:=22) rfl (fun g2=>?_) (fun g2=>?_)))))))
 try simp only [sQ,ne_eq] at g2
 rw [ZeZ (by simp [g2])]
 refine xP (h:=xP (h:=xP (h:=xT (h:=xM (h:=xP (h:=xP (h:=xP (h:=xT (h:=Zb (t:=true) rfl (fun _=>Za (xB [] [_,_] [_,_] Zns Ze6 (h:=xS [_,_] 1 [_,_] ZcE (h:=xA (h:=tL2 (Zd (Zp ?_))))))) (fun h=>Bool.noConfusion h))))))))))
 exact Zas .ret (.inl rfl) [_,_] [] rfl ⟨⟨_,rfl,.inr ⟨[_,_],ZbA,Z9 1 rfl rfl rfl,rfl⟩⟩,rfl,trivial⟩ ⟨rfl,none,0,rfl,SlK.nil⟩
 try simp only [sQ,ne_eq] at g2
 refine xM (h:=xR ZeF rfl (ZcA _ _ _ _) (h:=xN (h:=xF (h:=xM (h:=Zo (d:=27) rfl (fun g3=>?_) (fun g3=>?_))))))
 try simp only [sQ,ne_eq] at g3
 rw [ZeZ (by simp only [Zlg,g3];simp)]
 refine xP (h:=xP (h:=xP (h:=xT (h:=Zb (t:=true) rfl (fun _=>Za (xB [] [_,_] [_,_] Zns Ze6 (h:=xS [_,_] 1 [_,_] ZcE (h:=xA (h:=tL2 (Zd (Zp ?_))))))) (fun h=>Bool.noConfusion h)))))
 exact Zas .ret (.inl rfl) [_,_] [] rfl ⟨⟨_,rfl,.inr ⟨[_,_],ZbA,Z9 1 rfl rfl rfl,rfl⟩⟩,rfl,trivial⟩ ⟨rfl,none,0,rfl,SlK.nil⟩
 try simp only [sQ,ne_eq] at g3
 refine xM (h:=xR ZrP rfl (Zfo _ _) (h:=xN (h:=xF (h:=Zb rfl (fun g4=>?_) (fun g4=>?_)))))
 try simp only [sQ,ne_eq] at g4
 rw [ZeZ (by simp only [ZaL,g4];simp)]
 refine Za (xB [] [_,_] [_,_] Zns Ze6 (h:=xS [_,_] 1 [_,_] ZcE (h:=xA (h:=tL2 (Zd (Zp ?_))))))
 exact Zas .ret (.inl rfl) [_,_] [] rfl ⟨⟨_,rfl,.inr ⟨[_,_],ZbA,Z9 1 rfl rfl rfl,rfl⟩⟩,rfl,trivial⟩ ⟨rfl,none,0,rfl,SlK.nil⟩
 try simp only [sQ,ne_eq] at g4
 have hok:Zbk x=true:=by simpa using g1
 have hno:Zeu x.mail.length xs=true:=by simpa using g2
 have hfo:ZaL fl=true:=by simpa only [ZaL,Bool.not_eq_false] using g4
 have hall:=ZmR (how:=how) (fl:=fl) ⟨hok,hno,by simpa only [Zlg,Bool.not_eq_false] using g3,hfo⟩
 have hfl:0≤fl∧fl≤31:=by simpa [ZaL] using hfo
 refine wSk (Za (xL [_,_] ZbA 0 (h:=xC Zvx rfl (Zi6 _ _ (⟨x.next,x.mail⟩:DBox) _ hx) (h:=?_))))
 rintro _ B7 _ hle7 ⟨hB7,l7,a7,c7,rfl,rfl,hs7⟩
 have hB7:=hB7.symm
 subst hB7
 refine xAl [_,_] Ze6 (h:=fun b8=>xS [_,_] 3 [_,_] ZcE (h:=tL4 (Zg (Za (xA (h:=Zl (ZO (α:=Nat × Cells × List DMail) [0,1,2,3,4,8,9,10,31] (fun g=>[(11,.int .i64 g.1)]) [2,3] (fun g=>[g.2.1,Zah b8 [.int .i64 x.next,.slice a7 x.mail.length c7] 40]) (fun g Bx=>Bx=B∧g.1≤xs.length∧g.2.2=Zem x.mail how fl (xs.take g.1)∧Like x.mail g.2.2∧ZY Bx g.2.1 a7 c7 97 3 ZN g.2.2) (fun g=>xs.length - g.1) (0,_,x.mail) t1 rfl (⟨rfl,Nat.zero_le _,rfl,Like.refl _,hs7⟩) (fun g B9 hle9 hI=>?_))))))))
 obtain ⟨rfl,hk,hs,hlk,hv⟩:=hI
 have hll:=hlk.1
 refine ZM [(0,_),(1,_),(2,_),(3,_),(4,_),(8,_),(9,_),(10,_),(11,_),(31,_)] [_,_,_,_] t10 rfl (Zg (Za (xM (h:=xM (h:=xV Tryz.underlying185 (h:=Zaf (h:=Zb rfl (fun g5=>?_) (fun g5=>?_))))))))
 try simp only [sQ,ne_eq] at g5
 refine wSk (Zg (Zl (Za (xM (h:=xM (h:=?_))))))
 obtain ⟨y,hy⟩:=Zag (xs:=xs) (i:=g.1) om
 obtain ⟨bb11,oo11,rfl⟩:=hn.base hy
 obtain ⟨_,rfl,hc12⟩:=hn.elem hy
 refine xIx Tryz.underlying185 sz3 (h:=?_)
 have hyb:=Zpf hno y (List.mem_of_getElem? hy)
 have hyl:(y - 1).toNat<x.mail.length:=by omega
 refine y1 lk3 hc12 0 (h:=xU (h:=xA (h:=Z0 (keeps _ [0,2,3] _) mo kr ⟨Kn.le.refl _,Zad.refl _ _⟩ (fun _ _=>?_))))
 refine aW 0 rfl ZaP (h:=aT 1 rfl (ZB fun D B L hI=>Zf rfl rfl Zfl rfl (atL 3 (hI.2.2.2.1.trans rfl) rfl rfl) r4) (h:=aM 2 rfl (h:=aW 3 rfl ZaP (h:=aT 4 rfl (ZB fun D B L hI=>Zf rfl rfl Zfl rfl (atL 0 (hI.2.1.trans rfl) rfl rfl) r4) (h:=aM 5 rfl (h:=?_))))))
 obtain ⟨m,hm⟩:=ZeB (xs:=x.mail) (i:=(y - 1)) om om
 obtain ⟨bb14,oo14,rfl⟩:=hx.base hm
 obtain ⟨_,⟨rfl,hb15⟩,hc15⟩:=hx.elem hm
 refine aIx 6 rfl Tryz.underlying38 Zgx (h:=?_)
 have hmf:=Zgr hok (List.mem_of_getElem? hm)
 refine aW 7 rfl Zjt (h:=aT 8 rfl (ZB fun D B L hI=>Zf rfl rfl lk3 rfl ((hc15.mono hI.1) _ 1 _ rfl) r4) (h:=aM 9 rfl (h:=aM 10 rfl (h:=aT 11 rfl (ZB fun D B L hI=>Zbc rfl rfl Zx8 rfl (Zpw m.flags how fl (oy) (oy) _) r4) (h:=?_)))))
 obtain ⟨z,hz⟩:=ZeB (xs:=g.2.2) (i:=(y - 1)) om om
 obtain ⟨bb18,_,hp18,⟨rfl,hb18⟩,hw18,hc18⟩:=hv.row hz
 refine aT 12 rfl (ZB fun D B L hI=>Zf1 hp18 rfl rfl Tryz.underlying38 Zgx rfl rfl om om r4) (h:=?_)
 refine aW 13 rfl Zjt (h:=ZU 14 kr rfl kr kr kr (ZeJ (k:=((y - 1)).toNat) (off:=1) (⟨z.uid,chg m.flags how fl,z.text⟩) [_] 2 hv hp18 hz rfl rfl sz3 rfl rfl rfl rfl rfl rfl (by rintro _ ⟨rfl,e1⟩;exact ⟨rfl,e1⟩) (fun l19 hv19=>?_)))
 refine ZA (Zj (Zc (xM (h:=xD (h:=xA (h:=?_))))))
 exact ZD (g.1+1,l19,(g.2.2.set (((y - 1)).toNat) (⟨z.uid,chg m.flags how fl,z.text⟩))) [0,1,2,3] so2 ⟨rfl,so,by simp only [];rw [ZmD hy (by rw [← hs];exact hz) hm,← hs],hlk.set hz (Zuc _ _ _),hv19⟩ t10 rfl
 try simp only [sQ,ne_eq] at g5
 have hfe:g.2.2=Zem x.mail how fl xs:=by rw [hs,List.take_of_length_le oz]
 rw [hfe] at hv hll
 refine ZS (Zae (ZX (ZI (Zj (Za (xL [_,_] ZbA 3 (h:=Z1 2 rfl hv ZN.mono om3 (fun B20 hle20 hr20=>?_))))))))
 have hr20n:=hr20.len
 refine xS [_,_] 1 [_,_] ZcE (h:=?_)
 rw [hall]
 refine xA (h:=tL4 (Zd ?_))
 exact Zas .ret (.inl rfl) [_,_] [] rfl ⟨⟨_,rfl,.inr ⟨[_,_],ZbA,Z9 1 rfl rfl rfl,rfl⟩⟩,rfl,trivial⟩ ⟨rfl,_,_,by rw [← hll];rfl,hr20⟩

theorem ZcI (q:Option Addr) (cp:Nat) (x:DBox) (B:Kn) (hx:SlK B q cp 3 ZN x.mail):Zv (pj J) 151 [.agg #[.int .i64 x.next,.slice q x.mail.length cp]] B [] (fun v B' Ls=>∃l a c l' a' c',Ls=[l,l']∧v = .tuple #[.agg #[.int .i64 (expunge x).1.next,.slice a (expunge x).1.mail.length c],.slice a' (expunge x).2.length c']∧ZY B' l a c 97 3 ZN (expunge x).1.mail∧ZY B' l' a' c' 3 1 Zcf (expunge x).2):=by
 refine cB 52 Tryz.func151 (h:=?_)
 have hxn:=hx.len
 refine Za (xBx [_,_] (h:=fun b1=>xAl [_,_] Ze6 (h:=fun b2=>xA (h:=tL2 (Zg (Za (xL [_,_] ZbA 0 (h:=xR Ztx rfl (ZgG _ _ (⟨x.next,x.mail⟩:DBox) _ hx) (h:=xN (h:=Zb rfl (fun g1=>?_) (fun g1=>?_)))))))))))
 try simp only [sQ,ne_eq] at g1
 refine Za (xB [] [_,_] [_,_] Zns Ze6 (h:=ZuK (xBs [] [] Tryz.underlying185 sz3 zo3 (h:=fun b4=>?_))))
 rw [expunge,if_neg (by simp [g1])]
 refine xS [_,_] 1 [_,_] ZcE (h:=xA (h:=tL4 (Zd (Zp ?_))))
 exact Zas .ret (.inl rfl) [_,_] [2,3] rfl ⟨⟨_,rfl,.inr ⟨[_,_],ZbA,Z9 1 rfl rfl rfl,rfl⟩⟩,rfl,trivial⟩ ⟨_,none,0,_,_,_,rfl,rfl,ZY.nil,ZY.lit0⟩
 try simp only [sQ,ne_eq] at g1
 have hok:Zbk x=true:=by simpa using g1
 refine wSk (Za (xW ZbR (h:=x1 lk3 0 (h:=xBs [] [] Tryz.underlying38 Zgx ZlB (h:=fun b5=>xB [(0,_),(1,_)] [_,_] [_,_] Zns Ze6 (h:=xAl [_,_] Ze6 (h:=fun b6=>xS [_,_] 3 [_,_] ZcE (h:=tL4 (Za (xBs [] [] Tryz.underlying185 sz3 zo3 (h:=fun b7=>xA (h:=tL5 (Zg (Za (xA (h:=Zl (ZO (α:=GEx) [0,1,2,3,4,9] (fun g=>[(5,.slice g.n.a g.n.xs.length g.n.c),(6,.int .i64 g.k)]) [2,3,4] (fun g=>[g.m.l,Zah b6 [.int .i64 x.next,.slice g.m.a g.m.xs.length g.m.c] 40,g.n.l]) (fun g Bx=>Bx=B∧g.k≤x.mail.length∧g.m.xs=ZcK (x.mail.take g.k)∧g.n.xs=(Zlk (x.mail.take g.k)).2∧g.n.xs.length≤g.k∧ZY Bx g.m.l g.m.a g.m.c 97 3 ZN g.m.xs∧ZY Bx g.n.l g.n.a g.n.c 3 1 Zcf g.n.xs) (fun g=>x.mail.length - g.k) ⟨0,⟨0,0,_,_,_,[]⟩,⟨0,0,_,_,_,[]⟩⟩ t2 rfl (⟨rfl,Nat.zero_le _,rfl,rfl,Nat.le_refl _,.lit0,.lit0⟩) (fun g B8 hle8 hI=>?_))))))))))))))))))
 obtain ⟨rfl,hk,hm1,hn1,hnl,hv,hw⟩:=hI
 have hml:g.m.xs.length≤g.k:=by rw [hm1];exact Zta _ _
 refine ZM [(0,_),(1,_),(2,_),(3,_),(4,_),(5,_),(6,_),(9,_)] [_,_,_,_,_] t8 rfl (Zg (Za (xM (h:=xW ZaP (h:=x1 Zfl 0 (h:=xV Tryz.underlying38 (h:=Zaf (h:=Zb rfl (fun g2=>?_) (fun g2=>?_)))))))))
 try simp only [sQ,ne_eq] at g2
 refine wSk (Zg (Zl (Za (xW ZaP (h:=x1 Zfl 0 (h:=xM (h:=?_)))))))
 obtain ⟨m,hm⟩:=Zag (xs:=x.mail) (i:=g.k) om
 obtain ⟨bb10,oo10,rfl⟩:=hx.base hm
 obtain ⟨_,⟨rfl,hb11⟩,hc11⟩:=hx.elem hm
 refine xIx Tryz.underlying38 Zgx (h:=xW Zjt (h:=y1 lk3 hc11 1 (h:=Zn (Ziw (a:=m.flags) (b:=8) (r:=Int.tdiv m.flags 8) rfl rfl rfl rfl oz (Zko (Zgr hok (List.mem_of_getElem? hm)).1 (Int.le_trans (Zgr hok (List.mem_of_getElem? hm)).2 (by decide)) (by decide)) ?_))))
 refine Zn (Zh2 (a:=(Int.tdiv m.flags 8)) (b:=2) (r:=Int.tmod (Int.tdiv m.flags 8) 2) rfl rfl rfl rfl (by decide) rfl ?_)
 refine ZE (h:=Zb rfl (fun g3=>?_) (fun g3=>?_))
 try simp only [sQ,ne_eq] at g3
 refine Zc (xM (h:=xW ZaP (h:=x1 Zfl 3 (h:=xV Tryz.underlying38 (h:=xD (h:=xBs [(0,_)] [_] Tryz.underlying185 sz3 zo3 (h:=fun b12=>Zn (Zbg (z:=((g.m.xs.length:Int)+1)) (R:=Zcf) 4 rfl hw rfl rfl rfl ZwM Zwo rfl rfl (ZaQ.box 5 rfl) rfl rfl (rfl) om (fun l13 p13 c13 hv13=>?_)))))))))
 refine xA (h:=ZA (Zj (Zc (xM (h:=xD (h:=xA (h:=?_)))))))
 exact ZD ⟨g.k+1,⟨0,0,g.m.l,g.m.a,g.m.c,g.m.xs⟩,⟨0,0,l13,p13,c13,(g.n.xs ++ [((g.m.xs.length:Int)+1)])⟩⟩ [0,1,2,3,4] so2 ⟨rfl,so,by simp only [];rw [ZuX hm (by simpa [Zp6] using g3),hm1],by simp only [];rw [ZkD hm,Zdu,if_pos (by simpa [Zp6] using g3),← hn1,Zrv,← hm1];rfl,by simp;omega,hv,hv13⟩ t8 rfl
 try simp only [sQ,ne_eq] at g3
 refine Z0 (keeps _ [0,3] _) mo kr ⟨Kn.le.refl _,Zad.refl _ _⟩ (fun _ _=>?_)
 refine aW 0 rfl ZaP (h:=aT 1 rfl (ZB fun D B L hI=>Zf rfl rfl Zfl rfl (atL 3 (hI.2.2.1.trans rfl) rfl rfl) r4) (h:=aW 2 rfl ZaP (h:=aT 3 rfl (ZB fun D B L hI=>Zf rfl rfl Zfl rfl (atL 0 (hI.2.1.trans rfl) rfl rfl) r4) (h:=aM 4 rfl (h:=aIx 5 rfl Tryz.underlying38 Zgx (h:=aT 6 rfl (ZB fun D B L hI=>ZT [_,_,_] rfl rfl Zpn rfl (ZiO (hc11.mono hI.1) 0 rfl rfl) r4) (h:=Zq 7 kr rfl kr (Zu (parts:=[(0,_)]) [_,_,_] rfl rfl Tryz.underlying38 Zgx ZlB rfl rfl rfl rfl rfl (fun b14=>?_)))))))))
 refine ⟨⟨Kn.le.refl _,t2⟩,(Zq 8 kr rfl kr (Zbg (z:=⟨m.uid,m.flags,m.text⟩) (R:=ZN) 2 rfl hv rfl rfl rfl ZvO Zwn rfl rfl (ZaQ.box 5 rfl) rfl rfl (⟨rfl,by first | assumption | omega | (simp;done) | (simp;omega)⟩) om (fun l15 p15 c15 hv15=>?_)))⟩
 refine ⟨⟨Kn.le.refl _,t2⟩,(aW 9 rfl ZaP (h:=ZU 10 kr rfl kr kr kr (ZF [_] 3 [_,_] rfl rfl ZxG rfl rfl rfl rfl rfl rfl rfl rfl ?_)))⟩
 refine ZA (Zj (Zc (xM (h:=xD (h:=xA (h:=?_))))))
 exact ZD ⟨g.k+1,⟨0,0,l15,p15,c15,(g.m.xs ++ [⟨m.uid,m.flags,m.text⟩])⟩,⟨0,0,g.n.l,g.n.a,g.n.c,g.n.xs⟩⟩ [0,1,2,3,4] so2 ⟨rfl,so,by simp only [];rw [Zs9 hm (by simpa [Zp6] using g3),hm1],by simp only [];rw [ZkD hm,Zdu,if_neg (by simpa [Zp6] using g3),hn1],so,hv15,hw⟩ t8 rfl
 try simp only [sQ,ne_eq] at g2
 have hmf0:g.m.xs=ZcK x.mail:=by rw [hm1,List.take_of_length_le oz]
 have hnf0:g.n.xs=(Zlk x.mail).2:=by rw [hn1,List.take_of_length_le oz]
 rw [expunge,if_pos (by simpa using g1),← hmf0,← hnf0]
 refine ZS (Zae (ZX (ZI (Zj (Za (xL [_,_] ZbA 3 (h:=xM (h:=xS [_,_] 1 [_,_] ZcE (h:=xA (h:=tL5 (Zd ?_)))))))))))
 exact Zas .ret (.inl rfl) [_,_] [2,4] rfl ⟨⟨_,rfl,.inr ⟨[_,_],ZbA,Z9 1 rfl rfl rfl,rfl⟩⟩,rfl,trivial⟩ ⟨_,_,_,_,_,_,rfl,rfl,hv,hw⟩

theorem ZiH (q:Option Addr) (cp:Nat) (xs:List DSpan) (B:Kn) (hs:SlK B q cp 2 ZjU xs):ZaM (pj J) 182 [.slice q xs.length cp] B (.bool (ZiJ xs)):=by
 refine cB 29 Tryz.func182 (h:=?_)
 have hsn:=hs.len
 refine Za (xA (h:=Zg (Za (xA (h:=Zl (ZO (α:=Nat) [0] (fun k=>[(3,.int .i64 k)]) [] (fun k=>[]) (fun k Bx=>Bx=B∧k≤xs.length∧∀y,y∈xs.take k→Zl2 y=true) (fun k=>xs.length - k) 0 t1 rfl (⟨rfl,Nat.zero_le _,by simp⟩) (fun k B1 hle1 hI=>?_)))))))
 obtain ⟨rfl,hk,hall⟩:=hI
 refine ZM [(0,_),(3,_)] [] t2 rfl (Zg (Za (xM (h:=xM (h:=xV Tryz.underlying242 (h:=Zaf (h:=Zb rfl (fun g1=>?_) (fun g1=>?_))))))))
 try simp only [sQ,ne_eq] at g1
 refine wSk (Zg (Zl (Za (xM (h:=xM (h:=?_))))))
 obtain ⟨m,hm⟩:=Zag (xs:=xs) (i:=k) om
 obtain ⟨bb3,oo3,rfl⟩:=hs.base hm
 obtain ⟨_,rfl,hc4⟩:=hs.elem hm
 refine xIx Tryz.underlying242 Zqz (h:=xW ZrC (h:=y1 lk3 hc4 0 (h:=xR ZeF rfl (ZcA _ _ _ _) (h:=xN (h:=xM (h:=Zo (d:=17) rfl (fun g2=>?_) (fun g2=>?_)))))))
 try simp only [sQ,ne_eq] at g2
 refine xP (h:=xP (h:=xP (h:=xP (h:=xP (h:=xP (h:=xP (h:=xT (h:=Zb (t:=true) rfl (fun _=>Za (xA (h:=Zd (ZH (Zp (Z3 (ZH (Zp ?_)))))))) (fun h=>Bool.noConfusion h)))))))))
 exact eR t1 ⟨Zh (by rw [ZiJ,Zc4 hm (by simp only [Zl2,g2,Bool.false_and]),Bool.false_and]),rfl,rfl⟩
 try simp only [sQ,ne_eq] at g2
 refine xM (h:=xM (h:=xIx Tryz.underlying242 Zqz (h:=xW ZrB (h:=y1 lk3 hc4 1 (h:=xR ZeF rfl (ZcA _ _ _ _) (h:=xN (h:=xF (h:=Zb rfl (fun g3=>?_) (fun g3=>?_)))))))))
 try simp only [sQ,ne_eq] at g3
 refine Za (xA (h:=Zd (ZH (Zp (Z3 (ZH (Zp ?_)))))))
 exact eR t1 ⟨Zh (by rw [ZiJ,Zc4 hm (by simp only [Zl2,g3,Bool.and_false]),Bool.false_and]),rfl,rfl⟩
 try simp only [sQ,ne_eq] at g3
 refine ZL (ZA (Zj (Zc (xM (h:=xD (h:=xA (h:=?_)))))))
 exact ZD (k+1) [] so2 ⟨rfl,oz,Zbu hm hall (by simp only [Zl2];rw [show (decide (0≤m.low) && decide (m.low≤99))=true by simpa only [Bool.not_eq_false] using g2,show (decide (0≤m.high) && decide (m.high≤99))=true by simpa only [Bool.not_eq_false] using g3];rfl)⟩ t2 rfl
 try simp only [sQ,ne_eq] at g1
 refine ZS (Zae (ZX (ZI (Zj (Za (xM (h:=xV Tryz.underlying242 (h:=xR ZeF rfl (ZcA _ _ _ _) (h:=xA (h:=Zd ?_))))))))))
 exact eR t1 ⟨Zh (by rw [ZiJ,Ze0 (ZbO oz hall),Bool.true_and,Bool.eq_iff_iff];simp;try omega),rfl,rfl⟩

theorem ZuT (q:Option Addr) (cp:Nat) (xs:List DSpan) (last n:Int) (B:Kn) (hs:SlK B q cp 2 ZjU xs):ZaM (pj J) 192 [.slice q xs.length cp,.int .i64 last,.int .i64 n] B (.bool (ZgL xs last n)):=by
 refine cB 40 Tryz.func192 (h:=?_)
 have hsn:=hs.len
 refine Za (xA (h:=Zg (Za (xA (h:=Zl (ZO (α:=Nat) [0,1,2] (fun k=>[(7,.int .i64 k)]) [] (fun k=>[]) (fun k Bx=>Bx=B∧k≤xs.length∧(xs.take k).any (Zeh last n)=false) (fun k=>xs.length - k) 0 t1 rfl (⟨rfl,Nat.zero_le _,rfl⟩) (fun k B1 hle1 hI=>?_)))))))
 obtain ⟨rfl,hk,hna⟩:=hI
 refine ZM [(0,_),(1,_),(2,_),(7,_)] [] t4 rfl (Zg (Za (xM (h:=xM (h:=xV Tryz.underlying242 (h:=Zaf (h:=Zb rfl (fun g1=>?_) (fun g1=>?_))))))))
 try simp only [sQ,ne_eq] at g1
 refine wSk (Zg (Zl (Za (xM (h:=xM (h:=?_))))))
 obtain ⟨m,hm⟩:=Zag (xs:=xs) (i:=k) om
 obtain ⟨bb3,oo3,rfl⟩:=hs.base hm
 obtain ⟨_,rfl,hc4⟩:=hs.elem hm
 refine xIx Tryz.underlying242 Zqz (h:=xW ZrC (h:=y1 lk3 hc4 0 (h:=xA (h:=Za (xM (h:=xM (h:=xIx Tryz.underlying242 Zqz (h:=xW ZrB (h:=y1 lk3 hc4 1 (h:=xA (h:=Zg (Za (xM (h:=ZE (h:=Zb rfl (fun g2=>?_) (fun g2=>?_))))))))))))))))
 try simp only [sQ,ne_eq] at g2
 refine Zc (xM (h:=xA (h:=Zj (Zg (Za (xM (h:=ZE (h:=Zb rfl (fun g3=>?_) (fun g3=>?_)))))))))
 try simp only [sQ,ne_eq] at g3
 refine Zc (xM (h:=xA (h:=Zj (Za (xM (h:=xM (h:=xM (h:=Zn (Zkc rfl rfl rfl rfl (xM (h:=xM (h:=Zn (Zn5 rfl rfl rfl rfl (xR ZeF rfl (ZcA _ _ _ _) (h:=Zb rfl (fun g4=>?_) (fun g4=>?_))))))))))))))))
 try simp only [sQ,ne_eq] at g4
 refine Za (xA (h:=Zd (ZH (Zp (Z3 (ZH (Zp ?_)))))))
 exact eR t1 ⟨Zh (by symm;rw [ZgL,List.any_eq_true];exact ⟨m,List.mem_of_getElem? hm,by simp only [Zeh,g2,g3,if_true,if_false];simpa using g4⟩),rfl,rfl⟩
 try simp only [sQ,ne_eq] at g4
 refine ZL (ZA (Zj (Zc (xM (h:=xD (h:=xA (h:=?_)))))))
 exact ZD (k+1) [] so2 ⟨rfl,oz,by rw [Zee hm,hna];simp only [Zeh,g2,g3,if_true,if_false];simpa using g4⟩ t4 rfl
 try simp only [sQ,ne_eq] at g3
 refine wSk (Za (xM (h:=xM (h:=xM (h:=Zn (Zkc rfl rfl rfl rfl (xM (h:=xM (h:=Zn (Zn5 rfl rfl rfl rfl (xR ZeF rfl (ZcA _ _ _ _) (h:=Zb rfl (fun g4=>?_) (fun g4=>?_)))))))))))))
 try simp only [sQ,ne_eq] at g4
 refine Za (xA (h:=Zd (ZH (Zp (Z3 (ZH (Zp ?_)))))))
 exact eR t1 ⟨Zh (by symm;rw [ZgL,List.any_eq_true];exact ⟨m,List.mem_of_getElem? hm,by simp only [Zeh,g2,g3,if_true,if_false];simpa using g4⟩),rfl,rfl⟩
 try simp only [sQ,ne_eq] at g4
 refine ZL (ZA (Zj (Zc (xM (h:=xD (h:=xA (h:=?_)))))))
 exact ZD (k+1) [] so2 ⟨rfl,oz,by rw [Zee hm,hna];simp only [Zeh,g2,g3,if_true,if_false];simpa using g4⟩ t4 rfl
 try simp only [sQ,ne_eq] at g2
 refine wSk (Zg (Za (xM (h:=ZE (h:=Zb rfl (fun g3=>?_) (fun g3=>?_))))))
 try simp only [sQ,ne_eq] at g3
 refine Zc (xM (h:=xA (h:=Zj (Za (xM (h:=xM (h:=xM (h:=Zn (Zkc rfl rfl rfl rfl (xM (h:=xM (h:=Zn (Zn5 rfl rfl rfl rfl (xR ZeF rfl (ZcA _ _ _ _) (h:=Zb rfl (fun g4=>?_) (fun g4=>?_))))))))))))))))
 try simp only [sQ,ne_eq] at g4
 refine Za (xA (h:=Zd (ZH (Zp (Z3 (ZH (Zp ?_)))))))
 exact eR t1 ⟨Zh (by symm;rw [ZgL,List.any_eq_true];exact ⟨m,List.mem_of_getElem? hm,by simp only [Zeh,g2,g3,if_true,if_false];simpa using g4⟩),rfl,rfl⟩
 try simp only [sQ,ne_eq] at g4
 refine ZL (ZA (Zj (Zc (xM (h:=xD (h:=xA (h:=?_)))))))
 exact ZD (k+1) [] so2 ⟨rfl,oz,by rw [Zee hm,hna];simp only [Zeh,g2,g3,if_true,if_false];simpa using g4⟩ t4 rfl
 try simp only [sQ,ne_eq] at g3
 refine wSk (Za (xM (h:=xM (h:=xM (h:=Zn (Zkc rfl rfl rfl rfl (xM (h:=xM (h:=Zn (Zn5 rfl rfl rfl rfl (xR ZeF rfl (ZcA _ _ _ _) (h:=Zb rfl (fun g4=>?_) (fun g4=>?_)))))))))))))
 try simp only [sQ,ne_eq] at g4
 refine Za (xA (h:=Zd (ZH (Zp (Z3 (ZH (Zp ?_)))))))
 exact eR t1 ⟨Zh (by symm;rw [ZgL,List.any_eq_true];exact ⟨m,List.mem_of_getElem? hm,by simp only [Zeh,g2,g3,if_true,if_false];simpa using g4⟩),rfl,rfl⟩
 try simp only [sQ,ne_eq] at g4
 refine ZL (ZA (Zj (Zc (xM (h:=xD (h:=xA (h:=?_)))))))
 exact ZD (k+1) [] so2 ⟨rfl,oz,by rw [Zee hm,hna];simp only [Zeh,g2,g3,if_true,if_false];simpa using g4⟩ t4 rfl
 try simp only [sQ,ne_eq] at g1
 refine ZS (Zae (ZX (ZI (Zj (Za (xA (h:=Zd ?_)))))))
 exact eR t1 ⟨Zh (by rw [ZgL,← Zr8 (b:=false) hna.symm oz]),rfl,rfl⟩

theorem Zo5 (q:Option Addr) (cp:Nat) (xs:List DSpan) (last:Int) (hl0:0≤last) (B:Kn) (hs:SlK B q cp 2 ZjU xs):Zv (pj J) 189 [.slice q xs.length cp,.int .i64 last] B [] (fun v B' Ls=>Ls=[]∧∃a c,v = .slice a (ZaN xs last).length c∧SlK B' a c 1 Zcf (ZaN xs last)):=by
 refine cB 28 Tryz.func189 (h:=?_)
 have hsn:=hs.len
 refine Za (xA (h:=Za (xBs [] [] Tryz.underlying185 sz3 zo3 (h:=fun b1=>xA (h:=tL1 (Zg (Za (xA (h:=Zl (ZO (α:=Gh Int) [0,1,4] (fun g=>[(5,.slice g.a g.xs.length g.c),(6,.int .i64 ((g.k+1:Nat):Int))]) [0] (fun g=>[g.l]) (fun g Bx=>Bx=B∧g.k≤(min last 99).toNat∧g.xs.length≤g.k∧(0<g.k→ZiJ xs=true)∧g.xs=Zda xs (min last 99) g.k∧ZY Bx g.l g.a g.c 3 1 Zcf g.xs) (fun g=>(min last 99).toNat - g.k) ⟨0,0,_,_,_,[]⟩ t2 rfl (⟨rfl,Nat.zero_le _,Nat.le_refl _,by simp,rfl,.lit0⟩) (fun g B2 hle2 hI=>?_)))))))))))
 obtain ⟨rfl,hk,hgl,hok,hnt,hv⟩:=hI
 refine ZM [(0,_),(1,_),(4,_),(5,_),(6,_)] [_] t5 rfl (Zg (Za (xM (h:=xM (h:=Zn (Zkc rfl rfl rfl rfl (ZcU (h:=xM (h:=Zo (d:=12) rfl (fun g1=>?_) (fun g1=>?_))))))))))
 try simp only [sQ,ne_eq] at g1
 refine xM (h:=xR Zvu rfl (ZiH _ _ xs _ hs) (h:=xT (h:=Zb rfl (fun g2=>?_) (fun g2=>?_))))
 try simp only [sQ,ne_eq] at g2
 refine wSk (Zg (Zl (Za (xM (h:=xM (h:=Zn (Zkc rfl rfl rfl rfl (xM (h:=xR Zx5 rfl (ZuT _ _ xs (min last 99) (↑(g.k+1)) _ hs) (h:=Zb rfl (fun g3=>?_) (fun g3=>?_)))))))))))
 try simp only [sQ,ne_eq] at g3
 refine Zc (xM (h:=xM (h:=xBs [(0,_)] [_] Tryz.underlying185 sz3 zo3 (h:=fun b5=>Zn (Zbg (z:=(↑(g.k+1):Int)) (R:=Zcf) 0 rfl hv rfl rfl rfl ZwM Zwo rfl rfl (ZaQ.box 1 rfl) rfl rfl (rfl) om (fun l6 p6 c6 hv6=>?_))))))
 refine xA (h:=ZA (Zj (Zc (xM (h:=xD (h:=xA (h:=?_)))))))
 exact ZD ⟨g.k+1,0,l6,p6,c6,(g.xs ++ [(↑(g.k+1):Int)])⟩ [0] so2 ⟨rfl,so,by simp;omega,fun _=>g2,by simp only [];rw [Zpe (by exact_mod_cast g3),hnt],hv6⟩ t5 rfl
 try simp only [sQ,ne_eq] at g3
 refine ZL (ZA (Zj (Zc (xM (h:=xD (h:=xA (h:=?_)))))))
 exact ZD ⟨g.k+1,0,g.l,g.a,g.c,g.xs⟩ [0] so2 ⟨rfl,so,so,fun _=>g2,by simp only [];rw [ZqU (by exact_mod_cast g3),hnt],hv⟩ t5 rfl
 try simp only [sQ,ne_eq] at g2
 refine ZS (Zae (ZX (ZI (Zj (Za (xM (h:=Z1 0 rfl hv Zcf.mono om3 (fun B7 hle7 hr7=>?_))))))))
 have hr7n:=hr7.len
 refine xA (h:=tL1 ?_)
 have hne:ZaN xs last=g.xs:=by
    rw [ZaN,if_neg (by simp [g2]),hnt]
    have:g.k=0:=by
      rcases Nat.eq_zero_or_pos g.k with h | h
      · exact h
      · rw [hok h] at g2;cases g2
    rw [this];rfl
 rw [hne]
 refine Zd ?_
 exact eN [] rfl t1 ⟨rfl,_,_,rfl,hr7⟩
 try simp only [sQ,ne_eq] at g1
 refine xP (h:=xP (h:=xF (h:=Zb (t:=false) rfl (fun h=>Bool.noConfusion h) (fun _=>ZS (Zae (ZX (ZI (Zj (Za (xM (h:=Z1 0 rfl hv Zcf.mono om3 (fun B8 hle8 hr8=>?_))))))))))))
 have hr8n:=hr8.len
 refine xA (h:=tL1 ?_)
 have hne:ZaN xs last=g.xs:=by
    have hk2:g.k=(min last 99).toNat:=by omega
    rw [ZaN]
    rcases Nat.eq_zero_or_pos g.k with h | h
    · rw [← hk2,hnt,h];split <;> rfl
    · rw [if_pos (hok h),hnt,hk2]
 rw [hne]
 refine Zd ?_
 exact eN [] rfl t1 ⟨rfl,_,_,rfl,hr8⟩

theorem ZnA (q1 q2 q3:Option Addr) (c1 c2 c3:Nat) (x:DHost) (s:DSess) (hs1:s.user.length≤2000000) (hs2:s.owner.length≤2000000) (hs3:s.name.length≤2000000) (r:Int) (hrr:Zir x.folders) (h1:0<r) (B:Kn) (hu:SlK B q1 c1 3 Zs x.users) (hf:SlK B q2 c2 5 Ze x.folders):ZaM (pj J) 183 [.agg #[str x.domain,.slice q1 x.users.length c1,.slice q2 x.folders.length c2,.int .i64 x.queue.next,.slice q3 x.queue.items.length c3],.agg #[str s.user,str s.owner,str s.name],.int .i64 r] B (.tuple #[.int .i64 (atF x s r).1,.int .i64 (atF x s r).2]):=by
 refine cB 32 Tryz.func183 (h:=?_)
 have hun:=hu.len
 have hfn:=hf.len
 have hix:=ZcY (inF s.owner s.name) x.folders
 refine Za (xBx [_,_,_,_,_] (h:=fun b1=>xBx [_,_,_] (h:=fun b2=>xA (h:=xA (h:=tL2 (Za (xL [_,_,_,_,_] ZW 0 (h:=xW Zu8 (h:=x1 lk9 1 (h:=xW Zu7 (h:=x1 lk9 1 (h:=xR Zvn rfl (ZdO _ _ _ _ _ _ x s.owner s.name om2 om2 _ hf) (h:=?_)))))))))))))
 refine xA (h:=Za (xL [_,_,_,_,_] ZW 0 (h:=xW ZnL (h:=x1 lk9 1 (h:=xM (h:=xR ZrO rfl (Zey _ _ _ _ _ _ x s.user (ZaI (inF s.owner s.name) x.folders) 2 oz hrr oz _ hu hf) (h:=?_)))))))
 refine xA (h:=Zg (Za (xM (h:=Zbm (h:=Zb rfl (fun g1=>?_) (fun g1=>?_))))))
 try simp only [sQ,ne_eq] at g1
 refine Za (xM (h:=xM (h:=xA (h:=xA (h:=Zd (Zp ?_))))))
 exact Zvl .ret (.inl rfl) [_,_] t2 ⟨by rw [atF,if_pos g1];rfl,rfl,rfl⟩
 try simp only [sQ,ne_eq] at g1
 refine wSk (Za (xM (h:=xL [_,_,_,_,_] ZW 0 (h:=xW ZnL (h:=x1 lk9 1 (h:=xM (h:=xM (h:=xR ZrO rfl (Zey _ _ _ _ _ _ x s.user (ZaI (inF s.owner s.name) x.folders) r oz hrr oz _ hu hf) (h:=?_)))))))))
 refine xA (h:=xA (h:=Zd ?_))
 exact Zvl .ret (.inl rfl) [_,_] t2 ⟨by rw [atF,if_neg (fun h=>h g1)];rfl,rfl,rfl⟩

theorem Zla (q:Option Addr) (cp:Nat) (x:DBox) (q2:Option Addr) (cp2:Nat) (xs:List DSpan) (B:Kn) (hx:SlK B q cp 3 ZN x.mail) (hs:SlK B q2 cp2 2 ZjU xs):Zv (pj J) 185 [.agg #[.int .i64 x.next,.slice q x.mail.length cp],.slice q2 xs.length cp2] B [] (fun v B' Ls=>Ls=[]∧∃a c,v = .slice a (ZaN xs x.mail.length).length c∧SlK B' a c 1 Zcf (ZaN xs x.mail.length)):=by
 refine cB 10 Tryz.func185 (h:=?_)
 have hxn:=hx.len
 refine Za (xBx [_,_] (h:=fun b1=>xA (h:=tL1 (Za (xM (h:=xW ZaP (h:=x1 Zfl 0 (h:=xV Tryz.underlying38 (h:=xQ Zx7 rfl (Zo5 _ _ xs ↑x.mail.length om2 _ hs) (h:=?_))))))))))
 intro v2 B2 hle2
 rintro ⟨a2,c2,rfl,hs2⟩
 have hs2n:=hs2.len
 refine xA (h:=Zd ?_)
 exact eN [] rfl t1 ⟨rfl,_,_,rfl,hs2⟩

theorem Zng (q1 q2 q3:Option Addr) (c1 c2 c3:Nat) (x:DHost) (s:DSess) (hs1:s.user.length≤2000000) (hs2:s.owner.length≤2000000) (hs3:s.name.length≤2000000) (q4:Option Addr) (c4:Nat) (set:List DSpan) (how fl:Int) (hd:x.domain.length≤2000000) (B:Kn) (hu:SlK B q1 c1 3 Zs x.users) (hf:SlK B q2 c2 5 Ze x.folders) (hi:SlK B q3 c3 4 Zw x.queue.items) (hs:SlK B q4 c4 2 ZjU set):Zv (pj J) 178 [.agg #[str x.domain,.slice q1 x.users.length c1,.slice q2 x.folders.length c2,.int .i64 x.queue.next,.slice q3 x.queue.items.length c3],.agg #[str s.user,str s.owner,str s.name],.slice q4 set.length c4,.int .i64 how,.int .i64 fl] B [] (fun v B' Ls=>Ls=[]∧∃p1 d1 p2 d2 p3 d3,v = .tuple #[.agg #[str (Zch x s set how fl).1.domain,.slice p1 (Zch x s set how fl).1.users.length d1,.slice p2 (Zch x s set how fl).1.folders.length d2,.int .i64 (Zch x s set how fl).1.queue.next,.slice p3 (Zch x s set how fl).1.queue.items.length d3],.int .i64 (Zch x s set how fl).2]∧SlK B' p1 d1 3 Zs (Zch x s set how fl).1.users∧SlK B' p2 d2 5 Ze (Zch x s set how fl).1.folders∧SlK B' p3 d3 4 Zw (Zch x s set how fl).1.queue.items∧(Zch x s set how fl).1.domain.length≤2000000):=by
 refine cB 75 Tryz.func178 (h:=?_)
 have hun:=hu.len
 have hfn:=hf.len
 have hin:=hi.len
 have hsn:=hs.len
 have hix:=ZcY (inF s.owner s.name) x.folders
 refine Za (xBx [_,_,_,_,_] (h:=fun b1=>xBx [_,_,_] (h:=fun b2=>xAl [_,_,_,_,_] Za2 (h:=fun b3=>xA (h:=tL3 (Zg (Za (xL [_,_,_,_,_] ZW 0 (h:=xR Zsn rfl (ZbK _ _ _ _ _ _ x om2 _ hu hf hi) (h:=?_))))))))))
 refine xN (h:=xM (h:=Zo (d:=20) rfl (fun g1=>?_) (fun g1=>?_)))
 try simp only [sQ,ne_eq] at g1
 rw [Zch,if_pos (by simp [g1])]
 refine xP (h:=xP (h:=xP (h:=xT (h:=xM (h:=xP (h:=xP (h:=xP (h:=xT (h:=xM (h:=xP (h:=xP (h:=xP (h:=xT (h:=Zb (t:=true) rfl (fun _=>Za (xB [] [_,_,_,_,_] [_,_,_,_,_] Zd6 Za2 (h:=xS [_,_,_,_,_] 2 [_,_,_,_,_] Zaq (h:=xA (h:=tL3 (Zd (Zp ?_))))))) (fun h=>Bool.noConfusion h)))))))))))))))
 exact Zas .ret (.inl rfl) [_,_] [] rfl ⟨⟨_,rfl,.inr ⟨[_,_,_,_,_],ZW,Z9 2 rfl rfl rfl,rfl⟩⟩,rfl,trivial⟩ ⟨rfl,none,0,none,0,none,0,rfl,SlK.nil,SlK.nil,SlK.nil,by simp [ZaT]⟩
 try simp only [sQ,ne_eq] at g1
 refine xM (h:=xR Zvu rfl (ZiH _ _ set _ hs) (h:=xN (h:=xF (h:=xM (h:=Zo (d:=25) rfl (fun g2=>?_) (fun g2=>?_))))))
 try simp only [sQ,ne_eq] at g2
 rw [Zch,if_pos (by simp [g2])]
 refine xP (h:=xP (h:=xP (h:=xT (h:=xM (h:=xP (h:=xP (h:=xP (h:=xT (h:=Zb (t:=true) rfl (fun _=>Za (xB [] [_,_,_,_,_] [_,_,_,_,_] Zd6 Za2 (h:=xS [_,_,_,_,_] 2 [_,_,_,_,_] Zaq (h:=xA (h:=tL3 (Zd (Zp ?_))))))) (fun h=>Bool.noConfusion h))))))))))
 exact Zas .ret (.inl rfl) [_,_] [] rfl ⟨⟨_,rfl,.inr ⟨[_,_,_,_,_],ZW,Z9 2 rfl rfl rfl,rfl⟩⟩,rfl,trivial⟩ ⟨rfl,none,0,none,0,none,0,rfl,SlK.nil,SlK.nil,SlK.nil,by simp [ZaT]⟩
 try simp only [sQ,ne_eq] at g2
 refine xM (h:=xR ZrP rfl (Zfo _ _) (h:=xN (h:=xF (h:=xM (h:=Zo (d:=30) rfl (fun g3=>?_) (fun g3=>?_))))))
 try simp only [sQ,ne_eq] at g3
 rw [Zch,if_pos (fun h=>by have:=h.2.2.1;simp only [ZaL,g3] at this;cases this)]
 refine xP (h:=xP (h:=xP (h:=xT (h:=Zb (t:=true) rfl (fun _=>Za (xB [] [_,_,_,_,_] [_,_,_,_,_] Zd6 Za2 (h:=xS [_,_,_,_,_] 2 [_,_,_,_,_] Zaq (h:=xA (h:=tL3 (Zd (Zp ?_))))))) (fun h=>Bool.noConfusion h)))))
 exact Zas .ret (.inl rfl) [_,_] [] rfl ⟨⟨_,rfl,.inr ⟨[_,_,_,_,_],ZW,Z9 2 rfl rfl rfl,rfl⟩⟩,rfl,trivial⟩ ⟨rfl,none,0,none,0,none,0,rfl,SlK.nil,SlK.nil,SlK.nil,by simp [ZaT]⟩
 try simp only [sQ,ne_eq] at g3
 refine xM (h:=xR ZeF rfl (ZcA _ _ _ _) (h:=xN (h:=xF (h:=Zb rfl (fun g4=>?_) (fun g4=>?_)))))
 try simp only [sQ,ne_eq] at g4
 rw [Zch,if_pos (fun h=>by have:=h.2.2.2;simp only [Zlg,g4] at this;cases this)]
 refine Za (xB [] [_,_,_,_,_] [_,_,_,_,_] Zd6 Za2 (h:=xS [_,_,_,_,_] 2 [_,_,_,_,_] Zaq (h:=xA (h:=tL3 (Zd (Zp ?_))))))
 exact Zas .ret (.inl rfl) [_,_] [] rfl ⟨⟨_,rfl,.inr ⟨[_,_,_,_,_],ZW,Z9 2 rfl rfl rfl,rfl⟩⟩,rfl,trivial⟩ ⟨rfl,none,0,none,0,none,0,rfl,SlK.nil,SlK.nil,SlK.nil,by simp [ZaT]⟩
 try simp only [sQ,ne_eq] at g4
 have hok:Zx x=true:=by simpa using g1
 have hrr:=ZcM hok
 have hnn : ¬ ¬ (Zx x=true∧ZiJ set=true∧ZaL fl=true∧Zlg how=true):=fun h=>h ⟨hok,by simpa using g2,by simpa only [ZaL,Bool.not_eq_false] using g3,by simpa only [Zlg,Bool.not_eq_false] using g4⟩
 refine wSk (Za (xL [_,_,_,_,_] ZW 0 (h:=xL [_,_,_] Zpp 1 (h:=xR Zvt rfl (ZnA _ _ _ _ _ _ x s om2 om2 om2 4 hrr oz _ hu hf) (h:=?_)))))
 refine xM (h:=xE (h:=xE (h:=xA (h:=xA (h:=Za (xL [_,_,_,_,_] ZW 0 (h:=xC ZoL rfl (Zbn _ _ _ _ _ _ x _ hu hf hi) (h:=?_))))))))
 rintro _ B9 _ hle9 ⟨l9,a9,c9,q19,c19,q39,c39,rfl,rfl,hu9,hs9,hi9⟩
 obtain ⟨hf,hs⟩:=up2 hle9 hf hs
 have hu9n:=hu9.len
 have hi9n:=hi9.len
 refine xAl [_,_,_,_,_] Za2 (h:=fun b10=>xS [_,_,_,_,_] 4 [_,_,_,_,_] Zaq (h:=tL5 (Zg (Za (xM (h:=Zbm (h:=Zb rfl (fun g5=>?_) (fun g5=>?_))))))))
 try simp only [sQ,ne_eq] at g5
 refine Za (xL [_,_,_,_,_] ZW 4 (h:=Z1 3 rfl hs9 Ze.mono om3 (fun B11 hle11 hr11=>?_)))
 obtain ⟨hf,hs,hu9,hi9⟩:=up4 hle11 hf hs hu9 hi9
 have hr11n:=hr11.len
 refine xM (h:=?_)
 rw [Zch,if_neg hnn,if_pos g5]
 refine xS [_,_,_,_,_] 2 [_,_,_,_,_] Zaq (h:=xA (h:=tL5 (Zd (Zp ?_))))
 exact Zas .ret (.inl rfl) [_,_] [] rfl ⟨⟨_,rfl,.inr ⟨[_,_,_,_,_],ZW,Z9 2 rfl rfl rfl,rfl⟩⟩,rfl,trivial⟩ ⟨rfl,_,_,_,_,_,_,(by first | rfl | (simp only [DHost.withFolders,List.length_set];rfl)),hu9,hr11,hi9,by first | assumption | (rw [ZR.2.2.1];assumption)⟩
 try simp only [sQ,ne_eq] at g5
 obtain ⟨hat,hk0,_,_,_⟩:=Zim g5
 obtain ⟨f,hf0⟩ :∃f,x.folders[(atF x s 4).1.toNat]? = some f:=⟨_,List.getElem?_eq_getElem oz⟩
 have hfb:Zbk (⟨f.next,f.mail⟩:DBox)=true:=Zby (ZaK hok hf0)
 have hse:Zch x s set how fl=(x.withFolders (x.folders.set (atF x s 4).1.toNat (f.withBox (Zbo ⟨f.next,f.mail⟩ (ZaN set f.mail.length) how fl).1)),0):=by rw [Zch,if_neg hnn,if_neg (fun h=>h g5),ZdD hf0,ZiK hf0];rfl
 refine wSk (Zg (Z0 (keeps _ [0,3] _) mo kr ⟨Kn.le.refl _,Zad.refl _ _⟩ (fun _ _=>?_)))
 refine aW 0 rfl Z4 (h:=aT 1 rfl (ZB fun D B L hI=>Zf rfl rfl ZcJ rfl (atL 0 (hI.2.1.trans rfl) rfl rfl) r4) (h:=aM 2 rfl (h:=?_)))
 obtain ⟨bb12,oo12,rfl⟩:=hf.base hf0
 obtain ⟨_,⟨qg13,cg13,qm13,cm13,rfl,hg13,hm13,hb13,hb13b⟩,hc13⟩:=hf.elem hf0
 have hg13n:=hg13.len
 have hm13n:=hm13.len
 have hm13s:=Z7 hm13
 refine aIx 3 rfl Tryz.underlying24 Zbq (h:=aW 4 rfl ZbC (h:=aT 5 rfl (ZB fun D B L hI=>ZT [_,_] rfl rfl ZbA rfl (ZiO (hc13.mono hI.1) 3 rfl rfl) r4) (h:=aW 6 rfl Z4 (h:=aT 7 rfl (ZB fun D B L hI=>Zf rfl rfl ZcJ rfl (atL 0 (hI.2.1.trans rfl) rfl rfl) r4) (h:=aM 8 rfl (h:=aIx 9 rfl Tryz.underlying24 Zbq (h:=aW 10 rfl ZbC (h:=aT 11 rfl (ZB fun D B L hI=>ZT [_,_] rfl rfl ZbA rfl (ZiO (hc13.mono hI.1) 3 rfl rfl) r4) (h:=aM 12 rfl (h:=aM 14 rfl (h:=aM 15 rfl (h:=Zak [13,20] kr kr kr ⟨?_,?_⟩))))))))))))
 refine (Zef rfl rfl Zvr rfl (Zla _ _ (⟨f.next,f.mail⟩:DBox) _ _ set _ hm13 hs) ?_)
 intro v14 B14 hle14
 rintro ⟨a14,c14,rfl,hs14⟩
 replace hs:=up1 hle14 hs
 replace hm13:=hm13.mono ZN.mono hle14
 replace hs9:=hs9.mono Ze.mono hle14
 replace hu9:=hu9.mono Zs.mono hle14
 replace hi9:=hi9.mono Zw.mono hle14
 have hs14n:=hs14.len
 refine ⟨⟨hle14,t2⟩,(Zak [16,20] kr kr kr ⟨?_,?_⟩)⟩
 refine (Zef rfl rfl Zvs rfl (Zga _ _ (⟨f.next,f.mail⟩:DBox) _ _ (ZaN set f.mail.length) how fl _ hm13 hs14) ?_)
 intro v15 B15 hle15
 rintro ⟨a15,c15,rfl,hs15⟩
 replace hs:=up1 hle15 hs
 replace hm13:=hm13.mono ZN.mono hle15
 replace hs14:=hs14.mono Zcf.mono hle15
 replace hs9:=hs9.mono Ze.mono hle15
 replace hu9:=hu9.mono Zs.mono hle15
 replace hi9:=hi9.mono Zw.mono hle15
 have hs15n:=hs15.len
 refine ⟨⟨(hle14.trans hle15),t2⟩,(aM 17 rfl (h:=aE 18 rfl (h:=aE 19 rfl (h:=Zq 20 kr rfl kr (Zai (l:=[_,_]) rfl rfl Ze6 rfl (fun b16=>?_))))))⟩
 refine ⟨⟨(hle14.trans hle15),t2⟩,(Za8 21 kr rfl kr kr (ZF [_,_] 5 [_,_] rfl rfl ZcE rfl rfl rfl rfl rfl rfl rfl rfl ?_))⟩
 refine aA 22 rfl (h:=Zz kr kr ?_)
 refine Zj (tL6 (Za (xW Z4 (h:=x1 ZcJ 4 (h:=xM (h:=xL [_,_] ZbA 5 (h:=?_)))))))
 obtain ⟨bb17,_,hp17,⟨qg17,cg17,qm17,cm17,rfl,hg17,hm17,hb17,hb17b⟩,hw17,hc17⟩:=hs9.row hf0
 have hg17n:=hg17.len
 have hm17n:=hm17.len
 have hm17s:=Z7 hm17
 refine xIp hp17 Tryz.underlying24 Zbq (h:=xW ZbC (h:=Zn (ZeJ (k:=((atF x s 4).1).toNat) (off:=3) (⟨f.owner,f.name,f.grants,(Zbo ⟨f.next,f.mail⟩ (ZaN set f.mail.length) how fl).1.next,(Zbo ⟨f.next,f.mail⟩ (ZaN set f.mail.length) how fl).1.mail⟩) [_,_] 3 hs9 hp17 hf0 rfl rfl ZcE rfl rfl rfl rfl rfl rfl (by rintro _ ⟨_,_,_,_,rfl,e1,_,e3,e4⟩;exact ⟨_,_,_,_,rfl,e1,hs15,e3,e4⟩) (fun l18 hv18=>?_))))
 refine tL6 (Za (xL [_,_,_,_,_] ZW 4 (h:=Z1 3 rfl hv18 Ze.mono om3 (fun B19 hle19 hr19=>?_))))
 obtain ⟨hs,hu9,hi9⟩:=up3 hle19 hs hu9 hi9
 have hr19n:=hr19.len
 refine xS [_,_,_,_,_] 2 [_,_,_,_,_] Zaq (h:=?_)
 rw [hse]
 refine xA (h:=tL6 (Zd ?_))
 exact Zas .ret (.inl rfl) [_,_] [] rfl ⟨⟨_,rfl,.inr ⟨[_,_,_,_,_],ZW,Z9 2 rfl rfl rfl,rfl⟩⟩,rfl,trivial⟩ ⟨rfl,_,_,_,_,_,_,(by first | rfl | (simp only [DHost.withFolders,List.length_set];rfl)),hu9,hr19,hi9,by first | assumption | (rw [ZR.2.2.1];assumption)⟩
 refine (Zai (l:=[_,_]) rfl rfl Ze6 rfl (fun b20=>⟨⟨hle14,t2⟩,(Zq 16 kr rfl kr (Zef rfl rfl Zvs rfl (Zga _ _ (⟨f.next,f.mail⟩:DBox) _ _ (ZaN set f.mail.length) how fl _ hm13 hs14) ?_))⟩))
 intro v21 B21 hle21
 rintro ⟨a21,c21,rfl,hs21⟩
 replace hs:=up1 hle21 hs
 replace hm13:=hm13.mono ZN.mono hle21
 replace hs9:=hs9.mono Ze.mono hle21
 replace hu9:=hu9.mono Zs.mono hle21
 replace hi9:=hi9.mono Zw.mono hle21
 have hs21n:=hs21.len
 refine ⟨⟨(hle14.trans hle21),t2⟩,(aM 17 rfl (h:=aE 18 rfl (h:=aE 19 rfl (h:=Za8 21 kr rfl kr kr (ZF [_,_] 5 [_,_] rfl rfl ZcE rfl rfl rfl rfl rfl rfl rfl rfl ?_)))))⟩
 refine aA 22 rfl (h:=Zz kr kr ?_)
 refine Zj (tL6 (Za (xW Z4 (h:=x1 ZcJ 4 (h:=xM (h:=xL [_,_] ZbA 5 (h:=?_)))))))
 obtain ⟨bb22,_,hp22,⟨qg22,cg22,qm22,cm22,rfl,hg22,hm22,hb22,hb22b⟩,hw22,hc22⟩:=hs9.row hf0
 have hg22n:=hg22.len
 have hm22n:=hm22.len
 have hm22s:=Z7 hm22
 refine xIp hp22 Tryz.underlying24 Zbq (h:=xW ZbC (h:=Zn (ZeJ (k:=((atF x s 4).1).toNat) (off:=3) (⟨f.owner,f.name,f.grants,(Zbo ⟨f.next,f.mail⟩ (ZaN set f.mail.length) how fl).1.next,(Zbo ⟨f.next,f.mail⟩ (ZaN set f.mail.length) how fl).1.mail⟩) [_,_] 3 hs9 hp22 hf0 rfl rfl ZcE rfl rfl rfl rfl rfl rfl (by rintro _ ⟨_,_,_,_,rfl,e1,_,e3,e4⟩;exact ⟨_,_,_,_,rfl,e1,hs21,e3,e4⟩) (fun l23 hv23=>?_))))
 refine tL6 (Za (xL [_,_,_,_,_] ZW 4 (h:=Z1 3 rfl hv23 Ze.mono om3 (fun B24 hle24 hr24=>?_))))
 obtain ⟨hs,hu9,hi9⟩:=up3 hle24 hs hu9 hi9
 have hr24n:=hr24.len
 refine xS [_,_,_,_,_] 2 [_,_,_,_,_] Zaq (h:=?_)
 rw [hse]
 refine xA (h:=tL6 (Zd ?_))
 exact Zas .ret (.inl rfl) [_,_] [] rfl ⟨⟨_,rfl,.inr ⟨[_,_,_,_,_],ZW,Z9 2 rfl rfl rfl,rfl⟩⟩,rfl,trivial⟩ ⟨rfl,_,_,_,_,_,_,(by first | rfl | (simp only [DHost.withFolders,List.length_set];rfl)),hu9,hr24,hi9,by first | assumption | (rw [ZR.2.2.1];assumption)⟩
 refine (Zai (l:=[_,_]) rfl rfl Ze6 rfl (fun b25=>⟨⟨Kn.le.refl _,t2⟩,(Zq 13 kr rfl kr (Zef rfl rfl Zvr rfl (Zla _ _ (⟨f.next,f.mail⟩:DBox) _ _ set _ hm13 hs) ?_))⟩))
 intro v26 B26 hle26
 rintro ⟨a26,c26,rfl,hs26⟩
 replace hm13:=hm13.mono ZN.mono hle26
 replace hs9:=hs9.mono Ze.mono hle26
 replace hu9:=hu9.mono Zs.mono hle26
 replace hi9:=hi9.mono Zw.mono hle26
 have hs26n:=hs26.len
 refine ⟨⟨hle26,t2⟩,(Zq 16 kr rfl kr (Zef rfl rfl Zvs rfl (Zga _ _ (⟨f.next,f.mail⟩:DBox) _ _ (ZaN set f.mail.length) how fl _ hm13 hs26) ?_))⟩
 intro v27 B27 hle27
 rintro ⟨a27,c27,rfl,hs27⟩
 replace hs9:=hs9.mono Ze.mono hle27
 replace hu9:=hu9.mono Zs.mono hle27
 replace hi9:=hi9.mono Zw.mono hle27
 have hs27n:=hs27.len
 refine ⟨⟨(hle26.trans hle27),t2⟩,(aM 17 rfl (h:=aE 18 rfl (h:=aE 19 rfl (h:=Za8 21 kr rfl kr kr (ZF [_,_] 5 [_,_] rfl rfl ZcE rfl rfl rfl rfl rfl rfl rfl rfl ?_)))))⟩
 refine aA 22 rfl (h:=Zz kr kr ?_)
 refine Zj (tL6 (Za (xW Z4 (h:=x1 ZcJ 4 (h:=xM (h:=xL [_,_] ZbA 5 (h:=?_)))))))
 obtain ⟨bb28,_,hp28,⟨qg28,cg28,qm28,cm28,rfl,hg28,hm28,hb28,hb28b⟩,hw28,hc28⟩:=hs9.row hf0
 have hg28n:=hg28.len
 have hm28n:=hm28.len
 have hm28s:=Z7 hm28
 refine xIp hp28 Tryz.underlying24 Zbq (h:=xW ZbC (h:=Zn (ZeJ (k:=((atF x s 4).1).toNat) (off:=3) (⟨f.owner,f.name,f.grants,(Zbo ⟨f.next,f.mail⟩ (ZaN set f.mail.length) how fl).1.next,(Zbo ⟨f.next,f.mail⟩ (ZaN set f.mail.length) how fl).1.mail⟩) [_,_] 3 hs9 hp28 hf0 rfl rfl ZcE rfl rfl rfl rfl rfl rfl (by rintro _ ⟨_,_,_,_,rfl,e1,_,e3,e4⟩;exact ⟨_,_,_,_,rfl,e1,hs27,e3,e4⟩) (fun l29 hv29=>?_))))
 refine tL6 (Za (xL [_,_,_,_,_] ZW 4 (h:=Z1 3 rfl hv29 Ze.mono om3 (fun B30 hle30 hr30=>?_))))
 obtain ⟨hu9,hi9⟩:=up2 hle30 hu9 hi9
 have hr30n:=hr30.len
 refine xS [_,_,_,_,_] 2 [_,_,_,_,_] Zaq (h:=?_)
 rw [hse]
 refine xA (h:=tL6 (Zd ?_))
 exact Zas .ret (.inl rfl) [_,_] [] rfl ⟨⟨_,rfl,.inr ⟨[_,_,_,_,_],ZW,Z9 2 rfl rfl rfl,rfl⟩⟩,rfl,trivial⟩ ⟨rfl,_,_,_,_,_,_,(by first | rfl | (simp only [DHost.withFolders,List.length_set];rfl)),hu9,hr30,hi9,by first | assumption | (rw [ZR.2.2.1];assumption)⟩

theorem Zo4 (q1 q2 q3:Option Addr) (c1 c2 c3:Nat) (x:DHost) (s:DSess) (hs1:s.user.length≤2000000) (hs2:s.owner.length≤2000000) (hs3:s.name.length≤2000000) (hd:x.domain.length≤2000000) (B:Kn) (hu:SlK B q1 c1 3 Zs x.users) (hf:SlK B q2 c2 5 Ze x.folders) (hi:SlK B q3 c3 4 Zw x.queue.items):Zv (pj J) 179 [.agg #[str x.domain,.slice q1 x.users.length c1,.slice q2 x.folders.length c2,.int .i64 x.queue.next,.slice q3 x.queue.items.length c3],.agg #[str s.user,str s.owner,str s.name]] B [] (fun v B' Ls=>Ls=[]∧∃p1 d1 p2 d2 p3 d3 p4 d4,v = .tuple #[.agg #[str (ZaX x s).1.domain,.slice p1 (ZaX x s).1.users.length d1,.slice p2 (ZaX x s).1.folders.length d2,.int .i64 (ZaX x s).1.queue.next,.slice p3 (ZaX x s).1.queue.items.length d3],.slice p4 (ZaX x s).2.1.length d4,.int .i64 (ZaX x s).2.2]∧SlK B' p1 d1 3 Zs (ZaX x s).1.users∧SlK B' p2 d2 5 Ze (ZaX x s).1.folders∧SlK B' p3 d3 4 Zw (ZaX x s).1.queue.items∧SlK B' p4 d4 1 Zcf (ZaX x s).2.1∧(ZaX x s).1.domain.length≤2000000):=by
 refine cB 48 Tryz.func179 (h:=?_)
 have hun:=hu.len
 have hfn:=hf.len
 have hin:=hi.len
 have hix:=ZcY (inF s.owner s.name) x.folders
 refine Za (xBx [_,_,_,_,_] (h:=fun b1=>xBx [_,_,_] (h:=fun b2=>xAl [_,_,_,_,_] Za2 (h:=fun b3=>xA (h:=xA (h:=tL3 (Zg (Za (xL [_,_,_,_,_] ZW 0 (h:=xR Zsn rfl (ZbK _ _ _ _ _ _ x om2 _ hu hf hi) (h:=?_)))))))))))
 refine xN (h:=Zb rfl (fun g1=>?_) (fun g1=>?_))
 try simp only [sQ,ne_eq] at g1
 refine Za (xB [] [_,_,_,_,_] [_,_,_,_,_] Zd6 Za2 (h:=xBs [] [] Tryz.underlying185 sz3 zo3 (h:=fun b5=>Z1 3 rfl (ZY.lit0 (R:=Zcf) (w:=1)) Zcf.mono om3 (fun B6 hle6 hr6=>?_))))
 obtain ⟨hu,hf,hi⟩:=up3 hle6 hu hf hi
 have hr6n:=hr6.len
 refine xS [_,_,_,_,_] 2 [_,_,_,_,_] Zaq (h:=?_)
 rw [ZaX,if_pos g1]
 refine xA (h:=xA (h:=tL4 (Zd (Zp ?_))))
 exact Zas .ret (.inl rfl) [_,_,_] [] rfl ⟨⟨_,rfl,.inr ⟨[_,_,_,_,_],ZW,Z9 2 rfl rfl rfl,rfl⟩⟩,rfl,rfl,trivial⟩ ⟨rfl,none,0,none,0,none,0,_,_,rfl,SlK.nil,SlK.nil,SlK.nil,hr6,by simp [ZaT]⟩
 try simp only [sQ,ne_eq] at g1
 have hok:Zx x=true:=by simpa using g1
 have hrr:=ZcM hok
 have hnn : ¬ Zx x=false:=by simp [hok]
 refine wSk (Za (xL [_,_,_,_,_] ZW 0 (h:=xL [_,_,_] Zpp 1 (h:=xR Zvt rfl (ZnA _ _ _ _ _ _ x s om2 om2 om2 16 hrr oz _ hu hf) (h:=?_)))))
 refine xM (h:=xE (h:=xE (h:=xA (h:=xA (h:=Za (xL [_,_,_,_,_] ZW 0 (h:=xC ZoL rfl (Zbn _ _ _ _ _ _ x _ hu hf hi) (h:=?_))))))))
 rintro _ B8 _ hle8 ⟨l8,a8,c8,q18,c18,q38,c38,rfl,rfl,hu8,hs8,hi8⟩
 replace hf:=up1 hle8 hf
 have hu8n:=hu8.len
 have hi8n:=hi8.len
 refine xAl [_,_,_,_,_] Za2 (h:=fun b9=>xS [_,_,_,_,_] 4 [_,_,_,_,_] Zaq (h:=tL5 (Zg (Za (xM (h:=Zbm (h:=Zb rfl (fun g5=>?_) (fun g5=>?_))))))))
 try simp only [sQ,ne_eq] at g5
 refine Za (xL [_,_,_,_,_] ZW 4 (h:=Z1 3 rfl hs8 Ze.mono om3 (fun B10 hle10 hr10=>?_)))
 obtain ⟨hf,hu8,hi8⟩:=up3 hle10 hf hu8 hi8
 have hr10n:=hr10.len
 refine xBs [] [] Tryz.underlying185 sz3 zo3 (h:=fun b11=>Z1 5 rfl (ZY.lit0 (R:=Zcf) (w:=1)) Zcf.mono om3 (fun B12 hle12 hr12=>?_))
 obtain ⟨hf,hu8,hr10,hi8⟩:=up4 hle12 hf hu8 hr10 hi8
 have hr12n:=hr12.len
 refine xM (h:=?_)
 rw [ZaX,if_neg hnn,if_pos g5]
 refine xS [_,_,_,_,_] 2 [_,_,_,_,_] Zaq (h:=xA (h:=xA (h:=tL6 (Zd (Zp ?_)))))
 exact Zas .ret (.inl rfl) [_,_,_] [] rfl ⟨⟨_,rfl,.inr ⟨[_,_,_,_,_],ZW,Z9 2 rfl rfl rfl,rfl⟩⟩,rfl,rfl,trivial⟩ ⟨rfl,_,_,_,_,_,_,_,_,rfl,hu8,hr10,hi8,hr12,oy⟩
 try simp only [sQ,ne_eq] at g5
 obtain ⟨hat,hk0,_,_,_⟩:=Zim g5
 obtain ⟨f,hf0⟩ :∃f,x.folders[(atF x s 16).1.toNat]? = some f:=⟨_,List.getElem?_eq_getElem oz⟩
 have hse:ZaX x s=(x.withFolders (x.folders.set (atF x s 16).1.toNat (f.withBox (expunge ⟨f.next,f.mail⟩).1)),(expunge ⟨f.next,f.mail⟩).2,0):=by rw [ZaX,if_neg hnn,if_neg (fun h=>h g5),ZdD hf0,ZiK hf0];rfl
 have hxl:(expunge (⟨f.next,f.mail⟩:DBox)).1.mail.length≤f.mail.length∧(expunge (⟨f.next,f.mail⟩:DBox)).2.length≤f.mail.length:=ZnP (⟨f.next,f.mail⟩:DBox)
 have hfb:Zbk (⟨f.next,f.mail⟩:DBox)=true:=Zby (ZaK hok hf0)
 have hfm:f.mail.length≤10:=(Zca hfb).2.2
 refine wSk (Za (xW Z4 (h:=x1 ZcJ 0 (h:=xM (h:=?_)))))
 obtain ⟨bb13,oo13,rfl⟩:=hf.base hf0
 obtain ⟨_,⟨qg14,cg14,qm14,cm14,rfl,hg14,hm14,hb14,hb14b⟩,hc14⟩:=hf.elem hf0
 have hg14n:=hg14.len
 have hm14n:=hm14.len
 have hm14s:=Z7 hm14
 refine xIx Tryz.underlying24 Zbq (h:=xW ZbC (h:=yL [_,_] ZbA hc14 3 (h:=xC Zlp rfl (ZcI _ _ (⟨f.next,f.mail⟩:DBox) _ hm14) (h:=?_))))
 rintro _ B15 _ hle15 ⟨l15,a15,c15,l15b,a15b,c15b,rfl,rfl,hs15,hs15b⟩
 replace hs8:=hs8.mono Ze.mono hle15
 replace hu8:=hu8.mono Zs.mono hle15
 replace hi8:=hi8.mono Zw.mono hle15
 replace hs15:=hs15.anyK (B':=B15) ZN.any
 replace hs15b:=hs15b.anyK (B':=B15) Zcf.any
 refine xM (h:=xE (h:=Z1 5 rfl hs15 ZN.mono om3 (fun B16 hle16 hr16=>?_)))
 replace hs8:=hs8.mono Ze.mono hle16
 replace hu8:=hu8.mono Zs.mono hle16
 replace hi8:=hi8.mono Zw.mono hle16
 replace hs15b:=hs15b.mono Zcf.mono hle16
 have hr16n:=hr16.len
 refine Zn (Zix rfl rfl rfl rfl ?_)
 refine Z1 6 rfl hs15b Zcf.mono (by first | omega | decide | (simp;done) | (simp;omega)) (fun B17 hle17 hr17=>?_)
 replace hr16:=hr16.mono ZN.mono hle17
 replace hs8:=hs8.mono Ze.mono hle17
 replace hu8:=hu8.mono Zs.mono hle17
 replace hi8:=hi8.mono Zw.mono hle17
 have hr17n:=hr17.len
 refine xAl [_,_] Ze6 (h:=fun b18=>xS [_,_] 7 [_,_] ZcE (h:=xA (h:=tL8 (Za (xW Z4 (h:=x1 ZcJ 4 (h:=xM (h:=xL [_,_] ZbA 7 (h:=?_)))))))))
 obtain ⟨bb19,_,hp19,⟨qg19,cg19,qm19,cm19,rfl,hg19,hm19,hb19,hb19b⟩,hw19,hc19⟩:=hs8.row hf0
 have hg19n:=hg19.len
 have hm19n:=hm19.len
 have hm19s:=Z7 hm19
 refine xIp hp19 Tryz.underlying24 Zbq (h:=xW ZbC (h:=Zn (ZeJ (k:=((atF x s 16).1).toNat) (off:=3) (⟨f.owner,f.name,f.grants,(expunge ⟨f.next,f.mail⟩).1.next,(expunge ⟨f.next,f.mail⟩).1.mail⟩) [_,_] 3 hs8 hp19 hf0 rfl rfl ZcE rfl rfl rfl rfl rfl rfl (by rintro _ ⟨_,_,_,_,rfl,e1,_,e3,e4⟩;exact ⟨_,_,_,_,rfl,e1,hr16,e3,e4⟩) (fun l20 hv20=>?_))))
 refine tL8 (Za (xL [_,_,_,_,_] ZW 4 (h:=Z1 3 rfl hv20 Ze.mono om3 (fun B21 hle21 hr21=>?_))))
 obtain ⟨hr17,hu8,hi8⟩:=up3 hle21 hr17 hu8 hi8
 have hr21n:=hr21.len
 refine xM (h:=?_)
 rw [hse]
 refine xS [_,_,_,_,_] 2 [_,_,_,_,_] Zaq (h:=xA (h:=xA (h:=tL8 (Zd ?_))))
 exact Zas .ret (.inl rfl) [_,_,_] [] rfl ⟨⟨_,rfl,.inr ⟨[_,_,_,_,_],ZW,Z9 2 rfl rfl rfl,rfl⟩⟩,rfl,rfl,trivial⟩ ⟨rfl,_,_,_,_,_,_,_,_,(by first | rfl | (simp only [DHost.withFolders,List.length_set];rfl)),hu8,hr21,hi8,hr17,oy⟩

theorem Zo6 (q1 q2 q3:Option Addr) (c1 c2 c3:Nat) (x:DHost) (s:DSess) (hs1:s.user.length≤2000000) (hs2:s.owner.length≤2000000) (hs3:s.name.length≤2000000) (q4:Option Addr) (c4:Nat) (set:List DSpan) (o n:Str) (hol:o.length≤2000000) (hnl:n.length≤2000000) (hd:x.domain.length≤2000000) (B:Kn) (hu:SlK B q1 c1 3 Zs x.users) (hf:SlK B q2 c2 5 Ze x.folders) (hi:SlK B q3 c3 4 Zw x.queue.items) (hs:SlK B q4 c4 2 ZjU set):Zv (pj J) 180 [.agg #[str x.domain,.slice q1 x.users.length c1,.slice q2 x.folders.length c2,.int .i64 x.queue.next,.slice q3 x.queue.items.length c3],.agg #[str s.user,str s.owner,str s.name],.slice q4 set.length c4,str o,str n] B [] (fun v B' Ls=>Ls=[]∧∃p1 d1 p2 d2 p3 d3,v = .tuple #[.agg #[str (ZeU x s set o n).1.domain,.slice p1 (ZeU x s set o n).1.users.length d1,.slice p2 (ZeU x s set o n).1.folders.length d2,.int .i64 (ZeU x s set o n).1.queue.next,.slice p3 (ZeU x s set o n).1.queue.items.length d3],.int .i64 (ZeU x s set o n).2]∧SlK B' p1 d1 3 Zs (ZeU x s set o n).1.users∧SlK B' p2 d2 5 Ze (ZeU x s set o n).1.folders∧SlK B' p3 d3 4 Zw (ZeU x s set o n).1.queue.items∧(ZeU x s set o n).1.domain.length≤2000000):=by
 refine cB 102 Tryz.func180 (h:=?_)
 have hun:=hu.len
 have hfn:=hf.len
 have hin:=hi.len
 have hsn:=hs.len
 have hix:=ZcY (inF s.owner s.name) x.folders
 have hix2:=ZcY (inF o n) x.folders
 refine Za (xBx [_,_,_,_,_] (h:=fun b1=>xBx [_,_,_] (h:=fun b2=>xAl [_,_,_,_,_] Za2 (h:=fun b3=>xA (h:=tL3 (Zg (Za (xL [_,_,_,_,_] ZW 0 (h:=xR Zsn rfl (ZbK _ _ _ _ _ _ x om2 _ hu hf hi) (h:=?_))))))))))
 refine xN (h:=xM (h:=Zo (d:=24) rfl (fun g1=>?_) (fun g1=>?_)))
 try simp only [sQ,ne_eq] at g1
 rw [ZeU,if_pos (by simp [g1])]
 refine xP (h:=xP (h:=xP (h:=xT (h:=Zb (t:=true) rfl (fun _=>Za (xB [] [_,_,_,_,_] [_,_,_,_,_] Zd6 Za2 (h:=xS [_,_,_,_,_] 2 [_,_,_,_,_] Zaq (h:=xA (h:=tL3 (Zd (Zp ?_))))))) (fun h=>Bool.noConfusion h)))))
 exact Zas .ret (.inl rfl) [_,_] [] rfl ⟨⟨_,rfl,.inr ⟨[_,_,_,_,_],ZW,Z9 2 rfl rfl rfl,rfl⟩⟩,rfl,trivial⟩ ⟨rfl,none,0,none,0,none,0,rfl,SlK.nil,SlK.nil,SlK.nil,by simp [ZaT]⟩
 try simp only [sQ,ne_eq] at g1
 refine xM (h:=xR Zvu rfl (ZiH _ _ set _ hs) (h:=xN (h:=xF (h:=Zb rfl (fun g2=>?_) (fun g2=>?_)))))
 try simp only [sQ,ne_eq] at g2
 rw [ZeU,if_pos (by simp [g2])]
 refine Za (xB [] [_,_,_,_,_] [_,_,_,_,_] Zd6 Za2 (h:=xS [_,_,_,_,_] 2 [_,_,_,_,_] Zaq (h:=xA (h:=tL3 (Zd (Zp ?_))))))
 exact Zas .ret (.inl rfl) [_,_] [] rfl ⟨⟨_,rfl,.inr ⟨[_,_,_,_,_],ZW,Z9 2 rfl rfl rfl,rfl⟩⟩,rfl,trivial⟩ ⟨rfl,none,0,none,0,none,0,rfl,SlK.nil,SlK.nil,SlK.nil,by simp [ZaT]⟩
 try simp only [sQ,ne_eq] at g2
 have hok:Zx x=true:=by simpa using g1
 have hrr:=ZcM hok
 have hnn : ¬ ¬ (Zx x=true∧ZiJ set=true):=fun h=>h ⟨hok,by simpa using g2⟩
 refine wSk (Za (xL [_,_,_,_,_] ZW 0 (h:=xL [_,_,_] Zpp 1 (h:=xR Zvt rfl (ZnA _ _ _ _ _ _ x s om2 om2 om2 2 hrr oz _ hu hf) (h:=?_)))))
 refine xM (h:=xE (h:=xE (h:=xA (h:=xA (h:=Zg (Za (xM (h:=Zbm (h:=Zb rfl (fun g5=>?_) (fun g5=>?_))))))))))
 try simp only [sQ,ne_eq] at g5
 refine Za (xL [_,_,_,_,_] ZW 0 (h:=xC ZoL rfl (Zbn _ _ _ _ _ _ x _ hu hf hi) (h:=?_)))
 rintro _ B7 _ hle7 ⟨l7,a7,c7,q17,c17,q37,c37,rfl,rfl,hu7,hs7,hi7⟩
 obtain ⟨hu,hf,hi,hs⟩:=up4 hle7 hu hf hi hs
 have hu7n:=hu7.len
 have hi7n:=hi7.len
 refine Z1 3 rfl hs7 Ze.mono om3 (fun B8 hle8 hr8=>?_)
 obtain ⟨hu,hf,hi,hs,hu7,hi7⟩:=up6 hle8 hu hf hi hs hu7 hi7
 have hr8n:=hr8.len
 refine xM (h:=?_)
 rw [ZeU,if_neg hnn,if_pos g5]
 refine xS [_,_,_,_,_] 2 [_,_,_,_,_] Zaq (h:=xA (h:=tL4 (Zd (Zp ?_))))
 exact Zas .ret (.inl rfl) [_,_] [] rfl ⟨⟨_,rfl,.inr ⟨[_,_,_,_,_],ZW,Z9 2 rfl rfl rfl,rfl⟩⟩,rfl,trivial⟩ ⟨rfl,_,_,_,_,_,_,(by first | rfl | (simp only [DHost.withFolders,List.length_set];rfl)),hu7,hr8,hi7,by first | assumption | (rw [ZR.2.2.1];assumption)⟩
 try simp only [sQ,ne_eq] at g5
 obtain ⟨hat,hk0,_,_,_⟩:=Zim g5
 obtain ⟨f,hf0⟩ :∃f,x.folders[(atF x s 2).1.toNat]? = some f:=⟨_,List.getElem?_eq_getElem oz⟩
 have hfb:Zbk (⟨f.next,f.mail⟩:DBox)=true:=Zby (ZaK hok hf0)
 have hnl3:=Zph set f.mail.length
 have hnl4:f.mail.length≤10:=(Zca hfb).2.2
 refine wSk (Za (xL [_,_,_,_,_] ZW 0 (h:=xM (h:=xM (h:=xR Zvn rfl (ZdO _ _ _ _ _ _ x o n om2 om2 _ hf) (h:=?_))))))
 refine xA (h:=Za (xL [_,_,_,_,_] ZW 0 (h:=xW ZnL (h:=x1 lk9 1 (h:=xM (h:=xR ZrO rfl (Zey _ _ _ _ _ _ x s.user (ZaI (inF o n) x.folders) 8 oz hrr oz _ hu hf) (h:=?_)))))))
 refine xA (h:=Za (xL [_,_,_,_,_] ZW 0 (h:=xC ZoL rfl (Zbn _ _ _ _ _ _ x _ hu hf hi) (h:=?_))))
 rintro _ B11 _ hle11 ⟨l11,a11,c11,q111,c111,q311,c311,rfl,rfl,hu11,hs11,hi11⟩
 obtain ⟨hu,hf,hi,hs⟩:=up4 hle11 hu hf hi hs
 have hu11n:=hu11.len
 have hi11n:=hi11.len
 refine Z1 3 rfl hs11 Ze.mono om3 (fun B12 hle12 hr12=>?_)
 obtain ⟨hu,hf,hi,hs,hu11,hi11⟩:=up6 hle12 hu hf hi hs hu11 hi11
 have hr12n:=hr12.len
 refine xAl [_,_,_,_,_] Za2 (h:=fun b13=>xS [_,_,_,_,_] 4 [_,_,_,_,_] Zaq (h:=tL5 (Za (xW Z4 (h:=x1 ZcJ 0 (h:=xM (h:=?_)))))))
 obtain ⟨bb14,oo14,rfl⟩:=hf.base hf0
 obtain ⟨_,⟨qg15,cg15,qm15,cm15,rfl,hg15,hm15,hb15,hb15b⟩,hc15⟩:=hf.elem hf0
 have hg15n:=hg15.len
 have hm15n:=hm15.len
 have hm15s:=Z7 hm15
 refine xIx Tryz.underlying24 Zbq (h:=xW ZbC (h:=yL [_,_] ZbA hc15 3 (h:=xM (h:=xQ Zvr rfl (Zla _ _ (⟨f.next,f.mail⟩:DBox) _ _ set _ hm15 hs) (h:=?_)))))
 intro v16 B16 hle16
 rintro ⟨a16,c16,rfl,hs16⟩
 obtain ⟨hu,hf,hi,hu11,hr12,hi11⟩:=up6 hle16 hu hf hi hu11 hr12 hi11
 have hs16n:=hs16.len
 refine xA (h:=Zg (Za (xA (h:=Zl (ZO (α:=GCp) [0,1,2,3,4,5,6,10,11,12,14,15,16,28,37] (fun g=>[(13,.int .i64 g.c),(17,.int .i64 g.k)]) [4] (fun g=>[Zah b13 [str g.x.domain,.slice g.q1 g.x.users.length g.c1,.slice g.q2 g.x.folders.length g.c2,.int .i64 g.x.queue.next,.slice g.q3 g.x.queue.items.length g.c3] 29]) (fun g Bx=>g.k≤(ZaN set f.mail.length).length∧(g.x,g.c)=(((ZaN set f.mail.length).take g.k).map (Zdh f.mail)).foldl (ZbT (ZaI (inF o n) x.folders).toNat) (x,(Zj5 x.users x.folders s.user (ZaI (inF o n) x.folders) 8))∧(g.c=0→(Zj5 x.users x.folders s.user (ZaI (inF o n) x.folders) 8)=0)∧Zx g.x=true∧g.x.domain.length≤2000000∧g.x.folders.length=x.folders.length∧SlK Bx g.q1 g.c1 3 Zs g.x.users∧SlK Bx g.q2 g.c2 5 Ze g.x.folders∧SlK Bx g.q3 g.c3 4 Zw g.x.queue.items) (fun g=>(ZaN set f.mail.length).length - g.k) ⟨0,x,(Zj5 x.users x.folders s.user (ZaI (inF o n) x.folders) 8),_,_,_,_,_,_⟩ t2 rfl (⟨Nat.zero_le _,rfl,id,hok,hd,rfl,hu11,hr12,hi11⟩) (fun g B17 hle17 hI=>?_))))))
 obtain ⟨hgk,hgs,hgc,hgo,hgd,hgl,hgu,hgf,hgi⟩:=hI
 have hgun:=hgu.len
 have hgin:=hgi.len
 obtain ⟨hu,hf,hi,hs16⟩:=up4 hle17 hu hf hi hs16
 refine ZM [(0,_),(1,_),(2,_),(3,_),(4,_),(5,_),(6,_),(10,_),(11,_),(12,_),(13,_),(14,_),(15,_),(16,_),(17,_),(28,_),(37,_)] [_,_,_,_,_] t17 rfl (Zg (Za (xM (h:=xM (h:=xV Tryz.underlying185 (h:=Zaf (h:=xM (h:=Zo (d:=64) rfl (fun g6=>?_) (fun g6=>?_)))))))))
 try simp only [sQ,ne_eq] at g6
 refine xM (h:=ZE (h:=xT (h:=Zb rfl (fun g7=>?_) (fun g7=>?_))))
 try simp only [sQ,ne_eq] at g7
 obtain ⟨_,hk8,_⟩:=ZeH (hgc g7)
 obtain ⟨y,hy⟩:=Zag (xs:=ZaN set f.mail.length) (i:=g.k) oz
 have hyb:=Zkr (List.mem_of_getElem? hy)
 refine wSk (Zg (Zl (Zg (Z0 (keeps _ [0] _) mo kr ⟨Kn.le.refl _,Zad.refl _ _⟩ (fun _ _=>?_)))))
 refine aW 0 rfl Z4 (h:=aT 1 rfl (ZB fun D B L hI=>Zf rfl rfl ZcJ rfl (atL 0 (hI.2.1.trans rfl) rfl rfl) r4) (h:=aM 2 rfl (h:=?_)))
 obtain ⟨_,⟨qg18,cg18,qm18,cm18,rfl,hg18,hm18,hb18,hb18b⟩,hc18⟩:=hf.elem hf0
 have hg18n:=hg18.len
 have hm18n:=hm18.len
 have hm18s:=Z7 hm18
 refine aIx 3 rfl Tryz.underlying24 Zbq (h:=aW 4 rfl ZbC (h:=aW 5 rfl ZaP (h:=aT 6 rfl (ZB fun D B L hI=>Zf rfl rfl Zfl rfl ((hc18.mono hI.1) _ 4 _ rfl) r4) (h:=aM 7 rfl (h:=aM 8 rfl (h:=?_))))))
 obtain ⟨bb19,oo19,rfl⟩:=hs16.base hy
 obtain ⟨_,rfl,hc20⟩:=hs16.elem hy
 refine aIx 9 rfl Tryz.underlying185 sz3 (h:=aT 10 rfl (ZB fun D B L hI=>Zf rfl rfl lk3 rfl ((hc20.mono hI.1) _ 0 _ rfl) r4) (h:=aU 11 rfl (h:=?_)))
 obtain ⟨m,hm⟩:=ZeB (xs:=f.mail) (i:=(y - 1)) om om
 obtain ⟨bb22,oo22,rfl⟩:=hm18.base hm
 obtain ⟨_,⟨rfl,hb23⟩,hc23⟩:=hm18.elem hm
 refine aIx 12 rfl Tryz.underlying38 Zgx (h:=?_)
 have hmo:=(ZdS hfb).1 m (List.mem_of_getElem? hm)
 have hmt:m.text.length≤20:=by simp only [ZbG,Bool.and_eq_true,decide_eq_true_eq] at hmo;exact hmo.2
 have hme:Zdh f.mail y=m:=by simp only [Zdh,hm]
 refine aT 13 rfl (ZB fun D B L hI=>ZT [_,_,_] rfl rfl Zpn rfl (ZiO (hc23.mono hI.1) 0 rfl rfl) r4) (h:=Zq 14 kr rfl kr (Zai (l:=[_,_,_]) rfl rfl ZlB rfl (fun b24=>?_)))
 refine ⟨⟨Kn.le.refl _,t1⟩,(ZU 15 kr rfl kr kr kr (ZF [_,_,_] 5 [_,_,_] rfl rfl Zgx rfl rfl rfl rfl rfl rfl rfl rfl ?_))⟩
 refine Zj (tL6 (Za (xL [_,_,_,_,_] ZW 4 (h:=xM (h:=xW Zjt (h:=x1 lk3 5 (h:=xW ZmC (h:=x1 lk9 5 (h:=xQ Zxh rfl (Zig _ _ _ _ _ _ g.x (ZaI (inF o n) x.folders) m.flags m.text om2 (oy) oz oz om2 _ hgu hgf hgi) (h:=?_))))))))))
 intro va Ba hlea
 rintro ⟨p1a,d1a,p2a,d2a,p3a,d3a,rfl,hua,hfa,hia,hda⟩
 obtain ⟨hu,hf,hi,hgu,hgf,hgi⟩:=up6 hlea hu hf hi hgu hgf hgi
 have huan:=hua.len
 have hfan:=hfa.len
 have hian:=hia.len
 refine xM (h:=xE (h:=xE (h:=xAl [_,_,_,_,_] Za2 (h:=fun b26=>xS [_,_,_,_,_] 6 [_,_,_,_,_] Zaq (h:=xA (h:=tL7 (Za (xL [_,_,_,_,_] ZW 6 (h:=xS [_,_,_,_,_] 4 [_,_,_,_,_] Zaq (h:=tL7 (Zc (xM (h:=xA (h:=ZA (Zj (Zc (xM (h:=xD (h:=xA (h:=?_))))))))))))))))))))
 exact ZD ⟨g.k+1,(Zam g.x (ZaI (inF o n) x.folders).toNat m.flags m.text).1,(Zam g.x (ZaI (inF o n) x.folders).toNat m.flags m.text).2,_,_,_,_,_,_⟩ [0,1,2,3,4] so2 ⟨so,by simp only [];rw [Zr0 hy,← hgs,hme,ZbT,if_pos g7],fun _=>hgc g7,Zic hgo (by simp only [ZbG,Bool.and_eq_true,decide_eq_true_eq] at hmo;simp only [ZaL,Bool.and_eq_true,decide_eq_true_eq];exact hmo.1.2) hmt,hda,by simp only [];rw [ZR.2.2.2];exact hgl,hua,hfa,hia⟩ t17 rfl
 try simp only [sQ,ne_eq] at g7
 have hfin:=Zmz (n:=n) hnn g5 hf0 (ZrZ hgs g7)
 refine ZS (Zae (ZX (ZI (Zj (Zg (Za (xM (h:=Zbm (h:=Zb rfl (fun g8=>?_) (fun g8=>by simp at g8;exact absurd g8 g7))))))))))
 try simp only [sQ,ne_eq] at g8
 refine Za (xL [_,_,_,_,_] ZW 0 (h:=xC ZoL rfl (Zbn _ _ _ _ _ _ x _ hu hf hi) (h:=?_)))
 rintro _ B27 _ hle27 ⟨l27,a27,c27,q127,c127,q327,c327,rfl,rfl,hu27,hs27,hi27⟩
 obtain ⟨hu,hf,hi,hgu,hgf,hgi⟩:=up6 hle27 hu hf hi hgu hgf hgi
 have hu27n:=hu27.len
 have hi27n:=hi27.len
 refine Z1 5 rfl hs27 Ze.mono om3 (fun B28 hle28 hr28=>?_)
 obtain ⟨hu,hf,hi,hu27,hi27,hgu⟩:=up6 hle28 hu hf hi hu27 hi27 hgu
 obtain ⟨hgf,hgi⟩:=up2 hle28 hgf hgi
 have hr28n:=hr28.len
 refine xM (h:=?_)
 rw [hfin,if_neg g7]
 refine xS [_,_,_,_,_] 2 [_,_,_,_,_] Zaq (h:=xA (h:=tL6 (Zd (Zp ?_))))
 exact Zas .ret (.inl rfl) [_,_] [] rfl ⟨⟨_,rfl,.inr ⟨[_,_,_,_,_],ZW,Z9 2 rfl rfl rfl,rfl⟩⟩,rfl,trivial⟩ ⟨rfl,_,_,_,_,_,_,(by first | rfl | (simp only [DHost.withFolders,List.length_set];rfl)),hu27,hr28,hi27,by first | assumption | (rw [ZR.2.2.1];assumption)⟩
 try simp only [sQ,ne_eq] at g6
 rw [List.take_of_length_le oz] at hgs
 have hfin:=Zmz (n:=n) hnn g5 hf0 hgs
 refine xP (h:=xP (h:=xF (h:=Zb (t:=false) rfl (fun h=>Bool.noConfusion h) (fun _=>ZS (Zae (ZX (ZI (Zj (Zg (Za (xM (h:=Zbm (h:=Zb rfl (fun g8=>?_) (fun g8=>?_))))))))))))))
 try simp only [sQ,ne_eq] at g8
 refine Za (xL [_,_,_,_,_] ZW 0 (h:=xC ZoL rfl (Zbn _ _ _ _ _ _ x _ hu hf hi) (h:=?_)))
 rintro _ B29 _ hle29 ⟨l29,a29,c29,q129,c129,q329,c329,rfl,rfl,hu29,hs29,hi29⟩
 obtain ⟨hgu,hgf,hgi⟩:=up3 hle29 hgu hgf hgi
 have hu29n:=hu29.len
 have hi29n:=hi29.len
 refine Z1 5 rfl hs29 Ze.mono om3 (fun B30 hle30 hr30=>?_)
 obtain ⟨hu29,hi29,hgu,hgf,hgi⟩:=up5 hle30 hu29 hi29 hgu hgf hgi
 have hr30n:=hr30.len
 refine xM (h:=?_)
 rw [hfin,if_neg g8]
 refine xS [_,_,_,_,_] 2 [_,_,_,_,_] Zaq (h:=xA (h:=tL6 (Zd (Zp ?_))))
 exact Zas .ret (.inl rfl) [_,_] [] rfl ⟨⟨_,rfl,.inr ⟨[_,_,_,_,_],ZW,Z9 2 rfl rfl rfl,rfl⟩⟩,rfl,trivial⟩ ⟨rfl,_,_,_,_,_,_,(by first | rfl | (simp only [DHost.withFolders,List.length_set];rfl)),hu29,hr30,hi29,by first | assumption | (rw [ZR.2.2.1];assumption)⟩
 try simp only [sQ,ne_eq] at g8
 rw [hfin,if_pos g8]
 refine wSk (Za (xL [_,_,_,_,_] ZW 4 (h:=xS [_,_,_,_,_] 2 [_,_,_,_,_] Zaq (h:=xA (h:=tL5 (Zd ?_))))))
 exact Zas .ret (.inl rfl) [_,_] [] rfl ⟨⟨_,rfl,.inr ⟨[_,_,_,_,_],ZW,Z9 2 rfl rfl rfl,rfl⟩⟩,rfl,trivial⟩ ⟨rfl,_,_,_,_,_,_,(by first | rfl | (simp only [DHost.withFolders,List.length_set];rfl)),hgu,hgf,hgi,by first | assumption | (rw [ZR.2.2.1];assumption)⟩

theorem ZwH (q1 q2 q3:Option Addr) (c1 c2 c3:Nat) (x:DHost) (e:DEvent) (he1:e.by_.length≤2000000) (he2:e.owner.length≤2000000) (he3:e.name.length≤2000000) (he4:e.to_.length≤2000000) (he5:e.text.length≤2000000) (hd:x.domain.length≤2000000) (B:Kn) (hu:SlK B q1 c1 3 Zs x.users) (hf:SlK B q2 c2 5 Ze x.folders) (hi:SlK B q3 c3 4 Zw x.queue.items):Zv (pj J) 155 [.agg #[str x.domain,.slice q1 x.users.length c1,.slice q2 x.folders.length c2,.int .i64 x.queue.next,.slice q3 x.queue.items.length c3],.agg #[.int .i64 e.kind,str e.by_,str e.owner,str e.name,str e.to_,str e.text,.int .i64 e.a,.int .i64 e.b]] B [] (fun v B' Ls=>Ls=[]∧∃p1 d1 p2 d2 p3 d3,v = .tuple #[.agg #[str (Zij x e).1.domain,.slice p1 (Zij x e).1.users.length d1,.slice p2 (Zij x e).1.folders.length d2,.int .i64 (Zij x e).1.queue.next,.slice p3 (Zij x e).1.queue.items.length d3],.int .i64 (Zij x e).2]∧SlK B' p1 d1 3 Zs (Zij x e).1.users∧SlK B' p2 d2 5 Ze (Zij x e).1.folders∧SlK B' p3 d3 4 Zw (Zij x e).1.queue.items∧(Zij x e).1.domain.length≤2000000):=by
 refine cB 124 Tryz.func155 (h:=?_)
 have hun:=hu.len
 have hfn:=hf.len
 have hin:=hi.len
 refine Za (xBx [_,_,_,_,_] (h:=fun b1=>xBx [_,_,_,_,_,_,_,_] (h:=fun b2=>xAl [_,_,_,_,_] Za2 (h:=fun b3=>xA (h:=tL3 (Za (xW Zgl (h:=x1 lk9 1 (h:=xW Zln (h:=x1 lk9 1 (h:=xW Zjv (h:=x1 lk9 1 (h:=xB [(0,_),(1,_),(2,_)] [_,_,_] [_,_,_] ZxL ZvU (h:=xAl [_,_,_] ZvU (h:=fun b4=>xS [_,_,_] 3 [_,_,_] ZxH (h:=tL4 (Za (xW Zbz (h:=x1 lk3 1 (h:=xW Zbz (h:=x1 lk3 1 (h:=xB [(0,_),(1,_)] [_,_] [_,_] ZxK ZvT (h:=xBs [(0,_)] [_,_] Tryz.underlying242 Zqz ZvT (h:=fun b5=>xA (h:=tL5 ?_)))))))))))))))))))))))))
 have hvq:ZY B (Zah b5 [.int .i64 e.a,.int .i64 e.a] 241) (some ⟨b5,0,none⟩) 1 241 2 ZjU [⟨e.a,e.a⟩]:=ZY.lit (rows:=[[.int .i64 e.a,.int .i64 e.a]]) (.cons rfl .nil) (by intro row hr;simp only [List.mem_cons,List.not_mem_nil,or_false] at hr;rcases hr with rfl;rfl)
 refine Zd0 4 rfl hvq ZjU.mono om3 (fun B6 hle6 hr6=>?_)
 obtain ⟨hu,hf,hi⟩:=up3 hle6 hu hf hi
 have hr6n:=hr6.len
 refine Zg (Za (xW Zce (h:=x1 lk3 1 (h:=tL5 (Zl (Za (ZE (h:=xA (h:=Zb rfl (fun k1=>?_) (fun k1=>?_))))))))))
 try simp only [sQ,ne_eq] at k1
 rw [Zij,if_pos k1]
 refine Za (xL [_,_,_,_,_] ZW 0 (h:=xW Zgl (h:=x1 lk9 1 (h:=xW Zjv (h:=x1 lk9 1 (h:=xQ Zyh rfl (Zl1 _ _ _ _ _ _ x e.by_ e.name om2 om2 om2 _ hu hf hi) (h:=?_)))))))
 intro v7 B7 hle7
 rintro ⟨p17,d17,p27,d27,p37,d37,rfl,hu7,hf7,hi7,hd7⟩
 obtain ⟨hu,hf,hi,hr6⟩:=up4 hle7 hu hf hi hr6
 have hu7n:=hu7.len
 have hf7n:=hf7.len
 have hi7n:=hi7.len
 refine xE (h:=xE (h:=xS [_,_,_,_,_] 2 [_,_,_,_,_] Zaq (h:=xA (h:=tL5 (Zd (ZH (Zp ?_)))))))
 exact Zas .ret (.inl rfl) [_,_] [] rfl ⟨⟨_,rfl,.inr ⟨[_,_,_,_,_],ZW,Z9 2 rfl rfl rfl,rfl⟩⟩,rfl,trivial⟩ ⟨rfl,_,_,_,_,_,_,rfl,hu7,hf7,hi7,oy⟩
 try simp only [sQ,ne_eq] at k1
 refine Za (ZE (h:=xA (h:=Zb rfl (fun k2=>?_) (fun k2=>?_))))
 try simp only [sQ,ne_eq] at k2
 rw [Zij,if_neg k1,if_pos k2]
 refine Za (xL [_,_,_,_,_] ZW 0 (h:=xW Zgl (h:=x1 lk9 1 (h:=xW Zln (h:=x1 lk9 1 (h:=xW Zjv (h:=x1 lk9 1 (h:=xW Zel (h:=x1 lk9 1 (h:=xW Zbz (h:=x1 lk3 1 (h:=xQ Zyg rfl (Znh _ _ _ _ _ _ x e.by_ e.owner e.name e.to_ e.a om2 om2 om2 om2 om2 _ hu hf hi) (h:=?_)))))))))))))
 intro v8 B8 hle8
 rintro ⟨p18,d18,p28,d28,p38,d38,rfl,hu8,hf8,hi8,hd8⟩
 obtain ⟨hu,hf,hi,hr6⟩:=up4 hle8 hu hf hi hr6
 have hu8n:=hu8.len
 have hf8n:=hf8.len
 have hi8n:=hi8.len
 refine xE (h:=xE (h:=xS [_,_,_,_,_] 2 [_,_,_,_,_] Zaq (h:=xA (h:=tL5 (Zd (ZH (Zp ?_)))))))
 exact Zas .ret (.inl rfl) [_,_] [] rfl ⟨⟨_,rfl,.inr ⟨[_,_,_,_,_],ZW,Z9 2 rfl rfl rfl,rfl⟩⟩,rfl,trivial⟩ ⟨rfl,_,_,_,_,_,_,rfl,hu8,hf8,hi8,oy⟩
 try simp only [sQ,ne_eq] at k2
 refine Za (ZE (h:=xA (h:=Zb rfl (fun k3=>?_) (fun k3=>?_))))
 try simp only [sQ,ne_eq] at k3
 rw [Zij,if_neg k1,if_neg k2,if_pos k3]
 refine Za (xL [_,_,_,_,_] ZW 0 (h:=xW Zgl (h:=x1 lk9 1 (h:=xW Zln (h:=x1 lk9 1 (h:=xW Zjv (h:=x1 lk9 1 (h:=xW Zbz (h:=x1 lk3 1 (h:=xW ZrD (h:=x1 lk9 1 (h:=xQ Zyf rfl (ZqF _ _ _ _ _ _ x e.by_ e.owner e.name e.a e.text om2 om2 om2 om2 om2 _ hu hf hi) (h:=?_)))))))))))))
 intro v9 B9 hle9
 rintro ⟨p19,d19,p29,d29,p39,d39,rfl,hu9,hf9,hi9,hd9⟩
 obtain ⟨hu,hf,hi,hr6⟩:=up4 hle9 hu hf hi hr6
 have hu9n:=hu9.len
 have hf9n:=hf9.len
 have hi9n:=hi9.len
 refine xE (h:=xE (h:=xS [_,_,_,_,_] 2 [_,_,_,_,_] Zaq (h:=xA (h:=tL5 (Zd (ZH (Zp ?_)))))))
 exact Zas .ret (.inl rfl) [_,_] [] rfl ⟨⟨_,rfl,.inr ⟨[_,_,_,_,_],ZW,Z9 2 rfl rfl rfl,rfl⟩⟩,rfl,trivial⟩ ⟨rfl,_,_,_,_,_,_,rfl,hu9,hf9,hi9,oy⟩
 try simp only [sQ,ne_eq] at k3
 refine Za (ZE (h:=xA (h:=Zb rfl (fun k4=>?_) (fun k4=>?_))))
 try simp only [sQ,ne_eq] at k4
 refine Za (xL [_,_,_,_,_] ZW 0 (h:=xW Zgl (h:=x1 lk9 1 (h:=xW Zel (h:=x1 lk9 1 (h:=xBs [(0,_)] [_] Tryz.underlying62 sz9 zo9 (h:=fun b10=>Z1 5 rfl (ZY.strs (ls:=([e.to_]:List Str)) (by first | decide | (simp;done) | (simp;omega))) Zbv.mono om3 (fun B11 hle11 hr11=>?_))))))))
 obtain ⟨hu,hf,hi,hr6⟩:=up4 hle11 hu hf hi hr6
 have hr11n:=hr11.len
 refine xW ZrD (h:=?_)
 rw [Zij,if_neg k1,if_neg k2,if_neg k3,if_pos k4]
 refine x1 lk9 1 (h:=xB [(0,_),(1,_),(2,_)] [_,_,_] [_,_,_] ZsQ ZoS (h:=xQ Zye rfl (ZlZ _ _ _ _ _ _ x _ _ (⟨e.by_,([e.to_]:List Str),e.text⟩) om2 _ hu hf hi hr11 om2 om2) (h:=?_)))
 intro v12 B12 hle12
 rintro ⟨p112,d112,p212,d212,p312,d312,rfl,hu12,hf12,hi12,hd12⟩
 obtain ⟨hu,hf,hi,hr6⟩:=up4 hle12 hu hf hi hr6
 have hu12n:=hu12.len
 have hf12n:=hf12.len
 have hi12n:=hi12.len
 refine xE (h:=xE (h:=xS [_,_,_,_,_] 2 [_,_,_,_,_] Zaq (h:=xA (h:=tL6 (Zd (ZH (Zp ?_)))))))
 exact Zas .ret (.inl rfl) [_,_] [] rfl ⟨⟨_,rfl,.inr ⟨[_,_,_,_,_],ZW,Z9 2 rfl rfl rfl,rfl⟩⟩,rfl,trivial⟩ ⟨rfl,_,_,_,_,_,_,rfl,hu12,hf12,hi12,oy⟩
 try simp only [sQ,ne_eq] at k4
 refine Za (ZE (h:=xA (h:=Zb rfl (fun k5=>?_) (fun k5=>?_))))
 try simp only [sQ,ne_eq] at k5
 rw [Zij,if_neg k1,if_neg k2,if_neg k3,if_neg k4,if_pos k5]
 refine Za (xL [_,_,_,_,_] ZW 0 (h:=xW Zbz (h:=x1 lk3 1 (h:=xW Zel (h:=x1 lk9 1 (h:=xQ en9 rfl (Zdn _ _ _ _ _ _ x e.a e.to_ om2 om2 _ hu hf hi) (h:=?_)))))))
 intro v13 B13 hle13
 rintro ⟨p113,d113,p213,d213,p313,d313,rfl,hu13,hf13,hi13,hd13⟩
 obtain ⟨hu,hf,hi,hr6⟩:=up4 hle13 hu hf hi hr6
 have hu13n:=hu13.len
 have hf13n:=hf13.len
 have hi13n:=hi13.len
 refine xE (h:=xE (h:=xS [_,_,_,_,_] 2 [_,_,_,_,_] Zaq (h:=xA (h:=tL5 (Zd (ZH (Zp ?_)))))))
 exact Zas .ret (.inl rfl) [_,_] [] rfl ⟨⟨_,rfl,.inr ⟨[_,_,_,_,_],ZW,Z9 2 rfl rfl rfl,rfl⟩⟩,rfl,trivial⟩ ⟨rfl,_,_,_,_,_,_,rfl,hu13,hf13,hi13,oy⟩
 try simp only [sQ,ne_eq] at k5
 refine Za (ZE (h:=xA (h:=Zb rfl (fun k6=>?_) (fun k6=>?_))))
 try simp only [sQ,ne_eq] at k6
 rw [Zij,if_neg k1,if_neg k2,if_neg k3,if_neg k4,if_neg k5,if_pos k6]
 refine Za (xL [_,_,_,_,_] ZW 0 (h:=xL [_,_,_] Zpp 3 (h:=xM (h:=xW ZnM (h:=x1 lk3 1 (h:=xQ Zyd rfl (Zng _ _ _ _ _ _ x (⟨e.by_,e.owner,e.name⟩) om2 om2 om2 _ _ ([⟨e.a,e.a⟩]:List DSpan) 1 e.b om2 _ hu hf hi hr6) (h:=?_)))))))
 intro v14 B14 hle14
 rintro ⟨p114,d114,p214,d214,p314,d314,rfl,hu14,hf14,hi14,hd14⟩
 obtain ⟨hu,hf,hi,hr6⟩:=up4 hle14 hu hf hi hr6
 have hu14n:=hu14.len
 have hf14n:=hf14.len
 have hi14n:=hi14.len
 refine xE (h:=xE (h:=xS [_,_,_,_,_] 2 [_,_,_,_,_] Zaq (h:=xA (h:=tL5 (Zd (ZH (Zp ?_)))))))
 exact Zas .ret (.inl rfl) [_,_] [] rfl ⟨⟨_,rfl,.inr ⟨[_,_,_,_,_],ZW,Z9 2 rfl rfl rfl,rfl⟩⟩,rfl,trivial⟩ ⟨rfl,_,_,_,_,_,_,rfl,hu14,hf14,hi14,oy⟩
 try simp only [sQ,ne_eq] at k6
 refine Za (ZE (h:=xA (h:=Zb rfl (fun k7=>?_) (fun k7=>?_))))
 try simp only [sQ,ne_eq] at k7
 rw [Zij,if_neg k1,if_neg k2,if_neg k3,if_neg k4,if_neg k5,if_neg k6,if_pos k7]
 refine Za (xL [_,_,_,_,_] ZW 0 (h:=xL [_,_,_] Zpp 3 (h:=xQ Zyc rfl (Zo4 _ _ _ _ _ _ x (⟨e.by_,e.owner,e.name⟩) om2 om2 om2 om2 _ hu hf hi) (h:=?_))))
 intro v15 B15 hle15
 rintro ⟨p115,d115,p215,d215,p315,d315,p415,d415,rfl,hu15,hf15,hi15,hg15,hd15⟩
 obtain ⟨hu,hf,hi,hr6⟩:=up4 hle15 hu hf hi hr6
 have hu15n:=hu15.len
 have hf15n:=hf15.len
 have hi15n:=hi15.len
 have hg15n:=hg15.len
 refine xM (h:=xE (h:=xE (h:=xE (h:=xAl [_,_,_,_,_] Za2 (h:=fun b16=>xS [_,_,_,_,_] 5 [_,_,_,_,_] Zaq (h:=xA (h:=xA (h:=tL6 (Za (xL [_,_,_,_,_] ZW 5 (h:=xM (h:=xS [_,_,_,_,_] 2 [_,_,_,_,_] Zaq (h:=xA (h:=tL6 (Zd (ZH (Zp ?_)))))))))))))))))
 exact Zas .ret (.inl rfl) [_,_] [] rfl ⟨⟨_,rfl,.inr ⟨[_,_,_,_,_],ZW,Z9 2 rfl rfl rfl,rfl⟩⟩,rfl,trivial⟩ ⟨rfl,_,_,_,_,_,_,rfl,hu15,hf15,hi15,oy⟩
 try simp only [sQ,ne_eq] at k7
 refine Za (ZE (h:=xA (h:=Zb rfl (fun k8=>?_) (fun k8=>?_))))
 try simp only [sQ,ne_eq] at k8
 rw [Zij,if_neg k1,if_neg k2,if_neg k3,if_neg k4,if_neg k5,if_neg k6,if_neg k7,if_pos k8]
 refine Za (xL [_,_,_,_,_] ZW 0 (h:=xL [_,_,_] Zpp 3 (h:=xM (h:=xW Zel (h:=x1 lk9 1 (h:=xQ Zya rfl (Zo6 _ _ _ _ _ _ x (⟨e.by_,e.owner,e.name⟩) om2 om2 om2 _ _ ([⟨e.a,e.a⟩]:List DSpan) e.to_ [105,110,98,111,120] om2 om2 om2 _ hu hf hi hr6) (h:=?_)))))))
 intro v17 B17 hle17
 rintro ⟨p117,d117,p217,d217,p317,d317,rfl,hu17,hf17,hi17,hd17⟩
 have hu17n:=hu17.len
 have hf17n:=hf17.len
 have hi17n:=hi17.len
 refine xE (h:=xE (h:=xS [_,_,_,_,_] 2 [_,_,_,_,_] Zaq (h:=xA (h:=tL5 (Zd (ZH (Zp ?_)))))))
 exact Zas .ret (.inl rfl) [_,_] [] rfl ⟨⟨_,rfl,.inr ⟨[_,_,_,_,_],ZW,Z9 2 rfl rfl rfl,rfl⟩⟩,rfl,trivial⟩ ⟨rfl,_,_,_,_,_,_,rfl,hu17,hf17,hi17,oy⟩
 try simp only [sQ,ne_eq] at k8
 rw [Zij,if_neg k1,if_neg k2,if_neg k3,if_neg k4,if_neg k5,if_neg k6,if_neg k7,if_neg k8]
 refine ZL (ZA (Zj (Za (xB [] [_,_,_,_,_] [_,_,_,_,_] Zd6 Za2 (h:=xS [_,_,_,_,_] 2 [_,_,_,_,_] Zaq (h:=xA (h:=tL5 (Zd ?_))))))))
 exact Zas .ret (.inl rfl) [_,_] [] rfl ⟨⟨_,rfl,.inr ⟨[_,_,_,_,_],ZW,Z9 2 rfl rfl rfl,rfl⟩⟩,rfl,trivial⟩ ⟨rfl,none,0,none,0,none,0,rfl,SlK.nil,SlK.nil,SlK.nil,by simp [ZaT]⟩

theorem ZsB (q1 q2 q3:Option Addr) (c1 c2 c3:Nat) (x:DHost) (e:DEvent) (he1:e.by_.length≤2000000) (he2:e.owner.length≤2000000) (he3:e.name.length≤2000000) (he4:e.to_.length≤2000000) (he5:e.text.length≤2000000) (hd:x.domain.length≤2000000) (B:Kn) (hu:SlK B q1 c1 3 Zs x.users) (hf:SlK B q2 c2 5 Ze x.folders) (hi:SlK B q3 c3 4 Zw x.queue.items):Zv (pj J) 109 [.agg #[str x.domain,.slice q1 x.users.length c1,.slice q2 x.folders.length c2,.int .i64 x.queue.next,.slice q3 x.queue.items.length c3],.agg #[.int .i64 e.kind,str e.by_,str e.owner,str e.name,str e.to_,str e.text,.int .i64 e.a,.int .i64 e.b]] B [] (fun v B' Ls=>Ls=[]∧∃p1 d1 p2 d2 p3 d3,v = .tuple #[.agg #[str (hDo x e).1.domain,.slice p1 (hDo x e).1.users.length d1,.slice p2 (hDo x e).1.folders.length d2,.int .i64 (hDo x e).1.queue.next,.slice p3 (hDo x e).1.queue.items.length d3],.int .i64 (hDo x e).2]∧SlK B' p1 d1 3 Zs (hDo x e).1.users∧SlK B' p2 d2 5 Ze (hDo x e).1.folders∧SlK B' p3 d3 4 Zw (hDo x e).1.queue.items∧(hDo x e).1.domain.length≤2000000):=by
 refine cB 25 Tryz.func109 (h:=?_)
 have hun:=hu.len
 have hfn:=hf.len
 have hin:=hi.len
 refine Za (xBx [_,_,_,_,_] (h:=fun b1=>xBx [_,_,_,_,_,_,_,_] (h:=fun b2=>xAl [_,_,_,_,_] Za2 (h:=fun b3=>xA (h:=tL3 (Zg (Za (xL [_,_,_,_,_] ZW 0 (h:=xR Zsn rfl (ZbK _ _ _ _ _ _ x om2 _ hu hf hi) (h:=?_))))))))))
 refine xN (h:=Zb rfl (fun g1=>?_) (fun g1=>?_))
 try simp only [sQ,ne_eq] at g1
 rw [hDo,if_pos g1]
 refine Za (xB [] [_,_,_,_,_] [_,_,_,_,_] Zd6 Za2 (h:=xS [_,_,_,_,_] 2 [_,_,_,_,_] Zaq (h:=xA (h:=tL3 (Zd (Zp ?_))))))
 exact Zas .ret (.inl rfl) [_,_] [] rfl ⟨⟨_,rfl,.inr ⟨[_,_,_,_,_],ZW,Z9 2 rfl rfl rfl,rfl⟩⟩,rfl,trivial⟩ ⟨rfl,none,0,none,0,none,0,rfl,SlK.nil,SlK.nil,SlK.nil,by simp [ZaT]⟩
 try simp only [sQ,ne_eq] at g1
 have hnn : ¬ Zx x=false:=by simpa using g1
 refine wSk (Za (xL [_,_,_,_,_] ZW 0 (h:=xL [_,_,_,_,_,_,_,_] ZuR 1 (h:=xQ Zyt rfl (ZwH _ _ _ _ _ _ x e om2 om2 om2 om2 om2 om2 _ hu hf hi) (h:=?_)))))
 intro v5 B5 hle5
 rintro ⟨p15,d15,p25,d25,p35,d35,rfl,hu5,hf5,hi5,hd5⟩
 obtain ⟨hu,hf,hi⟩:=up3 hle5 hu hf hi
 have hu5n:=hu5.len
 have hf5n:=hf5.len
 have hi5n:=hi5.len
 refine xM (h:=xE (h:=xE (h:=xAl [_,_,_,_,_] Za2 (h:=fun b6=>xS [_,_,_,_,_] 3 [_,_,_,_,_] Zaq (h:=xA (h:=tL4 (Zg (Za (xM (h:=ZE (h:=Zb rfl (fun g2=>?_) (fun g2=>?_))))))))))))
 try simp only [sQ,ne_eq] at g2
 refine Za (xL [_,_,_,_,_] ZW 0 (h:=xC ZoL rfl (Zbn _ _ _ _ _ _ x _ hu hf hi) (h:=?_)))
 rintro _ B7 _ hle7 ⟨l7,a7,c7,q17,c17,q37,c37,rfl,rfl,hu7,hs7,hi7⟩
 obtain ⟨hu5,hf5,hi5⟩:=up3 hle7 hu5 hf5 hi5
 have hu7n:=hu7.len
 have hi7n:=hi7.len
 refine Z1 4 rfl hs7 Ze.mono om3 (fun B8 hle8 hr8=>?_)
 obtain ⟨hu7,hi7,hu5,hf5,hi5⟩:=up5 hle8 hu7 hi7 hu5 hf5 hi5
 have hr8n:=hr8.len
 refine xM (h:=?_)
 rw [hDo,if_neg hnn,if_pos g2]
 refine xS [_,_,_,_,_] 2 [_,_,_,_,_] Zaq (h:=xA (h:=tL5 (Zd (Zp ?_))))
 exact Zas .ret (.inl rfl) [_,_] [] rfl ⟨⟨_,rfl,.inr ⟨[_,_,_,_,_],ZW,Z9 2 rfl rfl rfl,rfl⟩⟩,rfl,trivial⟩ ⟨rfl,_,_,_,_,_,_,(by rw [g2];rfl),hu7,hr8,hi7,by first | assumption | (rw [ZR.2.2.1];assumption)⟩
 try simp only [sQ,ne_eq] at g2
 rw [hDo,if_neg hnn,if_neg g2]
 refine wSk (Za (xL [_,_,_,_,_] ZW 3 (h:=xM (h:=xS [_,_,_,_,_] 2 [_,_,_,_,_] Zaq (h:=xA (h:=tL4 (Zd ?_)))))))
 exact Zas .ret (.inl rfl) [_,_] [] rfl ⟨⟨_,rfl,.inr ⟨[_,_,_,_,_],ZW,Z9 2 rfl rfl rfl,rfl⟩⟩,rfl,trivial⟩ ⟨rfl,_,_,_,_,_,_,(by first | rfl | (simp only [DHost.withFolders,List.length_set];rfl)),hu5,hf5,hi5,by first | assumption | (rw [ZR.2.2.1];assumption)⟩

theorem ZuM (b:Nat) (q:Option Addr) (m cp p:Nat) (q1:Option Addr) (c1:Nat) (ls:List Str) (hp:p≤900000000000) (hn:1≤ls.length) (hn2:ls.length≤1000000000000) (hm:m≤2000) (B:Kn) (hbm:Zap B q m) (hl:SlK B q1 c1 1 Zbv ls):Ex1 (pj J) 65 [ptr ⟨b,0,none⟩,.slice q1 ls.length c1] B (rd b q m cp p) (fun v s=>∃x,x∈ls∧v=str x∧s=rd b q m cp (p+1)):=by
 refine cB 12 Tryz.func65 (h:=?_)
 refine Za (xA (h:=Za (xM (h:=xM (h:=xM (h:=xV Tryz.underlying62 (h:=xX 0 rfl Za7 rfl (ZK _ _ _ _ _ _ oz oz oz hm _ hbm) (h:=?_))))))))
 rintro _ _ ⟨rk,rfl,rka,rkb,rfl⟩
 obtain ⟨z,hz⟩:=ZeB (xs:=ls) (i:=rk) om om
 obtain ⟨bb3,oo3,rfl⟩:=hl.base hz
 obtain ⟨_,⟨rfl,hb4⟩,hc4⟩:=hl.elem hz
 refine xIx Tryz.underlying62 sz9 (h:=y1 lk9 hc4 0 (h:=xA (h:=tL1 (Zd ?_))))
 exact e1 0 rfl t1 ⟨rfl,_,rfl,z,List.mem_of_getElem? hz,rfl,rfl⟩

theorem Zi3 (b:Nat) (q:Option Addr) (m cp p:Nat) (hp:p≤850000000000) (hm:m≤2000) (B:Kn) (hbm:Zap B q m):Ex1 (pj J) 156 [ptr ⟨b,0,none⟩] B (rd b q m cp p) (fun v s=>∃(z:Int) (k:Nat),v = .int .i64 z∧-1≤z∧z≤80∧k≤p+3∧s=rd b q m cp k):=by
 refine cB 17 Tryz.func156 (h:=?_)
 refine Za (xA (h:=Zg (Za (xM (h:=xX 0 rfl Za7 rfl (ZK _ _ _ _ _ _ oz oz oz hm _ hbm) (h:=?_))))))
 rintro _ _ ⟨r1,rfl,r1a,r1b,rfl⟩
 refine ZE (h:=tL1 (Zb rfl (fun g1=>?_) (fun g1=>?_)))
 refine Za (xBs [(0,_),(1,_),(2,_),(3,_)] [_,_,_,_] Tryz.underlying185 sz3 zo3 (h:=fun b2=>?_))
 have hvq3:ZY B (Zah b2 (([(-1),0,63,64]:List Int).map fun x=>.int .i64 x) 3) (some ⟨b2,0,none⟩) 4 3 1 Zcf ([(-1),0,63,64]:List Int):=ZY.ints
 refine xM (h:=xX 0 rfl Za7 rfl (ZK _ _ _ _ _ _ oz oz oz hm _ hbm) (h:=?_))
 rintro _ _ ⟨r4,rfl,r4a,r4b,rfl⟩
 obtain ⟨e,he⟩:=ZeB (xs:=([(-1),0,63,64]:List Int)) (i:=r4) om om
 obtain ⟨bb6,_,hp6,rfl,hw6,hc6⟩:=hvq3.row he
 refine xIp hp6 Tryz.underlying185 sz3 (h:=?_)
 have hme:=List.mem_of_getElem? he
 refine Zn (Zf rfl rfl lk3 rfl (hc6 _ 1 rfl 0 _ rfl) (xA (h:=tL2 (Zd (Zp ?_)))))
 exact e1 0 rfl t1 ⟨rfl,_,rfl,e,_,rfl,by simp only [List.mem_cons,List.not_mem_nil,or_false] at hme;omega,by simp only [List.mem_cons,List.not_mem_nil,or_false] at hme;omega,oz,rfl⟩
 refine wSk (Za (xM (h:=xX 0 rfl Za7 rfl (ZK _ _ _ _ _ _ oz oz oz hm _ hbm) (h:=?_))))
 rintro _ _ ⟨r7,rfl,r7a,r7b,rfl⟩
 refine xY (h:=xM (h:=xX 0 rfl Za7 rfl (ZK _ _ _ _ _ _ oz oz oz hm _ hbm) (h:=?_)))
 rintro _ _ ⟨r8,rfl,r8a,r8b,rfl⟩
 refine xD (h:=xA (h:=tL1 (Zd ?_)))
 exact e1 0 rfl t1 ⟨rfl,_,rfl,_,_,rfl,oz,oz,oz,rfl⟩

theorem ZgU (b:Nat) (q:Option Addr) (m cp p:Nat) (hp:p≤850000000000) (hm:m≤2000) (B:Kn) (hbm:Zap B q m):Ex1 (pj J) 24 [ptr ⟨b,0,none⟩] B (rd b q m cp p) (fun v s=>∃(x:Str) (k:Nat),v=str x∧x.length≤40∧k≤p+3∧s=rd b q m cp k):=by
 refine cB 11 Tryz.func24 (h:=?_)
 refine Za (xA (h:=Zg (Za (xM (h:=xX 0 rfl Za7 rfl (ZK _ _ _ _ _ _ oz oz oz hm _ hbm) (h:=?_))))))
 rintro _ _ ⟨r1,rfl,r1a,r1b,rfl⟩
 refine ZE (h:=tL1 (Zb rfl (fun g1=>?_) (fun g1=>?_)))
 refine Za (xM (h:=xX 0 rfl Zvm rfl (ZdN _ _ _ _ _ oz hm _ hbm) (h:=?_)))
 rintro _ _ ⟨x2,rfl,hx2,rfl⟩
 refine xA (h:=tL1 (Zd (Zp ?_)))
 exact e1 0 rfl t1 ⟨rfl,_,rfl,_,_,rfl,oa,oz,rfl⟩
 refine wSk (Za (xM (h:=xBs [(0,_),(1,_),(2,_)] [_,_,_] Tryz.underlying62 sz9 zo9 (h:=fun b3=>xK [0,1] rfl ZoK rfl (ZqT _ _ _ _ _ _ ([[97,109,121],[98,111,98],[99,121,100]]:List Str) oz (by decide) (by decide) hm _ hbm) (h:=?_)))))
 rintro _ B4 _ hle4 ⟨rfl,x4,hx4,rfl,rfl⟩
 replace hx4:=(show∀y∈( ([[97,109,121],[98,111,98],[99,121,100]]:List Str):List Str),y.length≤40 from by decide) _ hx4
 refine xA (h:=tL2 (Zd ?_))
 exact e1 0 rfl t1 ⟨rfl,_,rfl,_,_,rfl,oa,oz,rfl⟩

theorem Zpv (b:Nat) (q:Option Addr) (m cp p:Nat) (hp:p≤750000000000) (hm:m≤2000) (q1 q2 q3:Option Addr) (d1 d2 d3:Nat) (x:DHost) (hleft :∀y,y∈x.queue.items→0<y.left.length) (B:Kn) (hbm:Zap B q m) (hi:SlK B q3 d3 4 Zw x.queue.items):Zv (pj J) 110 [ptr ⟨b,0,none⟩,.agg #[str x.domain,.slice q1 x.users.length d1,.slice q2 x.folders.length d2,.int .i64 x.queue.next,.slice q3 x.queue.items.length d3]] B [rd b q m cp p] (fun v B' Ls=>∃(e:DEvent) (k:Nat),v = .agg #[.int .i64 e.kind,str e.by_,str e.owner,str e.name,str e.to_,str e.text,.int .i64 e.a,.int .i64 e.b]∧e.by_.length≤40∧e.owner.length≤40∧e.name.length≤40∧e.to_.length≤2000000∧e.text.length≤40∧k≤p+60∧Ls=[rd b q m cp k]):=by
 refine cB 148 Tryz.func110 (h:=?_)
 have hin:=hi.len
 refine Za (xBx [_,_,_,_,_] (h:=fun b1=>xAl [_,_,_,_,_,_,_,_] Zuh (h:=fun b2=>tL3 (Za (xBs [(0,_),(1,_),(2,_)] [_,_,_] Tryz.underlying62 sz9 zo9 (h:=fun b3=>xA (h:=tL4 (Za (Z1 3 rfl (ZY.strs (ls:=([[97,109,121],[98,111,98],[99,121,100]]:List Str)) (by first | decide | (simp;done) | (simp;omega))) Zbv.mono om3 (fun B4 hle4 hr4=>?_))))))))))
 replace hi:=up1 hle4 hi
 replace hbm:=hbm.mono hle4
 have hr4n:=hr4.len
 refine xM (h:=xM (h:=xX 0 rfl ZoK rfl (ZuM _ _ _ _ _ _ _ ([[97,109,121],[98,111,98],[99,121,100]]:List Str) oz (by decide) (by decide) hm _ hbm hr4) (h:=?_)))
 rintro _ _ ⟨x5,hx5,rfl,rfl⟩
 replace hx5:=(show∀y∈(([[97,109,121],[98,111,98],[99,121,100]]:List Str):List Str),y.length≤40 from by decide) _ hx5
 refine xM (h:=xM (h:=xX 0 rfl ZoK rfl (ZuM _ _ _ _ _ _ _ ([[97,109,121],[98,111,98],[99,121,100]]:List Str) oz (by decide) (by decide) hm _ hbm hr4) (h:=?_)))
 rintro _ _ ⟨x6,hx6,rfl,rfl⟩
 replace hx6:=(show∀y∈(([[97,109,121],[98,111,98],[99,121,100]]:List Str):List Str),y.length≤40 from by decide) _ hx6
 refine xM (h:=xBs [(0,_),(1,_),(2,_),(3,_)] [_,_,_,_] Tryz.underlying62 sz9 zo9 (h:=fun b7=>xK [0,4] rfl ZoK rfl (ZqT _ _ _ _ _ _ ([[105,110,98,111,120],[105,110,98,111,120],[98,111,120,49],[120]]:List Str) oz (by decide) (by decide) hm _ hbm) (h:=?_)))
 rintro _ B8 _ hle8 ⟨rfl,x8,hx8,rfl,rfl⟩
 replace hx8:=(show∀y∈( ([[105,110,98,111,120],[105,110,98,111,120],[98,111,120,49],[120]]:List Str):List Str),y.length≤40 from by decide) _ hx8
 refine xM (h:=xM (h:=xX 0 rfl ZoK rfl (ZuM _ _ _ _ _ _ _ ([[97,109,121],[98,111,98],[99,121,100]]:List Str) oz (by decide) (by decide) hm _ hbm hr4) (h:=?_)))
 rintro _ _ ⟨x9,hx9,rfl,rfl⟩
 replace hx9:=(show∀y∈(([[97,109,121],[98,111,98],[99,121,100]]:List Str):List Str),y.length≤40 from by decide) _ hx9
 refine xM (h:=xX 0 rfl ZrQ rfl (Zfn _ _ _ _ _ oz hm _ hbm) (h:=?_))
 rintro _ _ ⟨x10,rfl,hx10,rfl⟩
 refine xB [(1,_),(2,_),(3,_),(4,_),(5,_)] [_,_,_,_,_,_,_,_] [_,_,_,_,_,_,_,_] ZxM Zuh (h:=xAl [_,_,_,_,_,_,_,_] Zuh (h:=fun b11=>xS [_,_,_,_,_,_,_,_] 5 [_,_,_,_,_,_,_,_] Zwl (h:=tL6 (ZlG (α:=DEvent × Nat) [0,1,3,4,5,6] (fun g=>[]) [0,5] (fun g=>[rd b q m cp g.2,Zah b11 [.int .i64 g.1.kind,str g.1.by_,str g.1.owner,str g.1.name,str g.1.to_,str g.1.text,.int .i64 g.1.a,.int .i64 g.1.b] 167]) (fun g=>[]) (fun g Bx=>g.1.by_.length≤40∧g.1.owner.length≤40∧g.1.name.length≤40∧g.1.to_.length≤2000000∧g.1.text.length≤40∧g.2≤p+7) ?_ (fun g B12 hle12 hF=>?_)))))
 refine Za (xM (h:=xX 0 rfl Za7 rfl (ZK _ _ _ _ _ _ oz oz oz hm _ hbm) (h:=?_)))
 rintro _ _ ⟨r13,rfl,r13a,r13b,rfl⟩
 refine Zbp (h:=tL6 (Zb rfl (fun e1=>?_) (fun e1=>?_)))
 try simp only [sQ,ne_eq] at e1
 refine Zc (xW Zgl (h:=x1 lk9 5 (h:=xW Zln (h:=xS [_] 5 [_,_,_,_,_,_,_,_] sz9 (h:=?_)))))
 exact ZJ ⟨⟨0,x5,x5,x8,x9,x10,0,0⟩,((((((p+1)+1)+1)+1)+2)+1)⟩ [0,1,2,3,4,5] ⟨ob,ob,ob,ob,ob,ob⟩ t6 rfl
 try simp only [sQ,ne_eq] at e1
 refine ZL ?_
 exact ZJ ⟨⟨0,x5,x6,x8,x9,x10,0,0⟩,((((((p+1)+1)+1)+1)+2)+1)⟩ [0,1,2,3,4,5] ⟨ob,ob,ob,ob,ob,ob⟩ t6 rfl
 obtain ⟨hg1,hg2,hg3,hg4,hg5,hgp⟩:=hF
 replace hi:=up1 hle12 hi
 replace hbm:=hbm.mono hle12
 refine ZM [(0,_),(1,_),(3,_),(4,_),(5,_),(6,_)] [_,_,_,_,_,_] t6 rfl (ZlG (α:=DEvent × Nat) [0,1,3,4,5,6] (fun j=>[]) [0,5] (fun j=>[rd b q m cp j.2,Zah b11 [.int .i64 j.1.kind,str j.1.by_,str j.1.owner,str j.1.name,str j.1.to_,str j.1.text,.int .i64 j.1.a,.int .i64 j.1.b] 167]) (fun j=>[]) (fun j Bx=>j.1.by_.length≤40∧j.1.owner.length≤40∧j.1.name.length≤40∧j.1.to_.length≤2000000∧j.1.text.length≤40∧j.2≤p+20) ?_ (fun j B14 hle14 hF=>?_))
 refine Za (xM (h:=xX 0 rfl Za7 rfl (ZK _ _ _ _ _ _ oz oz oz hm _ hbm) (h:=?_)))
 rintro _ _ ⟨rk,rfl,rka,rkb,rfl⟩
 refine tL6 (Zl (Za (ZE (h:=xA (h:=Zb rfl (fun a0=>?_) (fun a0=>?_))))))
 try simp only [sQ,ne_eq] at a0
 refine Zc (xW Zce (h:=xS [_] 5 [_,_,_,_,_,_,_,_] sz3 (h:=ZA ?_)))
 exact ZJ ⟨⟨1,g.1.by_,g.1.owner,g.1.name,g.1.to_,g.1.text,g.1.a,g.1.b⟩,(g.2+1)⟩ [0,1,2,3,4,5] ⟨ob,ob,ob,ob,ob,ob⟩ t6 rfl
 try simp only [sQ,ne_eq] at a0
 refine Zg (Za (ZE (h:=xA (h:=Zb rfl (fun a1=>?_) (fun a1=>?_)))))
 try simp only [sQ,ne_eq] at a1
 refine wSk (Zb rfl (fun a1t=>?_) (fun a1t=>by simp [a1] at a1t))
 try simp only [sQ,ne_eq] at a1t
 refine Za (xW Zce (h:=xS [_] 5 [_,_,_,_,_,_,_,_] sz3 (h:=tL6 (Za (xM (h:=xX 0 rfl ZwR rfl (Zi3 _ _ _ _ _ oz hm _ hbm) (h:=?_)))))))
 rintro _ _ ⟨z16,k16,rfl,hz16,hz16b,hk16,rfl⟩
 refine xW Zbz (h:=xS [_] 5 [_,_,_,_,_,_,_,_] sz3 (h:=tL6 (Za (xM (h:=xX 0 rfl Za7 rfl (ZK _ _ _ _ _ _ oz oz oz hm _ hbm) (h:=?_))))))
 rintro _ _ ⟨r17,rfl,r17a,r17b,rfl⟩
 refine ZE (h:=tL6 (Zb rfl (fun b1=>?_) (fun b1=>?_)))
 try simp only [sQ,ne_eq] at b1
 refine Zc (xW Zel (h:=xS [_] 5 [_,_,_,_,_,_,_,_] sz9 (h:=ZA ?_)))
 exact ZJ ⟨⟨2,g.1.by_,g.1.owner,g.1.name,[97,110,121,111,110,101],g.1.text,z16,g.1.b⟩,(k16+1)⟩ [0,1,2,3,4,5] ⟨ob,ob,ob,ob,ob,ob⟩ t6 rfl
 try simp only [sQ,ne_eq] at b1
 refine ZL (ZA ?_)
 exact ZJ ⟨⟨2,g.1.by_,g.1.owner,g.1.name,g.1.to_,g.1.text,z16,g.1.b⟩,(k16+1)⟩ [0,1,2,3,4,5] ⟨ob,ob,ob,ob,ob,ob⟩ t6 rfl
 try simp only [sQ,ne_eq] at a1
 refine Zc (ZE (h:=xA (h:=Zj (Zb rfl (fun a2=>?_) (fun a2=>?_)))))
 try simp only [sQ,ne_eq] at a2
 refine Za (xW Zce (h:=xS [_] 5 [_,_,_,_,_,_,_,_] sz3 (h:=tL6 (Za (xM (h:=xX 0 rfl ZwR rfl (Zi3 _ _ _ _ _ oz hm _ hbm) (h:=?_)))))))
 rintro _ _ ⟨z18,k18,rfl,hz18,hz18b,hk18,rfl⟩
 refine xW Zbz (h:=xS [_] 5 [_,_,_,_,_,_,_,_] sz3 (h:=tL6 (Za (xM (h:=xX 0 rfl Za7 rfl (ZK _ _ _ _ _ _ oz oz oz hm _ hbm) (h:=?_))))))
 rintro _ _ ⟨r19,rfl,r19a,r19b,rfl⟩
 refine ZE (h:=tL6 (Zb rfl (fun b1=>?_) (fun b1=>?_)))
 try simp only [sQ,ne_eq] at b1
 refine Zc (xW Zel (h:=xS [_] 5 [_,_,_,_,_,_,_,_] sz9 (h:=ZA ?_)))
 exact ZJ ⟨⟨2,g.1.by_,g.1.owner,g.1.name,[97,110,121,111,110,101],g.1.text,z18,g.1.b⟩,(k18+1)⟩ [0,1,2,3,4,5] ⟨ob,ob,ob,ob,ob,ob⟩ t6 rfl
 try simp only [sQ,ne_eq] at b1
 refine ZL (ZA ?_)
 exact ZJ ⟨⟨2,g.1.by_,g.1.owner,g.1.name,g.1.to_,g.1.text,z18,g.1.b⟩,(k18+1)⟩ [0,1,2,3,4,5] ⟨ob,ob,ob,ob,ob,ob⟩ t6 rfl
 try simp only [sQ,ne_eq] at a2
 refine Zg (Za (ZE (h:=xA (h:=Zb rfl (fun a3=>?_) (fun a3=>?_)))))
 try simp only [sQ,ne_eq] at a3
 refine wSk (Zb rfl (fun a3t=>?_) (fun a3t=>by simp [a3] at a3t))
 try simp only [sQ,ne_eq] at a3t
 refine Za (xW Zce (h:=xS [_] 5 [_,_,_,_,_,_,_,_] sz3 (h:=tL6 (Zc (xM (h:=xX 0 rfl Za7 rfl (ZK _ _ _ _ _ _ oz oz oz hm _ hbm) (h:=?_)))))))
 rintro _ _ ⟨r20,rfl,r20a,r20b,rfl⟩
 refine xW Zbz (h:=xS [_] 5 [_,_,_,_,_,_,_,_] sz3 (h:=ZA ?_))
 exact ZJ ⟨⟨3,g.1.by_,g.1.owner,g.1.name,g.1.to_,g.1.text,r20,g.1.b⟩,((g.2+1)+1)⟩ [0,1,2,3,4,5] ⟨ob,ob,ob,ob,ob,ob⟩ t6 rfl
 try simp only [sQ,ne_eq] at a3
 refine Za (ZE (h:=xA (h:=Zb rfl (fun a4=>?_) (fun a4=>?_))))
 try simp only [sQ,ne_eq] at a4
 refine wSk (Zb rfl (fun a4t=>?_) (fun a4t=>by simp [a4] at a4t))
 try simp only [sQ,ne_eq] at a4t
 refine Za (xW Zce (h:=xS [_] 5 [_,_,_,_,_,_,_,_] sz3 (h:=tL6 (Zc (xM (h:=xX 0 rfl Za7 rfl (ZK _ _ _ _ _ _ oz oz oz hm _ hbm) (h:=?_)))))))
 rintro _ _ ⟨r21,rfl,r21a,r21b,rfl⟩
 refine xW Zbz (h:=xS [_] 5 [_,_,_,_,_,_,_,_] sz3 (h:=ZA ?_))
 exact ZJ ⟨⟨3,g.1.by_,g.1.owner,g.1.name,g.1.to_,g.1.text,r21,g.1.b⟩,((g.2+1)+1)⟩ [0,1,2,3,4,5] ⟨ob,ob,ob,ob,ob,ob⟩ t6 rfl
 try simp only [sQ,ne_eq] at a4
 refine Zc (ZE (h:=xA (h:=Zj (Zb rfl (fun a5=>?_) (fun a5=>?_)))))
 try simp only [sQ,ne_eq] at a5
 refine Za (xW Zce (h:=xS [_] 5 [_,_,_,_,_,_,_,_] sz3 (h:=tL6 (Zc (xM (h:=xX 0 rfl Za7 rfl (ZK _ _ _ _ _ _ oz oz oz hm _ hbm) (h:=?_)))))))
 rintro _ _ ⟨r22,rfl,r22a,r22b,rfl⟩
 refine xW Zbz (h:=xS [_] 5 [_,_,_,_,_,_,_,_] sz3 (h:=ZA ?_))
 exact ZJ ⟨⟨3,g.1.by_,g.1.owner,g.1.name,g.1.to_,g.1.text,r22,g.1.b⟩,((g.2+1)+1)⟩ [0,1,2,3,4,5] ⟨ob,ob,ob,ob,ob,ob⟩ t6 rfl
 try simp only [sQ,ne_eq] at a5
 refine Zg (Za (ZE (h:=xA (h:=Zb rfl (fun a6=>?_) (fun a6=>?_)))))
 try simp only [sQ,ne_eq] at a6
 refine wSk (Zb rfl (fun a6t=>?_) (fun a6t=>by simp [a6] at a6t))
 try simp only [sQ,ne_eq] at a6t
 refine Zc (xW Zce (h:=xS [_] 5 [_,_,_,_,_,_,_,_] sz3 (h:=ZA ?_)))
 exact ZJ ⟨⟨4,g.1.by_,g.1.owner,g.1.name,g.1.to_,g.1.text,g.1.a,g.1.b⟩,(g.2+1)⟩ [0,1,2,3,4,5] ⟨ob,ob,ob,ob,ob,ob⟩ t6 rfl
 try simp only [sQ,ne_eq] at a6
 refine Zc (ZE (h:=xA (h:=Zj (Zb rfl (fun a7=>?_) (fun a7=>?_)))))
 try simp only [sQ,ne_eq] at a7
 refine Zc (xW Zce (h:=xS [_] 5 [_,_,_,_,_,_,_,_] sz3 (h:=ZA ?_)))
 exact ZJ ⟨⟨4,g.1.by_,g.1.owner,g.1.name,g.1.to_,g.1.text,g.1.a,g.1.b⟩,(g.2+1)⟩ [0,1,2,3,4,5] ⟨ob,ob,ob,ob,ob,ob⟩ t6 rfl
 try simp only [sQ,ne_eq] at a7
 refine Zg (Za (ZE (h:=xA (h:=Zb rfl (fun a8=>?_) (fun a8=>?_)))))
 try simp only [sQ,ne_eq] at a8
 refine wSk (Zb rfl (fun a8t=>?_) (fun a8t=>by simp [a8] at a8t))
 try simp only [sQ,ne_eq] at a8t
 refine Za (xW Zce (h:=xS [_] 5 [_,_,_,_,_,_,_,_] sz3 (h:=tL6 (Za (xM (h:=xX 0 rfl Za7 rfl (ZK _ _ _ _ _ _ oz oz oz hm _ hbm) (h:=?_)))))))
 rintro _ _ ⟨r23,rfl,r23a,r23b,rfl⟩
 refine xD (h:=xW Zbz (h:=xS [_] 5 [_,_,_,_,_,_,_,_] sz3 (h:=tL6 (Za (xW ZaU (h:=xW Zan (h:=x1 Zej 1 (h:=xV Tryz.underlying25 (h:=Zbp (h:=xM (h:=Zo (d:=71) rfl (fun d1=>?_) (fun d1=>?_))))))))))))
 try simp only [sQ,ne_eq] at d1
 refine xM (h:=xX 0 rfl Za7 rfl (ZK _ _ _ _ _ _ oz oz oz hm _ hbm) (h:=?_))
 rintro _ _ ⟨r24,rfl,r24a,r24b,rfl⟩
 refine Zbp (h:=xT (h:=tL6 (Zb rfl (fun d2=>?_) (fun d2=>?_))))
 try simp only [sQ,ne_eq] at d2
 refine Zg (Z0 (keeps _ [1] _) mo kr ⟨Kn.le.refl _,Zad.refl _ _⟩ (fun _ _=>?_))
 refine aW 0 rfl ZaU (h:=aW 1 rfl Zan (h:=aT 2 rfl (ZB fun D B L hI=>Zf rfl rfl Zej rfl (atL 1 (hI.2.1.trans rfl) rfl rfl) r4) (h:=aM 3 rfl (h:=aW 4 rfl ZaU (h:=aW 5 rfl Zan (h:=aT 6 rfl (ZB fun D B L hI=>Zf rfl rfl Zej rfl (atL 1 (hI.2.1.trans rfl) rfl rfl) r4) (h:=aV 7 rfl Tryz.underlying25 (h:=Zak [8,11] kr kr kr ⟨?_,?_⟩))))))))
 refine (ZbD 0 rfl rfl rfl Za7 rfl (ZK _ _ _ _ _ _ oz oz oz hm _ hbm) ?_)
 rintro _ _ ⟨rkd,rfl,rkda,rkdb,rfl⟩
 refine ⟨⟨Kn.le.refl _,t1⟩,?_⟩
 obtain ⟨w,hw⟩:=ZeB (xs:=x.queue.items) (i:=rkd) om om
 obtain ⟨bb27,oo27,rfl⟩:=hi.base hw
 obtain ⟨_,⟨qi28,ci28,rfl,hi28,hb28,hb28b⟩,hc28⟩:=hi.elem hw
 have hi28n:=hi28.len
 refine aIx 9 rfl Tryz.underlying25 Zdf (h:=?_)
 have hwl:=hleft w (List.mem_of_getElem? hw)
 refine aT 10 rfl (ZB fun D B L hI=>ZT [_,_,_,_] rfl rfl Zh4 rfl (ZiO (hc28.mono hI.1) 0 rfl rfl) r4) (h:=Zq 11 kr rfl kr (Zai (l:=[_,_,_,_]) rfl rfl Zgw rfl (fun b29=>?_)))
 refine ⟨⟨Kn.le.refl _,t1⟩,(ZU 12 kr rfl kr kr kr (ZF [_,_,_,_] 6 [_,_,_,_] rfl rfl Zdf rfl rfl rfl rfl rfl rfl rfl rfl ?_))⟩
 refine Zj (tL7 (Za (xW Zdi (h:=x1 lk3 6 (h:=xW Zbz (h:=xS [_] 5 [_,_,_,_,_,_,_,_] sz3 (h:=tL7 (Z0 (keeps _ [5,6] _) mo kr ⟨Kn.le.refl _,Zad.refl _ _⟩ (fun _ _=>?_)))))))))
 refine aW 0 rfl ZaO (h:=aT 1 rfl (ZB fun D B L hI=>Zf rfl rfl Ze9 rfl (atL 6 (hI.2.2.1.trans rfl) rfl rfl) r4) (h:=aM 2 rfl (h:=aW 3 rfl ZaO (h:=aT 4 rfl (ZB fun D B L hI=>Zf rfl rfl Ze9 rfl (atL 6 (hI.2.2.1.trans rfl) rfl rfl) r4) (h:=aV 5 rfl Tryz.underlying62 (h:=Zq 6 kr rfl kr (ZbD 0 rfl rfl rfl Za7 rfl (ZK _ _ _ _ _ _ oz oz oz hm _ hbm) ?_)))))))
 rintro _ _ ⟨rke,rfl,rkea,rkeb,rfl⟩
 refine ⟨⟨Kn.le.refl _,t2⟩,?_⟩
 obtain ⟨ws,hws⟩:=ZeB (xs:=w.left) (i:=rke) om om
 obtain ⟨bb32,oo32,rfl⟩:=hi28.base hws
 obtain ⟨_,⟨rfl,hb33⟩,hc33⟩:=hi28.elem hws
 refine aIx 7 rfl Tryz.underlying62 sz9 (h:=aT 8 rfl (ZB fun D B L hI=>Zf rfl rfl lk9 rfl ((hc33.mono hI.1) _ 0 _ rfl) r4) (h:=aW 9 rfl Zel (h:=ZU 10 kr rfl kr kr kr (ZF [_] 5 [_,_,_,_,_,_,_,_] rfl rfl sz9 rfl rfl rfl rfl rfl rfl rfl rfl ?_))))
 refine ZA ?_
 exact ZJ ⟨⟨5,g.1.by_,g.1.owner,g.1.name,ws,g.1.text,w.id,g.1.b⟩,(((((g.2+1)+1)+1)+1)+1)⟩ [0,1,2,3,4,5] ⟨ob,ob,ob,ob,ob,ob⟩ t6 rfl
 refine (Zai (l:=[_,_,_,_]) rfl rfl Zgw rfl (fun b34=>⟨⟨Kn.le.refl _,t1⟩,(Zq 8 kr rfl kr (ZbD 0 rfl rfl rfl Za7 rfl (ZK _ _ _ _ _ _ oz oz oz hm _ hbm) ?_))⟩))
 rintro _ _ ⟨rkd,rfl,rkda,rkdb,rfl⟩
 refine ⟨⟨Kn.le.refl _,t1⟩,?_⟩
 obtain ⟨w,hw⟩:=ZeB (xs:=x.queue.items) (i:=rkd) om om
 obtain ⟨bb37,oo37,rfl⟩:=hi.base hw
 obtain ⟨_,⟨qi38,ci38,rfl,hi38,hb38,hb38b⟩,hc38⟩:=hi.elem hw
 have hi38n:=hi38.len
 refine aIx 9 rfl Tryz.underlying25 Zdf (h:=?_)
 have hwl:=hleft w (List.mem_of_getElem? hw)
 refine aT 10 rfl (ZB fun D B L hI=>ZT [_,_,_,_] rfl rfl Zh4 rfl (ZiO (hc38.mono hI.1) 0 rfl rfl) r4) (h:=ZU 12 kr rfl kr kr kr (ZF [_,_,_,_] 6 [_,_,_,_] rfl rfl Zdf rfl rfl rfl rfl rfl rfl rfl rfl ?_))
 refine Zj (tL7 (Za (xW Zdi (h:=x1 lk3 6 (h:=xW Zbz (h:=xS [_] 5 [_,_,_,_,_,_,_,_] sz3 (h:=tL7 (Z0 (keeps _ [5,6] _) mo kr ⟨Kn.le.refl _,Zad.refl _ _⟩ (fun _ _=>?_)))))))))
 refine aW 0 rfl ZaO (h:=aT 1 rfl (ZB fun D B L hI=>Zf rfl rfl Ze9 rfl (atL 6 (hI.2.2.1.trans rfl) rfl rfl) r4) (h:=aM 2 rfl (h:=aW 3 rfl ZaO (h:=aT 4 rfl (ZB fun D B L hI=>Zf rfl rfl Ze9 rfl (atL 6 (hI.2.2.1.trans rfl) rfl rfl) r4) (h:=aV 5 rfl Tryz.underlying62 (h:=Zq 6 kr rfl kr (ZbD 0 rfl rfl rfl Za7 rfl (ZK _ _ _ _ _ _ oz oz oz hm _ hbm) ?_)))))))
 rintro _ _ ⟨rke,rfl,rkea,rkeb,rfl⟩
 refine ⟨⟨Kn.le.refl _,t2⟩,?_⟩
 obtain ⟨ws,hws⟩:=ZeB (xs:=w.left) (i:=rke) om om
 obtain ⟨bb41,oo41,rfl⟩:=hi38.base hws
 obtain ⟨_,⟨rfl,hb42⟩,hc42⟩:=hi38.elem hws
 refine aIx 7 rfl Tryz.underlying62 sz9 (h:=aT 8 rfl (ZB fun D B L hI=>Zf rfl rfl lk9 rfl ((hc42.mono hI.1) _ 0 _ rfl) r4) (h:=aW 9 rfl Zel (h:=ZU 10 kr rfl kr kr kr (ZF [_] 5 [_,_,_,_,_,_,_,_] rfl rfl sz9 rfl rfl rfl rfl rfl rfl rfl rfl ?_))))
 refine ZA ?_
 exact ZJ ⟨⟨5,g.1.by_,g.1.owner,g.1.name,ws,g.1.text,w.id,g.1.b⟩,(((((g.2+1)+1)+1)+1)+1)⟩ [0,1,2,3,4,5] ⟨ob,ob,ob,ob,ob,ob⟩ t6 rfl
 try simp only [sQ,ne_eq] at d2
 refine ZL (ZA ?_)
 exact ZJ ⟨⟨5,g.1.by_,g.1.owner,g.1.name,g.1.to_,g.1.text,(1+r23),g.1.b⟩,(((g.2+1)+1)+1)⟩ [0,1,2,3,4,5] ⟨ob,ob,ob,ob,ob,ob⟩ t6 rfl
 try simp only [sQ,ne_eq] at d1
 refine xP (h:=xP (h:=xP (h:=xF (h:=Zb (t:=false) rfl (fun h=>Bool.noConfusion h) (fun _=>ZL (ZA ?_))))))
 exact ZJ ⟨⟨5,g.1.by_,g.1.owner,g.1.name,g.1.to_,g.1.text,(1+r23),g.1.b⟩,((g.2+1)+1)⟩ [0,1,2,3,4,5] ⟨ob,ob,ob,ob,ob,ob⟩ t6 rfl
 try simp only [sQ,ne_eq] at a8
 refine Zc (ZE (h:=xA (h:=Zj (Zb rfl (fun a9=>?_) (fun a9=>?_)))))
 try simp only [sQ,ne_eq] at a9
 refine Za (xW Zce (h:=xS [_] 5 [_,_,_,_,_,_,_,_] sz3 (h:=tL6 (Za (xM (h:=xX 0 rfl Za7 rfl (ZK _ _ _ _ _ _ oz oz oz hm _ hbm) (h:=?_)))))))
 rintro _ _ ⟨r43,rfl,r43a,r43b,rfl⟩
 refine xD (h:=xW Zbz (h:=xS [_] 5 [_,_,_,_,_,_,_,_] sz3 (h:=tL6 (Za (xW ZaU (h:=xW Zan (h:=x1 Zej 1 (h:=xV Tryz.underlying25 (h:=Zbp (h:=xM (h:=Zo (d:=71) rfl (fun d1=>?_) (fun d1=>?_))))))))))))
 try simp only [sQ,ne_eq] at d1
 refine xM (h:=xX 0 rfl Za7 rfl (ZK _ _ _ _ _ _ oz oz oz hm _ hbm) (h:=?_))
 rintro _ _ ⟨r44,rfl,r44a,r44b,rfl⟩
 refine Zbp (h:=xT (h:=tL6 (Zb rfl (fun d2=>?_) (fun d2=>?_))))
 try simp only [sQ,ne_eq] at d2
 refine Zg (Z0 (keeps _ [1] _) mo kr ⟨Kn.le.refl _,Zad.refl _ _⟩ (fun _ _=>?_))
 refine aW 0 rfl ZaU (h:=aW 1 rfl Zan (h:=aT 2 rfl (ZB fun D B L hI=>Zf rfl rfl Zej rfl (atL 1 (hI.2.1.trans rfl) rfl rfl) r4) (h:=aM 3 rfl (h:=aW 4 rfl ZaU (h:=aW 5 rfl Zan (h:=aT 6 rfl (ZB fun D B L hI=>Zf rfl rfl Zej rfl (atL 1 (hI.2.1.trans rfl) rfl rfl) r4) (h:=aV 7 rfl Tryz.underlying25 (h:=Zak [8,11] kr kr kr ⟨?_,?_⟩))))))))
 refine (ZbD 0 rfl rfl rfl Za7 rfl (ZK _ _ _ _ _ _ oz oz oz hm _ hbm) ?_)
 rintro _ _ ⟨rkd,rfl,rkda,rkdb,rfl⟩
 refine ⟨⟨Kn.le.refl _,t1⟩,?_⟩
 obtain ⟨w,hw⟩:=ZeB (xs:=x.queue.items) (i:=rkd) om om
 obtain ⟨bb47,oo47,rfl⟩:=hi.base hw
 obtain ⟨_,⟨qi48,ci48,rfl,hi48,hb48,hb48b⟩,hc48⟩:=hi.elem hw
 have hi48n:=hi48.len
 refine aIx 9 rfl Tryz.underlying25 Zdf (h:=?_)
 have hwl:=hleft w (List.mem_of_getElem? hw)
 refine aT 10 rfl (ZB fun D B L hI=>ZT [_,_,_,_] rfl rfl Zh4 rfl (ZiO (hc48.mono hI.1) 0 rfl rfl) r4) (h:=Zq 11 kr rfl kr (Zai (l:=[_,_,_,_]) rfl rfl Zgw rfl (fun b49=>?_)))
 refine ⟨⟨Kn.le.refl _,t1⟩,(ZU 12 kr rfl kr kr kr (ZF [_,_,_,_] 6 [_,_,_,_] rfl rfl Zdf rfl rfl rfl rfl rfl rfl rfl rfl ?_))⟩
 refine Zj (tL7 (Za (xW Zdi (h:=x1 lk3 6 (h:=xW Zbz (h:=xS [_] 5 [_,_,_,_,_,_,_,_] sz3 (h:=tL7 (Z0 (keeps _ [5,6] _) mo kr ⟨Kn.le.refl _,Zad.refl _ _⟩ (fun _ _=>?_)))))))))
 refine aW 0 rfl ZaO (h:=aT 1 rfl (ZB fun D B L hI=>Zf rfl rfl Ze9 rfl (atL 6 (hI.2.2.1.trans rfl) rfl rfl) r4) (h:=aM 2 rfl (h:=aW 3 rfl ZaO (h:=aT 4 rfl (ZB fun D B L hI=>Zf rfl rfl Ze9 rfl (atL 6 (hI.2.2.1.trans rfl) rfl rfl) r4) (h:=aV 5 rfl Tryz.underlying62 (h:=Zq 6 kr rfl kr (ZbD 0 rfl rfl rfl Za7 rfl (ZK _ _ _ _ _ _ oz oz oz hm _ hbm) ?_)))))))
 rintro _ _ ⟨rke,rfl,rkea,rkeb,rfl⟩
 refine ⟨⟨Kn.le.refl _,t2⟩,?_⟩
 obtain ⟨ws,hws⟩:=ZeB (xs:=w.left) (i:=rke) om om
 obtain ⟨bb52,oo52,rfl⟩:=hi48.base hws
 obtain ⟨_,⟨rfl,hb53⟩,hc53⟩:=hi48.elem hws
 refine aIx 7 rfl Tryz.underlying62 sz9 (h:=aT 8 rfl (ZB fun D B L hI=>Zf rfl rfl lk9 rfl ((hc53.mono hI.1) _ 0 _ rfl) r4) (h:=aW 9 rfl Zel (h:=ZU 10 kr rfl kr kr kr (ZF [_] 5 [_,_,_,_,_,_,_,_] rfl rfl sz9 rfl rfl rfl rfl rfl rfl rfl rfl ?_))))
 refine ZA ?_
 exact ZJ ⟨⟨5,g.1.by_,g.1.owner,g.1.name,ws,g.1.text,w.id,g.1.b⟩,(((((g.2+1)+1)+1)+1)+1)⟩ [0,1,2,3,4,5] ⟨ob,ob,ob,ob,ob,ob⟩ t6 rfl
 refine (Zai (l:=[_,_,_,_]) rfl rfl Zgw rfl (fun b54=>⟨⟨Kn.le.refl _,t1⟩,(Zq 8 kr rfl kr (ZbD 0 rfl rfl rfl Za7 rfl (ZK _ _ _ _ _ _ oz oz oz hm _ hbm) ?_))⟩))
 rintro _ _ ⟨rkd,rfl,rkda,rkdb,rfl⟩
 refine ⟨⟨Kn.le.refl _,t1⟩,?_⟩
 obtain ⟨w,hw⟩:=ZeB (xs:=x.queue.items) (i:=rkd) om om
 obtain ⟨bb57,oo57,rfl⟩:=hi.base hw
 obtain ⟨_,⟨qi58,ci58,rfl,hi58,hb58,hb58b⟩,hc58⟩:=hi.elem hw
 have hi58n:=hi58.len
 refine aIx 9 rfl Tryz.underlying25 Zdf (h:=?_)
 have hwl:=hleft w (List.mem_of_getElem? hw)
 refine aT 10 rfl (ZB fun D B L hI=>ZT [_,_,_,_] rfl rfl Zh4 rfl (ZiO (hc58.mono hI.1) 0 rfl rfl) r4) (h:=ZU 12 kr rfl kr kr kr (ZF [_,_,_,_] 6 [_,_,_,_] rfl rfl Zdf rfl rfl rfl rfl rfl rfl rfl rfl ?_))
 refine Zj (tL7 (Za (xW Zdi (h:=x1 lk3 6 (h:=xW Zbz (h:=xS [_] 5 [_,_,_,_,_,_,_,_] sz3 (h:=tL7 (Z0 (keeps _ [5,6] _) mo kr ⟨Kn.le.refl _,Zad.refl _ _⟩ (fun _ _=>?_)))))))))
 refine aW 0 rfl ZaO (h:=aT 1 rfl (ZB fun D B L hI=>Zf rfl rfl Ze9 rfl (atL 6 (hI.2.2.1.trans rfl) rfl rfl) r4) (h:=aM 2 rfl (h:=aW 3 rfl ZaO (h:=aT 4 rfl (ZB fun D B L hI=>Zf rfl rfl Ze9 rfl (atL 6 (hI.2.2.1.trans rfl) rfl rfl) r4) (h:=aV 5 rfl Tryz.underlying62 (h:=Zq 6 kr rfl kr (ZbD 0 rfl rfl rfl Za7 rfl (ZK _ _ _ _ _ _ oz oz oz hm _ hbm) ?_)))))))
 rintro _ _ ⟨rke,rfl,rkea,rkeb,rfl⟩
 refine ⟨⟨Kn.le.refl _,t2⟩,?_⟩
 obtain ⟨ws,hws⟩:=ZeB (xs:=w.left) (i:=rke) om om
 obtain ⟨bb61,oo61,rfl⟩:=hi58.base hws
 obtain ⟨_,⟨rfl,hb62⟩,hc62⟩:=hi58.elem hws
 refine aIx 7 rfl Tryz.underlying62 sz9 (h:=aT 8 rfl (ZB fun D B L hI=>Zf rfl rfl lk9 rfl ((hc62.mono hI.1) _ 0 _ rfl) r4) (h:=aW 9 rfl Zel (h:=ZU 10 kr rfl kr kr kr (ZF [_] 5 [_,_,_,_,_,_,_,_] rfl rfl sz9 rfl rfl rfl rfl rfl rfl rfl rfl ?_))))
 refine ZA ?_
 exact ZJ ⟨⟨5,g.1.by_,g.1.owner,g.1.name,ws,g.1.text,w.id,g.1.b⟩,(((((g.2+1)+1)+1)+1)+1)⟩ [0,1,2,3,4,5] ⟨ob,ob,ob,ob,ob,ob⟩ t6 rfl
 try simp only [sQ,ne_eq] at d2
 refine ZL (ZA ?_)
 exact ZJ ⟨⟨5,g.1.by_,g.1.owner,g.1.name,g.1.to_,g.1.text,(1+r43),g.1.b⟩,(((g.2+1)+1)+1)⟩ [0,1,2,3,4,5] ⟨ob,ob,ob,ob,ob,ob⟩ t6 rfl
 try simp only [sQ,ne_eq] at d1
 refine xP (h:=xP (h:=xP (h:=xF (h:=Zb (t:=false) rfl (fun h=>Bool.noConfusion h) (fun _=>ZL (ZA ?_))))))
 exact ZJ ⟨⟨5,g.1.by_,g.1.owner,g.1.name,g.1.to_,g.1.text,(1+r43),g.1.b⟩,((g.2+1)+1)⟩ [0,1,2,3,4,5] ⟨ob,ob,ob,ob,ob,ob⟩ t6 rfl
 try simp only [sQ,ne_eq] at a9
 refine Zg (Za (ZE (h:=xA (h:=Zb rfl (fun a10=>?_) (fun a10=>?_)))))
 try simp only [sQ,ne_eq] at a10
 refine wSk (Zb rfl (fun a10t=>?_) (fun a10t=>by simp [a10] at a10t))
 try simp only [sQ,ne_eq] at a10t
 refine Za (xW Zce (h:=xS [_] 5 [_,_,_,_,_,_,_,_] sz3 (h:=tL6 (Za (xM (h:=xX 0 rfl Za7 rfl (ZK _ _ _ _ _ _ oz oz oz hm _ hbm) (h:=?_)))))))
 rintro _ _ ⟨r63,rfl,r63a,r63b,rfl⟩
 refine xW Zbz (h:=xS [_] 5 [_,_,_,_,_,_,_,_] sz3 (h:=tL6 (Zc (xM (h:=xX 0 rfl Za7 rfl (ZK _ _ _ _ _ _ oz oz oz hm _ hbm) (h:=?_))))))
 rintro _ _ ⟨r64,rfl,r64a,r64b,rfl⟩
 refine xY (h:=xM (h:=xX 0 rfl Za7 rfl (ZK _ _ _ _ _ _ oz oz oz hm _ hbm) (h:=?_)))
 rintro _ _ ⟨r65,rfl,r65a,r65b,rfl⟩
 refine xD (h:=xW ZnM (h:=xS [_] 5 [_,_,_,_,_,_,_,_] sz3 (h:=ZA ?_)))
 exact ZJ ⟨⟨6,g.1.by_,g.1.owner,g.1.name,g.1.to_,g.1.text,r63,((r64*8)+r65)⟩,((((g.2+1)+1)+1)+1)⟩ [0,1,2,3,4,5] ⟨ob,ob,ob,ob,ob,ob⟩ t6 rfl
 try simp only [sQ,ne_eq] at a10
 refine Zc (ZE (h:=xA (h:=Zj (Zb rfl (fun a11=>?_) (fun a11=>?_)))))
 try simp only [sQ,ne_eq] at a11
 refine Za (xW Zce (h:=xS [_] 5 [_,_,_,_,_,_,_,_] sz3 (h:=tL6 (Za (xM (h:=xX 0 rfl Za7 rfl (ZK _ _ _ _ _ _ oz oz oz hm _ hbm) (h:=?_)))))))
 rintro _ _ ⟨r66,rfl,r66a,r66b,rfl⟩
 refine xW Zbz (h:=xS [_] 5 [_,_,_,_,_,_,_,_] sz3 (h:=tL6 (Zc (xM (h:=xX 0 rfl Za7 rfl (ZK _ _ _ _ _ _ oz oz oz hm _ hbm) (h:=?_))))))
 rintro _ _ ⟨r67,rfl,r67a,r67b,rfl⟩
 refine xY (h:=xM (h:=xX 0 rfl Za7 rfl (ZK _ _ _ _ _ _ oz oz oz hm _ hbm) (h:=?_)))
 rintro _ _ ⟨r68,rfl,r68a,r68b,rfl⟩
 refine xD (h:=xW ZnM (h:=xS [_] 5 [_,_,_,_,_,_,_,_] sz3 (h:=ZA ?_)))
 exact ZJ ⟨⟨6,g.1.by_,g.1.owner,g.1.name,g.1.to_,g.1.text,r66,((r67*8)+r68)⟩,((((g.2+1)+1)+1)+1)⟩ [0,1,2,3,4,5] ⟨ob,ob,ob,ob,ob,ob⟩ t6 rfl
 try simp only [sQ,ne_eq] at a11
 refine Za (ZE (h:=xA (h:=Zb rfl (fun a12=>?_) (fun a12=>?_))))
 try simp only [sQ,ne_eq] at a12
 refine Zc (xW Zce (h:=xS [_] 5 [_,_,_,_,_,_,_,_] sz3 (h:=ZA ?_)))
 exact ZJ ⟨⟨7,g.1.by_,g.1.owner,g.1.name,g.1.to_,g.1.text,g.1.a,g.1.b⟩,(g.2+1)⟩ [0,1,2,3,4,5] ⟨ob,ob,ob,ob,ob,ob⟩ t6 rfl
 try simp only [sQ,ne_eq] at a12
 refine Za (ZE (h:=xA (h:=Zb rfl (fun a13=>?_) (fun a13=>?_))))
 try simp only [sQ,ne_eq] at a13
 refine Za (xW Zce (h:=xS [_] 5 [_,_,_,_,_,_,_,_] sz3 (h:=tL6 (Zc (xM (h:=xX 0 rfl Za7 rfl (ZK _ _ _ _ _ _ oz oz oz hm _ hbm) (h:=?_)))))))
 rintro _ _ ⟨r69,rfl,r69a,r69b,rfl⟩
 refine xW Zbz (h:=xS [_] 5 [_,_,_,_,_,_,_,_] sz3 (h:=ZA ?_))
 exact ZJ ⟨⟨8,g.1.by_,g.1.owner,g.1.name,g.1.to_,g.1.text,r69,g.1.b⟩,((g.2+1)+1)⟩ [0,1,2,3,4,5] ⟨ob,ob,ob,ob,ob,ob⟩ t6 rfl
 try simp only [sQ,ne_eq] at a13
 refine ZL (ZA ?_)
 exact ZJ ⟨⟨g.1.kind,g.1.by_,g.1.owner,g.1.name,g.1.to_,g.1.text,g.1.a,g.1.b⟩,(g.2+1)⟩ [0,1,2,3,4,5] ⟨ob,ob,ob,ob,ob,ob⟩ t6 rfl
 obtain ⟨hj1,hj2,hj3,hj4,hj5,hjp⟩:=hF
 replace hbm:=hbm.mono hle14
 refine ZM [(0,_),(1,_),(3,_),(4,_),(5,_),(6,_)] [_,_,_,_,_,_] t6 rfl (ZlG (α:=DEvent × Nat) [0,1,3,4,5,6] (fun o=>[]) [0,5] (fun o=>[rd b q m cp o.2,Zah b11 [.int .i64 o.1.kind,str o.1.by_,str o.1.owner,str o.1.name,str o.1.to_,str o.1.text,.int .i64 o.1.a,.int .i64 o.1.b] 167]) (fun o=>[]) (fun o Bx=>o.1.by_.length≤40∧o.1.owner.length≤40∧o.1.name.length≤40∧o.1.to_.length≤2000000∧o.1.text.length≤40∧o.2≤p+40) ?_ (fun o B70 hle70 hF=>?_))
 refine Za (xM (h:=xX 0 rfl Za7 rfl (ZK _ _ _ _ _ _ oz oz oz hm _ hbm) (h:=?_)))
 rintro _ _ ⟨rz,rfl,rza,rzb,rfl⟩
 refine tL6 (Zl (Za (ZE (h:=xA (h:=Zb rfl (fun f0=>?_) (fun f0=>?_))))))
 try simp only [sQ,ne_eq] at f0
 refine Zc (xM (h:=xX 0 rfl Za7 rfl (ZK _ _ _ _ _ _ oz oz oz hm _ hbm) (h:=?_)))
 rintro _ _ ⟨r72,rfl,r72a,r72b,rfl⟩
 refine xU (h:=xW Zce (h:=xS [_] 5 [_,_,_,_,_,_,_,_] sz3 (h:=ZA ?_)))
 exact ZJ ⟨⟨(r72 - 1),j.1.by_,j.1.owner,j.1.name,j.1.to_,j.1.text,j.1.a,j.1.b⟩,((j.2+1)+1)⟩ [0,1,2,3,4,5] ⟨ob,ob,ob,ob,ob,ob⟩ t6 rfl
 try simp only [sQ,ne_eq] at f0
 refine Za (ZE (h:=xA (h:=Zb rfl (fun f1=>?_) (fun f1=>?_))))
 try simp only [sQ,ne_eq] at f1
 refine Zc (xM (h:=xX 0 rfl Za7 rfl (ZK _ _ _ _ _ _ oz oz oz hm _ hbm) (h:=?_)))
 rintro _ _ ⟨r73,rfl,r73a,r73b,rfl⟩
 refine xU (h:=xW Zbz (h:=xS [_] 5 [_,_,_,_,_,_,_,_] sz3 (h:=ZA ?_)))
 exact ZJ ⟨⟨j.1.kind,j.1.by_,j.1.owner,j.1.name,j.1.to_,j.1.text,(r73 - 5),j.1.b⟩,((j.2+1)+1)⟩ [0,1,2,3,4,5] ⟨ob,ob,ob,ob,ob,ob⟩ t6 rfl
 try simp only [sQ,ne_eq] at f1
 refine Za (ZE (h:=xA (h:=Zb rfl (fun f2=>?_) (fun f2=>?_))))
 try simp only [sQ,ne_eq] at f2
 refine Zc (xM (h:=xX 0 rfl Zvm rfl (ZdN _ _ _ _ _ oz hm _ hbm) (h:=?_)))
 rintro _ _ ⟨x74,rfl,hx74,rfl⟩
 refine xW Zgl (h:=xS [_] 5 [_,_,_,_,_,_,_,_] sz9 (h:=ZA ?_))
 exact ZJ ⟨⟨j.1.kind,x74,j.1.owner,j.1.name,j.1.to_,j.1.text,j.1.a,j.1.b⟩,((j.2+1)+2)⟩ [0,1,2,3,4,5] ⟨ob,ob,ob,ob,ob,ob⟩ t6 rfl
 try simp only [sQ,ne_eq] at f2
 refine Za (ZE (h:=xA (h:=Zb rfl (fun f3=>?_) (fun f3=>?_))))
 try simp only [sQ,ne_eq] at f3
 refine Zc (xM (h:=xX 0 rfl Zvm rfl (ZdN _ _ _ _ _ oz hm _ hbm) (h:=?_)))
 rintro _ _ ⟨x75,rfl,hx75,rfl⟩
 refine xW Zjv (h:=xS [_] 5 [_,_,_,_,_,_,_,_] sz9 (h:=ZA ?_))
 exact ZJ ⟨⟨j.1.kind,j.1.by_,j.1.owner,x75,j.1.to_,j.1.text,j.1.a,j.1.b⟩,((j.2+1)+2)⟩ [0,1,2,3,4,5] ⟨ob,ob,ob,ob,ob,ob⟩ t6 rfl
 try simp only [sQ,ne_eq] at f3
 refine ZL (ZA ?_)
 exact ZJ ⟨⟨j.1.kind,j.1.by_,j.1.owner,j.1.name,j.1.to_,j.1.text,j.1.a,j.1.b⟩,(j.2+1)⟩ [0,1,2,3,4,5] ⟨ob,ob,ob,ob,ob,ob⟩ t6 rfl
 obtain ⟨ho1,ho2,ho3,ho4,ho5,hop⟩:=hF
 refine ZM [(0,_),(1,_),(3,_),(4,_),(5,_),(6,_)] [_,_,_,_,_,_] t6 rfl (Za (xL [_,_,_,_,_,_,_,_] ZuR 5 (h:=xS [_,_,_,_,_,_,_,_] 2 [_,_,_,_,_,_,_,_] Zwl (h:=tL6 (Zd ?_)))))
 exact eN [0] rfl ⟨⟨_,rfl,.inr ⟨[_,_,_,_,_,_,_,_],ZuR,Z9 2 rfl rfl rfl,rfl⟩⟩,trivial⟩ ⟨o.1,o.2,rfl,oy,oy,oy,oy,oy,oz,rfl⟩

theorem Zd3 (q:Option Addr) (cp:Nat) (x:DBox) (fl:Int) (t:Str) (ht:t.length≤2000000) (B:Kn) (hm:SlK B q cp 3 ZN x.mail):Zv (pj J) 149 [.agg #[.int .i64 x.next,.slice q x.mail.length cp],.int .i64 fl,str t] B [] (fun v B' Ls=>∃l a c,Ls=[l]∧v = .tuple #[.agg #[.int .i64 (ZQ x fl t).1.next,.slice a (ZQ x fl t).1.mail.length c],.bool (ZQ x fl t).2]∧ZY B' l a c 97 3 ZN (ZQ x fl t).1.mail):=by
 refine cB 28 Tryz.func149 (h:=?_)
 have hxn:=hm.len
 refine Za (xBx [_,_] (h:=fun b1=>xAl [_,_] Ze6 (h:=fun b2=>xA (h:=tL2 (Zg (Za (xL [_,_] ZbA 0 (h:=xR Ztx rfl (ZgG _ _ (⟨x.next,x.mail⟩:DBox) _ hm) (h:=xN (h:=xM (h:=Zo (d:=11) rfl (fun g1=>?_) (fun g1=>?_))))))))))))
 try simp only [sQ,ne_eq] at g1
 have he:=Zfy (b:=x) (fl:=fl) (t:=t) (by simp [g1])
 refine xP (h:=xP (h:=xP (h:=xT (h:=xM (h:=xP (h:=xP (h:=xP (h:=xT (h:=Zb (t:=true) rfl (fun _=>Za (xB [] [_,_] [_,_] Zns Ze6 (h:=xS [_,_] 1 [_,_] ZcE (h:=xA (h:=tL2 (Zd (Zp ?_))))))) (fun h=>Bool.noConfusion h))))))))))
 exact Zt8 .ret (.inl rfl) [_,_] ⟨⟨_,rfl,.inr ⟨[_,_],ZbA,Z9 1 rfl rfl rfl,rfl⟩⟩,rfl,trivial⟩ ⟨_,none,0,rfl,by rw [he];rfl,by rw [he];exact ZY.nil⟩
 try simp only [sQ,ne_eq] at g1
 refine xM (h:=xR ZrP rfl (Zfo _ _) (h:=xN (h:=xF (h:=xM (h:=Zo (d:=16) rfl (fun g2=>?_) (fun g2=>?_))))))
 try simp only [sQ,ne_eq] at g2
 have he:=Zfy (b:=x) (fl:=fl) (t:=t) (fun h=>by have:=h.2.1;simp only [ZaL,g2] at this;cases this)
 refine xP (h:=xP (h:=xP (h:=xT (h:=Zb (t:=true) rfl (fun _=>Za (xB [] [_,_] [_,_] Zns Ze6 (h:=xS [_,_] 1 [_,_] ZcE (h:=xA (h:=tL2 (Zd (Zp ?_))))))) (fun h=>Bool.noConfusion h)))))
 exact Zt8 .ret (.inl rfl) [_,_] ⟨⟨_,rfl,.inr ⟨[_,_],ZbA,Z9 1 rfl rfl rfl,rfl⟩⟩,rfl,trivial⟩ ⟨_,none,0,rfl,by rw [he];rfl,by rw [he];exact ZY.nil⟩
 try simp only [sQ,ne_eq] at g2
 refine xM (h:=xVs Tryz.underlying9 (h:=Zbp (h:=xF (h:=Zb rfl (fun g3=>?_) (fun g3=>?_)))))
 try simp only [sQ,ne_eq] at g3
 have he:=Zfy (b:=x) (fl:=fl) (t:=t) (by simp;omega)
 refine Za (xB [] [_,_] [_,_] Zns Ze6 (h:=xS [_,_] 1 [_,_] ZcE (h:=xA (h:=tL2 (Zd (Zp ?_))))))
 exact Zt8 .ret (.inl rfl) [_,_] ⟨⟨_,rfl,.inr ⟨[_,_],ZbA,Z9 1 rfl rfl rfl,rfl⟩⟩,rfl,trivial⟩ ⟨_,none,0,rfl,by rw [he];rfl,by rw [he];exact ZY.nil⟩
 try simp only [sQ,ne_eq] at g3
 have hok:Zbk x=true:=by simpa using g1
 rw [Zlv ⟨hok,by simpa only [ZaL,Bool.not_eq_false] using g2,oz⟩]
 refine wSk (Za (xL [_,_] ZbA 0 (h:=xM (h:=xM (h:=xC ZyZ rfl (Zi7 _ _ (⟨x.next,x.mail⟩:DBox) fl t oz (oy) _ hm) (h:=?_))))))
 rintro _ B5 _ hle5 ⟨l5,a5,c5,rfl,rfl,hs5⟩
 replace hs5:=hs5.anyK (B':=B5) ZN.any
 refine xE (h:=xE (h:=xS [_,_] 1 [_,_] ZcE (h:=xA (h:=tL3 (Zd ?_)))))
 exact Zas .ret (.inl rfl) [_,_] [2] rfl ⟨⟨_,rfl,.inr ⟨[_,_],ZbA,Z9 1 rfl rfl rfl,rfl⟩⟩,rfl,trivial⟩ ⟨_,_,_,rfl,rfl,hs5⟩

theorem Zs5 (b:Nat) (q:Option Addr) (m cp p:Nat) (hp:p≤800000000000) (hm:m≤2000) (B:Kn) (hbm:Zap B q m):Zv (pj J) 105 [ptr ⟨b,0,none⟩] B [rd b q m cp p] (fun v B' Ls=>∃(q':Option Addr) (cp':Nat) (gs:List DGrant) (k:Nat),v = .slice q' gs.length cp'∧SlK B' q' cp' 2 ZZ gs∧k≤p+60∧Ls=[rd b q m cp k]):=by
 refine cB 52 Tryz.func105 (h:=?_)
 refine Za (xA (h:=Za (xBs [] [] Tryz.underlying37 ZbM ZdX (h:=fun b1=>xA (h:=tL2 (Za (xM (h:=xX 0 rfl Za7 rfl (ZK _ _ _ _ _ _ oz oz oz hm _ hbm) (h:=?_)))))))))
 rintro _ _ ⟨rn,rfl,rna,rnb,rfl⟩
 refine xA (h:=tL2 (Zg (Za (xA (h:=Zl (ZO (α:=GAc) [0,2,4] (fun g=>[(3,.slice g.a g.xs.length g.c),(5,.int .i64 g.k)]) [0,1] (fun g=>[rd b q m cp g.p,g.l]) (fun g Bx=>g.k≤4∧g.p≤p+1+5*g.k∧g.xs.length≤4*g.k∧ZY Bx g.l g.a g.c 191 2 ZZ g.xs) (fun g=>4 - g.k) ⟨0,_,_,_,_,[]⟩ t2 rfl (⟨Nat.zero_le _,Nat.le_refl _,Nat.le_refl _,.lit0⟩) (fun g B3 hle3 hI=>?_)))))))
 obtain ⟨hk,hgp,hgl,hv⟩:=hI
 replace hbm:=hbm.mono hle3
 refine ZM [(0,_),(2,_),(3,_),(4,_),(5,_)] [_,_] t5 rfl (Zg (Za (xM (h:=xM (h:=Zaf (h:=Zb rfl (fun g1=>?_) (fun g1=>?_)))))))
 try simp only [sQ,ne_eq] at g1
 refine wSk (Zg (Zl (Za (xM (h:=xM (h:=xBs [(0,_),(1,_),(2,_),(3,_),(4,_)] [_,_,_,_,_] Tryz.underlying62 sz9 zo9 (h:=fun b4=>xK [0,2] rfl ZoK rfl (ZqT _ _ _ _ _ _ ([[97,109,121],[98,111,98],[99,121,100],[97,110,121,111,110,101],[100,97,110]]:List Str) oz (by decide) (by decide) hm _ hbm) (h:=?_))))))))
 rintro _ Bu _ hleu ⟨rfl,xu,hxu,rfl,rfl⟩
 replace hxu:=(show∀y∈( ([[97,109,121],[98,111,98],[99,121,100],[97,110,121,111,110,101],[100,97,110]]:List Str):List Str),y.length≤40 from by decide) _ hxu
 refine xM (h:=xX 0 rfl Za7 rfl (ZK _ _ _ _ _ _ oz oz oz hm _ hbm) (h:=?_))
 rintro _ _ ⟨re,rfl,rea,reb,rfl⟩
 refine Zn (ZlF (a:=re) (b:=8) rfl rfl rfl rfl (Za9 oz oz) ?_)
 have ht1:=Int.tmod_nonneg 63 (show 0≤re*8 by omega)
 have ht2:=Int.tmod_lt_of_pos (re*8) (show (0:Int)<63 by decide)
 refine Zn (Zh2 (a:=(re*8)) (b:=63) (r:=Int.tmod (re*8) 63) rfl rfl rfl rfl (by decide) rfl ?_)
 refine xD (h:=xM (h:=xX 0 rfl Za7 rfl (ZK _ _ _ _ _ _ oz oz oz hm _ hbm) (h:=?_)))
 rintro _ _ ⟨rf,rfl,rfa,rfb,rfl⟩
 refine xD (h:=xK [1] rfl Zvv rfl (Zv.borrow fun hma=>Zfe _ _ g.xs xu ((1+(Int.tmod (re*8) 63))+rf) om2 _ (hv.lend ZZ.mono hma om)) (h:=?_))
 rintro _ Ba _ hlea ⟨BBa,_,rfl,hBa,_,hma,_,la,aa,ca,rfl,rfl,hsa⟩
 replace hv:=hv.mono ZZ.mono hlea
 replace hbm:=hbm.mono hlea
 have hsan:=hsa.cap
 replace hsa:=hsa.anyK (B':=Ba) ZZ.any
 refine xM (h:=xE (h:=xE (h:=xA (h:=xA (h:=tL4 (Za (xM (h:=Zb rfl (fun g2=>?_) (fun g2=>?_)))))))))
 try simp only [sQ,ne_eq] at g2
 refine Zc (xM (h:=xA (h:=ZA (Zj (Zc (xM (h:=xD (h:=xA (h:=?_)))))))))
 exact ZD ⟨g.k+1,(((g.p+1)+1)+1),la,aa,ca,((Zcc g.xs xu ((1+(Int.tmod (re*8) 63))+rf)).1)⟩ [0,3] so2 ⟨so,so,by first | (simp only [];omega) | exact Nat.le_trans (ZfK _ _ _) (so),hsa⟩ t5 rfl
 try simp only [sQ,ne_eq] at g2
 refine ZL (ZA (Zj (Zc (xM (h:=xD (h:=xA (h:=?_)))))))
 exact ZD ⟨g.k+1,(((g.p+1)+1)+1),g.l,g.a,g.c,g.xs⟩ [0,1] so2 ⟨so,so,by first | (simp only [];omega) | exact Nat.le_trans (ZfK _ _ _) (so),hv⟩ t5 rfl
 try simp only [sQ,ne_eq] at g1
 refine ZS (Zae (ZX (ZI (Zj (Zg (Za (xM (h:=xX 0 rfl Za7 rfl (ZK _ _ _ _ _ _ oz oz oz hm _ hbm) (h:=?_)))))))))
 rintro _ _ ⟨rk2,rfl,rk2a,rk2b,rfl⟩
 refine tL2 (Zl (Za (ZE (h:=xA (h:=Zb rfl (fun g3=>?_) (fun g3=>?_))))))
 try simp only [sQ,ne_eq] at g3
 refine Zc (xM (h:=xM (h:=xX 0 rfl Zvm rfl (ZdN _ _ _ _ _ oz hm _ hbm) (h:=?_))))
 rintro _ _ ⟨xs,rfl,hxs,rfl⟩
 refine xM (h:=xX 0 rfl Za7 rfl (ZK _ _ _ _ _ _ oz oz oz hm _ hbm) (h:=?_))
 rintro _ _ ⟨ry,rfl,rya,ryb,rfl⟩
 refine xB [(0,_),(1,_)] [_,_] [_,_] ZuG ZdX (h:=xBs [(0,_)] [_,_] Tryz.underlying37 ZbM ZdX (h:=fun b12=>Zn (Zbg (z:=⟨xs,ry⟩) (R:=ZZ) 1 rfl hv rfl rfl rfl ZrL ZqB rfl rfl (ZaQ.box 2 rfl) rfl rfl (⟨rfl,by first | assumption | omega | (simp;done) | (simp;omega)⟩) om (fun l13 p13 c13 hv13=>?_))))
 refine xA (h:=ZA (Zj (Za (xM (h:=Z1 1 rfl hv13 ZZ.mono om3 (fun B14 hle14 hr14=>?_))))))
 have hr14n:=hr14.len
 refine xA (h:=tL3 (Zd ?_))
 exact eN [0] rfl t1 ⟨_,_,_,_,rfl,hr14,oz,rfl⟩
 try simp only [sQ,ne_eq] at g3
 refine Za (ZE (h:=xA (h:=Zb rfl (fun g4=>?_) (fun g4=>?_))))
 try simp only [sQ,ne_eq] at g4
 refine Zc (xM (h:=xM (h:=Zn (Zwd (R:=ZZ) 1 rfl hv rfl rfl rfl ZrL ZqB rfl rfl ZZ.one om (fun l15 p15 c15 hv15=>?_)))))
 refine xA (h:=ZA (Zj (Za (xM (h:=Z1 1 rfl hv15 ZZ.mono om3 (fun B16 hle16 hr16=>?_))))))
 have hr16n:=hr16.len
 refine xA (h:=tL2 (Zd ?_))
 exact eN [0] rfl t1 ⟨_,_,_,_,rfl,hr16,oz,rfl⟩
 try simp only [sQ,ne_eq] at g4
 refine ZL (ZA (Zj (Za (xM (h:=Z1 1 rfl hv ZZ.mono om3 (fun B17 hle17 hr17=>?_))))))
 have hr17n:=hr17.len
 refine xA (h:=tL2 (Zd ?_))
 exact eN [0] rfl t1 ⟨_,_,_,_,rfl,hr17,oz,rfl⟩

end Go.Proofs.YtikanaeckjcelaaGreatDoor
