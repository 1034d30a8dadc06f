/-
  WHAT THE FUNCTIONS THAT THE LAWS REACH COMPUTE: each function's contract, proved off its printed body (the text is written by program). No condition beyond those that each theorem states.
-/
import Derived.Test.YtonfijmgahdgeaaGreatDoorC2
namespace Go.Proofs.YtonfijmgahdgeaaGreatDoor
open Go Go.BL
set_option linter.unusedVariables false
set_option linter.unusedSimpArgs false
set_option maxRecDepth 4000
set_option maxHeartbeats 6400000
variable {J : JoinT}
theorem Zid (q:Option Addr) (cp:Nat) (xs:List DFolder) (B:Kn) (hx:SlK B q cp 5 Zm xs):Zw (pj J) 142 [.slice q xs.length cp] B [] (fun v B' Ls=>B'=B∧∃l a c,Ls=[l]∧v = .slice a xs.length c∧ZaV l a c 87 5 (ZZ 223 146) xs):=by
 refine cB 22 Tryz.func142 (h:=?_)
 have hxn:=hx.len
 refine Za (xA (h:=Za (xM (h:=xV Tryz.underlying36 (h:=Zj (Za1 (m:=0) (c:=xs.length) (by_:=88) [.string ⟨#[]⟩,.string ⟨#[]⟩,.slice none 0 0,.int .i64 0,.slice none 0 0] rfl rfl Zx6 Zgx rfl rfl ⟨_,_,rfl,by first | omega | (simp;done) | (simp;omega)⟩ ⟨_,_,rfl,by first | omega | (simp;done) | (simp;omega)⟩ om om (fun b1=>?_)))))))
 have hd1:=ZaV.zeros (b:=b1) (T:=87) (R:=(ZZ 223 146)) (d:=(⟨[],[],[],0,[]⟩:DFolder)) (m:=0) (c:=xs.length) (zs:=[.string ⟨#[]⟩,.string ⟨#[]⟩,.slice none 0 0,.int .i64 0,.slice none 0 0]) rfl (⟨_,_,_,_,[],[],rfl,rfl,ZW.nil,ZW.nil,by simp,by simp,by simp,by simp⟩) om
 refine xA (h:=tL1 (Zc (Za (xM (h:=xV Tryz.underlying36 (h:=xM (h:=Zg (Zy (α:=Gh DFolder) [0,2,9,10] (fun g=>[(3,.slice g.a g.xs.length g.c),(11,.int .i64 g.k)]) [0] (fun g=>[g.l]) (fun g Bx=>Bx=B∧g.k≤xs.length∧g.xs=xs.take g.k∧g.xs.length≤g.k∧ZaV g.l g.a g.c 87 5 (ZZ 223 146) g.xs) (fun g=>xs.length - g.k) ⟨0,0,(ZN b1 (zrow [.string ⟨#[]⟩,.string ⟨#[]⟩,.slice none 0 0,.int .i64 0,.slice none 0 0] xs.length) 87),(some ⟨b1,0,none⟩),xs.length,[]⟩ t2 rfl (⟨rfl,Nat.zero_le _,by simp,Nat.le_refl _,hd1⟩) (fun g B2 hle2 hI=>?_)))))))))
 obtain ⟨rfl,hk,hxs,hxl,hv⟩:=hI
 refine ZD [(0,_),(2,_),(3,_),(9,_),(10,_),(11,_)] [_] t6 rfl (Za (ZG (h:=Zc (Zb rfl (fun g1=>?_) (fun g1=>?_)))))
 try simp only [sQ,ne_eq] at g1
 refine wSk (Zc (Zg (Za ?_)))
 obtain ⟨w,hw⟩:=ZX (xs:=xs) (i:=g.k) om
 obtain ⟨bb4,oo4,rfl⟩:=hx.base hw
 obtain ⟨_,⟨qg5,cg5,qm5,cm5,rfl,hg5,hm5,hb5,hb5b⟩,hc5⟩:=hx.elem hw
 have hg5n:=hg5.len
 have hm5n:=hm5.len
 have hm5s:=Zap hm5
 refine xIx Tryz.underlying36 Zb1 (h:=yL [_,_,_,_,_] Ziy hc5 0 (h:=xAl [_,_,_,_,_] Zgx (h:=fun b6=>xS [_,_,_,_,_] 1 [_,_,_,_,_] Zb1 (h:=tL2 (Ze (xM (h:=xL [_,_,_,_,_] Ziy 1 (h:=xC ZzK rfl (ZjS _ _ _ _ w _ hg5 hm5) (h:=?_)))))))))
 rintro _ B7 _ hle7 ⟨rfl,l7,a7,c7,l7b,a7b,c7b,rfl,rfl,hs7,hs7b⟩
 refine xBs [(0,_)] [_,_,_,_,_] Tryz.underlying36 Zb1 Zgx (h:=fun b8=>Zj (ZuL (R:=(ZZ 223 146)) (⟨w.owner,w.name,w.grants,w.next,w.mail⟩) 0 [2,3] rfl rfl hv rfl rfl rfl Zx6 ZAQ rfl rfl (Zc4.box 4 rfl) rfl rfl (l7 ++ l7b) (by simp) (⟨_,_,_,_,_,_,rfl,rfl,(hs7.anyK Zac.any),(hs7b.anyK Zab.any),by first | assumption | omega | (simp;done) | (simp;omega),by first | assumption | omega | (simp;done) | (simp;omega),by first | assumption | omega | (simp;done) | (simp;omega),by first | assumption | omega | (simp;done) | (simp;omega)⟩) om (fun l9 p9 c9 hd9=>?_)))
 refine xA (h:=ZK (Zn (Ze (xD (h:=xM (h:=?_))))))
 exact ZC ⟨g.k+1,0,l9,p9,c9,(g.xs ++ [⟨w.owner,w.name,w.grants,w.next,w.mail⟩])⟩ [0] (by first | omega | (simp only [];omega)) ⟨rfl,by simp only [];omega,by simp only [];rw [Zbs hw,hxs],by simp;omega,hd9⟩ ⟨rfl,rfl,rfl,rfl,rfl,rfl,trivial⟩ rfl
 try simp only [sQ,ne_eq] at g1
 have hxe:g.xs=xs:=by rw [hxs];exact List.take_of_length_le oz
 refine ZE (ZT (ZH (Zv (Zn (Za (xM (h:=xA (h:=Zd ?_))))))))
 exact ZdI .ret (.inl rfl) [_] [0] rfl ⟨rfl,trivial⟩ ⟨rfl,_,_,_,rfl,by rw [← hxe];rfl,hxe ▸ hv⟩

theorem Zhh (q1 q2 q3:Option Addr) (c1 c2 c3:Nat) (x:DHost) (B:Kn) (hu:SlK B q1 c1 3 Zp x.users) (hf:SlK B q2 c2 5 Zm x.folders) (hi:SlK B q3 c3 4 Zz x.queue.items):Zw (pj J) 93 [.agg #[str x.domain,.slice q1 x.users.length c1,.slice q2 x.folders.length c2,.int .i64 x.queue.next,.slice q3 x.queue.items.length c3]] B [] (fun v B' Ls=>∃q1 c1 q2 c2 q3 c3 l1 l2 l3,Ls=[l1,l2,l3]∧v = .agg #[str x.domain,.slice q1 x.users.length c1,.slice q2 x.folders.length c2,.int .i64 x.queue.next,.slice q3 x.queue.items.length c3]∧ZW Kn.none l1 q1 c1 132 3 Zp x.users∧ZaV l2 q2 c2 87 5 (ZZ 223 146) x.folders∧ZaV l3 q3 c3 136 4 (ZaX 9) x.queue.items):=by
 refine cB 16 Tryz.func93 (h:=?_)
 have hun:=hu.len
 have hfn:=hf.len
 have hin:=hi.len
 refine Za (xBx [_,_,_,_,_] (h:=fun b1=>xAl [_,_,_,_,_] Zca (h:=fun b2=>tL2 (Zc (Z3 (keeps _ [0] _) mo kr ⟨Kn.le.refl _,Za7.refl _ _⟩ (fun _ _=>?_))))))
 refine aW 0 rfl Zie (h:=aT 1 rfl (ZR fun D B L hI=>Zo rfl rfl lk9 rfl (atL 0 (hI.2.1.trans rfl) rfl rfl) r4) (h:=aW 3 rfl Zcg (h:=aT 4 rfl (ZR fun D B L hI=>Zo rfl rfl ZjE rfl (atL 0 (hI.2.1.trans rfl) rfl rfl) r4) (h:=aW 6 rfl ZaA (h:=aT 7 rfl (ZR fun D B L hI=>Zo rfl rfl ZeS rfl (atL 0 (hI.2.1.trans rfl) rfl rfl) r4) (h:=aW 9 rfl ZeN (h:=aT 10 rfl (ZR fun D B L hI=>Z4 [_,_] rfl rfl ZlR rfl (Zbu 0 (hI.2.1.trans rfl) rfl rfl) r4) (h:=ZB 2 kr rfl kr (ZO (parts:=[]) [] rfl rfl Tryz.underlying35 Zbr Zej rfl rfl rfl rfl rfl (fun b3=>?_))))))))))
 refine ⟨⟨Kn.le.refl _,t1⟩,(ZB 5 kr rfl kr (Zcz (R:=Zp) 2 rfl (ZW.lit0 (R:=Zp)) rfl rfl rfl ZoY Zpa rfl rfl rfl hu.rows Zp.one rfl om (fun l4 p4 c4 hv4=>?_)))⟩
 refine ⟨⟨Kn.le.refl _,t1⟩,(ZB 8 kr rfl kr (Zag rfl rfl ZAb rfl (Zid _ _ x.folders _ hf) ?_))⟩
 rintro _ B5 _ hle5 ⟨rfl,l5,a5,c5,rfl,rfl,hs5⟩
 refine ⟨⟨Kn.le.refl _,t1⟩,(ZB 11 kr rfl kr (Zag rfl rfl ZAa rfl (ZkM _ _ x.queue _ hi) ?_))⟩
 rintro _ B6 _ hle6 ⟨l6,q6,c6,rfl,rfl,hd6⟩
 replace hv4:=hv4.mono Zp.mono hle6
 refine ⟨⟨hle6,t1⟩,(aT 12 rfl (ZR fun D B L hI=>Zas (parts:=[(0,_),(1,_),(2,_),(3,_)]) [_,_,_,_,_] [_,_,_,_,_] rfl rfl ZgI Zca rfl rfl rfl r4) (h:=Zar 13 kr rfl kr kr kr (ZL [_,_,_,_,_] 1 [_,_,_,_,_] rfl rfl ZcZ rfl rfl rfl rfl rfl rfl rfl rfl ?_)))⟩
 refine Zn (tL5 (Zd ?_))
 exact eN [2,3,4] rfl ⟨⟨_,rfl,.inr ⟨[_,_,_,_,_],ZcK,Zbu 1 rfl rfl rfl,rfl⟩⟩,trivial⟩ ⟨_,_,_,_,_,_,_,_,_,rfl,rfl,hv4.anyK Zp.any,hs5,hd6⟩

theorem ZoD (b:Nat) (m:DMail) (hm:m.text.length≤2000000) (B:Kn):Zw (pj J) 149 [ptr ⟨b,0,none⟩,.agg #[.int .i64 m.uid,.int .i64 m.flags,str m.text]] B [ZN b [.pointer none,.pointer none,.int .i64 0] 173] (fun v B' Ls=>B'=B∧∃s,Ls=[s]∧MLst 173 175 b ([] ++ [m]) s):=by
 refine cB 35 Tryz.func149 (h:=?_)
 refine Za (xBx [_,_,_] (h:=fun b1=>tL2 (Za (xL [_,_,_] ZgO 1 (h:=xB [(0,_)] [_,_,_,_] [_,_,_,_] ZwX Zwk (h:=xBx [_,_,_,_] (h:=fun b2=>xA (h:=tL3 (Zc (Za (xM (h:=xNc (h:=xW Zig (h:=x1 Zmx 0 (h:=Zj (ZhG rfl rfl rfl rfl rfl (Zhv Tryz.underlying171) (Zb rfl (fun g1=>?_) (fun g1=>by cases g1))))))))))))))))))
 refine Ze (xM (h:=xM (h:=xNc (h:=xW ZmU (h:=xS [_] 0 [_,_,_] Zsy (h:=Zn (Za (xM (h:=xM (h:=xNc (h:=xW Zig (h:=xS [_] 0 [_,_,_] Zsy (h:=tL3 (Ze (xM (h:=xNc (h:=xW Zif (h:=x1 lk3 0 (h:=xD (h:=xNc (h:=xW Zif (h:=xS [_] 0 [_,_,_] sz3 (h:=?_)))))))))))))))))))))))
 exact ZAY .normal (.inr rfl) [] [0,2] rfl trivial ⟨rfl,_,rfl,MLst.one (bn:=b2) hm (List.Perm.refl _)⟩

theorem ZoC (b bl:Nat) (v0:Value) (x:DMail) (rest:Cells) (xs:List DMail) (m:DMail) (hm:m.text.length≤2000000) (hn:xs.length≤2000000) (B:Kn) (hh:Zkd 175 v0 bl x rest xs):Zw (pj J) 149 [ptr ⟨b,0,none⟩,.agg #[.int .i64 m.uid,.int .i64 m.flags,str m.text]] B [ZN b [v0,ptr ⟨bl,0,none⟩,.int .i64 xs.length] 173,ZN bl (Zfu x (.pointer none)) 175,rest] (fun v B' Ls=>B'=B∧∃s,Ls=[s]∧MLst 173 175 b (xs ++ [m]) s):=by
 refine cB 35 Tryz.func149 (h:=?_)
 refine Za (xBx [_,_,_] (h:=fun b1=>tL4 (Za (xL [_,_,_] ZgO 3 (h:=xB [(0,_)] [_,_,_,_] [_,_,_,_] ZwX Zwk (h:=xBx [_,_,_,_] (h:=fun b2=>xA (h:=tL5 (Zc (Za (xM (h:=xNc (h:=xW Zig (h:=x1 Zmx 0 (h:=Zj (ZhG rfl rfl rfl rfl rfl (Zhv Tryz.underlying171) (Zb rfl (fun g1=>by cases g1) (fun g1=>?_))))))))))))))))))
 refine Ze (xM (h:=xNc (h:=xW Zig (h:=x1 Zmx 0 (h:=xM (h:=xNc (h:=xW ZmS (h:=xS [_] 1 [_,_,_,_] Zsy (h:=Zn (Za (xM (h:=xM (h:=xNc (h:=xW Zig (h:=xS [_] 0 [_,_,_] Zsy (h:=tL5 (Ze (xM (h:=xNc (h:=xW Zif (h:=x1 lk3 0 (h:=xD (h:=xNc (h:=xW Zif (h:=xS [_] 0 [_,_,_] sz3 (h:=?_))))))))))))))))))))))))))
 exact ZAY .normal (.inr rfl) [] [0,4,2,1] rfl trivial ⟨rfl,_,rfl,MLst.add (bn:=b2) hh hm rfl (List.Perm.refl _)⟩

theorem Zqo (b:Nat) (xs:List DMail) (m:DMail) (s:Cells) (hm:m.text.length≤2000000) (hn:xs.length≤2000000) (B:Kn) (hs:MLst 173 175 b xs s):Zw (pj J) 149 [ptr ⟨b,0,none⟩,.agg #[.int .i64 m.uid,.int .i64 m.flags,str m.text]] B [s] (fun v B' Ls=>B'=B∧∃s',Ls=[s']∧MLst 173 175 b (xs ++ [m]) s'):=by
 rcases hs with ⟨rfl,hp⟩ | ⟨v0,bl,x,rest,hp,hh⟩
 · exact Zw.perm (by simpa using hp) (ZoD b m hm B)
 · exact Zw.perm (by simpa using hp) (ZoC b bl v0 x rest xs m hm hn B hh)

theorem ZoB (q:Option Addr) (cp:Nat) (xs:List DMail) (B:Kn) (hx:SlK B q cp 3 Zab xs):Zw (pj J) 98 [.slice q xs.length cp] B [] (fun v B' Ls=>∃b s,Ls=[s]∧v=ptr ⟨b,0,none⟩∧MLst 173 175 b xs s):=by
 refine cB 19 Tryz.func98 (h:=?_)
 have hxn:=hx.len
 refine Za (xA (h:=Za (xB [] [_,_,_] [_,_,_] ZyG Zyj (h:=xBx [_,_,_] (h:=fun b1=>xA (h:=tL1 (Zc (Za (xM (h:=xV Tryz.underlying80 (h:=xM (h:=Zg (Zy (α:=Gh DMail) [0,2,3,8,9] (fun g=>[(10,.int .i64 g.k)]) [0] (fun g=>[g.l]) (fun g Bx=>Bx=B∧g.k≤xs.length∧g.xs=xs.take g.k∧g.xs.length≤g.k∧MLst 173 175 b1 g.xs g.l) (fun g=>xs.length - g.k) ⟨0,0,_,none,0,[]⟩ t1 rfl (⟨rfl,Nat.zero_le _,by simp,Nat.le_refl _,MLst.nil⟩) (fun g B2 hle2 hI=>?_))))))))))))))
 obtain ⟨rfl,hk,hxs,hxl,hv⟩:=hI
 refine ZD [(0,_),(2,_),(3,_),(8,_),(9,_),(10,_)] [_] t6 rfl (Za (ZG (h:=Zc (Zb rfl (fun g1=>?_) (fun g1=>?_)))))
 try simp only [sQ,ne_eq] at g1
 refine wSk (Zc (Zg (Za ?_)))
 obtain ⟨w,hw⟩:=ZX (xs:=xs) (i:=g.k) om
 obtain ⟨bb4,oo4,rfl⟩:=hx.base hw
 obtain ⟨_,⟨rfl,hb5⟩,hc5⟩:=hx.elem hw
 refine xIx Tryz.underlying80 ZcT (h:=yL [_,_,_] ZgO hc5 0 (h:=xAl [_,_,_] Ziz (h:=fun b6=>xS [_,_,_] 1 [_,_,_] ZcT (h:=tL2 (Ze (xM (h:=xL [_,_,_] ZgO 1 (h:=xK [0] rfl Zz7 rfl (Zqo _ g.xs w _ om2 om2 _ hv) (h:=?_)))))))))
 rintro _ B7 _ hle7 ⟨rfl,s7,rfl,hs7⟩
 refine ZK (Zn (Ze (xD (h:=xM (h:=?_)))))
 exact ZC ⟨g.k+1,0,s7,none,0,(g.xs ++ [w])⟩ [0] so2 ⟨rfl,so,by simp only [];rw [Zbs hw,hxs],by simp;omega,hs7⟩ t6 rfl
 try simp only [sQ,ne_eq] at g1
 have hxe:g.xs=xs:=by rw [hxs];exact List.take_of_length_le oz
 refine ZE (ZT (ZH (Zv (Zn (Za (xM (h:=xA (h:=Zd ?_))))))))
 exact eN [0] rfl t1 ⟨_,_,rfl,rfl,hxe ▸ hv⟩

theorem ZpT (n:Int) (B:Kn):Z8 (pj J) 89 [.int .i64 n] B (.bool (decide (0≤n) && decide (n≤99))):=by
 refine cB 9 Tryz.func89 (h:=?_)
 refine Za (xA (h:=Za (xM (h:=ZdZ (h:=xM (h:=Zs (d:=5) rfl (fun g1=>?_) (fun g1=>?_)))))))
 try simp only [sQ,ne_eq] at g1
 refine xM (h:=ZbJ (h:=xT (h:=xA (h:=Zd ?_))))
 exact eR t1 ⟨Zf (by rw [Bool.eq_iff_iff];simp;try omega),rfl,rfl⟩
 try simp only [sQ,ne_eq] at g1
 refine xP (h:=xP (h:=xF (h:=xA (h:=Zd ?_))))
 exact eR t1 ⟨Zf (by rw [Bool.eq_iff_iff];simp;try omega),rfl,rfl⟩

theorem Zlg (q:Option Addr) (cp:Nat) (xs:List DSpan) (B:Kn) (hs:SlK B q cp 2 Z0 xs):Z8 (pj J) 42 [.slice q xs.length cp] B (.bool (ZdU xs)):=by
 refine cB 30 Tryz.func42 (h:=?_)
 have hsn:=hs.len
 refine Za (xA (h:=Zc (Za (xM (h:=xV Tryz.underlying47 (h:=ZG (h:=xM (h:=Zs (d:=8) rfl (fun g1=>?_) (fun g1=>?_)))))))))
 try simp only [sQ,ne_eq] at g1
 refine xP (h:=xP (h:=xP (h:=xT (h:=Zb (t:=true) rfl (fun _=>Za (xA (h:=Zd (Zl ?_)))) (fun h=>Bool.noConfusion h)))))
 exact eR t1 ⟨Zf (by simp only [ZdU];rw [show (decide (1≤xs.length) && decide (xs.length≤6))=false by simp;omega,Bool.and_false]),rfl,rfl⟩
 try simp only [sQ,ne_eq] at g1
 refine xM (h:=xV Tryz.underlying47 (h:=Zek (h:=xF (h:=Zb rfl (fun g2=>?_) (fun g2=>?_)))))
 try simp only [sQ,ne_eq] at g2
 refine Za (xA (h:=Zd (Zl ?_)))
 exact eR t1 ⟨Zf (by simp only [ZdU];rw [show (decide (1≤xs.length) && decide (xs.length≤6))=false by simp;omega,Bool.and_false]),rfl,rfl⟩
 try simp only [sQ,ne_eq] at g2
 refine wSk (Zc (Za (xM (h:=xV Tryz.underlying47 (h:=xM (h:=Zg (Zy (α:=Nat) [0,12,13,14] (fun k=>[(15,.int .i64 k)]) [] (fun k=>[]) (fun k Bx=>Bx=B∧k≤xs.length∧∀y,y∈xs.take k→ZeV y=true) (fun k=>xs.length - k) 0 t1 rfl (⟨rfl,Nat.zero_le _,by simp⟩) (fun k B1 hle1 hI=>?_))))))))
 obtain ⟨rfl,hk,hall⟩:=hI
 refine ZD [(0,_),(12,_),(13,_),(14,_),(15,_)] [] t5 rfl (Za (ZG (h:=Zc (Zb rfl (fun g3=>?_) (fun g3=>?_)))))
 try simp only [sQ,ne_eq] at g3
 refine wSk (Zc (Zg (Za ?_)))
 obtain ⟨m,hm⟩:=ZX (xs:=xs) (i:=k) om
 obtain ⟨bb3,oo3,rfl⟩:=hs.base hm
 obtain ⟨_,rfl,hc4⟩:=hs.elem hm
 refine xIx Tryz.underlying47 Zl5 (h:=yL [_,_] Zwg hc4 0 (h:=xAl [_,_] Zwi (h:=fun b5=>xS [_,_] 0 [_,_] Zl5 (h:=tL1 (Za (xW Zhl (h:=x1 lk3 0 (h:=xR ZA0 rfl (ZpT m.low _) (h:=xN (h:=xM (h:=Zs (d:=23) rfl (fun g4=>?_) (fun g4=>?_))))))))))))
 try simp only [sQ,ne_eq] at g4
 refine xP (h:=xP (h:=xP (h:=xP (h:=xT (h:=Zb (t:=true) rfl (fun _=>Za (xA (h:=Zd (ZA (Zl (ZM (ZA (Zl ?_)))))))) (fun h=>Bool.noConfusion h))))))
 exact eR t1 ⟨Zf (by rw [ZdU,ZbX hm (by simp only [ZeV];rw [show (decide (0≤m.low) && decide (m.low≤99))=false by simpa using g4,Bool.false_and]),Bool.false_and]),rfl,rfl⟩
 try simp only [sQ,ne_eq] at g4
 refine xW Zhk (h:=x1 lk3 0 (h:=xR ZA0 rfl (ZpT m.high _) (h:=xN (h:=xF (h:=Zb rfl (fun g5=>?_) (fun g5=>?_))))))
 try simp only [sQ,ne_eq] at g5
 refine Za (xA (h:=Zd (ZA (Zl (ZM (ZA (Zl ?_)))))))
 exact eR t1 ⟨Zf (by rw [ZdU,ZbX hm (by simp only [ZeV];rw [show (decide (0≤m.high) && decide (m.high≤99))=false by simpa using g5,Bool.and_false]),Bool.false_and]),rfl,rfl⟩
 try simp only [sQ,ne_eq] at g5
 refine ZS (ZK (Zn (Ze (xD (h:=xM (h:=?_))))))
 exact ZC (k+1) [] so2 ⟨rfl,oz,Za3 hm hall (by simp only [ZeV];rw [show (decide (0≤m.low) && decide (m.low≤99))=true by simpa using g4,show (decide (0≤m.high) && decide (m.high≤99))=true by simpa using g5];rfl)⟩ t5 rfl
 try simp only [sQ,ne_eq] at g3
 refine ZE (ZT (ZH (Zv (Zn (Za (xA (h:=Zd ?_)))))))
 exact eR t1 ⟨Zf (by rw [ZdU,ZdP (Zbb oz hall),Bool.true_and,Bool.eq_iff_iff];simp;omega),rfl,rfl⟩

theorem Znq (n last:Int) (B:Kn):Z8 (pj J) 100 [.int .i64 n,.int .i64 last] B (.int .i64 (if n=0 then last else n)):=by
 refine cB 9 Tryz.func100 (h:=?_)
 refine Za (xA (h:=Zc (Za (xM (h:=ZaH (h:=Zb rfl (fun g1=>?_) (fun g1=>?_)))))))
 try simp only [sQ,ne_eq] at g1
 refine Za (xM (h:=xA (h:=Zd (Zl ?_))))
 exact eR t1 ⟨congrArg (Value.int .i64) (by rw [if_pos g1]),rfl,rfl⟩
 try simp only [sQ,ne_eq] at g1
 refine wSk (Za (xM (h:=xA (h:=Zd ?_))))
 exact eR t1 ⟨congrArg (Value.int .i64) (by rw [if_neg g1]),rfl,rfl⟩

theorem Zi2 (q:Option Addr) (cp:Nat) (xs:List DSpan) (last:Int) (B:Kn) (hs:SlK B q cp 2 Z0 xs):Zw (pj J) 47 [.slice q xs.length cp,.int .i64 last] B [] (fun v B' Ls=>Ls=[]∧∃a c,v = .slice a (Z6 xs last).length c∧SlK B' a c 1 ZbU (Z6 xs last)):=by
 refine cB 67 Tryz.func47 (h:=?_)
 have hsn:=hs.len
 refine Za (xA (h:=Za (xBs [] [] Tryz.underlying58 sz3 zo3 (h:=fun b1=>xA (h:=tL1 (Zc (Za (xM (h:=xR ZA8 rfl (Zlg _ _ xs _ hs) (h:=xN (h:=xM (h:=Zs (d:=18) rfl (fun g1=>?_) (fun g1=>?_)))))))))))))
 try simp only [sQ,ne_eq] at g1
 refine xP (h:=xP (h:=xT (h:=Zb (t:=true) rfl (fun _=>Za (xM (h:=ZfD 0 rfl (ZW.lit0 (R:=ZbU) (w:=1)) ZbU.mono om3 (fun B3 hle3 hr3=>?_)))) (fun h=>Bool.noConfusion h))))
 replace hs:=up1 hle3 hs
 have hr3n:=hr3.len
 refine xA (h:=tL1 ?_)
 rw [ZkV (.inl (by simpa using g1))]
 refine Zd (Zl ?_)
 exact eN [] rfl t1 ⟨rfl,_,_,rfl,hr3⟩
 try simp only [sQ,ne_eq] at g1
 refine xM (h:=ZG (h:=xF (h:=Zb rfl (fun g2=>?_) (fun g2=>?_))))
 try simp only [sQ,ne_eq] at g2
 refine Za (xM (h:=ZfD 0 rfl (ZW.lit0 (R:=ZbU) (w:=1)) ZbU.mono om3 (fun B4 hle4 hr4=>?_)))
 replace hs:=up1 hle4 hs
 have hr4n:=hr4.len
 refine xA (h:=tL1 ?_)
 rw [ZkV (.inr g2)]
 refine Zd (Zl ?_)
 exact eN [] rfl t1 ⟨rfl,_,_,rfl,hr4⟩
 try simp only [sQ,ne_eq] at g2
 have hset:ZdU xs=true:=by simpa using g1
 refine wSk (Za (xM (h:=Zj (Zge rfl rfl rfl rfl (xA (h:=Za (Zj (Zae (l:=bitv fun _=>false) rfl rfl Zyi kr (fun b5=>?_)))))))))
 refine tL2 (Zc (Za (xM (h:=xV Tryz.underlying47 (h:=xM (h:=Zg (Zy (α:=Nat × (Nat→Bool)) [0,1,4,5,6,21,25,26] (fun g=>[(27,.int .i64 g.1)]) [1] (fun g=>[ZN b5 (bitv g.2) 177]) (fun g Bx=>Bx=B∧g.1≤xs.length∧g.2=ZhY xs (min last 99) g.1) (fun g=>xs.length - g.1) (0,fun _=>false) t1 rfl (⟨rfl,Nat.zero_le _,Zqn _ _⟩) (fun g B6 hle6 hI=>?_))))))))
 obtain ⟨rfl,hk,hF⟩:=hI
 refine ZD [(0,_),(1,_),(4,_),(5,_),(6,_),(21,_),(25,_),(26,_),(27,_)] [_,_] t9 rfl (Za (ZG (h:=Zc (Zb rfl (fun g3=>?_) (fun g3=>?_)))))
 try simp only [sQ,ne_eq] at g3
 refine wSk (Zc (Zg (Za ?_)))
 obtain ⟨m,hm⟩:=ZX (xs:=xs) (i:=g.1) om
 obtain ⟨bb8,oo8,rfl⟩:=hs.base hm
 obtain ⟨_,rfl,hc9⟩:=hs.elem hm
 refine xIx Tryz.underlying47 Zl5 (h:=?_)
 have hsp:=Zoi hset m (List.mem_of_getElem? hm)
 simp only [ZeV,Bool.and_eq_true,decide_eq_true_eq] at hsp
 have hlo1:1≤(if m.low=0 then (min last 99) else m.low):=by split <;> omega
 have hhi1:1≤(if m.high=0 then (min last 99) else m.high):=by split <;> omega
 refine yL [_,_] Zwg hc9 0 (h:=xAl [_,_] Zwi (h:=fun b10=>xS [_,_] 2 [_,_] Zl5 (h:=tL3 (Zc (Z3 (same _ _) mo kr ⟨rfl,rfl⟩ (fun _ _=>?_))))))
 refine aW 0 rfl Zhl (h:=aT 1 rfl (Zaf fun D=>Zo rfl rfl lk3 rfl (atL 2 rfl rfl rfl) r4) (h:=aM 2 rfl (h:=aT 3 rfl (Zaf fun D=>Z9 rfl rfl ZxH rfl (Znq m.low (min last 99) _) r4) (h:=aW 4 rfl Zhk (h:=aT 5 rfl (Zaf fun D=>Zo rfl rfl lk3 rfl (atL 2 rfl rfl rfl) r4) (h:=aM 6 rfl (h:=aT 7 rfl (Zaf fun D=>Z9 rfl rfl ZxH rfl (Znq m.high (min last 99) _) r4) (h:=aA 8 rfl (h:=aA 9 rfl (h:=Zu kr kr ?_))))))))))
 refine Zn (Zc (Za (xM (h:=xM (h:=Zek (h:=Zb rfl (fun g4=>?_) (fun g4=>?_)))))))
 try simp only [sQ,ne_eq] at g4
 refine Ze (xM (h:=xM (h:=xA (h:=xA (h:=Zn (Za (xM (h:=xA (h:=Zg (Zy (α:=Int × (Nat→Bool)) [0,1,4,5,6,8,9,10,21,25,26,27,28,41] (fun o=>[(11,.int .i64 o.1)]) [1] (fun o=>[ZN b5 (bitv o.2) 177]) (fun o Bx=>Bx=B6∧(if m.high=0 then (min last 99) else m.high)≤o.1∧(o.1≤min (if m.low=0 then (min last 99) else m.low) (min last 99)+1∨o.1=(if m.high=0 then (min last 99) else m.high))∧o.2=ZjW g.2 (if m.high=0 then (min last 99) else m.high) o.1) (fun o=>(min (if m.low=0 then (min last 99) else m.low) (min last 99)+1 - o.1).toNat) ((if m.high=0 then (min last 99) else m.high),g.2) t1 rfl (⟨rfl,Int.le_refl _,.inr rfl,Zi8 _ _⟩) (fun o B13 hle13 hI=>?_)))))))))))
 obtain ⟨rfl,ho1,ho2,ho3⟩:=hI
 refine ZD [(0,_),(1,_),(4,_),(5,_),(6,_),(8,_),(9,_),(10,_),(11,_),(21,_),(25,_),(26,_),(27,_),(28,_),(41,_)] [_,_,_] t15 rfl (Zc (Za (xM (h:=xM (h:=xM (h:=Zj (Zge rfl rfl rfl rfl (ZbJ (h:=Zb rfl (fun g5=>?_) (fun g5=>?_))))))))))
 try simp only [sQ,ne_eq] at g5
 refine wSk (Zc (Zg (Ze (xM (h:=Zj (Zpp rfl rfl Tryz.underlying177 sz4 rfl rfl oz oz ?_))))))
 refine Zj (Znf 1 rfl rfl sz4 rfl rfl rfl oz ?_)
 refine ZK (Zn (Ze (xM (h:=xD (h:=xA (h:=?_))))))
 exact ZC (o.1+1,fun n=>if n=o.1.toNat then true else o.2 n) [0,1,2] so2 ⟨rfl,so,.inl (so),Zi9 ho3 oz ho1⟩ t15 rfl
 try simp only [sQ,ne_eq] at g5
 refine ZE (ZT (ZH (Zv (ZK (Zn (Ze (xD (h:=xM (h:=?_)))))))))
 exact ZC (g.1+1,o.2) [0,1] so2 ⟨rfl,so,Zk4 (a:=(if m.high=0 then (min last 99) else m.high)) (e:=(if m.low=0 then (min last 99) else m.low)) hm rfl rfl oz oz oz (by rw [← hF];exact ho3) oz ho1 oz⟩ t9 rfl
 try simp only [sQ,ne_eq] at g4
 refine wSk (Za (xM (h:=xA (h:=Zg (Zy (α:=Int × (Nat→Bool)) [0,1,4,5,6,8,9,10,21,25,26,27,28,41] (fun o=>[(11,.int .i64 o.1)]) [1] (fun o=>[ZN b5 (bitv o.2) 177]) (fun o Bx=>Bx=B6∧(if m.low=0 then (min last 99) else m.low)≤o.1∧(o.1≤min (if m.high=0 then (min last 99) else m.high) (min last 99)+1∨o.1=(if m.low=0 then (min last 99) else m.low))∧o.2=ZjW g.2 (if m.low=0 then (min last 99) else m.low) o.1) (fun o=>(min (if m.high=0 then (min last 99) else m.high) (min last 99)+1 - o.1).toNat) ((if m.low=0 then (min last 99) else m.low),g.2) t1 rfl (⟨rfl,Int.le_refl _,.inr rfl,Zi8 _ _⟩) (fun o B14 hle14 hI=>?_))))))
 obtain ⟨rfl,ho1,ho2,ho3⟩:=hI
 refine ZD [(0,_),(1,_),(4,_),(5,_),(6,_),(8,_),(9,_),(10,_),(11,_),(21,_),(25,_),(26,_),(27,_),(28,_),(41,_)] [_,_,_] t15 rfl (Zc (Za (xM (h:=xM (h:=xM (h:=Zj (Zge rfl rfl rfl rfl (ZbJ (h:=Zb rfl (fun g5=>?_) (fun g5=>?_))))))))))
 try simp only [sQ,ne_eq] at g5
 refine wSk (Zc (Zg (Ze (xM (h:=Zj (Zpp rfl rfl Tryz.underlying177 sz4 rfl rfl oz oz ?_))))))
 refine Zj (Znf 1 rfl rfl sz4 rfl rfl rfl oz ?_)
 refine ZK (Zn (Ze (xM (h:=xD (h:=xA (h:=?_))))))
 exact ZC (o.1+1,fun n=>if n=o.1.toNat then true else o.2 n) [0,1,2] so2 ⟨rfl,so,.inl (so),Zi9 ho3 oz ho1⟩ t15 rfl
 try simp only [sQ,ne_eq] at g5
 refine ZE (ZT (ZH (Zv (ZK (Zn (Ze (xD (h:=xM (h:=?_)))))))))
 exact ZC (g.1+1,o.2) [0,1] so2 ⟨rfl,so,Zk4 (a:=(if m.low=0 then (min last 99) else m.low)) (e:=(if m.high=0 then (min last 99) else m.high)) hm rfl rfl oz oz oz (by rw [← hF];exact ho3) oz ho1 oz⟩ t9 rfl
 try simp only [sQ,ne_eq] at g3
 have hF2:g.2=ZhY xs (min last 99) xs.length:=by rw [hF,show g.1=xs.length from by omega]
 refine ZE (ZT (ZH (Zv (Zn (Zc (Za (Zj (Zsh 1 rfl rfl ZyP rfl rfl (xM (h:=Zg (Zy (α:=Gh Int) [0,1,4,6,21,25,26,27,28,55] (fun h=>[(5,.slice h.a h.xs.length h.c),(56,.int .i64 h.k)]) [0] (fun h=>[h.l]) (fun h Bx=>Bx=B6∧h.k≤100∧h.xs.length≤h.k∧h.xs=ZcB xs (min last 99) (min (h.k - 1) (min last 99).toNat)∧ZW Bx h.l h.a h.c 3 1 ZbU h.xs) (fun h=>100 - h.k) ⟨0,0,_,_,_,[]⟩ t2 rfl (⟨rfl,Nat.zero_le _,Nat.le_refl _,by rw [show min (0 - 1) (min last 99).toNat=0 from by omega];rfl,.lit0⟩) (fun h B15 hle15 hI=>?_))))))))))))
 obtain ⟨rfl,hk2,hgl,hnt,hv⟩:=hI
 refine ZD [(0,_),(1,_),(4,_),(5,_),(6,_),(21,_),(25,_),(26,_),(27,_),(28,_),(55,_),(56,_)] [_,_] t12 rfl (Za (ZG (h:=Zc (Zb rfl (fun g6=>?_) (fun g6=>?_)))))
 try simp only [sQ,ne_eq] at g6
 refine wSk (Zc (Zg (Za (xM (h:=Zj (Zsi rfl rfl Tryz.underlying177 lk4 sz4 rfl rfl oz oz oz ?_))))))
 refine xA (h:=xA (h:=Za (xM (h:=Zb rfl (fun g7=>?_) (fun g7=>?_)))))
 try simp only [sQ,ne_eq] at g7
 refine Ze (xM (h:=xM (h:=xBs [(0,_)] [_] Tryz.underlying58 sz3 zo3 (h:=fun b16=>Zj (ZiK (z:=(↑h.k:Int)) (R:=ZbU) 0 rfl hv rfl rfl rfl ZAX ZAO rfl rfl (Zc4.box 2 rfl) rfl rfl (rfl) om (fun l17 p17 c17 hv17=>?_))))))
 refine xA (h:=ZK (Zn (Ze (xD (h:=xM (h:=?_))))))
 exact ZC ⟨h.k+1,0,l17,p17,c17,(h.xs ++ [(↑h.k:Int)])⟩ [0,1] so2 ⟨rfl,so,by simp;omega,by simp only [];rw [Nat.add_sub_cancel,Zs5 (by rw [← hF2];simpa using g7),hnt],hv17⟩ t12 rfl
 try simp only [sQ,ne_eq] at g7
 refine ZS (ZK (Zn (Ze (xD (h:=xM (h:=?_))))))
 exact ZC ⟨h.k+1,0,h.l,h.a,h.c,h.xs⟩ [0,1] so2 ⟨rfl,so,so,by simp only [];rw [Nat.add_sub_cancel,Zvg (by rw [← hF2];simpa using g7),hnt],hv⟩ t12 rfl
 try simp only [sQ,ne_eq] at g6
 refine ZE (ZT (ZH (Zv (Zn (Za (xM (h:=ZfD 0 rfl hv ZbU.mono om3 (fun B18 hle18 hr18=>?_))))))))
 have hr18n:=hr18.len
 refine xA (h:=tL2 ?_)
 have hne:Z6 xs last=h.xs:=by rw [Zox hset,hnt,show min (h.k - 1) (min last 99).toNat=(min last 99).toNat from by omega]
 rw [hne]
 refine Zd ?_
 exact eN [] rfl t1 ⟨rfl,_,_,rfl,hr18⟩

theorem ZuM (hJ:Joins Tryz.prog J) (ba b:Nat) (q1 q2 q3:Option Addr) (c1 c2 c3:Nat) (x:DHost) (l1 l2 l3:Cells) (u o n:Str) (r:Int) (f:FuncId) (cap:Array Value) (R:DHost) (kk:Nat) (he:enters Tryz.prog f=true) (hul:u.length≤2000000) (hol:o.length≤2000000) (hnl:n.length≤2000000) (hn1:x.users.length≤2000000) (hn2:x.folders.length≤2000000) (a:Nat→Addr) (B:Kn) (hE:ErrsB 392 [0,1,2,3] B a) (hc1:Zan B ba 0 [str o,str n,str u,ptr ⟨b,0,none⟩]) (hu:ZW Kn.none l1 q1 c1 132 3 Zp x.users) (hf:ZaV l2 q2 c2 87 5 (ZZ 223 146) x.folders) (hi:ZaV l3 q3 c3 136 4 (ZaX 9) x.queue.items) (hw:Zdj x.users x.folders u o n 2=0→Zdj x.users x.folders u o n r=0→∀(B2:Kn),B.le B2→Zw (pj J) f (ptr ⟨b,2,none⟩ :: .int .i64 (if Zdj x.users x.folders u o n r=0 then ZbI (inF o n) x.folders else -1) :: cap.toList) B2 [ZN b [.int .i32 1,.int .u32 0,str x.domain,.slice q1 x.users.length c1,.slice q2 x.folders.length c2,.int .i64 x.queue.next,.slice q3 x.queue.items.length c3] 163,l1,l2,l3] (fun v B' Ls=>∃q1' c1' q2' c2' q3' c3' l1' l2' l3',Ls=[ZN b [.int .i32 1,.int .u32 0,str R.domain,.slice q1' R.users.length c1',.slice q2' R.folders.length c2',.int .i64 R.queue.next,.slice q3' R.queue.items.length c3'] 163,l1',l2',l3']∧v=errv 392 a (kk)∧ZW Kn.none l1' q1' c1' 132 3 Zp R.users∧ZaV l2' q2' c2' 87 5 (ZZ 223 146) R.folders∧ZaV l3' q3' c3' 136 4 (ZaX 9) R.queue.items)):Zw (pj J) 94 [ptr ⟨ba,0,none⟩,.int .i64 r,.func (.func f) #[] cap] B [ZN b [.int .i32 0,.int .u32 0,str x.domain,.slice q1 x.users.length c1,.slice q2 x.folders.length c2,.int .i64 x.queue.next,.slice q3 x.queue.items.length c3] 163,l1,l2,l3] (fun v B' Ls=>∃q1' c1' q2' c2' q3' c3' l1' l2' l3',Ls=[ZN b [.int .i32 0,.int .u32 0,str (usX x u o n r R x).domain,.slice q1' (usX x u o n r R x).users.length c1',.slice q2' (usX x u o n r R x).folders.length c2',.int .i64 (usX x u o n r R x).queue.next,.slice q3' (usX x u o n r R x).queue.items.length c3'] 163,l1',l2',l3']∧v=errv 392 a (usN x u o n r kk)∧ZW Kn.none l1' q1' c1' 132 3 Zp (usX x u o n r R x).users∧ZaV l2' q2' c2' 87 5 (ZZ 223 146) (usX x u o n r R x).folders∧ZaV l3' q3' c3' 136 4 (ZaX 9) (usX x u o n r R x).queue.items):=by
 refine Zhx (P:=pj J) 88 Tryz.func94 rfl rfl (Nat.le_of_ble_eq_true rfl) ?_
 intro X kind c cs F T0 hk hke hA hn0 hT0
 let CC:Cx (pj J):=⟨X,fb 94 kind,c :: cs,F,hke⟩
 show CC.X.R (Go.Conc.G (fat CC.b T0 [] _) CC.cs) B (List.flatten [ZN b [.int .i32 0,.int .u32 0,str x.domain,.slice q1 x.users.length c1,.slice q2 x.folders.length c2,.int .i64 x.queue.next,.slice q3 x.queue.items.length c3] 163,l1,l2,l3] ++ CC.F)
 refine Zbk (C:=CC) (ZaI (C:=CC) (Zci (C:=CC) (i:=0) (todo:=[]) rfl hn0 hT0 (Zj (Zcm rfl rfl rfl (fun T1 hn1 hT1=>Z2 (C:=CC) (Zbk (C:=CC) (ZaI (C:=CC) (Zci (C:=CC) (i:=0) (todo:=[1,2,3,4,5,6]) rfl hn1 hT1 (Zj (Zcl rfl rfl rfl (fun T2 hn2 hT2=>Zci (C:=CC) (i:=1) (todo:=[2,3,4,5,6]) rfl hn2 hT2 (Zj (ZaS rfl rfl rfl (fun T3 hn3 hT3=>Zci (C:=CC) (i:=2) (todo:=[3,4,5,6]) rfl hn3 hT3 (Zj (Zaw rfl rfl Ze7 rfl (fun T4 hn4 hT4=>Zci (C:=CC) (i:=3) (todo:=[4,5,6]) rfl hn4 hT4 (Zj (Zo rfl rfl Zk8 rfl (hc1 _ 3 _ rfl) (fun T5 hn5 hT5=>Zci (C:=CC) (i:=4) (todo:=[5,6]) rfl hn5 hT5 (Zj (ZaS rfl rfl rfl (fun T6 hn6 hT6=>Zci (C:=CC) (i:=5) (todo:=[6]) rfl hn6 hT6 (Zj (Zaw rfl rfl ZqZ rfl (fun T7 hn7 hT7=>Zci (C:=CC) (i:=6) (todo:=[]) rfl hn7 hT7 (Zj (ZbH [0] rfl rfl rfl rfl Zz9 rfl (ZyM hJ Zs1 ZjV ZjU ZzH) ?_))))))))))))))))))))))))))))
 rintro _ B1 _ hle1 ⟨rfl,rfl,rfl⟩
 intro T8 hn8 hT8
 refine Z2 (C:=CC) (ZCa (C:=CC) [_,_,_,_] rfl (Zbk (C:=CC) (ZaI (C:=CC) (Zci (C:=CC) (i:=0) (todo:=[1,2,3,4,5,6]) rfl hn8 hT8 (Zj (Zcl rfl rfl rfl (fun T9 hn9 hT9=>Zci (C:=CC) (i:=1) (todo:=[2,3,4,5,6]) rfl hn9 hT9 (Zj (ZaS rfl rfl rfl (fun T10 hn10 hT10=>Zci (C:=CC) (i:=2) (todo:=[3,4,5,6]) rfl hn10 hT10 (Zj (Zaw rfl rfl Ze7 rfl (fun T11 hn11 hT11=>Zci (C:=CC) (i:=3) (todo:=[4,5,6]) rfl hn11 hT11 (Zj (Zo rfl rfl Zk8 rfl (hc1 _ 3 _ rfl) (fun T12 hn12 hT12=>Zci (C:=CC) (i:=4) (todo:=[5,6]) rfl hn12 hT12 (Zj (ZaS rfl rfl rfl (fun T13 hn13 hT13=>Zci (C:=CC) (i:=5) (todo:=[6]) rfl hn13 hT13 (Zj (Zaw rfl rfl ZqZ rfl (fun T14 hn14 hT14=>ZoZ hke rfl hT14 rfl (Z2 (C:=CC) (Zlv (X:=X) (av:=[ptr ⟨b,0,none⟩]) (Post:=(fun v B' Ls=>∃q1' c1' q2' c2' q3' c3' l1' l2' l3',Ls=[ZN b [.int .i32 0,.int .u32 0,str (usX x u o n r R x).domain,.slice q1' (usX x u o n r R x).users.length c1',.slice q2' (usX x u o n r R x).folders.length c2',.int .i64 (usX x u o n r R x).queue.next,.slice q3' (usX x u o n r R x).queue.items.length c3'] 163,l1',l2',l3']∧v=errv 392 a (usN x u o n r kk)∧ZW Kn.none l1' q1' c1' 132 3 Zp (usX x u o n r R x).users∧ZaV l2' q2' c2' 87 5 (ZZ 223 146) (usX x u o n r R x).folders∧ZaV l3' q3' c3' 136 4 (ZaX 9) (usX x u o n r R x).queue.items)) Tryz.func94 hk hke Tryz.func145 kr rfl hn14 hT14 hA ?_))))))))))))))))))))))))
 refine Zc (Zc (Z3 (same _ _) mo kr ⟨rfl,rfl⟩ (fun _ _=>?_)))
 refine aM 0 rfl (h:=aNc 1 rfl (h:=aW 2 rfl Ze7 (h:=aT 3 rfl (Zaf fun D=>Zo rfl rfl Zk8 rfl (hc1 _ 3 _ rfl) r4) (h:=aNc 4 rfl (h:=aW 5 rfl ZgV (h:=aM 6 rfl (h:=aNc 7 rfl (h:=aW 8 rfl ZqY (h:=aT 9 rfl (Zaf fun D=>Zo rfl rfl lk9 rfl (hc1 _ 2 _ rfl) r4) (h:=aM 10 rfl (h:=aNc 11 rfl (h:=aW 12 rfl ZjT (h:=aW 13 rfl Zq1 (h:=aT 14 rfl (Zaf fun D=>Zo rfl rfl lk9 rfl (hc1 _ 0 _ rfl) r4) (h:=aM 15 rfl (h:=aNc 16 rfl (h:=aW 17 rfl ZjT (h:=aW 18 rfl Zq0 (h:=aT 19 rfl (Zaf fun D=>Zo rfl rfl lk9 rfl (hc1 _ 1 _ rfl) r4) (h:=aT 20 rfl (Zaf fun D=>Zha [0,1,2,3] rfl rfl rfl rfl rfl ZxE rfl (Z8.borrowL fun hm2=>ZrH _ _ _ _ _ _ _ _ x u o n 2 om2 om2 om2 a _ (hE.mono (Kn.le_add _ _)) (Zan.drop2 (ZxP 0 rfl hm2)) (hu.lendK Zp.any 1 rfl hm2 om) (hf.lendK ZZ.known Zm.mono 2 rfl hm2 om)) r4) (h:=?_)))))))))))))))))))))
 refine aM 21 rfl (h:=aE 22 rfl (h:=aE 23 rfl (h:=aA 24 rfl (h:=aA 25 rfl (h:=Zu kr kr ?_)))))
 refine Zn (tL4 (Za (xM (h:=Zj (Zt9 (tE:=392) (a:=a) (c:=(Zdj x.users x.folders u o n 2)) rfl rfl Tryz.underlying100 rfl (Zb rfl (fun g1=>?_) (fun g1=>?_)))))))
 try simp only [sQ,ne_eq] at g1
 refine Za (xM (h:=xA (h:=Zd (Zl ?_))))
 obtain ⟨e1,e2⟩:=Zuj (x:=x) (u:=u) (o:=o) (n:=n) (r:=r) oz kk
 show _∧_
 refine Zy2 (.inl rfl) [_] [0,1,2,3] rfl (fun _ _=>t1) ((Zl1 hJ Zs1 ZjV ZyO ZjU Zv0).frame1.mono ?_)
 rintro _ _ _ _ ⟨_,⟨rfl,_,rfl⟩,rfl⟩
 rw [e1,e2]
 exact ⟨_,_,_,_,_,_,_,_,_,rfl,rfl,hu,hf,hi⟩
 try simp only [sQ,ne_eq] at g1
 have h2:Zdj x.users x.folders u o n 2=0:=by omega
 refine wSk (Zc (Z3 (same _ _) mo kr ⟨rfl,rfl⟩ (fun _ _=>?_)))
 refine aM 0 rfl (h:=aNc 1 rfl (h:=aW 2 rfl Ze7 (h:=aT 3 rfl (Zaf fun D=>Zo rfl rfl Zk8 rfl (hc1 _ 3 _ rfl) r4) (h:=aNc 4 rfl (h:=aW 5 rfl ZgV (h:=aM 6 rfl (h:=aNc 7 rfl (h:=aW 8 rfl ZqY (h:=aT 9 rfl (Zaf fun D=>Zo rfl rfl lk9 rfl (hc1 _ 2 _ rfl) r4) (h:=aM 10 rfl (h:=aNc 11 rfl (h:=aW 12 rfl ZjT (h:=aW 13 rfl Zq1 (h:=aT 14 rfl (Zaf fun D=>Zo rfl rfl lk9 rfl (hc1 _ 0 _ rfl) r4) (h:=aM 15 rfl (h:=aNc 16 rfl (h:=aW 17 rfl ZjT (h:=aW 18 rfl Zq0 (h:=aT 19 rfl (Zaf fun D=>Zo rfl rfl lk9 rfl (hc1 _ 1 _ rfl) r4) (h:=aM 20 rfl (h:=aT 21 rfl (Zaf fun D=>Zha [0,1,2,3] rfl rfl rfl rfl rfl ZxE rfl (Z8.borrowL fun hm3=>ZrH _ _ _ _ _ _ _ _ x u o n r om2 om2 om2 a _ (hE.mono (Kn.le_add _ _)) (Zan.drop2 (ZxP 0 rfl hm3)) (hu.lendK Zp.any 1 rfl hm3 om) (hf.lendK ZZ.known Zm.mono 2 rfl hm3 om)) r4) (h:=?_))))))))))))))))))))))
 refine aM 22 rfl (h:=aE 23 rfl (h:=aE 24 rfl (h:=aA 25 rfl (h:=aA 26 rfl (h:=Zu kr kr ?_)))))
 refine Zn (Zc (Za (xM (h:=Zj (Zt9 (tE:=392) (a:=a) (c:=(Zdj x.users x.folders u o n r)) rfl rfl Tryz.underlying100 rfl (Zb rfl (fun g2=>?_) (fun g2=>?_)))))))
 try simp only [sQ,ne_eq] at g2
 refine Za (xM (h:=xA (h:=Zd (Zl ?_))))
 obtain ⟨e1,e2⟩:=Zui (x:=x) (u:=u) (o:=o) (n:=n) (r:=r) h2 oz kk
 show _∧_
 refine Zy2 (.inl rfl) [_] [0,1,2,3] rfl (fun _ _=>t1) ((Zl1 hJ Zs1 ZjV ZyO ZjU Zv0).frame1.mono ?_)
 rintro _ _ _ _ ⟨_,⟨rfl,_,rfl⟩,rfl⟩
 rw [e1,e2]
 exact ⟨_,_,_,_,_,_,_,_,_,rfl,rfl,hu,hf,hi⟩
 try simp only [sQ,ne_eq] at g2
 have hr:Zdj x.users x.folders u o n r=0:=by omega
 refine ZS ?_
 refine Zn ?_
 refine Za ?_
 refine Zj (Zcl rfl rfl rfl ?_)
 refine Zj (Zcl rfl rfl rfl ?_)
 refine Zj (ZaS rfl rfl rfl ?_)
 refine Zj (Zaw rfl rfl Ze7 rfl ?_)
 refine Zj (Zo rfl rfl Zk8 rfl (hc1 _ 3 _ rfl) ?_)
 refine Zj (ZaS rfl rfl rfl ?_)
 refine Zj (Zaw rfl rfl ZgV rfl ?_)
 refine Zj (Zcl rfl rfl rfl ?_)
 refine Zj (Zjl [0,1,2,3] rfl rfl rfl rfl he rfl rfl (hw h2 hr _ (Kn.le.refl _)) ?_)
 rintro _ B4 _ hle4 ⟨q14,c14,q24,c24,q34,c34,l14,l24,l34,rfl,rfl,hu4,hf4,hi4⟩
 refine xA (h:=tL4 (Zd ?_))
 obtain ⟨e1,e2⟩:=Zuh (x:=x) (u:=u) (o:=o) (n:=n) (r:=r) h2 hr kk
 show _∧_
 refine Zy2 (.inl rfl) [_] [0,1,2,3] rfl (fun _ _=>t1) ((Zl1 hJ Zs1 ZjV ZyO ZjU Zv0).frame1.mono ?_)
 rintro _ _ _ _ ⟨_,⟨rfl,_,rfl⟩,rfl⟩
 rw [e1,e2]
 exact ⟨_,_,_,_,_,_,_,_,_,rfl,rfl,hu4,hf4,hi4⟩

theorem Zum (q1 q2 q3:Option Addr) (c1 c2 c3:Nat) (x:DHost) (u o n:Str) (hul:u.length≤2000000) (hol:o.length≤2000000) (hnl:n.length≤2000000) (ar:Bool) (r:Int) (f:FuncId) (cap:Array Value) (R:DHost) (kk:Nat) (hk:kk<5) (he:enters Tryz.prog f=true) (hJ:Joins Tryz.prog J) (hd:x.domain.length≤2000000) (a:Nat→Addr) (B:Kn) (hE:ErrsB 392 [0,1,2,3] B a) (hu:SlK B q1 c1 3 Zp x.users) (hf:SlK B q2 c2 5 Zm x.folders) (hi:SlK B q3 c3 4 Zz x.queue.items) (hw:ar=true→Zah x=true→Zdj x.users x.folders u o n 2=0→Zdj x.users x.folders u o n r=0→∀(B2:Kn) (b:Nat) (q1 q2 q3:Option Addr) (c1 c2 c3:Nat) (l1 l2 l3:Cells),B.le B2→ZW Kn.none l1 q1 c1 132 3 Zp x.users→ZaV l2 q2 c2 87 5 (ZZ 223 146) x.folders→ZaV l3 q3 c3 136 4 (ZaX 9) x.queue.items→Zw (pj J) f (ptr ⟨b,2,none⟩ :: .int .i64 (if Zdj x.users x.folders u o n r=0 then ZbI (inF o n) x.folders else -1) :: cap.toList) B2 [ZN b [.int .i32 1,.int .u32 0,str x.domain,.slice q1 x.users.length c1,.slice q2 x.folders.length c2,.int .i64 x.queue.next,.slice q3 x.queue.items.length c3] 163,l1,l2,l3] (fun v B' Ls=>∃q1' c1' q2' c2' q3' c3' l1' l2' l3',Ls=[ZN b [.int .i32 1,.int .u32 0,str R.domain,.slice q1' R.users.length c1',.slice q2' R.folders.length c2',.int .i64 R.queue.next,.slice q3' R.queue.items.length c3'] 163,l1',l2',l3']∧v=errv 392 a (kk)∧ZW Kn.none l1' q1' c1' 132 3 Zp R.users∧ZaV l2' q2' c2' 87 5 (ZZ 223 146) R.folders∧ZaV l3' q3' c3' 136 4 (ZaX 9) R.queue.items)):Zw (pj J) 44 [.agg #[str x.domain,.slice q1 x.users.length c1,.slice q2 x.folders.length c2,.int .i64 x.queue.next,.slice q3 x.queue.items.length c3],.agg #[str u,str o,str n],.bool ar,.int .i64 r,.func (.func f) #[] cap] B [] (fun v B' Ls=>∃(Y:DHost) (d:Int),∃q1 c1 q2 c2 q3 c3 l1 l2 l3,(Y,d)=(if ar=true∧Zah x=true then (usX x u o n r R x,(usN x u o n r kk:Int)) else (ZcW,5))∧Ls=[l1,l2,l3]∧v = .tuple #[.agg #[str Y.domain,.slice q1 Y.users.length c1,.slice q2 Y.folders.length c2,.int .i64 Y.queue.next,.slice q3 Y.queue.items.length c3],.int .i64 d]∧ZW Kn.none l1 q1 c1 132 3 Zp Y.users∧ZaV l2 q2 c2 87 5 (ZZ 223 146) Y.folders∧ZaV l3 q3 c3 136 4 (ZaX 9) Y.queue.items):=by
 refine ZcO 44 Tryz.func44 rfl rfl rfl (Nat.le_of_ble_eq_true rfl) ?_
 have hun:=hu.len
 have hfn:=hf.len
 have hin:=hi.len
 have hus:=ZwI (x:=x) (u:=u) (o:=o) (n:=n) (r:=r) hk
 refine Za (xBx [_,_,_,_,_] (h:=fun b1=>xBx [_,_,_] (h:=fun b2=>xAl [_,_,_,_,_] Zca (h:=fun b3=>xA (h:=tL3 (Zc (Za (xM (h:=xN (h:=xM (h:=Zs (d:=16) rfl (fun g1=>?_) (fun g1=>?_))))))))))))
 try simp only [sQ,ne_eq] at g1
 refine xP (h:=xP (h:=xP (h:=xT (h:=ZwD [[],[],[]] rfl (Zb (t:=true) rfl (fun _=>Za (xB [] [_,_,_,_,_] [_,_,_,_,_] ZgI Zca (h:=xS [_,_,_,_,_] 2 [_,_,_,_,_] ZcZ (h:=xA (h:=tL6 (Zd (Zl ?_))))))) (fun h=>Bool.noConfusion h))))))
 exact ZdI .ret (.inl rfl) [_,_] [3,4,5] rfl ⟨⟨_,rfl,.inr ⟨[_,_,_,_,_],ZcK,Zbu 2 rfl rfl rfl,rfl⟩⟩,rfl,trivial⟩ ⟨ZcW,5,none,0,none,0,none,0,[],[],[],by rw [if_neg (by simp [g1])],rfl,rfl,ZW.nil,ZaV.nil,ZaV.nil⟩
 try simp only [sQ,ne_eq] at g1
 refine xL [_,_,_,_,_] ZcK 0 (h:=xQ ZBx rfl (ZmJ hJ _ _ _ _ _ _ x om2 _ hu hf hi) (h:=?_))
 intro vv Bv hlev
 rintro rfl
 replace hu:=hu.mono Zp.mono hlev
 replace hf:=hf.mono Zm.mono hlev
 replace hi:=hi.mono Zz.mono hlev
 replace hE:=hE.mono hlev
 refine xN (h:=xF (h:=Zb rfl (fun g2=>?_) (fun g2=>?_)))
 try simp only [sQ,ne_eq] at g2
 refine ZwD [[],[],[]] rfl (Za (xB [] [_,_,_,_,_] [_,_,_,_,_] ZgI Zca (h:=xS [_,_,_,_,_] 2 [_,_,_,_,_] ZcZ (h:=xA (h:=tL6 (Zd (Zl ?_)))))))
 exact ZdI .ret (.inl rfl) [_,_] [3,4,5] rfl ⟨⟨_,rfl,.inr ⟨[_,_,_,_,_],ZcK,Zbu 2 rfl rfl rfl,rfl⟩⟩,rfl,trivial⟩ ⟨ZcW,5,none,0,none,0,none,0,[],[],[],by rw [if_neg (by simp [g2])],rfl,rfl,ZW.nil,ZaV.nil,ZaV.nil⟩
 try simp only [sQ,ne_eq] at g2
 refine wSk (Zc (Z3 (keeps _ [0,1] _) mo kr ⟨Kn.le.refl _,Za7.refl _ _⟩ (fun _ _=>?_)))
 refine aW 0 rfl ZqQ (h:=aT 1 rfl (ZR fun D B L hI=>Zo rfl rfl lk9 rfl (atL 1 (hI.2.2.1.trans rfl) rfl rfl) r4) (h:=aW 2 rfl ZqP (h:=aT 3 rfl (ZR fun D B L hI=>Zo rfl rfl lk9 rfl (atL 1 (hI.2.2.1.trans rfl) rfl rfl) r4) (h:=aT 4 rfl (ZR fun D B L hI=>Zas (parts:=[(0,_),(1,_)]) [_,_] [_,_] rfl rfl ZyH Zyk rfl rfl rfl r4) (h:=aW 5 rfl ZnN (h:=aT 6 rfl (ZR fun D B L hI=>Zo rfl rfl lk9 rfl (atL 1 (hI.2.2.1.trans rfl) rfl rfl) r4) (h:=aT 7 rfl (ZR fun D B L hI=>Z4 [_,_,_,_,_] rfl rfl ZcK rfl (Zbu 0 (hI.2.1.trans rfl) rfl rfl) r4) (h:=Zat [8,12] kr kr kr ⟨?_,?_⟩))))))))
 refine (Zag rfl rfl ZAZ rfl (Zhh _ _ _ _ _ _ x _ hu hf hi) ?_)
 rintro _ Bc _ hlec ⟨q1c,c1c,q2c,c2c,q3c,c3c,l1c,l2c,l3c,rfl,rfl,huc,hfc,hic⟩
 replace hu:=hu.mono Zp.mono hlec
 replace hf:=hf.mono Zm.mono hlec
 replace hi:=hi.mono Zz.mono hlec
 replace hE:=hE.mono hlec
 refine ⟨⟨hlec,t2⟩,(aT 9 rfl (ZR fun D B L hI=>Zas (parts:=[(1,_)]) [_,_,_,_,_,_,_] [_,_,_,_,_,_,_] rfl rfl ZwY Zwl rfl rfl rfl r4) (h:=Zat [10,12] kr kr kr ⟨?_,?_⟩))⟩
 refine (Zpt (l:=[_,_,_,_,_,_,_]) rfl rfl rfl rfl (fun b6=>⟨⟨hlec,t2⟩,(aT 11 rfl (ZR fun D B L hI=>Zas (parts:=[(0,_),(1,_),(2,_)]) [_,_,_,_] [_,_,_,_] rfl rfl Zu3 Zn1 rfl rfl rfl r4) (h:=ZB 12 kr rfl kr (Zae (l:=[_,_,_,_]) rfl rfl Zn1 rfl (fun b7=>?_))))⟩))
 refine ⟨⟨hlec,t2⟩,(Zar 13 kr rfl kr kr kr (ZL [_,_,_,_] 7 [_,_,_,_] rfl rfl ZuV rfl rfl rfl rfl rfl rfl rfl rfl ?_))⟩
 refine Zn (tL8 (Zkk 7 rfl (fun B8 hle8 hpm8=>?_)))
 have hc8:=Za5 hpm8
 replace hu:=hu.mono Zp.mono hle8
 replace hf:=hf.mono Zm.mono hle8
 replace hi:=hi.mono Zz.mono hle8
 replace huc:=huc.mono Zp.mono hle8
 replace hE:=hE.mono hle8
 refine Za (xM (h:=xM (h:=xK [6,3,4,5] rfl Zy5 rfl (ZuM hJ _ _ _ _ _ _ _ _ x _ _ _ u o n r f cap R kk he hul hol hnl om2 om2 a _ hE hc8 huc hfc hic (fun h2 hr B2 hle=>hw (by simpa using g1) (by simpa using g2) h2 hr B2 _ _ _ _ _ _ _ _ _ _ (hlev.trans (hlec.trans (hle8.trans hle))) huc hfc hic)) (h:=?_))))
 rintro _ B9 _ hle9 ⟨q19,c19,q29,c29,q39,c39,l19,l29,l39,rfl,rfl,hu9,hf9,hi9⟩
 replace hu:=hu.mono Zp.mono hle9
 replace hf:=hf.mono Zm.mono hle9
 replace hi:=hi.mono Zz.mono hle9
 replace hc8:=hc8.mono hle9
 replace huc:=huc.mono Zp.mono hle9
 replace hE:=hE.mono hle9
 refine xA (h:=tL8 (Zc (Z3 (keeps _ [] _) mo kr ⟨Kn.le.refl _,Za7.refl _ _⟩ (fun _ _=>?_))))
 refine aW 0 rfl Ze7 (h:=aT 1 rfl (ZR fun D B L hI=>Zo rfl rfl Zk8 rfl ((hc8.mono hI.1) _ 3 _ rfl) r4) (h:=aNc 2 rfl (h:=aW 3 rfl ZgV (h:=aM 5 rfl (h:=aT 6 rfl (ZR fun D B L hI=>Z9 rfl rfl Zy4 rfl (ZgR (usN x u o n r kk) om2 a _ (hE.mono hI.1)) r4) (h:=?_))))))
 refine ZB 4 kr rfl kr (Z4 [_,_,_,_,_] rfl rfl ZcK rfl (Zbu 6 rfl rfl rfl) ?_)
 refine ⟨⟨Kn.le.refl _,trivial⟩,(ZaU 7 kr rfl kr kr (ZL [_,_,_,_,_] 2 [_,_,_,_,_] rfl rfl ZcZ rfl rfl rfl rfl rfl rfl rfl rfl ?_))⟩
 refine aA 8 rfl (h:=Zu kr kr ?_)
 refine Zn (tL8 (Zd ?_))
 exact ZdI .ret (.inl rfl) [_,_] [3,4,5] rfl ⟨⟨_,rfl,.inr ⟨[_,_,_,_,_],ZcK,Zbu 2 rfl rfl rfl,rfl⟩⟩,rfl,trivial⟩ ⟨(usX x u o n r R x),_,_,_,_,_,_,_,_,_,_,by rw [if_pos ⟨by simpa using g1,by simpa using g2⟩],rfl,rfl,hu9,hf9,hi9⟩
 refine (Zae (l:=[_,_,_,_]) rfl rfl Zn1 rfl (fun b11=>⟨⟨hlec,t2⟩,(ZB 10 kr rfl kr (Zpt (l:=[_,_,_,_,_,_,_]) rfl rfl rfl rfl (fun b12=>?_)))⟩))
 refine ⟨⟨hlec,t2⟩,(aT 11 rfl (ZR fun D B L hI=>Zas (parts:=[(0,_),(1,_),(2,_)]) [_,_,_,_] [_,_,_,_] rfl rfl Zu3 Zn1 rfl rfl rfl r4) (h:=Zar 13 kr rfl kr kr kr (ZL [_,_,_,_] 6 [_,_,_,_] rfl rfl ZuV rfl rfl rfl rfl rfl rfl rfl rfl ?_)))⟩
 refine Zn (tL8 (Zkk 6 rfl (fun B13 hle13 hpm13=>?_)))
 have hc13:=Za5 hpm13
 replace hu:=hu.mono Zp.mono hle13
 replace hf:=hf.mono Zm.mono hle13
 replace hi:=hi.mono Zz.mono hle13
 replace huc:=huc.mono Zp.mono hle13
 replace hE:=hE.mono hle13
 refine Za (xM (h:=xM (h:=xK [7,3,4,5] rfl Zy5 rfl (ZuM hJ _ _ _ _ _ _ _ _ x _ _ _ u o n r f cap R kk he hul hol hnl om2 om2 a _ hE hc13 huc hfc hic (fun h2 hr B2 hle=>hw (by simpa using g1) (by simpa using g2) h2 hr B2 _ _ _ _ _ _ _ _ _ _ (hlev.trans (hlec.trans (hle13.trans hle))) huc hfc hic)) (h:=?_))))
 rintro _ B14 _ hle14 ⟨q114,c114,q214,c214,q314,c314,l114,l214,l314,rfl,rfl,hu14,hf14,hi14⟩
 replace hu:=hu.mono Zp.mono hle14
 replace hf:=hf.mono Zm.mono hle14
 replace hi:=hi.mono Zz.mono hle14
 replace hc13:=hc13.mono hle14
 replace huc:=huc.mono Zp.mono hle14
 replace hE:=hE.mono hle14
 refine xA (h:=tL8 (Zc (Z3 (keeps _ [] _) mo kr ⟨Kn.le.refl _,Za7.refl _ _⟩ (fun _ _=>?_))))
 refine aW 0 rfl Ze7 (h:=aT 1 rfl (ZR fun D B L hI=>Zo rfl rfl Zk8 rfl ((hc13.mono hI.1) _ 3 _ rfl) r4) (h:=aNc 2 rfl (h:=aW 3 rfl ZgV (h:=aM 5 rfl (h:=aT 6 rfl (ZR fun D B L hI=>Z9 rfl rfl Zy4 rfl (ZgR (usN x u o n r kk) om2 a _ (hE.mono hI.1)) r4) (h:=?_))))))
 refine ZB 4 kr rfl kr (Z4 [_,_,_,_,_] rfl rfl ZcK rfl (Zbu 7 rfl rfl rfl) ?_)
 refine ⟨⟨Kn.le.refl _,trivial⟩,(ZaU 7 kr rfl kr kr (ZL [_,_,_,_,_] 2 [_,_,_,_,_] rfl rfl ZcZ rfl rfl rfl rfl rfl rfl rfl rfl ?_))⟩
 refine aA 8 rfl (h:=Zu kr kr ?_)
 refine Zn (tL8 (Zd ?_))
 exact ZdI .ret (.inl rfl) [_,_] [3,4,5] rfl ⟨⟨_,rfl,.inr ⟨[_,_,_,_,_],ZcK,Zbu 2 rfl rfl rfl,rfl⟩⟩,rfl,trivial⟩ ⟨(usX x u o n r R x),_,_,_,_,_,_,_,_,_,_,by rw [if_pos ⟨by simpa using g1,by simpa using g2⟩],rfl,rfl,hu14,hf14,hi14⟩
 refine (Zae (l:=[_,_,_,_]) rfl rfl Zn1 rfl (fun b16=>⟨⟨Kn.le.refl _,t2⟩,(ZB 8 kr rfl kr (Zag rfl rfl ZAZ rfl (Zhh _ _ _ _ _ _ x _ hu hf hi) ?_))⟩))
 rintro _ Bc _ hlec ⟨q1c,c1c,q2c,c2c,q3c,c3c,l1c,l2c,l3c,rfl,rfl,huc,hfc,hic⟩
 replace hE:=hE.mono hlec
 refine ⟨⟨hlec,t2⟩,(aT 9 rfl (ZR fun D B L hI=>Zas (parts:=[(1,_)]) [_,_,_,_,_,_,_] [_,_,_,_,_,_,_] rfl rfl ZwY Zwl rfl rfl rfl r4) (h:=ZB 10 kr rfl kr (Zpt (l:=[_,_,_,_,_,_,_]) rfl rfl rfl rfl (fun b18=>?_))))⟩
 refine ⟨⟨hlec,t2⟩,(aT 11 rfl (ZR fun D B L hI=>Zas (parts:=[(0,_),(1,_),(2,_)]) [_,_,_,_] [_,_,_,_] rfl rfl Zu3 Zn1 rfl rfl rfl r4) (h:=Zar 13 kr rfl kr kr kr (ZL [_,_,_,_] 3 [_,_,_,_] rfl rfl ZuV rfl rfl rfl rfl rfl rfl rfl rfl ?_)))⟩
 refine Zn (tL8 (Zkk 3 rfl (fun B19 hle19 hpm19=>?_)))
 have hc19:=Za5 hpm19
 replace huc:=huc.mono Zp.mono hle19
 replace hE:=hE.mono hle19
 refine Za (xM (h:=xM (h:=xK [7,4,5,6] rfl Zy5 rfl (ZuM hJ _ _ _ _ _ _ _ _ x _ _ _ u o n r f cap R kk he hul hol hnl om2 om2 a _ hE hc19 huc hfc hic (fun h2 hr B2 hle=>hw (by simpa using g1) (by simpa using g2) h2 hr B2 _ _ _ _ _ _ _ _ _ _ (hlev.trans (hlec.trans (hle19.trans hle))) huc hfc hic)) (h:=?_))))
 rintro _ B20 _ hle20 ⟨q120,c120,q220,c220,q320,c320,l120,l220,l320,rfl,rfl,hu20,hf20,hi20⟩
 replace hc19:=hc19.mono hle20
 replace hE:=hE.mono hle20
 refine xA (h:=tL8 (Zc (Z3 (keeps _ [] _) mo kr ⟨Kn.le.refl _,Za7.refl _ _⟩ (fun _ _=>?_))))
 refine aW 0 rfl Ze7 (h:=aT 1 rfl (ZR fun D B L hI=>Zo rfl rfl Zk8 rfl ((hc19.mono hI.1) _ 3 _ rfl) r4) (h:=aNc 2 rfl (h:=aW 3 rfl ZgV (h:=aM 5 rfl (h:=aT 6 rfl (ZR fun D B L hI=>Z9 rfl rfl Zy4 rfl (ZgR (usN x u o n r kk) om2 a _ (hE.mono hI.1)) r4) (h:=?_))))))
 refine ZB 4 kr rfl kr (Z4 [_,_,_,_,_] rfl rfl ZcK rfl (Zbu 7 rfl rfl rfl) ?_)
 refine ⟨⟨Kn.le.refl _,trivial⟩,(ZaU 7 kr rfl kr kr (ZL [_,_,_,_,_] 2 [_,_,_,_,_] rfl rfl ZcZ rfl rfl rfl rfl rfl rfl rfl rfl ?_))⟩
 refine aA 8 rfl (h:=Zu kr kr ?_)
 refine Zn (tL8 (Zd ?_))
 exact ZdI .ret (.inl rfl) [_,_] [4,5,6] rfl ⟨⟨_,rfl,.inr ⟨[_,_,_,_,_],ZcK,Zbu 2 rfl rfl rfl,rfl⟩⟩,rfl,trivial⟩ ⟨(usX x u o n r R x),_,_,_,_,_,_,_,_,_,_,by rw [if_pos ⟨by simpa using g1,by simpa using g2⟩],rfl,rfl,hu20,hf20,hi20⟩

theorem ZpH (q:Option Addr) (cp:Nat) (xs:List DSpan) (left:Int) (hl0:0≤left) (hl1:left≤1048576) (B:Kn) (hx:SlB B q cp 2 Z0 xs):Z8 (pj J) 7 [.slice q xs.length cp,.int .i64 left] B (.int .i64 (szI left xs.length)):=by
 refine cB 12 Tryz.func7 (h:=?_)
 have hxn:=hx.len
 refine Za (xA (h:=Za (xM (h:=xM (h:=xV Tryz.underlying31 (h:=xU (h:=xA (h:=Zc (Za (xM (h:=ZG (h:=Zb rfl (fun g1=>?_) (fun g1=>?_)))))))))))))
 try simp only [sQ,ne_eq] at g1
 refine Za (xA (h:=Zd (Zl ?_)))
 exact eR t1 ⟨ZF (by first | (unfold szI;split <;> omega)),rfl,rfl⟩
 try simp only [sQ,ne_eq] at g1
 refine wSk (Za (xM (h:=xA (h:=Zd ?_))))
 exact eR t1 ⟨ZF (by first | (unfold szI;split <;> omega)),rfl,rfl⟩

theorem Zms (q:Option Addr) (cp:Nat) (xs:List DSpan) (l:Cells) (k:Nat) (hk:k≤900000000000000) (hn:xs.length≤2000000) (B:Kn) (hv:ZW B l q cp 93 2 Z0 xs):Zw (pj J) 16 [.slice q xs.length cp,.int .i64 k] B [l] (fun v B' Ls=>B'=B∧∃l',Ls=[l']∧v = .int .i64 ((k+2*xs.length:Nat):Int)∧ZW B l' q cp 93 2 Z0 (ZgL k xs.length)):=by
 refine cB 27 Tryz.func16 (h:=?_)
 have hvc:=hv.cap
 refine Za (xA (h:=Zc (Za (xA (h:=Zg (Zy (α:=Nat × Cells × List DSpan) [4] (fun g=>[(0,.slice q xs.length cp),(1,.int .i64 ((k+2*g.1:Nat):Int)),(5,.int .i64 g.1)]) [0] (fun g=>[g.2.1]) (fun g Bx=>Bx=B∧g.1≤xs.length∧g.2.2.length=xs.length∧g.2.2.take g.1=ZgL k g.1∧ZW Bx g.2.1 q cp 93 2 Z0 g.2.2) (fun g=>xs.length - g.1) (0,l,xs) t3 rfl (⟨rfl,Nat.zero_le _,rfl,rfl,hv⟩) (fun g B1 hle1 hI=>?_)))))))
 obtain ⟨rfl,hi,hle,ht,hw⟩:=hI
 refine ZD [(0,_),(1,_),(4,_),(5,_)] [_] t4 rfl (Zc (Za (xM (h:=xM (h:=xV Tryz.underlying47 (h:=ZG (h:=Zb rfl (fun g1=>?_) (fun g1=>?_))))))))
 try simp only [sQ,ne_eq] at g1
 refine wSk (Zc (Zg (Za (xM (h:=xM (h:=xM (h:=?_)))))))
 obtain ⟨z1,hz1⟩:=ZX (xs:=g.2.2) (i:=g.1) om
 obtain ⟨bb3,_,hp3,rfl,hw3,hc3⟩:=hw.row hz1
 refine xIp hp3 Tryz.underlying47 Zl5 (h:=xW Zhl (h:=Zj (ZeT (k:=g.1) (off:=0) (⟨((k+2*g.1:Nat):Int),z1.high⟩) [_] 0 hw hp3 hz1 rfl rfl sz3 rfl rfl rfl rfl rfl rfl (by rintro _ rfl;rfl) (fun l4 hv4=>?_))))
 refine tL1 (Za (xM (h:=xD (h:=xA (h:=Za (xM (h:=xM (h:=xM (h:=?_)))))))))
 obtain ⟨z2,hz2⟩:=ZX (xs:=(g.2.2.set g.1 (⟨((k+2*g.1:Nat):Int),z1.high⟩))) (i:=g.1) om
 obtain ⟨bb6,_,hp6,rfl,hw6,hc6⟩:=hv4.row hz2
 refine xIp hp6 Tryz.underlying47 Zl5 (h:=xW Zhk (h:=Zj (ZeT (k:=g.1) (off:=1) (⟨z2.low,((k+2*g.1+1:Nat):Int)⟩) [_] 0 hv4 hp6 hz2 rfl rfl sz3 rfl rfl rfl rfl rfl rfl (by rintro _ rfl;rfl) (fun l7 hv7=>?_))))
 refine tL1 (Ze (xM (h:=xD (h:=xA (h:=ZK (Zn (Ze (xM (h:=xD (h:=xA (h:=?_)))))))))))
 exact ZC (g.1+1,l7,((g.2.2.set g.1 (⟨((k+2*g.1:Nat):Int),z1.high⟩)).set g.1 (⟨z2.low,((k+2*g.1+1:Nat):Int)⟩))) [0] so2 ⟨rfl,so,by simp only [List.length_set];exact hle,ZkZ ht hz1 hz2,hv7⟩ t4 rfl
 try simp only [sQ,ne_eq] at g1
 have he:=ZkX ht oz
 have hgi:g.1=xs.length:=by omega
 rw [hgi] at he
 refine ZE (ZT (ZH (Zv (Zn (Za (xM (h:=xA (h:=Zd ?_))))))))
 exact ZdI .ret (.inl rfl) [_] [0] rfl ⟨rfl,trivial⟩ ⟨rfl,_,rfl,by rw [hgi];rfl,by rw [← he];exact hw⟩

theorem Zk7 (b:Nat) (xs:List DMail) (s:Cells) (hn:xs.length≤2000000) (B:Kn) (hs:MLw 173 175 b xs s):Zw (pj J) 99 [ptr ⟨b,0,none⟩] B [s] (fun v B' Ls=>B'=B∧∃l a c,Ls=[l]∧v = .slice a xs.length c∧ZW Kn.none l a c 146 3 Zab xs):=by
 refine cB 28 Tryz.func99 (h:=?_)
 obtain ⟨p,vl,n0,s0,hn0,hp,hl⟩:=hs
 refine Zel 0 rfl hp (tL2 (Za (xA (h:=Za (xM (h:=xNc (h:=xW Zif (h:=x1 lk3 0 (h:=Zj (Za1 (m:=0) (c:=n0) (by_:=32) [.int .i64 0,.int .i64 0,.string ⟨#[]⟩] rfl rfl Zxx Ziz rfl rfl ⟨_,_,rfl,by first | omega | (simp;done) | (simp;omega)⟩ ⟨_,_,rfl,by first | omega | (simp;done) | (simp;omega)⟩ om om (fun b1=>?_)))))))))))
 have hv1:=ZW.zeros (B:=Kn.none) (b:=b1) (T:=146) (R:=Zab) (d:=(⟨0,0,[]⟩:DMail)) (m:=0) (c:=n0) (zs:=[.int .i64 0,.int .i64 0,.string ⟨#[]⟩]) rfl (⟨rfl,by simp⟩) om
 refine xA (h:=tL3 (Zc (Za (xM (h:=xNc (h:=xW ZmU (h:=x1 Zmx 0 (h:=xA (h:=Zg (Zy (α:=MOf) [0,2] (fun g=>[(3,.slice g.q g.ys.length g.c),(4,.pointer g.p)]) [1,2] (fun g=>[g.cells,g.l]) (fun g Bx=>Bx=B∧g.ys ++ g.xs=xs∧Zei 175 (.pointer g.p) g.xs g.cells∧ZW Kn.none g.l g.q g.c 146 3 Zab g.ys) (fun g=>g.xs.length) ⟨p,[],xs,_,_,_,_⟩ t2 rfl (⟨rfl,rfl,hl,hv1⟩) (fun g B2 hle2 hI=>?_)))))))))))
 obtain ⟨rfl,hxs,hl,hv⟩:=hI
 refine ZD [(0,_),(2,_),(3,_),(4,_)] [_,_,_] t4 rfl (Zc (Za (xM (h:=Zj (Zua rfl rfl rfl rfl rfl (Zhv Tryz.underlying171) (Zb rfl (fun g1=>?_) (fun g1=>?_)))))))
 obtain ⟨y,ys,b8,np,rest8,hp8,hrest,hperm,hy8,hl8⟩:=hl.more (by simpa using g1)
 rw [hp8]
 have hlen:=congrArg List.length hxs
 rw [List.length_append,hrest,List.length_cons] at hlen
 replace hlen:g.ys.length+1≤2000000:=by omega
 refine Zel 1 rfl hperm (tL4 (wSk (Zc (Zg (Ze (xM (h:=xM (h:=xNc (h:=xW ZmT (h:=xL [_,_,_] ZgO 1 (h:=xBs [(0,_)] [_,_,_] Tryz.underlying80 ZcT Ziz (h:=fun b3=>Zj (ZiK (z:=⟨y.uid,y.flags,y.text⟩) (R:=Zab) 2 rfl hv rfl rfl rfl Zxx ZyD rfl rfl (Zc4.box 4 rfl) rfl rfl (⟨rfl,by first | assumption | omega | (simp;done) | (simp;omega)⟩) om (fun l4 p4 c4 hv4=>?_))))))))))))))
 refine xA (h:=ZK (Zn (Ze (xM (h:=xNc (h:=xW ZmS (h:=x1 Zmx 1 (h:=xA (h:=?_)))))))))
 exact ZC ⟨np,g.ys ++ [y],ys,l4,p4,c4,rest8⟩ [0,3,2] (by rw [hrest];simp) ⟨rfl,by rw [← hxs,hrest];simp,hl8,hv4⟩ t4 rfl
 rw [hl.done (by simpa using g1),List.append_nil] at hxs
 subst hxs
 refine ZE (ZT (ZH (Zv (Zn (Za (xM (h:=xA (h:=Zd ?_))))))))
 exact eN [2] rfl t1 ⟨rfl,_,_,_,rfl,rfl,hv⟩

theorem Zv9 (a o:Int) (bo:Nat) (B:Kn) (ho:Zan B bo 0 [.int .i64 o]):Z8 (pj J) 132 [.int .i64 a,ptr ⟨bo,0,none⟩] B (.int .i64 (orI a o)):=by
 refine cB 7 Tryz.func132 (h:=?_)
 refine Za (xA (h:=Za (xM (h:=Zj (Zo rfl rfl lk3 rfl (ho _ 0 _ rfl) (Zj (Zwr rfl rfl rfl rfl (xA (h:=Zd ?_)))))))))
 exact eR t1 ⟨rfl,rfl,rfl⟩

theorem ZxN (o:Int) (B:Kn):Zw (pj J) 90 [.int .i64 1,.int .i64 o] B [] (fun v B' Ls=>B'=B∧∃bo,Ls=[ZN bo [.int .i64 o] 3]∧v = .func (.func 132) #[] #[ptr ⟨bo,0,none⟩]):=by
 refine cB 15 Tryz.func90 (h:=?_)
 refine Za (xBx [_] (h:=fun b1=>xA (h:=tL1 (Zc (Za (xM (h:=Zg (Za (ZaH (h:=xA (h:=Zb rfl (fun g1=>?_) (fun g1=>by first | omega | (simp at g1;done) | (simp at g1;omega)))))))))))))
 refine Za (Zj (Zbz (xs:=[]) (ys:=[_]) rfl rfl rfl rfl (xA (h:=Zd (ZA (Zl ?_))))))
 exact eN [0] rfl t1 ⟨rfl,_,rfl,rfl⟩

theorem Zv8 (a o:Int) (bo:Nat) (B:Kn) (ho:Zan B bo 0 [.int .i64 o]):Z8 (pj J) 133 [.int .i64 a,ptr ⟨bo,0,none⟩] B (.int .i64 o):=by
 refine cB 5 Tryz.func133 (h:=?_)
 refine Za (xA (h:=Za (Zj (Zo rfl rfl lk3 rfl (ho _ 0 _ rfl) (xA (h:=Zd ?_))))))
 exact eR t1 ⟨rfl,rfl,rfl⟩

theorem ZxM (o:Int) (B:Kn):Zw (pj J) 90 [.int .i64 0,.int .i64 o] B [] (fun v B' Ls=>B'=B∧∃bo,Ls=[ZN bo [.int .i64 o] 3]∧v = .func (.func 133) #[] #[ptr ⟨bo,0,none⟩]):=by
 refine cB 15 Tryz.func90 (h:=?_)
 refine Za (xBx [_] (h:=fun b1=>xA (h:=tL1 (Zc (Za (xM (h:=Zg (Za (ZaH (h:=xA (h:=Zb rfl (fun g1=>by first | omega | (simp at g1;done) | (simp at g1;omega)) (fun g1=>?_))))))))))))
 refine Za (ZaH (h:=xA (h:=Zb rfl (fun g2=>?_) (fun g2=>by first | omega | (simp at g2;done) | (simp at g2;omega)))))
 refine Za (Zj (Zbz (xs:=[]) (ys:=[_]) rfl rfl rfl rfl (xA (h:=Zd (ZA (Zl ?_))))))
 exact eN [0] rfl t1 ⟨rfl,_,rfl,rfl⟩

theorem Zv7 (a o:Int) (bo:Nat) (B:Kn) (ho:Zan B bo 0 [.int .i64 o]):Z8 (pj J) 134 [.int .i64 a,ptr ⟨bo,0,none⟩] B (.int .i64 (Zx4 a o)):=by
 refine cB 7 Tryz.func134 (h:=?_)
 refine Za (xA (h:=Za (xM (h:=Zj (Zo rfl rfl lk3 rfl (ho _ 0 _ rfl) (Zj (Zws rfl rfl rfl rfl (xA (h:=Zd ?_)))))))))
 exact eR t1 ⟨rfl,rfl,rfl⟩

theorem ZxL (o:Int) (B:Kn):Zw (pj J) 90 [.int .i64 (-1),.int .i64 o] B [] (fun v B' Ls=>B'=B∧∃bo,Ls=[ZN bo [.int .i64 o] 3]∧v = .func (.func 134) #[] #[ptr ⟨bo,0,none⟩]):=by
 refine cB 15 Tryz.func90 (h:=?_)
 refine Za (xBx [_] (h:=fun b1=>xA (h:=tL1 (Zc (Za (xM (h:=Zg (Za (ZaH (h:=xA (h:=Zb rfl (fun g1=>by first | omega | (simp at g1;done) | (simp at g1;omega)) (fun g1=>?_))))))))))))
 refine Za (ZaH (h:=xA (h:=Zb rfl (fun g2=>by first | omega | (simp at g2;done) | (simp at g2;omega)) (fun g2=>?_))))
 refine Za (ZaH (h:=xA (h:=Zb rfl (fun g3=>?_) (fun g3=>by first | omega | (simp at g3;done) | (simp at g3;omega)))))
 refine Za (Zj (Zbz (xs:=[]) (ys:=[_]) rfl rfl rfl rfl (xA (h:=Zd (ZA (Zl ?_))))))
 exact eN [0] rfl t1 ⟨rfl,_,rfl,rfl⟩

theorem ZxO (how o:Int) (hh:ZcX how=false) (B:Kn):Z8 (pj J) 90 [.int .i64 how,.int .i64 o] B .nilFunc:=by
 refine cB 15 Tryz.func90 (h:=?_)
 refine Za (xBx [_] (h:=fun b1=>xA (h:=tL1 (Zc (Za (xM (h:=Zg (Za (ZaH (h:=xA (h:=Zb rfl (fun g1=>by simp [ZcX] at hh;first | omega | (simp at g1;omega)) (fun g1=>?_))))))))))))
 refine Za (ZaH (h:=xA (h:=Zb rfl (fun g2=>by simp [ZcX] at hh;first | omega | (simp at g2;omega)) (fun g2=>?_))))
 refine Za (ZaH (h:=xA (h:=Zb rfl (fun g3=>by simp [ZcX] at hh;first | omega | (simp at g3;omega)) (fun g3=>?_))))
 refine ZS (ZK (Zn (Za (xA (h:=Zd ?_)))))
 exact eR t1 ⟨rfl,rfl,rfl⟩

theorem ZvL (a o:Int) (B:Kn):Z8 (pj J) 43 [.int .i64 a,.int .i64 1,.int .i64 o] B (.int .i64 (fchg a 1 o)):=by
 refine cB 26 Tryz.func43 (h:=?_)
 refine Za (xA (h:=Za (xM (h:=xM (h:=xC Zx7 rfl (ZxN o _) (h:=?_))))))
 rintro _ B1 _ hle1 ⟨rfl,bo1,rfl,rfl⟩
 refine xA (h:=tL1 (Zc (Za (xM (h:=Zj (ZhG rfl rfl rfl rfl rfl (ZmY Tryz.underlying150) (xM (h:=Zs (d:=13) rfl (fun g1=>by cases g1) (fun g1=>?_)))))))))
 try simp only [sQ,ne_eq] at g1
 refine xM (h:=xR ZvX rfl (Zb7 _ _) (h:=xN (h:=xF (h:=xM (h:=Zs (d:=18) rfl (fun g2=>?_) (fun g2=>?_))))))
 try simp only [sQ,ne_eq] at g2
 have h9:ZU a=false:=by first | exact g2 | simpa [ZU] using g2
 refine xP (h:=xP (h:=xP (h:=xT (h:=Zb (t:=true) rfl (fun _=>Za (xA (h:=Zd (Zl ?_)))) (fun h=>Bool.noConfusion h)))))
 exact eR t1 ⟨ZF (Ze9 (by rw [h9];simp)).symm,rfl,rfl⟩
 try simp only [sQ,ne_eq] at g2
 refine xM (h:=xR ZvX rfl (Zb7 _ _) (h:=xN (h:=xF (h:=Zb rfl (fun g3=>?_) (fun g3=>?_)))))
 try simp only [sQ,ne_eq] at g3
 have h9:ZU o=false:=by first | exact g3 | simpa [ZU] using g3
 refine Za (xA (h:=Zd (Zl ?_)))
 exact eR t1 ⟨ZF (Ze9 (by rw [h9];simp)).symm,rfl,rfl⟩
 try simp only [sQ,ne_eq] at g3
 refine wSk (Za (xM (h:=xM (h:=Zj (Zjl [0] rfl rfl rfl rfl ZAk rfl rfl (Z8.borrowL fun hm9=>Zv9 a o _ _ (ZxP 0 rfl hm9)) ?_)))))
 rintro _ _ _ hle9 ⟨rfl,rfl,rfl⟩
 have h8:ZU a=true:=by first | exact g2 | simpa [ZU] using g2
 have h9:ZU o=true:=by first | exact g3 | simpa [ZU] using g3
 refine xA (h:=tL1 (Zd ?_))
 exact eR t1 ⟨ZF (by rw [fchg,if_pos (by rw [h8,h9];rfl),if_pos rfl]),rfl,rfl⟩

theorem ZvK (a o:Int) (B:Kn):Z8 (pj J) 43 [.int .i64 a,.int .i64 0,.int .i64 o] B (.int .i64 (fchg a 0 o)):=by
 refine cB 26 Tryz.func43 (h:=?_)
 refine Za (xA (h:=Za (xM (h:=xM (h:=xC Zx7 rfl (ZxM o _) (h:=?_))))))
 rintro _ B1 _ hle1 ⟨rfl,bo1,rfl,rfl⟩
 refine xA (h:=tL1 (Zc (Za (xM (h:=Zj (ZhG rfl rfl rfl rfl rfl (ZmY Tryz.underlying150) (xM (h:=Zs (d:=13) rfl (fun g1=>by cases g1) (fun g1=>?_)))))))))
 try simp only [sQ,ne_eq] at g1
 refine xM (h:=xR ZvX rfl (Zb7 _ _) (h:=xN (h:=xF (h:=xM (h:=Zs (d:=18) rfl (fun g2=>?_) (fun g2=>?_))))))
 try simp only [sQ,ne_eq] at g2
 have h9:ZU a=false:=by first | exact g2 | simpa [ZU] using g2
 refine xP (h:=xP (h:=xP (h:=xT (h:=Zb (t:=true) rfl (fun _=>Za (xA (h:=Zd (Zl ?_)))) (fun h=>Bool.noConfusion h)))))
 exact eR t1 ⟨ZF (Ze9 (by rw [h9];simp)).symm,rfl,rfl⟩
 try simp only [sQ,ne_eq] at g2
 refine xM (h:=xR ZvX rfl (Zb7 _ _) (h:=xN (h:=xF (h:=Zb rfl (fun g3=>?_) (fun g3=>?_)))))
 try simp only [sQ,ne_eq] at g3
 have h9:ZU o=false:=by first | exact g3 | simpa [ZU] using g3
 refine Za (xA (h:=Zd (Zl ?_)))
 exact eR t1 ⟨ZF (Ze9 (by rw [h9];simp)).symm,rfl,rfl⟩
 try simp only [sQ,ne_eq] at g3
 refine wSk (Za (xM (h:=xM (h:=Zj (Zjl [0] rfl rfl rfl rfl ZAj rfl rfl (Z8.borrowL fun hm9=>Zv8 a o _ _ (ZxP 0 rfl hm9)) ?_)))))
 rintro _ _ _ hle9 ⟨rfl,rfl,rfl⟩
 have h8:ZU a=true:=by first | exact g2 | simpa [ZU] using g2
 have h9:ZU o=true:=by first | exact g3 | simpa [ZU] using g3
 refine xA (h:=tL1 (Zd ?_))
 exact eR t1 ⟨ZF (by rw [fchg,if_pos (by rw [h8,h9];rfl),if_neg (by decide),if_pos rfl]),rfl,rfl⟩

theorem ZvJ (a o:Int) (B:Kn):Z8 (pj J) 43 [.int .i64 a,.int .i64 (-1),.int .i64 o] B (.int .i64 (fchg a (-1) o)):=by
 refine cB 26 Tryz.func43 (h:=?_)
 refine Za (xA (h:=Za (xM (h:=xM (h:=xC Zx7 rfl (ZxL o _) (h:=?_))))))
 rintro _ B1 _ hle1 ⟨rfl,bo1,rfl,rfl⟩
 refine xA (h:=tL1 (Zc (Za (xM (h:=Zj (ZhG rfl rfl rfl rfl rfl (ZmY Tryz.underlying150) (xM (h:=Zs (d:=13) rfl (fun g1=>by cases g1) (fun g1=>?_)))))))))
 try simp only [sQ,ne_eq] at g1
 refine xM (h:=xR ZvX rfl (Zb7 _ _) (h:=xN (h:=xF (h:=xM (h:=Zs (d:=18) rfl (fun g2=>?_) (fun g2=>?_))))))
 try simp only [sQ,ne_eq] at g2
 have h9:ZU a=false:=by first | exact g2 | simpa [ZU] using g2
 refine xP (h:=xP (h:=xP (h:=xT (h:=Zb (t:=true) rfl (fun _=>Za (xA (h:=Zd (Zl ?_)))) (fun h=>Bool.noConfusion h)))))
 exact eR t1 ⟨ZF (Ze9 (by rw [h9];simp)).symm,rfl,rfl⟩
 try simp only [sQ,ne_eq] at g2
 refine xM (h:=xR ZvX rfl (Zb7 _ _) (h:=xN (h:=xF (h:=Zb rfl (fun g3=>?_) (fun g3=>?_)))))
 try simp only [sQ,ne_eq] at g3
 have h9:ZU o=false:=by first | exact g3 | simpa [ZU] using g3
 refine Za (xA (h:=Zd (Zl ?_)))
 exact eR t1 ⟨ZF (Ze9 (by rw [h9];simp)).symm,rfl,rfl⟩
 try simp only [sQ,ne_eq] at g3
 refine wSk (Za (xM (h:=xM (h:=Zj (Zjl [0] rfl rfl rfl rfl ZAi rfl rfl (Z8.borrowL fun hm9=>Zv7 a o _ _ (ZxP 0 rfl hm9)) ?_)))))
 rintro _ _ _ hle9 ⟨rfl,rfl,rfl⟩
 have h8:ZU a=true:=by first | exact g2 | simpa [ZU] using g2
 have h9:ZU o=true:=by first | exact g3 | simpa [ZU] using g3
 refine xA (h:=tL1 (Zd ?_))
 exact eR t1 ⟨ZF (by rw [fchg,if_pos (by rw [h8,h9];rfl),if_neg (by decide),if_neg (by decide)]),rfl,rfl⟩

theorem ZvM (a how o:Int) (hh:ZcX how=false) (B:Kn):Z8 (pj J) 43 [.int .i64 a,.int .i64 how,.int .i64 o] B (.int .i64 (fchg a how o)):=by
 refine cB 26 Tryz.func43 (h:=?_)
 refine Za (xA (h:=Za (xM (h:=xM (h:=xR Zx7 rfl (ZxO how o hh _) (h:=xA (h:=Zc (Za (xM (h:=Zj (ZhG rfl rfl rfl rfl rfl (ZtB Tryz.underlying150) (xM (h:=Zs (d:=13) rfl (fun g1=>?_) (fun g1=>by cases g1))))))))))))))
 refine xP (h:=xP (h:=xP (h:=xT (h:=xM (h:=xP (h:=xP (h:=xP (h:=xT (h:=Zb (t:=true) rfl (fun _=>Za (xA (h:=Zd (Zl ?_)))) (fun h=>Bool.noConfusion h))))))))))
 exact eR t1 ⟨ZF (Ze9 (by rw [hh];rfl)).symm,rfl,rfl⟩

theorem Zre (a how o:Int) (B:Kn):Z8 (pj J) 43 [.int .i64 a,.int .i64 how,.int .i64 o] B (.int .i64 (fchg a how o)):=by
 cases hh:ZcX how with
 | false=>exact ZvM a how o hh B
 | true=>
    have h2:how=1∨how=0∨how = -1:=by
      simp only [ZcX,Bool.and_eq_true,decide_eq_true_eq] at hh;omega
    rcases h2 with rfl | rfl | rfl
    · exact ZvL a o B
    · exact ZvK a o B
    · exact ZvJ a o B

theorem Zoo (q2:Option Addr) (cp2:Nat) (xs:List Int) (n:Nat) (hn8:n≤2000000) (B:Kn) (hn:SlK B q2 cp2 1 ZbU xs):Z8 (pj J) 97 [.slice q2 xs.length cp2,.int .i64 n] B (.bool (Zc7 n xs)):=by
 refine cB 24 Tryz.func97 (h:=?_)
 have hnn:=hn.len
 refine Za (xA (h:=Za (xA (h:=Zc (Za (xM (h:=xV Tryz.underlying58 (h:=xM (h:=Zg (Zy (α:=Nat × Int) [0,1,8,9] (fun g=>[(5,.int .i64 g.2),(10,.int .i64 g.1)]) [] (fun g=>[]) (fun g Bx=>Bx=B∧g.1≤xs.length∧ZbD n (xs.take g.1)=(true,g.2)∧0≤g.2) (fun g=>xs.length - g.1) (0,0) t2 rfl (⟨rfl,Nat.zero_le _,ZdV,Int.le_refl _⟩) (fun g B1 hle1 hI=>?_)))))))))))
 obtain ⟨rfl,hk,hs,h0⟩:=hI
 refine ZD [(0,_),(1,_),(5,_),(8,_),(9,_),(10,_)] [] t6 rfl (Za (ZG (h:=Zc (Zb rfl (fun g1=>?_) (fun g1=>?_)))))
 try simp only [sQ,ne_eq] at g1
 refine wSk (Zc (Zg (Za ?_)))
 obtain ⟨m,hm⟩:=ZX (xs:=xs) (i:=g.1) om
 obtain ⟨bb3,oo3,rfl⟩:=hn.base hm
 obtain ⟨_,rfl,hc4⟩:=hn.elem hm
 refine xIx Tryz.underlying58 sz3 (h:=y1 lk3 hc4 0 (h:=xA (h:=Zc (Za (xM (h:=xM (h:=ZbJ (h:=xM (h:=Zs (d:=17) rfl (fun g2=>?_) (fun g2=>?_))))))))))
 try simp only [sQ,ne_eq] at g2
 refine xP (h:=xP (h:=xP (h:=xT (h:=Zb (t:=true) rfl (fun _=>Za (xA (h:=Zd (Zl (ZA (Zl (ZM (ZA (Zl ?_))))))))) (fun h=>Bool.noConfusion h)))))
 exact eR t1 ⟨Zf (Zd5 hm hs (by simp [Zgo];try omega)).symm,rfl,rfl⟩
 try simp only [sQ,ne_eq] at g2
 refine xM (h:=xM (h:=Zek (h:=xF (h:=Zb rfl (fun g3=>?_) (fun g3=>?_)))))
 try simp only [sQ,ne_eq] at g3
 refine Za (xA (h:=Zd (Zl (ZA (Zl (ZM (ZA (Zl ?_))))))))
 exact eR t1 ⟨Zf (Zd5 hm hs (by simp [Zgo];try omega)).symm,rfl,rfl⟩
 try simp only [sQ,ne_eq] at g3
 refine wSk (Ze (xM (h:=xA (h:=ZK (Zn (Ze (xD (h:=xM (h:=?_)))))))))
 exact ZC (g.1+1,m) [] so2 ⟨rfl,so,Zbp hm hs (by simp [Zgo];omega),so⟩ t6 rfl
 try simp only [sQ,ne_eq] at g1
 refine ZE (ZT (ZH (Zv (Zn (Za (xA (h:=Zd ?_)))))))
 exact eR t1 ⟨Zf (ZiU (Zds hs oz)).symm,rfl,rfl⟩

theorem ZgQ (q:Option Addr) (cp:Nat) (x:DBox) (q2:Option Addr) (cp2:Nat) (xs:List Int) (how fl:Int) (B:Kn) (hx:SlK B q cp 3 Zab x.mail) (hn:SlK B q2 cp2 1 ZbU xs):Zw (pj J) 46 [.agg #[.int .i64 x.next,.slice q x.mail.length cp],.slice q2 xs.length cp2,.int .i64 how,.int .i64 fl] B [] (fun v B' Ls=>∃l a c,Ls=[l]∧v = .tuple #[.agg #[.int .i64 (ZP x xs how fl).1.next,.slice a (ZP x xs how fl).1.mail.length c],.bool (ZP x xs how fl).2]∧ZW Kn.none l a c 146 3 Zab (ZP x xs how fl).1.mail):=by
 refine cB 76 Tryz.func46 (h:=?_)
 have hxn:=hx.len
 have hnn:=hn.len
 refine Za (xBx [_,_] (h:=fun b1=>xAl [_,_] Zix (h:=fun b2=>xA (h:=tL2 (Za (xM (h:=xM (h:=xR Zy7 rfl (Zre 0 how fl _) (h:=ZdZ (h:=xA (h:=Zc (Za (xM (h:=xN (h:=xM (h:=Zs (d:=22) rfl (fun g1=>?_) (fun g1=>?_)))))))))))))))))
 try simp only [sQ,ne_eq] at g1
 refine Zmj (xP (h:=?_))
 rw [Zb9 (fun h9=>by have:=Zfq.2 ⟨h9.2.2.1,h9.2.2.2⟩;first | omega | (simp at g1;omega))]
 refine xP (h:=xP (h:=xT (h:=xM (h:=xP (h:=xP (h:=xP (h:=xP (h:=xP (h:=xP (h:=xT (h:=tL3 (Zb (t:=true) rfl (fun _=>Za (xB [] [_,_] [_,_] ZsL Zix (h:=xS [_,_] 1 [_,_] Zgy (h:=xA (h:=tL3 (Zd (Zl ?_))))))) (fun h=>Bool.noConfusion h)))))))))))))
 exact ZdI .ret (.inl rfl) [_,_] [2] rfl ⟨⟨_,rfl,.inr ⟨[_,_],ZeQ,Zbu 1 rfl rfl rfl,rfl⟩⟩,rfl,trivial⟩ ⟨_,none,0,rfl,rfl,ZW.nil⟩
 try simp only [sQ,ne_eq] at g1
 refine xL [_,_] ZeQ 0 (h:=xR Zy3 rfl (Zh4 _ _ (⟨x.next,x.mail⟩:DBox) _ hx) (h:=xN (h:=xF (h:=xM (h:=Zs (d:=27) rfl (fun g2=>?_) (fun g2=>?_))))))
 try simp only [sQ,ne_eq] at g2
 refine Zmj (xP (h:=?_))
 rw [Zb9 (fun h9=>by simp [h9.1] at g2)]
 refine xP (h:=xP (h:=xP (h:=xP (h:=xP (h:=xT (h:=tL3 (Zb (t:=true) rfl (fun _=>Za (xB [] [_,_] [_,_] ZsL Zix (h:=xS [_,_] 1 [_,_] Zgy (h:=xA (h:=tL3 (Zd (Zl ?_))))))) (fun h=>Bool.noConfusion h))))))))
 exact ZdI .ret (.inl rfl) [_,_] [2] rfl ⟨⟨_,rfl,.inr ⟨[_,_],ZeQ,Zbu 1 rfl rfl rfl,rfl⟩⟩,rfl,trivial⟩ ⟨_,none,0,rfl,rfl,ZW.nil⟩
 try simp only [sQ,ne_eq] at g2
 refine xM (h:=xW Zbj (h:=x1 ZhZ 0 (h:=xV Tryz.underlying80 (h:=xR ZBw rfl (Zoo _ _ xs x.mail.length om2 _ hn) (h:=?_)))))
 refine xN (h:=xF (h:=Zb rfl (fun g3=>?_) (fun g3=>?_)))
 try simp only [sQ,ne_eq] at g3
 refine Za (Zmj (xB [] [_,_] [_,_] ZsL Zix (h:=?_)))
 rw [Zb9 (fun h9=>by simp [h9.2.1] at g3)]
 refine xS [_,_] 1 [_,_] Zgy (h:=xA (h:=tL3 (Zd (Zl ?_))))
 exact ZdI .ret (.inl rfl) [_,_] [2] rfl ⟨⟨_,rfl,.inr ⟨[_,_],ZeQ,Zbu 1 rfl rfl rfl,rfl⟩⟩,rfl,trivial⟩ ⟨_,none,0,rfl,rfl,ZW.nil⟩
 try simp only [sQ,ne_eq] at g3
 obtain ⟨hhow,hfo⟩:=Zfq.1 (show 0≤fchg 0 how fl by simpa using g1)
 have hok:Zcj x=true:=by simpa using g2
 have hno:Zc7 x.mail.length xs=true:=by simpa using g3
 have hml:=(ZgY hok).2.2
 refine wSk (Za (xW Zbj (h:=x1 ZhZ 0 (h:=xC ZBv rfl (ZoB _ _ x.mail _ hx) (h:=?_)))))
 rintro _ Bk _ hlek ⟨bk,sk,rfl,rfl,hsk⟩
 replace hn:=up1 hlek hn
 refine xA (h:=tL3 ?_)
 obtain ⟨p0,vl0,s0,hp0,hl0⟩:=hsk.chain
 refine Zel 2 rfl hp0 (Zyo (tL5 (Za (xM (h:=xNc (h:=xW ZmU (h:=x1 Zmx 2 (h:=xA (h:=xA (h:=Zc (Za (xM (h:=xV Tryz.underlying58 (h:=xM (h:=Zg (Zy (α:=FlM × Nat × Int) [0,1,2,3,4,8,9,10,11,34,43,44] (fun g=>[(12,.pointer g.1.p),(13,.int .i64 g.2.1),(45,.int .i64 g.1.k)]) [2,3,4] (fun g=>[ZN g.1.bl g.1.cs g.1.Tc,g.1.cells,g.1.rest]) (fun g Bx=>Bx=Bk∧g.1.k≤xs.length∧g.1.don ++ g.1.xs=Zbo x.mail how fl (xs.take g.1.k)∧ZbD x.mail.length (xs.take g.1.k)=(true,g.2.2)∧g.2.1=g.1.don.length+1∧(g.1.don.length:Int)≤g.2.2∧Zkc 173 175 bk vl0 (.int .i64 x.mail.length) g.1.bl g.1.o g.1.cs g.1.Tc g.1.rest g.1.don∧g.1.cs[g.1.o]? = some (.pointer g.1.p)∧Zei 175 (.pointer g.1.p) g.1.xs g.1.cells) (fun g=>xs.length - g.1.k) (⟨0,[],x.mail,p0,bk,0,[.pointer p0,vl0,.int .i64 x.mail.length],173,_,[]⟩,1,0) t3 rfl (⟨rfl,Nat.zero_le _,rfl,ZdV,rfl,Int.le_refl _,.init,rfl,hl0⟩) (fun g B7 hle7 hI=>?_)))))))))))))))))
 obtain ⟨rfl,hk,hdn,hsc,hat,hdb,hlk,hcs,hl⟩:=hI
 refine ZD [(0,_),(1,_),(2,_),(3,_),(4,_),(8,_),(9,_),(10,_),(11,_),(12,_),(13,_),(34,_),(43,_),(44,_),(45,_)] [_,_,_,_,_] t15 rfl (Za (ZG (h:=Zc (Zb rfl (fun g4=>?_) (fun g4=>?_)))))
 try simp only [sQ,ne_eq] at g4
 refine wSk (Zc (Zg (Za ?_)))
 obtain ⟨y,hy⟩:=ZX (xs:=xs) (i:=g.1.k) om
 obtain ⟨bb9,oo9,rfl⟩:=hn.base hy
 obtain ⟨_,rfl,hc10⟩:=hn.elem hy
 refine xIx Tryz.underlying58 sz3 (h:=?_)
 have hnp:=Zqa hno hy hsc
 obtain ⟨hy1,hy2,hy3⟩:=Zvd hnp
 refine y1 lk3 hc10 0 (h:=xA (h:=Zc (Zg (Zy (α:=FlM × Nat) [0,1,2,3,4,8,9,10,11,15,34,43,44,45,46] (fun h=>[(12,.pointer h.1.p),(13,.int .i64 h.2)]) [2,3,4] (fun h=>[ZN h.1.bl h.1.cs h.1.Tc,h.1.cells,h.1.rest]) (fun h Bx=>Bx=B7∧h.1.don ++ h.1.xs=Zbo x.mail how fl (xs.take g.1.k)∧h.2=h.1.don.length+1∧(h.2:Int)≤y∧Zkc 173 175 bk vl0 (.int .i64 x.mail.length) h.1.bl h.1.o h.1.cs h.1.Tc h.1.rest h.1.don∧h.1.cs[h.1.o]? = some (.pointer h.1.p)∧Zei 175 (.pointer h.1.p) h.1.xs h.1.cells) (fun h=>h.1.xs.length) (g.1,g.2.1) t2 rfl (⟨rfl,hdn,hat,so,hlk,hcs,hl⟩) (fun h B11 hle11 hI=>?_)))))
 obtain ⟨rfl,hdn,hat,hay,hlk,hcs,hl⟩:=hI
 refine ZD [(0,_),(1,_),(2,_),(3,_),(4,_),(8,_),(9,_),(10,_),(11,_),(12,_),(13,_),(15,_),(34,_),(43,_),(44,_),(45,_),(46,_)] [_,_,_,_,_] t17 rfl (Zc (Za (xM (h:=xM (h:=ZG (h:=Zb rfl (fun g5=>?_) (fun g5=>?_)))))))
 try simp only [sQ,ne_eq] at g5
 have hfl9:=Zq9 hdn
 obtain ⟨m,ys,b8,np,rest8,hp8,hrest,hperm,hy8,hl8⟩:=hl.more (hl.live oz)
 rw [hp8] at hcs ⊢
 have hset:=Zjq hcs
 refine Zel 3 rfl hperm (tL6 (Zeo 4 2 rfl rfl (by decide) ?_))
 refine wSk (Zg (Za (xM (h:=xNc (h:=xW ZmS (h:=x1 Zmx 3 (h:=xA (h:=tL6 (Ze (xM (h:=xD (h:=xA (h:=ZK ?_)))))))))))))
 exact ZC (⟨0,h.1.don ++ [m],ys,np,b8,3,Zfu m (.pointer np),175,rest8,ZN h.1.bl h.1.cs h.1.Tc ++ h.1.rest⟩,h.2+1) [0,1,3,5,4] (by rw [hrest];simp) ⟨rfl,by rw [← hdn,hrest];simp,by simp [hat],so,hset ▸ hlk.step hy8,rfl,hl8⟩ t17 rfl
 try simp only [sQ,ne_eq] at g5
 have hye:(h.1.don.length:Int)+1=y:=by omega
 have hfl9:=Zq9 hdn
 obtain ⟨m,ys,b8,np,rest8,hp8,hrest,hperm,hy8,hl8⟩:=hl.more (hl.live oz)
 rw [hp8] at hcs ⊢
 have hset:=Zjq hcs
 refine Zel 3 rfl hperm (tL6 ?_)
 rw [hrest] at hdn
 refine ZE (ZT (ZH (Zv (Zn (Ze (xM (h:=xM (h:=xNc (h:=xW ZmT (h:=xW Zdy (h:=x1 lk3 3 (h:=xM (h:=xM (h:=xR Zy7 rfl (Zre m.flags how fl _) (h:=xNc (h:=xW ZmT (h:=xW Zdy (h:=xS [_] 3 [_,_,_,_] sz3 (h:=ZK (Zn (Zeo 5 3 rfl rfl (by decide) ?_)))))))))))))))))))))
 refine Ze (xD (h:=xM (h:=?_)))
 exact ZC (⟨g.1.k+1,h.1.don,⟨m.uid,fchg m.flags how fl,m.text⟩ :: ys,some ⟨b8,0,none⟩,h.1.bl,h.1.o,h.1.cs,h.1.Tc,_,h.1.rest⟩,h.2,y) [0,1,2,5,4] so2 ⟨rfl,so,Ztv hok hhow hfo hy hsc hnp hdn hye,Zbp hy hsc hnp,hat,so,hlk,hcs,⟨b8,.pointer np,rest8,rfl,.refl _,hy8,hl8⟩⟩ t15 rfl
 try simp only [sQ,ne_eq] at g4
 rw [List.take_of_length_le oz] at hdn
 have hw9:=hlk.fin (s:=g.1.cells ++ (g.1.rest ++ ZN g.1.bl g.1.cs g.1.Tc)) hxn (Zjq hcs) hl (Zop fun f g h0 ha hc=>by simp only [ha];omega)
 have hpl:(g.1.don ++ g.1.xs).length≤2000000:=by rw [hdn,Zf1];exact hxn
 rw [Zfc ⟨hok,hno,hhow,hfo⟩,← hdn]
 refine Zeo 2 4 rfl rfl (by decide) ?_
 refine Zeo 2 3 rfl rfl (by decide) ?_
 refine ZE (ZT (ZH (Zv (Zn (Zc (Z3 (keeps _ [0] _) mo kr ⟨Kn.le.refl _,Za7.refl _ _⟩ (fun _ _=>?_)))))))
 refine aW 0 rfl ZfF (h:=aT 1 rfl (ZR fun D B L hI=>Zo rfl rfl lk3 rfl (atL 0 (hI.2.1.trans rfl) rfl rfl) r4) (h:=aM 2 rfl (h:=ZB 3 kr rfl kr (ZbH [2] rfl rfl rfl rfl ZBu rfl (Zk7 _ (g.1.don ++ g.1.xs) _ hpl _ hw9) ?_))))
 rintro _ B13 _ hle13 ⟨rfl,l13,a13,c13,rfl,rfl,hm13⟩
 refine ⟨⟨Kn.le.refl _,t1⟩,(aT 4 rfl (ZR fun D B L hI=>Zas (parts:=[(0,_),(1,_)]) [_,_] [_,_] rfl rfl ZsL Zix rfl rfl rfl r4) (h:=ZaU 5 kr rfl kr kr (ZL [_,_] 1 [_,_] rfl rfl Zgy rfl rfl rfl rfl rfl rfl rfl rfl ?_)))⟩
 refine aA 6 rfl (h:=Zu kr kr ?_)
 refine Zn (tL5 (Zd ?_))
 exact ZdI .ret (.inl rfl) [_,_] [2] rfl ⟨⟨_,rfl,.inr ⟨[_,_],ZeQ,Zbu 1 rfl rfl rfl,rfl⟩⟩,rfl,trivial⟩ ⟨_,_,_,rfl,rfl,hm13⟩

theorem ZsB (b b2 b3 b4:Nat) (q1 q2 q3:Option Addr) (c1 c2 c3:Nat) (x:DHost) (l1 l2 l3:Cells) (k:Nat) (f:DFolder) (hfx:x.folders[k]? = some f) (hn1:x.users.length≤2000000) (hn2:x.folders.length≤2000000) (q4:Option Addr) (c4:Nat) (set:List DSpan) (how fl:Int) (hyes:(ZP (⟨f.next,f.mail⟩:DBox) (Z6 set f.mail.length) how fl).2=true) (hml:f.mail.length≤10) (a:Nat→Addr) (B:Kn) (hc2:Zan B b2 0 [.slice q4 set.length c4]) (hc3:Zan B b3 0 [.int .i64 how]) (hc4:Zan B b4 0 [.int .i64 fl]) (hs:SlK B q4 c4 2 Z0 set) (hu:ZW Kn.none l1 q1 c1 132 3 Zp x.users) (hf:ZaV l2 q2 c2 87 5 (ZZ 223 146) x.folders) (hi:ZaV l3 q3 c3 136 4 (ZaX 9) x.queue.items):Zw (pj J) 45 [ptr ⟨b,2,none⟩,.int .i64 k,ptr ⟨b2,0,none⟩,ptr ⟨b3,0,none⟩,ptr ⟨b4,0,none⟩] B [ZN b [.int .i32 1,.int .u32 0,str x.domain,.slice q1 x.users.length c1,.slice q2 x.folders.length c2,.int .i64 x.queue.next,.slice q3 x.queue.items.length c3] 163,l1,l2,l3] (fun v B' Ls=>∃q1' c1' q2' c2' q3' c3' l1' l2' l3',Ls=[ZN b [.int .i32 1,.int .u32 0,str (x.withFolders (x.folders.set k (f.withBox (ZP (⟨f.next,f.mail⟩:DBox) (Z6 set f.mail.length) how fl).1))).domain,.slice q1' (x.withFolders (x.folders.set k (f.withBox (ZP (⟨f.next,f.mail⟩:DBox) (Z6 set f.mail.length) how fl).1))).users.length c1',.slice q2' (x.withFolders (x.folders.set k (f.withBox (ZP (⟨f.next,f.mail⟩:DBox) (Z6 set f.mail.length) how fl).1))).folders.length c2',.int .i64 (x.withFolders (x.folders.set k (f.withBox (ZP (⟨f.next,f.mail⟩:DBox) (Z6 set f.mail.length) how fl).1))).queue.next,.slice q3' (x.withFolders (x.folders.set k (f.withBox (ZP (⟨f.next,f.mail⟩:DBox) (Z6 set f.mail.length) how fl).1))).queue.items.length c3'] 163,l1',l2',l3']∧v=errv 392 a (0)∧ZW Kn.none l1' q1' c1' 132 3 Zp (x.withFolders (x.folders.set k (f.withBox (ZP (⟨f.next,f.mail⟩:DBox) (Z6 set f.mail.length) how fl).1))).users∧ZaV l2' q2' c2' 87 5 (ZZ 223 146) (x.withFolders (x.folders.set k (f.withBox (ZP (⟨f.next,f.mail⟩:DBox) (Z6 set f.mail.length) how fl).1))).folders∧ZaV l3' q3' c3' 136 4 (ZaX 9) (x.withFolders (x.folders.set k (f.withBox (ZP (⟨f.next,f.mail⟩:DBox) (Z6 set f.mail.length) how fl).1))).queue.items):=by
 refine ZcO 40 Tryz.func45 rfl rfl rfl (Nat.le_of_ble_eq_true rfl) ?_
 have hfk:=(List.getElem?_eq_some_iff.1 hfx).1
 have hxl:(ZP (⟨f.next,f.mail⟩:DBox) (Z6 set f.mail.length) how fl).1.mail.length≤f.mail.length:=ZlH ..
 have hml9:(f.withBox (ZP (⟨f.next,f.mail⟩:DBox) (Z6 set f.mail.length) how fl).1).mail.length≤2000000:=Nat.le_trans hxl oz
 obtain ⟨bq,_,_,lre,hpq,⟨qg,cg,qm,cm,ia,ib,rfl,rfl,hvg,hvm,ho9,hn9,hx9,hy9⟩,hwq,hqq,hcl,hcr,hkk⟩:=hf.cellA hfx
 refine Za (xA (h:=Za (xM (h:=xNc (h:=xW ZaA (h:=x1 ZeS 0 (h:=xM (h:=Zj (Zkm hpq rfl rfl Tryz.underlying36 Zb1 rfl rfl oz oz ?_)))))))))
 refine xA (h:=Zc (Z3 (keeps _ [0,2] _) mo kr ⟨Kn.le.refl _,Za7.refl _ _⟩ (fun _ _=>?_)))
 refine aM 0 rfl (h:=aNc 1 rfl (h:=aW 2 rfl Zbi (h:=aT 3 rfl (ZR fun D B L hI=>Z4 [_,_] rfl rfl ZeQ rfl (ZBl (hcl _ _ 2 (hI.2.2.1.trans rfl)) 3 rfl rfl) r4) (h:=aT 4 rfl (ZR fun D B L hI=>Zo rfl rfl ZAS rfl ((hc2.mono hI.1) _ 0 _ rfl) r4) (h:=aM 5 rfl (h:=aNc 6 rfl (h:=aW 7 rfl Zbi (h:=aW 8 rfl Zbj (h:=aT 9 rfl (ZR fun D B L hI=>Zo rfl rfl ZhZ rfl (hcl _ _ 2 (hI.2.2.1.trans rfl) 4 _ rfl) r4) (h:=aV 10 rfl Tryz.underlying80 (h:=aT 12 rfl (ZR fun D B L hI=>Zo rfl rfl lk3 rfl ((hc3.mono hI.1) _ 0 _ rfl) r4) (h:=aT 13 rfl (ZR fun D B L hI=>Zo rfl rfl lk3 rfl ((hc4.mono hI.1) _ 0 _ rfl) r4) (h:=Zat [11,18] kr kr kr ⟨?_,?_⟩)))))))))))))
 refine (ZcD rfl rfl ZA5 rfl (Zi2 _ _ set ↑f.mail.length _ hs) ?_)
 intro v1 B1 hle1
 rintro ⟨a1,c1,rfl,hs1⟩
 replace hs:=hs.mono Z0.mono hle1
 replace hu:=hu.mono Zp.mono hle1
 have hs1n:=hs1.len
 refine ⟨⟨hle1,t2⟩,(ZaD [_,_,_,_] rfl ?_)⟩
 refine Zat [14,18] kr kr kr ⟨?_,?_⟩
 refine (ZbH [2] rfl rfl rfl rfl Zy6 rfl (Zw.borrow fun hm9=>ZgQ _ _ (⟨f.next,f.mail⟩:DBox) _ _ (Z6 set f.mail.length) how fl _ (hvm.knownF oz fun p hp=>hm9 p (hqq.mem_iff.2 (by simp [hp]))) (hs1.mono ZbU.mono (Kn.le_add _ _))) ?_)
 rintro _ B2 _ hle2 ⟨BB2,_,rfl,hB2,_,hm2,_,l2,a2,c2,rfl,rfl,hs2⟩
 replace hs:=hs.mono Z0.mono hle2
 replace hs1:=hs1.mono ZbU.mono hle2
 replace hu:=hu.mono Zp.mono hle2
 refine ⟨⟨(hle1.trans hle2),t2⟩,(ZaD [_,_,_,_,_] rfl ?_)⟩
 refine aM 15 rfl (h:=aE 16 rfl (h:=aE 17 rfl (h:=ZB 18 kr rfl kr (Zae (l:=[_,_]) rfl rfl Zix rfl (fun b3=>?_)))))
 refine ⟨⟨(hle1.trans hle2),t2⟩,(ZaU 19 kr rfl kr kr (ZL [_,_] 5 [_,_] rfl rfl Zgy rfl rfl rfl rfl rfl rfl rfl rfl ?_))⟩
 refine aA 20 rfl (h:=Zu kr kr ?_)
 refine Zn (tL6 (Zc (Za (xM (h:=Zb rfl (fun g2=>?_) (fun g2=>by rw [hyes] at g2;simp at g2))))))
 refine Ze (xM (h:=xL [_,_] ZeQ 5 (h:=xNc (h:=xW Zbi (h:=Zj (Zpj (R:=(ZZ 223 146)) (x0:=f) (f.withBox (ZP (⟨f.next,f.mail⟩:DBox) (Z6 set f.mail.length) how fl).1) (us:=[_,_]) (sz:=5) (k:=k) 3 2 [4] rfl rfl hf hpq hfx rfl rfl Zgy rfl rfl rfl rfl (Nat.le_of_ble_eq_true rfl) (by rintro _ _ ⟨_,_,_,_,_,_,rfl,rfl,k1,k2,k3,k4,k5,k6⟩;exact ⟨_,_,⟨_,_,_,_,_,_,rfl,rfl,k1,hs2,k3,k4,k5,hml9⟩,by simpa [List.append_assoc] using List.Perm.append_left _ List.perm_append_comm⟩) (fun l4 hd4=>?_)))))))
 refine Zn (Za (xA (h:=tL6 (Zd ?_))))
 simp only [DHost.withFolders,List.length_set]
 exact eN [0,1,2,3] rfl t1 ⟨_,_,_,_,_,_,_,_,_,rfl,rfl,hu,hd4,hi⟩
 refine (Zae (l:=[_,_]) rfl rfl Zix rfl (fun b5=>⟨⟨hle1,t2⟩,(ZB 14 kr rfl kr (ZbH [2] rfl rfl rfl rfl Zy6 rfl (Zw.borrow fun hm9=>ZgQ _ _ (⟨f.next,f.mail⟩:DBox) _ _ (Z6 set f.mail.length) how fl _ (hvm.knownF oz fun p hp=>hm9 p (hqq.mem_iff.2 (by simp [hp]))) (hs1.mono ZbU.mono (Kn.le_add _ _))) ?_))⟩))
 rintro _ B6 _ hle6 ⟨BB6,_,rfl,hB6,_,hm6,_,l6,a6,c6,rfl,rfl,hs6⟩
 replace hs:=hs.mono Z0.mono hle6
 replace hu:=hu.mono Zp.mono hle6
 refine ⟨⟨(hle1.trans hle6),t2⟩,(ZaD [_,_,_,_,_,_] rfl ?_)⟩
 refine aM 15 rfl (h:=aE 16 rfl (h:=aE 17 rfl (h:=ZaU 19 kr rfl kr kr (ZL [_,_] 4 [_,_] rfl rfl Zgy rfl rfl rfl rfl rfl rfl rfl rfl ?_))))
 refine aA 20 rfl (h:=Zu kr kr ?_)
 refine Zn (tL6 (Zc (Za (xM (h:=Zb rfl (fun g2=>?_) (fun g2=>by rw [hyes] at g2;simp at g2))))))
 refine Ze (xM (h:=xL [_,_] ZeQ 4 (h:=xNc (h:=xW Zbi (h:=Zj (Zpj (R:=(ZZ 223 146)) (x0:=f) (f.withBox (ZP (⟨f.next,f.mail⟩:DBox) (Z6 set f.mail.length) how fl).1) (us:=[_,_]) (sz:=5) (k:=k) 3 2 [5] rfl rfl hf hpq hfx rfl rfl Zgy rfl rfl rfl rfl (Nat.le_of_ble_eq_true rfl) (by rintro _ _ ⟨_,_,_,_,_,_,rfl,rfl,k1,k2,k3,k4,k5,k6⟩;exact ⟨_,_,⟨_,_,_,_,_,_,rfl,rfl,k1,hs6,k3,k4,k5,hml9⟩,by simpa [List.append_assoc] using List.Perm.append_left _ List.perm_append_comm⟩) (fun l7 hd7=>?_)))))))
 refine Zn (Za (xA (h:=tL6 (Zd ?_))))
 simp only [DHost.withFolders,List.length_set]
 exact eN [0,1,2,3] rfl t1 ⟨_,_,_,_,_,_,_,_,_,rfl,rfl,hu,hd7,hi⟩
 refine (Zae (l:=[_,_]) rfl rfl Zix rfl (fun b8=>⟨⟨Kn.le.refl _,t2⟩,(ZB 11 kr rfl kr (ZcD rfl rfl ZA5 rfl (Zi2 _ _ set ↑f.mail.length _ hs) ?_))⟩))
 intro v9 B9 hle9
 rintro ⟨a9,c9,rfl,hs9⟩
 replace hu:=hu.mono Zp.mono hle9
 have hs9n:=hs9.len
 refine ⟨⟨hle9,t2⟩,(ZaD [_,_,_,_,_] rfl ?_)⟩
 refine ZB 14 kr rfl kr (ZbH [2] rfl rfl rfl rfl Zy6 rfl (Zw.borrow fun hm9=>ZgQ _ _ (⟨f.next,f.mail⟩:DBox) _ _ (Z6 set f.mail.length) how fl _ (hvm.knownF oz fun p hp=>hm9 p (hqq.mem_iff.2 (by simp [hp]))) (hs9.mono ZbU.mono (Kn.le_add _ _))) ?_)
 rintro _ B10 _ hle10 ⟨BB10,_,rfl,hB10,_,hm10,_,l10,a10,c10,rfl,rfl,hs10⟩
 replace hu:=hu.mono Zp.mono hle10
 refine ⟨⟨(hle9.trans hle10),t2⟩,(ZaD [_,_,_,_,_,_] rfl ?_)⟩
 refine aM 15 rfl (h:=aE 16 rfl (h:=aE 17 rfl (h:=ZaU 19 kr rfl kr kr (ZL [_,_] 4 [_,_] rfl rfl Zgy rfl rfl rfl rfl rfl rfl rfl rfl ?_))))
 refine aA 20 rfl (h:=Zu kr kr ?_)
 refine Zn (tL6 (Zc (Za (xM (h:=Zb rfl (fun g2=>?_) (fun g2=>by rw [hyes] at g2;simp at g2))))))
 refine Ze (xM (h:=xL [_,_] ZeQ 4 (h:=xNc (h:=xW Zbi (h:=Zj (Zpj (R:=(ZZ 223 146)) (x0:=f) (f.withBox (ZP (⟨f.next,f.mail⟩:DBox) (Z6 set f.mail.length) how fl).1) (us:=[_,_]) (sz:=5) (k:=k) 3 2 [5] rfl rfl hf hpq hfx rfl rfl Zgy rfl rfl rfl rfl (Nat.le_of_ble_eq_true rfl) (by rintro _ _ ⟨_,_,_,_,_,_,rfl,rfl,k1,k2,k3,k4,k5,k6⟩;exact ⟨_,_,⟨_,_,_,_,_,_,rfl,rfl,k1,hs10,k3,k4,k5,hml9⟩,by simpa [List.append_assoc] using List.Perm.append_left _ List.perm_append_comm⟩) (fun l11 hd11=>?_)))))))
 refine Zn (Za (xA (h:=tL6 (Zd ?_))))
 simp only [DHost.withFolders,List.length_set]
 exact eN [0,1,2,3] rfl t1 ⟨_,_,_,_,_,_,_,_,_,rfl,rfl,hu,hd11,hi⟩

theorem ZcL (hJ:Joins Tryz.prog J) (q1 q2 q3:Option Addr) (c1 c2 c3:Nat) (x:DHost) (u o n:Str) (hul:u.length≤2000000) (hol:o.length≤2000000) (hnl:n.length≤2000000) (q4:Option Addr) (c4:Nat) (set:List DSpan) (how fl:Int) (hd:x.domain.length≤2000000) (a:Nat→Addr) (B:Kn) (hE:ErrsB 392 [0,1,2,3] B a) (hu:SlK B q1 c1 3 Zp x.users) (hf:SlK B q2 c2 5 Zm x.folders) (hi:SlK B q3 c3 4 Zz x.queue.items) (hs:SlK B q4 c4 2 Z0 set):Zw (pj J) 12 [.agg #[str x.domain,.slice q1 x.users.length c1,.slice q2 x.folders.length c2,.int .i64 x.queue.next,.slice q3 x.queue.items.length c3],.agg #[str u,str o,str n],.slice q4 set.length c4,.int .i64 how,.int .i64 fl] B [] (fun v B' Ls=>∃q1 c1 q2 c2 q3 c3 l1 l2 l3,Ls=[l1,l2,l3]∧v = .tuple #[.agg #[str (ZI x ⟨u,o,n⟩ set how fl).1.domain,.slice q1 (ZI x ⟨u,o,n⟩ set how fl).1.users.length c1,.slice q2 (ZI x ⟨u,o,n⟩ set how fl).1.folders.length c2,.int .i64 (ZI x ⟨u,o,n⟩ set how fl).1.queue.next,.slice q3 (ZI x ⟨u,o,n⟩ set how fl).1.queue.items.length c3],.int .i64 (ZI x ⟨u,o,n⟩ set how fl).2]∧ZW Kn.none l1 q1 c1 132 3 Zp (ZI x ⟨u,o,n⟩ set how fl).1.users∧ZaV l2 q2 c2 87 5 (ZZ 223 146) (ZI x ⟨u,o,n⟩ set how fl).1.folders∧ZaV l3 q3 c3 136 4 (ZaX 9) (ZI x ⟨u,o,n⟩ set how fl).1.queue.items):=by
 refine cB 28 Tryz.func12 (h:=?_)
 have hun:=hu.len
 have hfn:=hf.len
 have hin:=hi.len
 have hsn:=hs.len
 refine Za (xBx [_,_,_,_,_] (h:=fun b1=>xBx [_,_,_] (h:=fun b2=>xBx [_] (h:=fun b3=>xBx [_] (h:=fun b4=>xBx [_] (h:=fun b5=>xAl [_,_,_,_,_] Zca (h:=fun b6=>xA (h:=tL6 (Zkk 2 rfl (fun B7 hle7 hpm7=>?_))))))))))
 have hc7:=Za5 hpm7
 obtain ⟨hu,hf,hi,hs⟩:=up4 hle7 hu hf hi hs
 replace hE:=hE.mono hle7
 refine Zkk 3 rfl (fun B8 hle8 hpm8=>?_)
 have hc8:=Za5 hpm8
 obtain ⟨hu,hf,hi,hs⟩:=up4 hle8 hu hf hi hs
 replace hc7:=hc7.mono hle8
 replace hE:=hE.mono hle8
 refine Zkk 4 rfl (fun B9 hle9 hpm9=>?_)
 have hc9:=Za5 hpm9
 obtain ⟨hu,hf,hi,hs⟩:=up4 hle9 hu hf hi hs
 replace hc7:=hc7.mono hle9
 replace hc8:=hc8.mono hle9
 replace hE:=hE.mono hle9
 refine Za (y1 ZAS hc7 0 (h:=xR ZA8 rfl (Zlg _ _ set _ hs) (h:=xM (h:=Zs (d:=15) rfl (fun g1=>?_) (fun g1=>?_)))))
 refine y1 lk3 hc8 0 (h:=y1 lk3 hc9 0 (h:=xR Zy7 rfl (Zre 0 how fl _) (h:=ZdZ (h:=xT (h:=xA (h:=tL6 (Za (xL [_,_,_,_,_] ZcK 0 (h:=xL [_,_,_] Zw5 1 (h:=xM (h:=Zj (Zbz (xs:=[]) (ys:=[_,_,_]) rfl rfl rfl rfl (xC ZA7 rfl (Zum _ _ _ _ _ _ x u o n hul hol hnl (decide (0≤fchg 0 how fl)) 4 45 _ (Zgj x (ZbI (inF o n) x.folders).toNat (ZP (Zfx x (ZbI (inF o n) x.folders).toNat) (Z6 set (Zfx x (ZbI (inF o n) x.folders).toNat).mail.length) how fl).1) 0 (by decide) ZA6 hJ hd a _ hE hu hf hi (fun har hok h2 hr B2 b q1 q2 q3 c1 c2 c3 l1 l2 l3 hle k1 k2 k3=>by (obtain ⟨k,f,hk,hfx⟩:=ZrA hr;have hat:(if Zdj x.users x.folders u o n 4=0 then ZbI (inF o n) x.folders else -1)=(k:Int):=(by rw [if_pos hr,hk]);have hRX:(Zgj x (ZbI (inF o n) x.folders).toNat (ZP (Zfx x (ZbI (inF o n) x.folders).toNat) (Z6 set (Zfx x (ZbI (inF o n) x.folders).toNat).mail.length) how fl).1)=x.withFolders (x.folders.set k (f.withBox (ZP (⟨f.next,f.mail⟩:DBox) (Z6 set f.mail.length) how fl).1)):=(by rw [hk,Int.toNat_natCast,ZgZ hfx,ZhO hfx];rfl);have hbk:Zcj (⟨f.next,f.mail⟩:DBox)=true:=ZgT (Zgs hok hfx);have hml:f.mail.length≤10:=(ZgY hbk).2.2;have hyes:(ZP (⟨f.next,f.mail⟩:DBox) (Z6 set f.mail.length) how fl).2=true:=(by rw [Zfc ⟨hbk,ZkU ..,(Zfq.1 (of_decide_eq_true har)).1,(Zfq.1 (of_decide_eq_true har)).2⟩]);rw [hat,hRX];exact ZsB b _ _ _ _ _ _ _ _ _ x l1 l2 l3 k f hfx oz oz _ _ set how fl hyes hml a B2 (hc7.mono hle) (hc8.mono hle) (hc9.mono hle) (hs.mono Z0.mono hle) k1 k2 k3))) (h:=?_))))))))))))))
 rintro _ B12 _ hle12 ⟨Y12,d12,q112,c112,q212,c212,q312,c312,l112,l212,l312,hYd12,rfl,rfl,hu12,hf12,hi12⟩
 obtain ⟨hu,hf,hi⟩:=up3 hle12 hu hf hi
 replace hE:=hE.mono hle12
 rw [Znp (set:=set) (how:=how) (fl:=fl) (⟨fun h9=>⟨by simpa using g1,Zfq.1 (of_decide_eq_true h9)⟩,fun h9=>decide_eq_true (Zfq.2 h9.2)⟩) rfl] at hYd12
 obtain ⟨rfl,rfl⟩:=Prod.mk.inj hYd12
 refine xE (h:=xE (h:=xS [_,_,_,_,_] 5 [_,_,_,_,_] ZcZ (h:=xA (h:=tL9 (Zd ?_)))))
 exact ZdI .ret (.inl rfl) [_,_] [6,7,8] rfl ⟨⟨_,rfl,.inr ⟨[_,_,_,_,_],ZcK,Zbu 5 rfl rfl rfl,rfl⟩⟩,rfl,trivial⟩ ⟨_,_,_,_,_,_,_,_,_,rfl,rfl,hu12.anyK Zp.any,hf12,hi12⟩
 refine xP (h:=xP (h:=xP (h:=xP (h:=xF (h:=xA (h:=tL6 (Za (xL [_,_,_,_,_] ZcK 0 (h:=xL [_,_,_] Zw5 1 (h:=xM (h:=Zj (Zbz (xs:=[]) (ys:=[_,_,_]) rfl rfl rfl rfl (xC ZA7 rfl (Zum _ _ _ _ _ _ x u o n hul hol hnl false 4 45 _ (Zgj x (ZbI (inF o n) x.folders).toNat (ZP (Zfx x (ZbI (inF o n) x.folders).toNat) (Z6 set (Zfx x (ZbI (inF o n) x.folders).toNat).mail.length) how fl).1) 0 (by decide) ZA6 hJ hd a _ hE hu hf hi (fun har=>by cases har)) (h:=?_))))))))))))))
 rintro _ B13 _ hle13 ⟨Y13,d13,q113,c113,q213,c213,q313,c313,l113,l213,l313,hYd13,rfl,rfl,hu13,hf13,hi13⟩
 rw [Znp (set:=set) (how:=how) (fl:=fl) (⟨fun h9=>(by cases h9),fun h9=>(by simp [h9.1] at g1)⟩) rfl] at hYd13
 obtain ⟨rfl,rfl⟩:=Prod.mk.inj hYd13
 refine xE (h:=xE (h:=xS [_,_,_,_,_] 5 [_,_,_,_,_] ZcZ (h:=xA (h:=tL9 (Zd ?_)))))
 exact ZdI .ret (.inl rfl) [_,_] [6,7,8] rfl ⟨⟨_,rfl,.inr ⟨[_,_,_,_,_],ZcK,Zbu 5 rfl rfl rfl,rfl⟩⟩,rfl,trivial⟩ ⟨_,_,_,_,_,_,_,_,_,rfl,rfl,hu13.anyK Zp.any,hf13,hi13⟩

theorem ZmV (q1 q2 q3:Option Addr) (c1 c2 c3:Nat) (x:DHost) (hd:x.domain.length≤140737488355328) (u y z:Str) (hw1:u.length≤140737488355328) (hw2:y.length≤140737488355328) (hw3:z.length≤140737488355328) (qs:Option Addr) (cs:Nat) (set:List DSpan) (how fl:Int) (B:Kn) (a:Nat→Addr) (hE:ErrsB 392 [0,1,2,3] B a) (hu:SlB B q1 c1 3 ZlP x.users) (hf:SlB B q2 c2 5 Zff x.folders) (hi:SlB B q3 c3 4 Ziv x.queue.items) (hs:SlB B qs cs 2 Z0 set) :∃code,Tryz.f3.body=some code∧wpS (pj (Zo9 Tryz.prog)) 142 code (Zf8 (pj (Zo9 Tryz.prog)) [.tmp 10] (fun v B' Ls=>v = .bool true)) (ZdD [.agg #[str x.domain,.slice q1 x.users.length c1,.slice q2 x.folders.length c2,.int .i64 x.queue.next,.slice q3 x.queue.items.length c3],.agg #[str u,str y,str z],.slice qs set.length cs,.int .i64 how,.int .i64 fl] 0) [] B []:=by
 have hJ:=ZmD Tryz.prog
 refine ⟨_,rfl,(Za (xBx [_,_,_,_,_] (h:=fun b1=>xBx [_,_,_] (h:=fun b2=>xA (h:=tL2 (Za (xA (h:=Za (xL [_,_,_,_,_] Zw6 0 (h:=xM (h:=xR en5 rfl (Zsx _ _ _ _ _ _ x om 1048576 om om _ hu hf hi) (h:=?_))))))))))))⟩
 refine xA (h:=Zc (Za (xM (h:=ZG (h:=Zb rfl (fun g1=>?_) (fun g1=>?_))))))
 try simp only [sQ,ne_eq] at g1
 refine Za (xA (h:=Zd (Zl ?_)))
 exact eR t1 rfl
 try simp only [sQ,ne_eq] at g1
 have hsg:=Zcn (left:=1048576) oz g1
 refine wSk (Za (xL [_,_,_] Zx5 1 (h:=xM (h:=xR en6 rfl (Zl3 u y z om2 om2 om2 (szI 1048576 (Zc6 x)) om2 om2 _) (h:=?_)))))
 refine xA (h:=Zc (Za (xM (h:=ZG (h:=Zb rfl (fun g2=>?_) (fun g2=>?_))))))
 try simp only [sQ,ne_eq] at g2
 refine Za (xA (h:=Zd (Zl ?_)))
 exact eR t1 rfl
 try simp only [sQ,ne_eq] at g2
 have hsg4:=Zcn oz g2
 refine wSk (Za (xM (h:=xM (h:=xR en7 rfl (ZpH _ _ set (szI (szI 1048576 (Zc6 x)) (u.length+y.length+z.length)) om2 om2 _ hs) (h:=?_)))))
 refine xA (h:=Zc (Za (xM (h:=ZG (h:=Zb rfl (fun g3=>?_) (fun g3=>?_))))))
 try simp only [sQ,ne_eq] at g3
 refine Za (xA (h:=Zd (Zl ?_)))
 exact eR t1 rfl
 try simp only [sQ,ne_eq] at g3
 have hsg5:=Zcn oz g3
 have hsz:Zc6 x≤1048576:=by have:=hsg.2;omega
 have hsu:=hsg4.2
 have hsp:=hsg5.2
 have hset:set.length≤1048576:=by omega
 have hsz2:=ZqE hsz
 have hkh:=ZyT hsz
 replace hu:=ZlY hu hsz2.2.1
 replace hf:=ZjP hf hsz2.2.2.1
 replace hi:=ZmE hi hsz2.2.2.2
 have hs9:SlK _ qs cs 2 Z0 set:=hs.small oz (fun _ _ _ hr=>hr)
 replace hs:=hs9
 have hun:=hu.len
 have hfn:=hf.len
 have hin:=hi.len
 have hsn:=hs.len
 obtain ⟨hka,hkb,hkc,hkd⟩:=Zvp (x:=x) (s:=⟨u,y,z⟩) (set:=set) (how:=how) (fl:=fl)
 refine wSk (Zng (α:=GX) [0,1,2,3,4,5,6,10,11,27,32,37] (fun xw=>[(12,ptr ⟨xw.b,0,none⟩),(13,.int .i64 (ZI x ⟨u,y,z⟩ set how fl).2)]) (fun xw=>[ZN b1 [str x.domain,.slice q1 x.users.length c1,.slice q2 x.folders.length c2,.int .i64 x.queue.next,.slice q3 x.queue.items.length c3] 28,ZN b2 [str u,str y,str z] 30,ZN xw.b [str (ZI x ⟨u,y,z⟩ set how fl).1.domain,.slice xw.q1 (ZI x ⟨u,y,z⟩ set how fl).1.users.length xw.c1,.slice xw.q2 (ZI x ⟨u,y,z⟩ set how fl).1.folders.length xw.c2,.int .i64 (ZI x ⟨u,y,z⟩ set how fl).1.queue.next,.slice xw.q3 (ZI x ⟨u,y,z⟩ set how fl).1.queue.items.length xw.c3] 41]) (fun xw Bx=>SlK Bx xw.q1 xw.c1 3 Zp (ZI x ⟨u,y,z⟩ set how fl).1.users∧SlK Bx xw.q2 xw.c2 5 Zm (ZI x ⟨u,y,z⟩ set how fl).1.folders∧SlK Bx xw.q3 xw.c3 4 Zz (ZI x ⟨u,y,z⟩ set how fl).1.queue.items∧(ZI x ⟨u,y,z⟩ set how fl).1.domain.length≤2000000) ?_ (fun xw B6 hle6 hF=>?_))
 refine Z3 (keeps _ [0,1] _) mo kr ⟨Kn.le.refl _,Za7.refl _ _⟩ (fun _ _=>?_)
 refine aT 0 rfl (ZR fun D B L hI=>Z4 [_,_,_,_,_] rfl rfl Zw6 rfl (Zbu 0 (hI.2.1.trans rfl) rfl rfl) r4) (h:=aT 2 rfl (ZR fun D B L hI=>Z4 [_,_,_] rfl rfl Zx5 rfl (Zbu 1 (hI.2.2.1.trans rfl) rfl rfl) r4) (h:=aM 4 rfl (h:=aM 6 rfl (h:=aM 7 rfl (h:=Zat [1,12] kr kr kr ⟨?_,?_⟩)))))
 refine (Zag rfl rfl en9 rfl (Zfi _ _ _ _ _ _ x _ hu hf hi om2) ?_)
 rintro _ B7 _ hle7 ⟨q7,c7,l7,q7b,c7b,l7b,q7c,c7c,l7c,rfl,rfl,rfl,hv7,hv7b,hv7c⟩
 refine ⟨⟨Kn.le.refl _,t2⟩,(ZaD [_,_,_,_,_] rfl ?_)⟩
 refine Zeh 2 rfl hv7 Zp.any om (fun B' hle'=>⟨hle',t2⟩) (fun B8 hle8 hr8=>?_)
 replace hu:=hu.mono Zp.mono hle8
 replace hf:=hf.mono Zm.mono hle8
 replace hi:=hi.mono Zz.mono hle8
 replace hs:=hs.mono Z0.mono hle8
 replace hE:=hE.mono hle8
 have hr8n:=hr8.len
 refine ZfJ 3 rfl hv7b ZZ.known Zm.mono om (fun B' hle'=>⟨hle8.trans hle',t2⟩) (fun B9 hle9 hr9=>?_)
 replace hu:=hu.mono Zp.mono hle9
 replace hf:=hf.mono Zm.mono hle9
 replace hi:=hi.mono Zz.mono hle9
 replace hs:=hs.mono Z0.mono hle9
 replace hr8:=hr8.mono Zp.mono hle9
 replace hE:=hE.mono hle9
 have hr9n:=hr9.len
 refine ZfJ 4 rfl hv7c ZaX.known Zz.mono om (fun B' hle'=>⟨(hle8.trans hle9).trans hle',t2⟩) (fun B10 hle10 hr10=>?_)
 replace hu:=hu.mono Zp.mono hle10
 replace hf:=hf.mono Zm.mono hle10
 replace hi:=hi.mono Zz.mono hle10
 replace hs:=hs.mono Z0.mono hle10
 replace hr8:=hr8.mono Zp.mono hle10
 replace hr9:=hr9.mono Zm.mono hle10
 replace hE:=hE.mono hle10
 have hr10n:=hr10.len
 refine Zat [3,12] kr kr kr ⟨?_,?_⟩
 refine (Z9 rfl rfl Zv3 rfl (ZbZ u y z _) (⟨⟨((hle8.trans hle9).trans hle10),t2⟩,(ZaD [_,_,_,_,_] rfl ?_)⟩))
 refine Zat [5,12] kr kr kr ⟨?_,?_⟩
 refine (Zag rfl rfl ZrZ rfl (ZbK _ _ set om2 _ hs) ?_)
 rintro _ B12 _ hle12 ⟨q12,c12,l12,rfl,rfl,rfl,hv12⟩
 refine ⟨⟨((hle8.trans hle9).trans hle10),t2⟩,(ZaD [_,_,_,_,_,_] rfl ?_)⟩
 refine Zeh 5 rfl hv12 Z0.any om (fun B' hle'=>⟨((hle8.trans hle9).trans hle10).trans hle',t2⟩) (fun B13 hle13 hr13=>?_)
 replace hu:=hu.mono Zp.mono hle13
 replace hf:=hf.mono Zm.mono hle13
 replace hi:=hi.mono Zz.mono hle13
 replace hs:=hs.mono Z0.mono hle13
 replace hr8:=hr8.mono Zp.mono hle13
 replace hr9:=hr9.mono Zm.mono hle13
 replace hr10:=hr10.mono Zz.mono hle13
 replace hE:=hE.mono hle13
 have hr13n:=hr13.len
 refine Zat [8,12] kr kr kr ⟨?_,?_⟩
 refine (ZcD rfl rfl en8 rfl (Zdq _ _ _ _ _ _ x (⟨u,y,z⟩) om2 om2 om2 _ _ set how fl om2 _ hr8 hr9 hr10 hr13) ?_)
 intro v14 B14 hle14
 rintro ⟨p114,d114,p214,d214,p314,d314,rfl,hu14,hf14,hi14,hd14⟩
 replace hu:=hu.mono Zp.mono hle14
 replace hf:=hf.mono Zm.mono hle14
 replace hi:=hi.mono Zz.mono hle14
 replace hs:=hs.mono Z0.mono hle14
 replace hr8:=hr8.mono Zp.mono hle14
 replace hr9:=hr9.mono Zm.mono hle14
 replace hr10:=hr10.mono Zz.mono hle14
 replace hr13:=hr13.mono Z0.mono hle14
 replace hE:=hE.mono hle14
 have hu14n:=hu14.len
 have hf14n:=hf14.len
 have hi14n:=hi14.len
 refine ⟨⟨((((hle8.trans hle9).trans hle10).trans hle13).trans hle14),t2⟩,(ZaD [_,_,_,_,_,_] rfl ?_)⟩
 refine aM 9 rfl (h:=aE 10 rfl (h:=aE 11 rfl (h:=ZB 12 kr rfl kr (Zae (l:=[_,_,_,_,_]) rfl rfl Zca rfl (fun b15=>?_)))))
 refine ⟨⟨((((hle8.trans hle9).trans hle10).trans hle13).trans hle14),t2⟩,(ZaU 13 kr rfl kr kr (ZL [_,_,_,_,_] 6 [_,_,_,_,_] rfl rfl ZcZ rfl rfl rfl rfl rfl rfl rfl rfl ?_))⟩
 refine aA 14 rfl (h:=Zu kr kr ?_)
 exact Zam ⟨_,_,_,_,_,_,_,none,0,[],[],[],[]⟩ [0,1,6] ⟨hu14,hf14,hi14,oy⟩ t14 rfl
 refine (Zae (l:=[_,_,_,_,_]) rfl rfl Zca rfl (fun b16=>⟨⟨(((hle8.trans hle9).trans hle10).trans hle13),t2⟩,(ZB 8 kr rfl kr (ZcD rfl rfl en8 rfl (Zdq _ _ _ _ _ _ x (⟨u,y,z⟩) om2 om2 om2 _ _ set how fl om2 _ hr8 hr9 hr10 hr13) ?_))⟩))
 intro v17 B17 hle17
 rintro ⟨p117,d117,p217,d217,p317,d317,rfl,hu17,hf17,hi17,hd17⟩
 replace hu:=hu.mono Zp.mono hle17
 replace hf:=hf.mono Zm.mono hle17
 replace hi:=hi.mono Zz.mono hle17
 replace hs:=hs.mono Z0.mono hle17
 replace hr8:=hr8.mono Zp.mono hle17
 replace hr9:=hr9.mono Zm.mono hle17
 replace hr10:=hr10.mono Zz.mono hle17
 replace hE:=hE.mono hle17
 have hu17n:=hu17.len
 have hf17n:=hf17.len
 have hi17n:=hi17.len
 refine ⟨⟨((((hle8.trans hle9).trans hle10).trans hle13).trans hle17),t2⟩,(ZaD [_,_,_,_,_,_,_] rfl ?_)⟩
 refine aM 9 rfl (h:=aE 10 rfl (h:=aE 11 rfl (h:=ZaU 13 kr rfl kr kr (ZL [_,_,_,_,_] 6 [_,_,_,_,_] rfl rfl ZcZ rfl rfl rfl rfl rfl rfl rfl rfl ?_))))
 refine aA 14 rfl (h:=Zu kr kr ?_)
 exact Zam ⟨_,_,_,_,_,_,_,none,0,[],[],[],[]⟩ [0,1,6] ⟨hu17,hf17,hi17,oy⟩ t14 rfl
 refine (Zae (l:=[_,_,_,_,_]) rfl rfl Zca rfl (fun b18=>⟨⟨((hle8.trans hle9).trans hle10),t2⟩,(ZB 5 kr rfl kr (Zag rfl rfl ZrZ rfl (ZbK _ _ set om2 _ hs) ?_))⟩))
 rintro _ B19 _ hle19 ⟨q19,c19,l19,rfl,rfl,rfl,hv19⟩
 refine ⟨⟨((hle8.trans hle9).trans hle10),t2⟩,(ZaD [_,_,_,_,_,_,_] rfl ?_)⟩
 refine Zeh 6 rfl hv19 Z0.any om (fun B' hle'=>⟨((hle8.trans hle9).trans hle10).trans hle',t2⟩) (fun B20 hle20 hr20=>?_)
 replace hu:=hu.mono Zp.mono hle20
 replace hf:=hf.mono Zm.mono hle20
 replace hi:=hi.mono Zz.mono hle20
 replace hs:=hs.mono Z0.mono hle20
 replace hr8:=hr8.mono Zp.mono hle20
 replace hr9:=hr9.mono Zm.mono hle20
 replace hr10:=hr10.mono Zz.mono hle20
 replace hE:=hE.mono hle20
 have hr20n:=hr20.len
 refine ZB 8 kr rfl kr (ZcD rfl rfl en8 rfl (Zdq _ _ _ _ _ _ x (⟨u,y,z⟩) om2 om2 om2 _ _ set how fl om2 _ hr8 hr9 hr10 hr20) ?_)
 intro v21 B21 hle21
 rintro ⟨p121,d121,p221,d221,p321,d321,rfl,hu21,hf21,hi21,hd21⟩
 replace hu:=hu.mono Zp.mono hle21
 replace hf:=hf.mono Zm.mono hle21
 replace hi:=hi.mono Zz.mono hle21
 replace hs:=hs.mono Z0.mono hle21
 replace hr8:=hr8.mono Zp.mono hle21
 replace hr9:=hr9.mono Zm.mono hle21
 replace hr10:=hr10.mono Zz.mono hle21
 replace hE:=hE.mono hle21
 have hu21n:=hu21.len
 have hf21n:=hf21.len
 have hi21n:=hi21.len
 refine ⟨⟨((((hle8.trans hle9).trans hle10).trans hle20).trans hle21),t2⟩,(ZaD [_,_,_,_,_,_,_] rfl ?_)⟩
 refine aM 9 rfl (h:=aE 10 rfl (h:=aE 11 rfl (h:=ZaU 13 kr rfl kr kr (ZL [_,_,_,_,_] 5 [_,_,_,_,_] rfl rfl ZcZ rfl rfl rfl rfl rfl rfl rfl rfl ?_))))
 refine aA 14 rfl (h:=Zu kr kr ?_)
 exact Zam ⟨_,_,_,_,_,_,_,none,0,[],[],[],[]⟩ [0,1,5] ⟨hu21,hf21,hi21,oy⟩ t14 rfl
 refine (Zae (l:=[_,_,_,_,_]) rfl rfl Zca rfl (fun b22=>⟨⟨((hle8.trans hle9).trans hle10),t2⟩,(ZB 3 kr rfl kr (Z9 rfl rfl Zv3 rfl (ZbZ u y z _) ?_))⟩))
 refine ⟨⟨((hle8.trans hle9).trans hle10),t2⟩,(ZaD [_,_,_,_,_,_] rfl ?_)⟩
 refine ZB 5 kr rfl kr (Zag rfl rfl ZrZ rfl (ZbK _ _ set om2 _ hs) ?_)
 rintro _ B24 _ hle24 ⟨q24,c24,l24,rfl,rfl,rfl,hv24⟩
 refine ⟨⟨((hle8.trans hle9).trans hle10),t2⟩,(ZaD [_,_,_,_,_,_,_] rfl ?_)⟩
 refine Zeh 6 rfl hv24 Z0.any om (fun B' hle'=>⟨((hle8.trans hle9).trans hle10).trans hle',t2⟩) (fun B25 hle25 hr25=>?_)
 replace hu:=hu.mono Zp.mono hle25
 replace hf:=hf.mono Zm.mono hle25
 replace hi:=hi.mono Zz.mono hle25
 replace hs:=hs.mono Z0.mono hle25
 replace hr8:=hr8.mono Zp.mono hle25
 replace hr9:=hr9.mono Zm.mono hle25
 replace hr10:=hr10.mono Zz.mono hle25
 replace hE:=hE.mono hle25
 have hr25n:=hr25.len
 refine ZB 8 kr rfl kr (ZcD rfl rfl en8 rfl (Zdq _ _ _ _ _ _ x (⟨u,y,z⟩) om2 om2 om2 _ _ set how fl om2 _ hr8 hr9 hr10 hr25) ?_)
 intro v26 B26 hle26
 rintro ⟨p126,d126,p226,d226,p326,d326,rfl,hu26,hf26,hi26,hd26⟩
 replace hu:=hu.mono Zp.mono hle26
 replace hf:=hf.mono Zm.mono hle26
 replace hi:=hi.mono Zz.mono hle26
 replace hs:=hs.mono Z0.mono hle26
 replace hE:=hE.mono hle26
 have hu26n:=hu26.len
 have hf26n:=hf26.len
 have hi26n:=hi26.len
 refine ⟨⟨((((hle8.trans hle9).trans hle10).trans hle25).trans hle26),t2⟩,(ZaD [_,_,_,_,_,_,_] rfl ?_)⟩
 refine aM 9 rfl (h:=aE 10 rfl (h:=aE 11 rfl (h:=ZaU 13 kr rfl kr kr (ZL [_,_,_,_,_] 5 [_,_,_,_,_] rfl rfl ZcZ rfl rfl rfl rfl rfl rfl rfl rfl ?_))))
 refine aA 14 rfl (h:=Zu kr kr ?_)
 exact Zam ⟨_,_,_,_,_,_,_,none,0,[],[],[],[]⟩ [0,1,5] ⟨hu26,hf26,hi26,oy⟩ t14 rfl
 refine (Zae (l:=[_,_,_,_,_]) rfl rfl Zca rfl (fun b27=>⟨⟨Kn.le.refl _,t2⟩,(ZB 1 kr rfl kr (Zag rfl rfl en9 rfl (Zfi _ _ _ _ _ _ x _ hu hf hi om2) ?_))⟩))
 rintro _ B28 _ hle28 ⟨q28,c28,l28,q28b,c28b,l28b,q28c,c28c,l28c,rfl,rfl,rfl,hv28,hv28b,hv28c⟩
 refine ⟨⟨Kn.le.refl _,t2⟩,(ZaD [_,_,_,_,_,_] rfl ?_)⟩
 refine Zeh 3 rfl hv28 Zp.any om (fun B' hle'=>⟨hle',t2⟩) (fun B29 hle29 hr29=>?_)
 replace hu:=hu.mono Zp.mono hle29
 replace hf:=hf.mono Zm.mono hle29
 replace hi:=hi.mono Zz.mono hle29
 replace hs:=hs.mono Z0.mono hle29
 replace hE:=hE.mono hle29
 have hr29n:=hr29.len
 refine ZfJ 4 rfl hv28b ZZ.known Zm.mono om (fun B' hle'=>⟨hle29.trans hle',t2⟩) (fun B30 hle30 hr30=>?_)
 replace hu:=hu.mono Zp.mono hle30
 replace hf:=hf.mono Zm.mono hle30
 replace hi:=hi.mono Zz.mono hle30
 replace hs:=hs.mono Z0.mono hle30
 replace hr29:=hr29.mono Zp.mono hle30
 replace hE:=hE.mono hle30
 have hr30n:=hr30.len
 refine ZfJ 5 rfl hv28c ZaX.known Zz.mono om (fun B' hle'=>⟨(hle29.trans hle30).trans hle',t2⟩) (fun B31 hle31 hr31=>?_)
 replace hu:=hu.mono Zp.mono hle31
 replace hf:=hf.mono Zm.mono hle31
 replace hi:=hi.mono Zz.mono hle31
 replace hs:=hs.mono Z0.mono hle31
 replace hr29:=hr29.mono Zp.mono hle31
 replace hr30:=hr30.mono Zm.mono hle31
 replace hE:=hE.mono hle31
 have hr31n:=hr31.len
 refine ZB 3 kr rfl kr (Z9 rfl rfl Zv3 rfl (ZbZ u y z _) ?_)
 refine ⟨⟨((hle29.trans hle30).trans hle31),t2⟩,(ZaD [_,_,_,_,_,_] rfl ?_)⟩
 refine ZB 5 kr rfl kr (Zag rfl rfl ZrZ rfl (ZbK _ _ set om2 _ hs) ?_)
 rintro _ B33 _ hle33 ⟨q33,c33,l33,rfl,rfl,rfl,hv33⟩
 refine ⟨⟨((hle29.trans hle30).trans hle31),t2⟩,(ZaD [_,_,_,_,_,_,_] rfl ?_)⟩
 refine Zeh 6 rfl hv33 Z0.any om (fun B' hle'=>⟨((hle29.trans hle30).trans hle31).trans hle',t2⟩) (fun B34 hle34 hr34=>?_)
 replace hu:=hu.mono Zp.mono hle34
 replace hf:=hf.mono Zm.mono hle34
 replace hi:=hi.mono Zz.mono hle34
 replace hs:=hs.mono Z0.mono hle34
 replace hr29:=hr29.mono Zp.mono hle34
 replace hr30:=hr30.mono Zm.mono hle34
 replace hr31:=hr31.mono Zz.mono hle34
 replace hE:=hE.mono hle34
 have hr34n:=hr34.len
 refine ZB 8 kr rfl kr (ZcD rfl rfl en8 rfl (Zdq _ _ _ _ _ _ x (⟨u,y,z⟩) om2 om2 om2 _ _ set how fl om2 _ hr29 hr30 hr31 hr34) ?_)
 intro v35 B35 hle35
 rintro ⟨p135,d135,p235,d235,p335,d335,rfl,hu35,hf35,hi35,hd35⟩
 replace hu:=hu.mono Zp.mono hle35
 replace hf:=hf.mono Zm.mono hle35
 replace hi:=hi.mono Zz.mono hle35
 replace hs:=hs.mono Z0.mono hle35
 replace hE:=hE.mono hle35
 have hu35n:=hu35.len
 have hf35n:=hf35.len
 have hi35n:=hi35.len
 refine ⟨⟨((((hle29.trans hle30).trans hle31).trans hle34).trans hle35),t2⟩,(ZaD [_,_,_,_,_,_,_] rfl ?_)⟩
 refine aM 9 rfl (h:=aE 10 rfl (h:=aE 11 rfl (h:=ZaU 13 kr rfl kr kr (ZL [_,_,_,_,_] 2 [_,_,_,_,_] rfl rfl ZcZ rfl rfl rfl rfl rfl rfl rfl rfl ?_))))
 refine aA 14 rfl (h:=Zu kr kr ?_)
 exact Zam ⟨_,_,_,_,_,_,_,none,0,[],[],[],[]⟩ [0,1,2] ⟨hu35,hf35,hi35,oy⟩ t14 rfl
 obtain ⟨hw1,hw2,hw3,hw5⟩:=hF
 have hw1n:=hw1.len
 have hw2n:=hw2.len
 have hw3n:=hw3.len
 replace hu:=hu.mono Zp.mono hle6
 replace hf:=hf.mono Zm.mono hle6
 replace hi:=hi.mono Zz.mono hle6
 replace hs:=hs.mono Z0.mono hle6
 replace hE:=hE.mono hle6
 refine ZD [(0,_),(1,_),(2,_),(3,_),(4,_),(5,_),(6,_),(10,_),(11,_),(12,_),(13,_),(27,_),(32,_),(37,_)] [_,_,_] t14 rfl (Za (xL [_,_,_,_,_] Zw6 0 (h:=xC en9 rfl (Zfi _ _ _ _ _ _ x _ hu hf hi om2) (h:=?_))))
 rintro _ B36 _ hle36 ⟨q36,c36,l36,q36b,c36b,l36b,q36c,c36c,l36c,rfl,rfl,rfl,hv36,hv36b,hv36c⟩
 refine xAl [_,_,_,_,_] Zca (h:=fun b37=>xS [_,_,_,_,_] 6 [_,_,_,_,_] ZcZ (h:=tL7 (Za (xM (h:=xC ZrZ rfl (ZbK _ _ set om2 _ hs) (h:=?_))))))
 rintro _ B38 _ hle38 ⟨q38,c38,l38,rfl,rfl,rfl,hv38⟩
 refine xA (h:=tL8 (Zng (α:=GX) [0,1,2,3,4,5,6,10,11,12,13,14,15,27,32,37] (fun xg=>[(16,ptr ⟨xg.b,0,none⟩),(17,.int .i64 (ZI x ⟨u,y,z⟩ set how fl).2)]) (fun xg=>[ZN b1 [str x.domain,.slice q1 x.users.length c1,.slice q2 x.folders.length c2,.int .i64 x.queue.next,.slice q3 x.queue.items.length c3] 28,ZN b2 [str u,str y,str z] 30,ZN xw.b [str (ZI x ⟨u,y,z⟩ set how fl).1.domain,.slice xw.q1 (ZI x ⟨u,y,z⟩ set how fl).1.users.length xw.c1,.slice xw.q2 (ZI x ⟨u,y,z⟩ set how fl).1.folders.length xw.c2,.int .i64 (ZI x ⟨u,y,z⟩ set how fl).1.queue.next,.slice xw.q3 (ZI x ⟨u,y,z⟩ set how fl).1.queue.items.length xw.c3] 41,l36,l36b,l36c,ZN b37 [str x.domain,.slice q36 x.users.length c36,.slice q36b x.folders.length c36b,.int .i64 x.queue.next,.slice q36c x.queue.items.length c36c] 41,l38,xg.l1,xg.l2,xg.l3,ZN xg.b [str (ZI x ⟨u,y,z⟩ set how fl).1.domain,.slice xg.q1 (ZI x ⟨u,y,z⟩ set how fl).1.users.length xg.c1,.slice xg.q2 (ZI x ⟨u,y,z⟩ set how fl).1.folders.length xg.c2,.int .i64 (ZI x ⟨u,y,z⟩ set how fl).1.queue.next,.slice xg.q3 (ZI x ⟨u,y,z⟩ set how fl).1.queue.items.length xg.c3] 41]) (fun xg Bx=>ZW Kn.none xg.l1 xg.q1 xg.c1 132 3 Zp (ZI x ⟨u,y,z⟩ set how fl).1.users∧ZaV xg.l2 xg.q2 xg.c2 87 5 (ZZ 223 146) (ZI x ⟨u,y,z⟩ set how fl).1.folders∧ZaV xg.l3 xg.q3 xg.c3 136 4 (ZaX 9) (ZI x ⟨u,y,z⟩ set how fl).1.queue.items) ?_ (fun xg B39 hle39 hF=>?_)))
 refine Z3 (keeps _ [1,6] _) mo kr ⟨Kn.le.refl _,Za7.refl _ _⟩ (fun _ _=>?_)
 refine aT 0 rfl (ZR fun D B L hI=>Z4 [_,_,_,_,_] rfl rfl ZcK rfl (Zbu 6 (hI.2.2.1.trans rfl) rfl rfl) r4) (h:=aT 1 rfl (ZR fun D B L hI=>Z4 [_,_,_] rfl rfl Zx5 rfl (Zbu 1 (hI.2.1.trans rfl) rfl rfl) r4) (h:=aT 2 rfl (ZR fun D B L hI=>Z9 rfl rfl Zv3 rfl (ZbZ u y z _) r4) (h:=aM 3 rfl (h:=aM 4 rfl (h:=aM 5 rfl (h:=Zat [6,10] kr kr kr ⟨?_,?_⟩))))))
 refine (ZbH [3,4,5,7] rfl rfl rfl rfl Zv2 rfl (Zw.borrowK 4 fun hm41=>ZcL hJ _ _ _ _ _ _ x u y z om2 om2 om2 _ _ set how fl om2 a _ (hE.mono (Kn.le_add _ _)) (hv36.lendK Zp.any 0 rfl hm41 om) (hv36b.lendK ZZ.known Zm.mono 1 rfl hm41 om) (hv36c.lendK ZaX.known Zz.mono 2 rfl hm41 om) (hv38.lendK Z0.any 3 rfl hm41 om)) ?_)
 rintro _ B41 _ hle41 ⟨BB41,_,rfl,hB41,_,hm41,_,q141,c141,q241,c241,q341,c341,l141,l241,l341,rfl,rfl,hu41,hf41,hi41⟩
 replace hu:=hu.mono Zp.mono hle41
 replace hf:=hf.mono Zm.mono hle41
 replace hi:=hi.mono Zz.mono hle41
 replace hs:=hs.mono Z0.mono hle41
 replace hw1:=hw1.mono Zp.mono hle41
 replace hw2:=hw2.mono Zm.mono hle41
 replace hw3:=hw3.mono Zz.mono hle41
 replace hv36:=hv36.mono Zp.mono hle41
 replace hv38:=hv38.mono Z0.mono hle41
 replace hE:=hE.mono hle41
 refine ⟨⟨hle41,t2⟩,(ZaD [_,_,_,_,_,_,_,_,_,_,_] rfl ?_)⟩
 refine aM 7 rfl (h:=aE 8 rfl (h:=aE 9 rfl (h:=ZB 10 kr rfl kr (Zae (l:=[_,_,_,_,_]) rfl rfl Zca rfl (fun b42=>?_)))))
 refine ⟨⟨hle41,t2⟩,(ZaU 11 kr rfl kr kr (ZL [_,_,_,_,_] 11 [_,_,_,_,_] rfl rfl ZcZ rfl rfl rfl rfl rfl rfl rfl rfl ?_))⟩
 refine aA 12 rfl (h:=Zu kr kr ?_)
 exact Zdv ⟨_,_,_,_,_,_,_,none,0,_,_,_,[]⟩ [_,_,_,_,_,_,_,_,_,_,_,_] rfl [0,1,2,3,4,5,6,7,8,9,10,11] ⟨hu41.anyK Zp.any,hf41,hi41⟩ t18 rfl
 refine (Zae (l:=[_,_,_,_,_]) rfl rfl Zca rfl (fun b43=>⟨⟨Kn.le.refl _,t2⟩,(ZB 6 kr rfl kr (ZbH [3,4,5,7] rfl rfl rfl rfl Zv2 rfl (Zw.borrowK 4 fun hm44=>ZcL hJ _ _ _ _ _ _ x u y z om2 om2 om2 _ _ set how fl om2 a _ (hE.mono (Kn.le_add _ _)) (hv36.lendK Zp.any 0 rfl hm44 om) (hv36b.lendK ZZ.known Zm.mono 1 rfl hm44 om) (hv36c.lendK ZaX.known Zz.mono 2 rfl hm44 om) (hv38.lendK Z0.any 3 rfl hm44 om)) ?_))⟩))
 rintro _ B44 _ hle44 ⟨BB44,_,rfl,hB44,_,hm44,_,q144,c144,q244,c244,q344,c344,l144,l244,l344,rfl,rfl,hu44,hf44,hi44⟩
 replace hu:=hu.mono Zp.mono hle44
 replace hf:=hf.mono Zm.mono hle44
 replace hi:=hi.mono Zz.mono hle44
 replace hs:=hs.mono Z0.mono hle44
 replace hw1:=hw1.mono Zp.mono hle44
 replace hw2:=hw2.mono Zm.mono hle44
 replace hw3:=hw3.mono Zz.mono hle44
 replace hv36:=hv36.mono Zp.mono hle44
 replace hv38:=hv38.mono Z0.mono hle44
 replace hE:=hE.mono hle44
 refine ⟨⟨hle44,t2⟩,(ZaD [_,_,_,_,_,_,_,_,_,_,_,_] rfl ?_)⟩
 refine aM 7 rfl (h:=aE 8 rfl (h:=aE 9 rfl (h:=ZaU 11 kr rfl kr kr (ZL [_,_,_,_,_] 8 [_,_,_,_,_] rfl rfl ZcZ rfl rfl rfl rfl rfl rfl rfl rfl ?_))))
 refine aA 12 rfl (h:=Zu kr kr ?_)
 exact Zdv ⟨_,_,_,_,_,_,_,none,0,_,_,_,[]⟩ [_,_,_,_,_,_,_,_,_,_,_,_] rfl [0,1,2,3,4,5,6,7,9,10,11,8] ⟨hu44.anyK Zp.any,hf44,hi44⟩ t18 rfl
 obtain ⟨hg1,hg2,hg3⟩:=hF
 replace hu:=hu.mono Zp.mono hle39
 replace hf:=hf.mono Zm.mono hle39
 replace hi:=hi.mono Zz.mono hle39
 replace hs:=hs.mono Z0.mono hle39
 replace hw1:=hw1.mono Zp.mono hle39
 replace hw2:=hw2.mono Zm.mono hle39
 replace hw3:=hw3.mono Zz.mono hle39
 replace hE:=hE.mono hle39
 refine ZD [(0,_),(1,_),(2,_),(3,_),(4,_),(5,_),(6,_),(10,_),(11,_),(12,_),(13,_),(14,_),(15,_),(16,_),(17,_),(27,_),(32,_),(37,_)] [_,_,_,_,_,_,_,_,_,_,_,_] t18 rfl (Zc (Za (xL [_,_,_,_,_] ZcK 11 (h:=xL [_,_,_,_,_] ZcK 2 (h:=Zj (Zha [8,9,10] rfl rfl rfl rfl rfl Zx9 rfl (Z8.borrowL fun hm45=>Zhw _ _ _ _ _ _ _ _ _ _ _ _ ((ZI x ⟨u,y,z⟩ set how fl).1) ((ZI x ⟨u,y,z⟩ set how fl).1) _ (hg1.lendK Zp.any 0 rfl hm45 om) (hg2.lendK ZZ.known Zm.mono 1 rfl hm45 om) (hg3.lendK ZaX.known Zz.mono 2 rfl hm45 om) (hw1.mono Zp.mono (Kn.le_add _ _)) (hw2.mono Zm.mono (Kn.le_add _ _)) (hw3.mono Zz.mono (Kn.le_add _ _))) ?_))))))
 refine xN (h:=xM (h:=Zs (d:=68) rfl (fun g6=>by simp at g6) (fun g6=>?_)))
 try simp only [sQ,ne_eq] at g6
 refine xM (h:=xM (h:=ZaP (h:=xF (h:=Zb rfl (fun g7=>by simp at g7) (fun g7=>?_)))))
 try simp only [sQ,ne_eq] at g7
 refine wSk (Zc (Zc (Z3 (keeps _ [0,6] _) mo kr ⟨Kn.le.refl _,Za7.refl _ _⟩ (fun _ _=>?_))))
 refine aT 0 rfl (ZR fun D B L hI=>Z4 [_,_,_,_,_] rfl rfl ZcK rfl (Zbu 6 (hI.2.2.1.trans rfl) rfl rfl) r4) (h:=aT 1 rfl (ZR fun D B L hI=>Z4 [_,_,_,_,_] rfl rfl Zw6 rfl (Zbu 0 (hI.2.1.trans rfl) rfl rfl) r4) (h:=ZB 2 kr rfl kr (Zag rfl rfl en9 rfl (Zfi _ _ _ _ _ _ x _ hu hf hi om2) ?_)))
 rintro _ B46 _ hle46 ⟨q46,c46,l46,q46b,c46b,l46b,q46c,c46c,l46c,rfl,rfl,rfl,hv46,hv46b,hv46c⟩
 refine ⟨⟨Kn.le.refl _,t2⟩,(ZaD [_,_,_,_,_,_,_,_,_,_,_,_,_,_,_] rfl ?_)⟩
 refine Zeh 12 rfl hv46 Zp.any om (fun B' hle'=>⟨hle',t2⟩) (fun B47 hle47 hr47=>?_)
 replace hu:=hu.mono Zp.mono hle47
 replace hf:=hf.mono Zm.mono hle47
 replace hi:=hi.mono Zz.mono hle47
 replace hs:=hs.mono Z0.mono hle47
 replace hw1:=hw1.mono Zp.mono hle47
 replace hw2:=hw2.mono Zm.mono hle47
 replace hw3:=hw3.mono Zz.mono hle47
 replace hv36:=hv36.mono Zp.mono hle47
 replace hv38:=hv38.mono Z0.mono hle47
 replace hg1:=hg1.mono Zp.mono hle47
 replace hE:=hE.mono hle47
 have hr47n:=hr47.len
 refine ZfJ 13 rfl hv46b ZZ.known Zm.mono om (fun B' hle'=>⟨hle47.trans hle',t2⟩) (fun B48 hle48 hr48=>?_)
 replace hu:=hu.mono Zp.mono hle48
 replace hf:=hf.mono Zm.mono hle48
 replace hi:=hi.mono Zz.mono hle48
 replace hs:=hs.mono Z0.mono hle48
 replace hr47:=hr47.mono Zp.mono hle48
 replace hw1:=hw1.mono Zp.mono hle48
 replace hw2:=hw2.mono Zm.mono hle48
 replace hw3:=hw3.mono Zz.mono hle48
 replace hv36:=hv36.mono Zp.mono hle48
 replace hv38:=hv38.mono Z0.mono hle48
 replace hg1:=hg1.mono Zp.mono hle48
 replace hE:=hE.mono hle48
 have hr48n:=hr48.len
 refine ZfJ 14 rfl hv46c ZaX.known Zz.mono om (fun B' hle'=>⟨(hle47.trans hle48).trans hle',t2⟩) (fun B49 hle49 hr49=>?_)
 replace hu:=hu.mono Zp.mono hle49
 replace hf:=hf.mono Zm.mono hle49
 replace hi:=hi.mono Zz.mono hle49
 replace hs:=hs.mono Z0.mono hle49
 replace hr47:=hr47.mono Zp.mono hle49
 replace hr48:=hr48.mono Zm.mono hle49
 replace hw1:=hw1.mono Zp.mono hle49
 replace hw2:=hw2.mono Zm.mono hle49
 replace hw3:=hw3.mono Zz.mono hle49
 replace hv36:=hv36.mono Zp.mono hle49
 replace hv38:=hv38.mono Z0.mono hle49
 replace hg1:=hg1.mono Zp.mono hle49
 replace hE:=hE.mono hle49
 have hr49n:=hr49.len
 refine ZB 3 kr rfl kr (Zha [3,4,5] rfl rfl rfl rfl rfl Zx9 rfl (Z8.borrowL fun hm50=>Zhw _ _ _ _ _ _ _ _ _ _ _ _ x x _ (hv36.lendK Zp.any 0 rfl hm50 om) (hv36b.lendK ZZ.known Zm.mono 1 rfl hm50 om) (hv36c.lendK ZaX.known Zz.mono 2 rfl hm50 om) (hr47.mono Zp.mono (Kn.le_add _ _)) (hr48.mono Zm.mono (Kn.le_add _ _)) (hr49.mono Zz.mono (Kn.le_add _ _))) ?_)
 refine ⟨⟨((hle47.trans hle48).trans hle49),t2⟩,(ZaD [_,_,_,_,_,_,_,_,_,_,_,_,_,_,_] rfl ?_)⟩
 refine aN 4 rfl (h:=Zu kr kr ?_)
 refine Zn (ZBh (Zb rfl (fun g8=>by simp at g8) (fun g8=>?_)))
 try simp only [sQ,ne_eq] at g8
 refine wSk (Zc (Za (xM (h:=xM (h:=xC ZrZ rfl (ZbK _ _ set om2 _ hs) (h:=?_))))))
 rintro _ B51 _ hle51 ⟨q51,c51,l51,rfl,rfl,rfl,hv51⟩
 refine ZwU 15 rfl hv51 Z0.any om (fun B52 hle52 hr52=>?_)
 replace hu:=hu.mono Zp.mono hle52
 replace hf:=hf.mono Zm.mono hle52
 replace hi:=hi.mono Zz.mono hle52
 replace hs:=hs.mono Z0.mono hle52
 replace hw1:=hw1.mono Zp.mono hle52
 replace hw2:=hw2.mono Zm.mono hle52
 replace hw3:=hw3.mono Zz.mono hle52
 replace hv36:=hv36.mono Zp.mono hle52
 replace hv38:=hv38.mono Z0.mono hle52
 replace hg1:=hg1.mono Zp.mono hle52
 replace hE:=hE.mono hle52
 have hr52n:=hr52.len
 refine Zj (ZiJ 7 rfl rfl rfl ZB9 rfl (Z8.borrow fun hm53=>Zrk _ _ _ _ _ _ _ ((hv38.anyK Z0.any).lend Z0.mono hm53 om) (hr52.mono Z0.mono (Kn.le_add _ _))) ?_)
 refine xN (h:=Zph [_,_,_,_,_,_,_,_,_,_,_,_,_,_,_,_] rfl (Zb rfl (fun g9=>by simp at g9) (fun g9=>?_)))
 try simp only [sQ,ne_eq] at g9
 refine wSk (Za (xA (h:=Za (xL [_,_,_,_,_] ZcK 6 (h:=xM (h:=xK [3,4,5] rfl ZBc rfl (ZiX _ _ _ _ _ _ x _ _ _ 1 oa oz oz oz _ (hv36.anyK Zp.any) hv36b hv36c) (h:=?_)))))))
 rintro _ B54 _ hle54 ⟨rfl,l54a,l54b,l54c,rfl,rfl,hs54a,hs54b,hs54c⟩
 refine xA (h:=Zph [_,_,_,_,_,_,_,_,_,_,_,_,_,_,_,_] rfl (Za (xM (h:=xM (h:=xK [7] rfl ZB8 rfl (Zms _ _ set _ (kH 1 x) oz oz _ (hv38.anyK Z0.any)) (h:=?_))))))
 rintro _ B55 _ hle55 ⟨rfl,l55,rfl,rfl,hs55⟩
 refine xA (h:=Zph [_,_,_,_,_,_,_,_,_,_,_,_,_,_,_,_] rfl (Zc (Za (xM (h:=ZG (h:=xM (h:=Zs (d:=91) rfl (fun ga=>by first | omega | (simp at ga;done) | (simp at ga;omega)) (fun ga=>?_))))))))
 try simp only [sQ,ne_eq] at ga
 refine xL [_,_,_,_,_] ZcK 11 (h:=xL [_,_,_,_,_] ZcK 2 (h:=Zj (Zha [8,9,10] rfl rfl rfl rfl rfl Zx9 rfl (Z8.borrowL fun hm56=>Zhw _ _ _ _ _ _ _ _ _ _ _ _ ((ZI x ⟨u,y,z⟩ set how fl).1) ((ZI x ⟨u,y,z⟩ set how fl).1) _ (hg1.lendK Zp.any 0 rfl hm56 om) (hg2.lendK ZZ.known Zm.mono 1 rfl hm56 om) (hg3.lendK ZaX.known Zz.mono 2 rfl hm56 om) (hw1.mono Zp.mono (Kn.le_add _ _)) (hw2.mono Zm.mono (Kn.le_add _ _)) (hw3.mono Zz.mono (Kn.le_add _ _))) ?_)))
 refine xN (h:=xF (h:=xM (h:=Zs (d:=97) rfl (fun gb=>by simp at gb) (fun gb=>?_))))
 try simp only [sQ,ne_eq] at gb
 refine xM (h:=xM (h:=ZaP (h:=xF (h:=Zb rfl (fun gc=>by simp at gc) (fun gc=>?_)))))
 try simp only [sQ,ne_eq] at gc
 refine wSk (Za (xA (h:=Za (xL [_,_,_,_,_] ZcK 11 (h:=xM (h:=xK [8,9,10] rfl ZBc rfl (ZiX _ _ _ _ _ _ ((ZI x ⟨u,y,z⟩ set how fl).1) _ _ _ 1 oa oz oz oz _ (hg1.anyK Zp.any) hg2 hg3) (h:=?_)))))))
 rintro _ B57 _ hle57 ⟨rfl,l57a,l57b,l57c,rfl,rfl,hs57a,hs57b,hs57c⟩
 refine xA (h:=Zph [_,_,_,_,_,_,_,_,_,_,_,_,_,_,_,_] rfl (Za (xA (h:=Za (xL [_,_,_,_,_] ZcK 11 (h:=xM (h:=Zj (Zha [8,9,10] rfl rfl rfl rfl rfl ZBb rfl (Z8.borrowL fun hm58=>Zi3 _ _ _ _ _ _ (ZI x ⟨u,y,z⟩ set how fl).1 1 oa _ (hs57a.lendK Zp.any 0 rfl hm58 (by simp only [Zaz,ZaL,Zbv,Zbm,Zew];omega)) (hs57b.lendK ZZ.known Zm.mono 1 rfl hm58 (by simp only [Zaz,ZaL,Zbv,Zbm,Zew];omega)) (hs57c.lendK ZaX.known Zz.mono 2 rfl hm58 (by simp only [Zaz,ZaL,Zbv,Zbm,Zew];omega))) ?_))))))))
 refine xA (h:=Zc (Za (xM (h:=ZG (h:=Zb rfl (fun gd=>by first | omega | (simp at gd;done) | (simp at gd;omega)) (fun gd=>?_))))))
 try simp only [sQ,ne_eq] at gd
 refine wSk (Zc (Za (xM (h:=xM (h:=ZaP (h:=Zb rfl (fun ge=>by simp at ge) (fun ge=>?_)))))))
 try simp only [sQ,ne_eq] at ge
 refine wSk (Zng (α:=GX) [0,1,2,3,4,5,6,10,11,12,13,14,15,16,17,18,19,20,27,32,37,72,77,82,101,109,112] (fun xh=>[(21,ptr ⟨xh.b,0,none⟩),(22,.int .i64 (ZI x ⟨u,y,z⟩ set how fl).2)]) (fun xh=>[ZN xw.b [str (ZI x ⟨u,y,z⟩ set how fl).1.domain,.slice xw.q1 (ZI x ⟨u,y,z⟩ set how fl).1.users.length xw.c1,.slice xw.q2 (ZI x ⟨u,y,z⟩ set how fl).1.folders.length xw.c2,.int .i64 (ZI x ⟨u,y,z⟩ set how fl).1.queue.next,.slice xw.q3 (ZI x ⟨u,y,z⟩ set how fl).1.queue.items.length xw.c3] 41,l57a,l57b,l57c,ZN xg.b [str (ZI x ⟨u,y,z⟩ set how fl).1.domain,.slice xg.q1 (ZI x ⟨u,y,z⟩ set how fl).1.users.length xg.c1,.slice xg.q2 (ZI x ⟨u,y,z⟩ set how fl).1.folders.length xg.c2,.int .i64 (ZI x ⟨u,y,z⟩ set how fl).1.queue.next,.slice xg.q3 (ZI x ⟨u,y,z⟩ set how fl).1.queue.items.length xg.c3] 41,xh.l1,xh.l2,xh.l3,ZN xh.b [str (ZI x ⟨u,y,z⟩ set how fl).1.domain,.slice xh.q1 (ZI x ⟨u,y,z⟩ set how fl).1.users.length xh.c1,.slice xh.q2 (ZI x ⟨u,y,z⟩ set how fl).1.folders.length xh.c2,.int .i64 (ZI x ⟨u,y,z⟩ set how fl).1.queue.next,.slice xh.q3 (ZI x ⟨u,y,z⟩ set how fl).1.queue.items.length xh.c3] 41]) (fun xh Bx=>ZW Kn.none xh.l1 xh.q1 xh.c1 132 3 Zp (ZI x ⟨u,y,z⟩ set how fl).1.users∧ZaV xh.l2 xh.q2 xh.c2 87 5 (ZZ 223 146) (ZI x ⟨u,y,z⟩ set how fl).1.folders∧ZaV xh.l3 xh.q3 xh.c3 136 4 (ZaX 9) (ZI x ⟨u,y,z⟩ set how fl).1.queue.items) ?_ (fun xh B59 hle59 hF=>?_))
 refine Z3 (keeps _ [0,1] _) mo kr ⟨Kn.le.refl _,Za7.refl _ _⟩ (fun _ _=>?_)
 refine aT 0 rfl (ZR fun D B L hI=>Z4 [_,_,_,_,_] rfl rfl Zw6 rfl (Zbu 0 (hI.2.1.trans rfl) rfl rfl) r4) (h:=aT 2 rfl (ZR fun D B L hI=>Z4 [_,_,_] rfl rfl Zx5 rfl (Zbu 1 (hI.2.2.1.trans rfl) rfl rfl) r4) (h:=aM 4 rfl (h:=aM 6 rfl (h:=aM 7 rfl (h:=Zat [1,12] kr kr kr ⟨?_,?_⟩)))))
 refine (Zag rfl rfl en9 rfl (Zfi _ _ _ _ _ _ x _ hu hf hi om2) ?_)
 rintro _ B60 _ hle60 ⟨q60,c60,l60,q60b,c60b,l60b,q60c,c60c,l60c,rfl,rfl,rfl,hv60,hv60b,hv60c⟩
 refine ⟨⟨Kn.le.refl _,t2⟩,(ZaD [_,_,_,_,_,_,_,_,_,_,_,_,_,_,_,_,_,_,_] rfl ?_)⟩
 refine Zeh 16 rfl hv60 Zp.any om (fun B' hle'=>⟨hle',t2⟩) (fun B61 hle61 hr61=>?_)
 replace hu:=hu.mono Zp.mono hle61
 replace hf:=hf.mono Zm.mono hle61
 replace hi:=hi.mono Zz.mono hle61
 replace hs:=hs.mono Z0.mono hle61
 replace hw1:=hw1.mono Zp.mono hle61
 replace hw2:=hw2.mono Zm.mono hle61
 replace hw3:=hw3.mono Zz.mono hle61
 replace hs57a:=hs57a.mono Zp.mono hle61
 replace hE:=hE.mono hle61
 have hr61n:=hr61.len
 refine ZfJ 17 rfl hv60b ZZ.known Zm.mono om (fun B' hle'=>⟨hle61.trans hle',t2⟩) (fun B62 hle62 hr62=>?_)
 replace hu:=hu.mono Zp.mono hle62
 replace hf:=hf.mono Zm.mono hle62
 replace hi:=hi.mono Zz.mono hle62
 replace hs:=hs.mono Z0.mono hle62
 replace hr61:=hr61.mono Zp.mono hle62
 replace hw1:=hw1.mono Zp.mono hle62
 replace hw2:=hw2.mono Zm.mono hle62
 replace hw3:=hw3.mono Zz.mono hle62
 replace hs57a:=hs57a.mono Zp.mono hle62
 replace hE:=hE.mono hle62
 have hr62n:=hr62.len
 refine ZfJ 18 rfl hv60c ZaX.known Zz.mono om (fun B' hle'=>⟨(hle61.trans hle62).trans hle',t2⟩) (fun B63 hle63 hr63=>?_)
 replace hu:=hu.mono Zp.mono hle63
 replace hf:=hf.mono Zm.mono hle63
 replace hi:=hi.mono Zz.mono hle63
 replace hs:=hs.mono Z0.mono hle63
 replace hr61:=hr61.mono Zp.mono hle63
 replace hr62:=hr62.mono Zm.mono hle63
 replace hw1:=hw1.mono Zp.mono hle63
 replace hw2:=hw2.mono Zm.mono hle63
 replace hw3:=hw3.mono Zz.mono hle63
 replace hs57a:=hs57a.mono Zp.mono hle63
 replace hE:=hE.mono hle63
 have hr63n:=hr63.len
 refine Zat [3,12] kr kr kr ⟨?_,?_⟩
 refine (Z9 rfl rfl Zv3 rfl (ZbZ u y z _) (⟨⟨((hle61.trans hle62).trans hle63),t2⟩,(ZaD [_,_,_,_,_,_,_,_,_,_,_,_,_,_,_,_,_,_,_] rfl ?_)⟩))
 refine Zat [5,12] kr kr kr ⟨?_,?_⟩
 refine (Zag rfl rfl ZrZ rfl (ZbK _ _ set om2 _ hs) ?_)
 rintro _ B65 _ hle65 ⟨q65,c65,l65,rfl,rfl,rfl,hv65⟩
 refine ⟨⟨((hle61.trans hle62).trans hle63),t2⟩,(ZaD [_,_,_,_,_,_,_,_,_,_,_,_,_,_,_,_,_,_,_,_] rfl ?_)⟩
 refine Zeh 19 rfl hv65 Z0.any om (fun B' hle'=>⟨((hle61.trans hle62).trans hle63).trans hle',t2⟩) (fun B66 hle66 hr66=>?_)
 replace hu:=hu.mono Zp.mono hle66
 replace hf:=hf.mono Zm.mono hle66
 replace hi:=hi.mono Zz.mono hle66
 replace hs:=hs.mono Z0.mono hle66
 replace hr61:=hr61.mono Zp.mono hle66
 replace hr62:=hr62.mono Zm.mono hle66
 replace hr63:=hr63.mono Zz.mono hle66
 replace hw1:=hw1.mono Zp.mono hle66
 replace hw2:=hw2.mono Zm.mono hle66
 replace hw3:=hw3.mono Zz.mono hle66
 replace hs57a:=hs57a.mono Zp.mono hle66
 replace hE:=hE.mono hle66
 have hr66n:=hr66.len
 refine Zat [8,12] kr kr kr ⟨?_,?_⟩
 refine (Zag rfl rfl Zv2 rfl (ZcL hJ _ _ _ _ _ _ x u y z om2 om2 om2 _ _ set how fl om2 a _ hE hr61 hr62 hr63 hr66) ?_)
 rintro _ B67 _ hle67 ⟨q167,c167,q267,c267,q367,c367,l167,l267,l367,rfl,rfl,hu67,hf67,hi67⟩
 replace hu:=hu.mono Zp.mono hle67
 replace hf:=hf.mono Zm.mono hle67
 replace hi:=hi.mono Zz.mono hle67
 replace hs:=hs.mono Z0.mono hle67
 replace hr61:=hr61.mono Zp.mono hle67
 replace hr62:=hr62.mono Zm.mono hle67
 replace hr63:=hr63.mono Zz.mono hle67
 replace hr66:=hr66.mono Z0.mono hle67
 replace hw1:=hw1.mono Zp.mono hle67
 replace hw2:=hw2.mono Zm.mono hle67
 replace hw3:=hw3.mono Zz.mono hle67
 replace hs57a:=hs57a.mono Zp.mono hle67
 replace hE:=hE.mono hle67
 refine ⟨⟨((((hle61.trans hle62).trans hle63).trans hle66).trans hle67),t2⟩,(ZaD [_,_,_,_,_,_,_,_,_,_,_,_,_,_,_,_,_,_,_,_,_,_,_] rfl ?_)⟩
 refine aM 9 rfl (h:=aE 10 rfl (h:=aE 11 rfl (h:=ZB 12 kr rfl kr (Zae (l:=[_,_,_,_,_]) rfl rfl Zca rfl (fun b68=>?_)))))
 refine ⟨⟨((((hle61.trans hle62).trans hle63).trans hle66).trans hle67),t2⟩,(ZaU 13 kr rfl kr kr (ZL [_,_,_,_,_] 23 [_,_,_,_,_] rfl rfl ZcZ rfl rfl rfl rfl rfl rfl rfl rfl ?_))⟩
 refine aA 14 rfl (h:=Zu kr kr ?_)
 exact Zdv ⟨_,_,_,_,_,_,_,none,0,_,_,_,[]⟩ [_,_,_,_,_,_,_,_,_,_,_,_,_,_,_,_,_,_,_,_,_,_,_,_] rfl [2,8,9,10,11,20,21,22,23] ⟨hu67.anyK Zp.any,hf67,hi67⟩ ⟨rfl,rfl,rfl,rfl,rfl,rfl,rfl,rfl,rfl,rfl,rfl,rfl,rfl,rfl,rfl,rfl,rfl,rfl,rfl,rfl,rfl,rfl,rfl,rfl,rfl,rfl,rfl,rfl,rfl,trivial⟩ rfl
 refine (Zae (l:=[_,_,_,_,_]) rfl rfl Zca rfl (fun b69=>⟨⟨(((hle61.trans hle62).trans hle63).trans hle66),t2⟩,(ZB 8 kr rfl kr (Zag rfl rfl Zv2 rfl (ZcL hJ _ _ _ _ _ _ x u y z om2 om2 om2 _ _ set how fl om2 a _ hE hr61 hr62 hr63 hr66) ?_))⟩))
 rintro _ B70 _ hle70 ⟨q170,c170,q270,c270,q370,c370,l170,l270,l370,rfl,rfl,hu70,hf70,hi70⟩
 replace hu:=hu.mono Zp.mono hle70
 replace hf:=hf.mono Zm.mono hle70
 replace hi:=hi.mono Zz.mono hle70
 replace hs:=hs.mono Z0.mono hle70
 replace hr61:=hr61.mono Zp.mono hle70
 replace hr62:=hr62.mono Zm.mono hle70
 replace hr63:=hr63.mono Zz.mono hle70
 replace hw1:=hw1.mono Zp.mono hle70
 replace hw2:=hw2.mono Zm.mono hle70
 replace hw3:=hw3.mono Zz.mono hle70
 replace hs57a:=hs57a.mono Zp.mono hle70
 replace hE:=hE.mono hle70
 refine ⟨⟨((((hle61.trans hle62).trans hle63).trans hle66).trans hle70),t2⟩,(ZaD [_,_,_,_,_,_,_,_,_,_,_,_,_,_,_,_,_,_,_,_,_,_,_,_] rfl ?_)⟩
 refine aM 9 rfl (h:=aE 10 rfl (h:=aE 11 rfl (h:=ZaU 13 kr rfl kr kr (ZL [_,_,_,_,_] 20 [_,_,_,_,_] rfl rfl ZcZ rfl rfl rfl rfl rfl rfl rfl rfl ?_))))
 refine aA 14 rfl (h:=Zu kr kr ?_)
 exact Zdv ⟨_,_,_,_,_,_,_,none,0,_,_,_,[]⟩ [_,_,_,_,_,_,_,_,_,_,_,_,_,_,_,_,_,_,_,_,_,_,_,_] rfl [2,8,9,10,11,21,22,23,20] ⟨hu70.anyK Zp.any,hf70,hi70⟩ ⟨rfl,rfl,rfl,rfl,rfl,rfl,rfl,rfl,rfl,rfl,rfl,rfl,rfl,rfl,rfl,rfl,rfl,rfl,rfl,rfl,rfl,rfl,rfl,rfl,rfl,rfl,rfl,rfl,rfl,trivial⟩ rfl
 refine (Zae (l:=[_,_,_,_,_]) rfl rfl Zca rfl (fun b71=>⟨⟨((hle61.trans hle62).trans hle63),t2⟩,(ZB 5 kr rfl kr (Zag rfl rfl ZrZ rfl (ZbK _ _ set om2 _ hs) ?_))⟩))
 rintro _ B72 _ hle72 ⟨q72,c72,l72,rfl,rfl,rfl,hv72⟩
 refine ⟨⟨((hle61.trans hle62).trans hle63),t2⟩,(ZaD [_,_,_,_,_,_,_,_,_,_,_,_,_,_,_,_,_,_,_,_,_] rfl ?_)⟩
 refine Zeh 20 rfl hv72 Z0.any om (fun B' hle'=>⟨((hle61.trans hle62).trans hle63).trans hle',t2⟩) (fun B73 hle73 hr73=>?_)
 replace hu:=hu.mono Zp.mono hle73
 replace hf:=hf.mono Zm.mono hle73
 replace hi:=hi.mono Zz.mono hle73
 replace hs:=hs.mono Z0.mono hle73
 replace hr61:=hr61.mono Zp.mono hle73
 replace hr62:=hr62.mono Zm.mono hle73
 replace hr63:=hr63.mono Zz.mono hle73
 replace hw1:=hw1.mono Zp.mono hle73
 replace hw2:=hw2.mono Zm.mono hle73
 replace hw3:=hw3.mono Zz.mono hle73
 replace hs57a:=hs57a.mono Zp.mono hle73
 replace hE:=hE.mono hle73
 have hr73n:=hr73.len
 refine ZB 8 kr rfl kr (Zag rfl rfl Zv2 rfl (ZcL hJ _ _ _ _ _ _ x u y z om2 om2 om2 _ _ set how fl om2 a _ hE hr61 hr62 hr63 hr73) ?_)
 rintro _ B74 _ hle74 ⟨q174,c174,q274,c274,q374,c374,l174,l274,l374,rfl,rfl,hu74,hf74,hi74⟩
 replace hu:=hu.mono Zp.mono hle74
 replace hf:=hf.mono Zm.mono hle74
 replace hi:=hi.mono Zz.mono hle74
 replace hs:=hs.mono Z0.mono hle74
 replace hr61:=hr61.mono Zp.mono hle74
 replace hr62:=hr62.mono Zm.mono hle74
 replace hr63:=hr63.mono Zz.mono hle74
 replace hw1:=hw1.mono Zp.mono hle74
 replace hw2:=hw2.mono Zm.mono hle74
 replace hw3:=hw3.mono Zz.mono hle74
 replace hs57a:=hs57a.mono Zp.mono hle74
 replace hE:=hE.mono hle74
 refine ⟨⟨((((hle61.trans hle62).trans hle63).trans hle73).trans hle74),t2⟩,(ZaD [_,_,_,_,_,_,_,_,_,_,_,_,_,_,_,_,_,_,_,_,_,_,_,_] rfl ?_)⟩
 refine aM 9 rfl (h:=aE 10 rfl (h:=aE 11 rfl (h:=ZaU 13 kr rfl kr kr (ZL [_,_,_,_,_] 19 [_,_,_,_,_] rfl rfl ZcZ rfl rfl rfl rfl rfl rfl rfl rfl ?_))))
 refine aA 14 rfl (h:=Zu kr kr ?_)
 exact Zdv ⟨_,_,_,_,_,_,_,none,0,_,_,_,[]⟩ [_,_,_,_,_,_,_,_,_,_,_,_,_,_,_,_,_,_,_,_,_,_,_,_] rfl [2,8,9,10,11,21,22,23,19] ⟨hu74.anyK Zp.any,hf74,hi74⟩ ⟨rfl,rfl,rfl,rfl,rfl,rfl,rfl,rfl,rfl,rfl,rfl,rfl,rfl,rfl,rfl,rfl,rfl,rfl,rfl,rfl,rfl,rfl,rfl,rfl,rfl,rfl,rfl,rfl,rfl,trivial⟩ rfl
 refine (Zae (l:=[_,_,_,_,_]) rfl rfl Zca rfl (fun b75=>⟨⟨((hle61.trans hle62).trans hle63),t2⟩,(ZB 3 kr rfl kr (Z9 rfl rfl Zv3 rfl (ZbZ u y z _) ?_))⟩))
 refine ⟨⟨((hle61.trans hle62).trans hle63),t2⟩,(ZaD [_,_,_,_,_,_,_,_,_,_,_,_,_,_,_,_,_,_,_,_] rfl ?_)⟩
 refine ZB 5 kr rfl kr (Zag rfl rfl ZrZ rfl (ZbK _ _ set om2 _ hs) ?_)
 rintro _ B77 _ hle77 ⟨q77,c77,l77,rfl,rfl,rfl,hv77⟩
 refine ⟨⟨((hle61.trans hle62).trans hle63),t2⟩,(ZaD [_,_,_,_,_,_,_,_,_,_,_,_,_,_,_,_,_,_,_,_,_] rfl ?_)⟩
 refine Zeh 20 rfl hv77 Z0.any om (fun B' hle'=>⟨((hle61.trans hle62).trans hle63).trans hle',t2⟩) (fun B78 hle78 hr78=>?_)
 replace hu:=hu.mono Zp.mono hle78
 replace hf:=hf.mono Zm.mono hle78
 replace hi:=hi.mono Zz.mono hle78
 replace hs:=hs.mono Z0.mono hle78
 replace hr61:=hr61.mono Zp.mono hle78
 replace hr62:=hr62.mono Zm.mono hle78
 replace hr63:=hr63.mono Zz.mono hle78
 replace hw1:=hw1.mono Zp.mono hle78
 replace hw2:=hw2.mono Zm.mono hle78
 replace hw3:=hw3.mono Zz.mono hle78
 replace hs57a:=hs57a.mono Zp.mono hle78
 replace hE:=hE.mono hle78
 have hr78n:=hr78.len
 refine ZB 8 kr rfl kr (Zag rfl rfl Zv2 rfl (ZcL hJ _ _ _ _ _ _ x u y z om2 om2 om2 _ _ set how fl om2 a _ hE hr61 hr62 hr63 hr78) ?_)
 rintro _ B79 _ hle79 ⟨q179,c179,q279,c279,q379,c379,l179,l279,l379,rfl,rfl,hu79,hf79,hi79⟩
 replace hu:=hu.mono Zp.mono hle79
 replace hf:=hf.mono Zm.mono hle79
 replace hi:=hi.mono Zz.mono hle79
 replace hs:=hs.mono Z0.mono hle79
 replace hw1:=hw1.mono Zp.mono hle79
 replace hw2:=hw2.mono Zm.mono hle79
 replace hw3:=hw3.mono Zz.mono hle79
 replace hs57a:=hs57a.mono Zp.mono hle79
 replace hE:=hE.mono hle79
 refine ⟨⟨((((hle61.trans hle62).trans hle63).trans hle78).trans hle79),t2⟩,(ZaD [_,_,_,_,_,_,_,_,_,_,_,_,_,_,_,_,_,_,_,_,_,_,_,_] rfl ?_)⟩
 refine aM 9 rfl (h:=aE 10 rfl (h:=aE 11 rfl (h:=ZaU 13 kr rfl kr kr (ZL [_,_,_,_,_] 19 [_,_,_,_,_] rfl rfl ZcZ rfl rfl rfl rfl rfl rfl rfl rfl ?_))))
 refine aA 14 rfl (h:=Zu kr kr ?_)
 exact Zdv ⟨_,_,_,_,_,_,_,none,0,_,_,_,[]⟩ [_,_,_,_,_,_,_,_,_,_,_,_,_,_,_,_,_,_,_,_,_,_,_,_] rfl [2,8,9,10,11,21,22,23,19] ⟨hu79.anyK Zp.any,hf79,hi79⟩ ⟨rfl,rfl,rfl,rfl,rfl,rfl,rfl,rfl,rfl,rfl,rfl,rfl,rfl,rfl,rfl,rfl,rfl,rfl,rfl,rfl,rfl,rfl,rfl,rfl,rfl,rfl,rfl,rfl,rfl,trivial⟩ rfl
 refine (Zae (l:=[_,_,_,_,_]) rfl rfl Zca rfl (fun b80=>⟨⟨Kn.le.refl _,t2⟩,(ZB 1 kr rfl kr (Zag rfl rfl en9 rfl (Zfi _ _ _ _ _ _ x _ hu hf hi om2) ?_))⟩))
 rintro _ B81 _ hle81 ⟨q81,c81,l81,q81b,c81b,l81b,q81c,c81c,l81c,rfl,rfl,rfl,hv81,hv81b,hv81c⟩
 refine ⟨⟨Kn.le.refl _,t2⟩,(ZaD [_,_,_,_,_,_,_,_,_,_,_,_,_,_,_,_,_,_,_,_] rfl ?_)⟩
 refine Zeh 17 rfl hv81 Zp.any om (fun B' hle'=>⟨hle',t2⟩) (fun B82 hle82 hr82=>?_)
 replace hs:=hs.mono Z0.mono hle82
 replace hw1:=hw1.mono Zp.mono hle82
 replace hw2:=hw2.mono Zm.mono hle82
 replace hw3:=hw3.mono Zz.mono hle82
 replace hs57a:=hs57a.mono Zp.mono hle82
 replace hE:=hE.mono hle82
 have hr82n:=hr82.len
 refine ZfJ 18 rfl hv81b ZZ.known Zm.mono om (fun B' hle'=>⟨hle82.trans hle',t2⟩) (fun B83 hle83 hr83=>?_)
 replace hs:=hs.mono Z0.mono hle83
 replace hr82:=hr82.mono Zp.mono hle83
 replace hw1:=hw1.mono Zp.mono hle83
 replace hw2:=hw2.mono Zm.mono hle83
 replace hw3:=hw3.mono Zz.mono hle83
 replace hs57a:=hs57a.mono Zp.mono hle83
 replace hE:=hE.mono hle83
 have hr83n:=hr83.len
 refine ZfJ 19 rfl hv81c ZaX.known Zz.mono om (fun B' hle'=>⟨(hle82.trans hle83).trans hle',t2⟩) (fun B84 hle84 hr84=>?_)
 replace hs:=hs.mono Z0.mono hle84
 replace hr82:=hr82.mono Zp.mono hle84
 replace hr83:=hr83.mono Zm.mono hle84
 replace hw1:=hw1.mono Zp.mono hle84
 replace hw2:=hw2.mono Zm.mono hle84
 replace hw3:=hw3.mono Zz.mono hle84
 replace hs57a:=hs57a.mono Zp.mono hle84
 replace hE:=hE.mono hle84
 have hr84n:=hr84.len
 refine ZB 3 kr rfl kr (Z9 rfl rfl Zv3 rfl (ZbZ u y z _) ?_)
 refine ⟨⟨((hle82.trans hle83).trans hle84),t2⟩,(ZaD [_,_,_,_,_,_,_,_,_,_,_,_,_,_,_,_,_,_,_,_] rfl ?_)⟩
 refine ZB 5 kr rfl kr (Zag rfl rfl ZrZ rfl (ZbK _ _ set om2 _ hs) ?_)
 rintro _ B86 _ hle86 ⟨q86,c86,l86,rfl,rfl,rfl,hv86⟩
 refine ⟨⟨((hle82.trans hle83).trans hle84),t2⟩,(ZaD [_,_,_,_,_,_,_,_,_,_,_,_,_,_,_,_,_,_,_,_,_] rfl ?_)⟩
 refine Zeh 20 rfl hv86 Z0.any om (fun B' hle'=>⟨((hle82.trans hle83).trans hle84).trans hle',t2⟩) (fun B87 hle87 hr87=>?_)
 replace hr82:=hr82.mono Zp.mono hle87
 replace hr83:=hr83.mono Zm.mono hle87
 replace hr84:=hr84.mono Zz.mono hle87
 replace hw1:=hw1.mono Zp.mono hle87
 replace hw2:=hw2.mono Zm.mono hle87
 replace hw3:=hw3.mono Zz.mono hle87
 replace hs57a:=hs57a.mono Zp.mono hle87
 replace hE:=hE.mono hle87
 have hr87n:=hr87.len
 refine ZB 8 kr rfl kr (Zag rfl rfl Zv2 rfl (ZcL hJ _ _ _ _ _ _ x u y z om2 om2 om2 _ _ set how fl om2 a _ hE hr82 hr83 hr84 hr87) ?_)
 rintro _ B88 _ hle88 ⟨q188,c188,q288,c288,q388,c388,l188,l288,l388,rfl,rfl,hu88,hf88,hi88⟩
 replace hw1:=hw1.mono Zp.mono hle88
 replace hw2:=hw2.mono Zm.mono hle88
 replace hw3:=hw3.mono Zz.mono hle88
 replace hs57a:=hs57a.mono Zp.mono hle88
 refine ⟨⟨((((hle82.trans hle83).trans hle84).trans hle87).trans hle88),t2⟩,(ZaD [_,_,_,_,_,_,_,_,_,_,_,_,_,_,_,_,_,_,_,_,_,_,_,_] rfl ?_)⟩
 refine aM 9 rfl (h:=aE 10 rfl (h:=aE 11 rfl (h:=ZaU 13 kr rfl kr kr (ZL [_,_,_,_,_] 16 [_,_,_,_,_] rfl rfl ZcZ rfl rfl rfl rfl rfl rfl rfl rfl ?_))))
 refine aA 14 rfl (h:=Zu kr kr ?_)
 exact Zdv ⟨_,_,_,_,_,_,_,none,0,_,_,_,[]⟩ [_,_,_,_,_,_,_,_,_,_,_,_,_,_,_,_,_,_,_,_,_,_,_,_] rfl [2,8,9,10,11,21,22,23,16] ⟨hu88.anyK Zp.any,hf88,hi88⟩ ⟨rfl,rfl,rfl,rfl,rfl,rfl,rfl,rfl,rfl,rfl,rfl,rfl,rfl,rfl,rfl,rfl,rfl,rfl,rfl,rfl,rfl,rfl,rfl,rfl,rfl,rfl,rfl,rfl,rfl,trivial⟩ rfl
 obtain ⟨hh1,hh2,hh3⟩:=hF
 replace hw1:=hw1.mono Zp.mono hle59
 replace hw2:=hw2.mono Zm.mono hle59
 replace hw3:=hw3.mono Zz.mono hle59
 refine ZD [(0,_),(1,_),(2,_),(3,_),(4,_),(5,_),(6,_),(10,_),(11,_),(12,_),(13,_),(14,_),(15,_),(16,_),(17,_),(18,_),(19,_),(20,_),(21,_),(22,_),(27,_),(32,_),(37,_),(72,_),(77,_),(82,_),(101,_),(109,_),(112,_)] [_,_,_,_,_,_,_,_,_] ⟨rfl,rfl,rfl,rfl,rfl,rfl,rfl,rfl,rfl,rfl,rfl,rfl,rfl,rfl,rfl,rfl,rfl,rfl,rfl,rfl,rfl,rfl,rfl,rfl,rfl,rfl,rfl,rfl,rfl,trivial⟩ rfl (Zc (Za (xL [_,_,_,_,_] ZcK 8 (h:=xL [_,_,_,_,_] ZcK 0 (h:=Zj (Zha [5,6,7] rfl rfl rfl rfl rfl Zx9 rfl (Z8.borrowL fun hm89=>Zhw _ _ _ _ _ _ _ _ _ _ _ _ ((ZI x ⟨u,y,z⟩ set how fl).1) ((ZI x ⟨u,y,z⟩ set how fl).1) _ (hh1.lendK Zp.any 0 rfl hm89 om) (hh2.lendK ZZ.known Zm.mono 1 rfl hm89 om) (hh3.lendK ZaX.known Zz.mono 2 rfl hm89 om) (hw1.mono Zp.mono (Kn.le_add _ _)) (hw2.mono Zm.mono (Kn.le_add _ _)) (hw3.mono Zz.mono (Kn.le_add _ _))) ?_))))))
 refine xN (h:=xM (h:=Zs (d:=129) rfl (fun gf=>by simp at gf) (fun gf=>?_)))
 try simp only [sQ,ne_eq] at gf
 refine xM (h:=xM (h:=ZaP (h:=xF (h:=Zb rfl (fun gg=>by simp at gg) (fun gg=>?_)))))
 try simp only [sQ,ne_eq] at gg
 refine wSk (Za (xA (h:=Za (xL [_,_,_,_,_] ZcK 4 (h:=xM (h:=Zj (Zha [1,2,3] rfl rfl rfl rfl rfl ZBb rfl (Z8.borrowL fun hm90=>Zi3 _ _ _ _ _ _ (ZI x ⟨u,y,z⟩ set how fl).1 1 oa _ (hs57a.lendK Zp.any 0 rfl hm90 (by simp only [Zaz,ZaL,Zbv,Zbm,Zew];omega)) (hs57b.lendK ZZ.known Zm.mono 1 rfl hm90 (by simp only [Zaz,ZaL,Zbv,Zbm,Zew];omega)) (hs57c.lendK ZaX.known Zz.mono 2 rfl hm90 (by simp only [Zaz,ZaL,Zbv,Zbm,Zew];omega))) ?_)))))))
 refine xA (h:=Zc (Za (xM (h:=ZG (h:=Zb rfl (fun gh=>by first | omega | (simp at gh;done) | (simp at gh;omega)) (fun gh=>?_))))))
 try simp only [sQ,ne_eq] at gh
 refine wSk (Zc (Za (xM (h:=xM (h:=ZaP (h:=Zb rfl (fun gi=>by simp at gi) (fun gi=>?_)))))))
 try simp only [sQ,ne_eq] at gi
 refine wSk (Za (xA (h:=Zd ?_)))
 exact eR t1 rfl

end Go.Proofs.YtonfijmgahdgeaaGreatDoor
