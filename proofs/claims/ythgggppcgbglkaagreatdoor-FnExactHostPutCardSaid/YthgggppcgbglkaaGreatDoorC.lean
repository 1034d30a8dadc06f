/-
  WHAT THE FUNCTIONS THAT THE LAWS REACH COMPUTE: each function's contract, proved off its printed body (the text is written by program). No condition beyond those that each theorem states.
-/
import Derived.Test.YthgggppcgbglkaaGreatDoorC2
namespace Go.Proofs.YthgggppcgbglkaaGreatDoor
open Go Go.BL
set_option linter.unusedVariables false
set_option linter.unusedSimpArgs false
set_option maxRecDepth 4000
variable {J : JoinT}
set_option maxHeartbeats 400000 in
theorem ZjP (q1 q2 q3:Option Addr) (c1 c2 c3:Nat) (x:DHost) (B:Kn) (hu:SlK B q1 c1 3 Zn x.users) (hf:SlK B q2 c2 5 Zj x.folders) (hi:SlK B q3 c3 4 Zu x.queue.items):Zz (pj J) 99 [.agg #[str x.domain,.slice q1 x.users.length c1,.slice q2 x.folders.length c2,.int .i64 x.queue.next,.slice q3 x.queue.items.length c3]] B [] (fun v B' Ls=>∃q1 c1 q2 c2 q3 c3 l1 l2 l3,Ls=[l1,l2,l3]∧v = .agg #[str x.domain,.slice q1 x.users.length c1,.slice q2 x.folders.length c2,.int .i64 x.queue.next,.slice q3 x.queue.items.length c3]∧ZU Kn.none l1 q1 c1 123 3 Zn x.users∧ZaM l2 q2 c2 75 5 (Z3 133 205) x.folders∧ZaM l3 q3 c3 126 4 (ZaP 9) x.queue.items):=by
 refine Zb 16 Tryz.func99 rfl rfl rfl (Nat.le_of_ble_eq_true rfl) ?_
 have hun:=hu.len
 have hfn:=hf.len
 have hin:=hi.len
 refine Za (xBx [_,_,_,_,_] (h:=fun b1=>xAl [_,_,_,_,_] Zch (h:=fun b2=>ZE [_,_] rfl (Ze (Z8 (keeps _ [0] _) mo kr ⟨Kn.le.refl _,ZbU.refl _ _⟩ (fun _ _=>?_))))))
 refine aW 0 rfl Zhd (h:=aT 1 rfl (Z5 fun D B L hI=>Zr rfl rfl lk9 rfl (atL 0 (hI.2.1.trans rfl) rfl rfl) r4) (h:=aW 3 rfl Zbn (h:=aT 4 rfl (Z5 fun D B L hI=>Zr rfl rfl ZhA rfl (atL 0 (hI.2.1.trans rfl) rfl rfl) r4) (h:=aW 6 rfl Zar (h:=aT 7 rfl (Z5 fun D B L hI=>Zr rfl rfl Zew rfl (atL 0 (hI.2.1.trans rfl) rfl rfl) r4) (h:=aW 9 rfl Zd5 (h:=aT 10 rfl (Z5 fun D B L hI=>Zaj [_,_] rfl rfl Zke rfl (Zb1 0 (hI.2.1.trans rfl) rfl rfl) r4) (h:=ZN 2 kr rfl kr (ZL (parts:=[]) [] rfl rfl Tryz.underlying30 Za3 ZdK rfl rfl rfl rfl rfl (fun b3=>?_))))))))))
 refine ⟨⟨Kn.le.refl _,t1⟩,(ZN 5 kr rfl kr (Zb0 (R:=Zn) 2 rfl (ZU.lit0 (R:=Zn)) rfl rfl rfl Zm4 Znj rfl rfl rfl hu.rows Zn.one rfl om (fun l4 p4 c4 hv4=>?_)))⟩
 refine ⟨⟨Kn.le.refl _,t1⟩,(ZN 8 kr rfl kr (ZV rfl rfl Zwr rfl (Zhb _ _ x.folders _ hf) ?_))⟩
 rintro _ B5 _ hle5 ⟨rfl,l5,a5,c5,rfl,rfl,hs5⟩
 refine ⟨⟨Kn.le.refl _,t1⟩,(ZN 11 kr rfl kr (ZV rfl rfl ZwQ rfl (Zjp _ _ x.queue _ hi) ?_))⟩
 rintro _ B6 _ hle6 ⟨l6,q6,c6,rfl,rfl,hd6⟩
 replace hu:=hu.mono Zn.mono hle6
 replace hf:=hf.mono Zj.mono hle6
 replace hi:=hi.mono Zu.mono hle6
 replace hv4:=hv4.mono Zn.mono hle6
 refine ⟨⟨hle6,t1⟩,(aT 12 rfl (Z5 fun D B L hI=>Zay (parts:=[(0,_),(1,_),(2,_),(3,_)]) [_,_,_,_,_] [_,_,_,_,_] rfl rfl Zgl Zch rfl rfl rfl r4) (h:=Zap 13 kr rfl kr kr kr (Z4 [_,_,_,_,_] 1 [_,_,_,_,_] rfl rfl Zdn rfl rfl rfl rfl rfl rfl rfl rfl ?_)))⟩
 refine Zd (ZE [_,_,_,_,_] rfl (Zh ?_))
 exact Zbe .ret (.inl rfl) [_] [2,3,4] rfl ⟨⟨_,rfl,.inr ⟨[_,_,_,_,_],Zcx,Zb1 1 rfl rfl rfl,rfl⟩⟩,trivial⟩ ⟨_,_,_,_,_,_,_,_,_,rfl,rfl,hv4.anyK Zn.any,hs5,hd6⟩

set_option maxHeartbeats 400000 in
theorem ZjN (q1 q2 q3:Option Addr) (c1 c2 c3:Nat) (x:DHost) (ar:Bool) (f:FuncId) (cap:Array Value) (R:DHost) (k:Nat) (hk:k<5) (he:enters Tryz.prog f=true) (hJ:Joins Tryz.prog J) (hd:x.domain.length≤2000000) (a:Nat→Addr) (B:Kn) (hE:ErrsB 321 [0,3,2,1] B a) (hu:SlK B q1 c1 3 Zn x.users) (hf:SlK B q2 c2 5 Zj x.folders) (hi:SlK B q3 c3 4 Zu x.queue.items) (hw:ar=true→Z7 x=true→∀(B2:Kn) (b:Nat) (q1 q2 q3:Option Addr) (c1 c2 c3:Nat) (l1 l2 l3:Cells),B.le B2→ZU Kn.none l1 q1 c1 123 3 Zn x.users→ZaM l2 q2 c2 75 5 (Z3 133 205) x.folders→ZaM l3 q3 c3 126 4 (ZaP 9) x.queue.items→Zz (pj J) f (ptr ⟨b,0,none⟩ :: cap.toList) B2 [Zae b [str x.domain,.slice q1 x.users.length c1,.slice q2 x.folders.length c2,.int .i64 x.queue.next,.slice q3 x.queue.items.length c3] 36,l1,l2,l3] (fun v B' Ls=>∃q1' c1' q2' c2' q3' c3' l1' l2' l3',Ls=[Zae b [str R.domain,.slice q1' R.users.length c1',.slice q2' R.folders.length c2',.int .i64 R.queue.next,.slice q3' R.queue.items.length c3'] 36,l1',l2',l3']∧v=errv 321 a (k)∧ZU Kn.none l1' q1' c1' 123 3 Zn R.users∧ZaM l2' q2' c2' 75 5 (Z3 133 205) R.folders∧ZaM l3' q3' c3' 126 4 (ZaP 9) R.queue.items)):Zz (pj J) 40 [.agg #[str x.domain,.slice q1 x.users.length c1,.slice q2 x.folders.length c2,.int .i64 x.queue.next,.slice q3 x.queue.items.length c3],.bool ar,.func (.func f) #[] cap] B [] (fun v B' Ls=>∃(Y:DHost) (d:Int),∃q1 c1 q2 c2 q3 c3 l1 l2 l3,(Y,d)=(if ar=true∧Z7 x=true then (R,(k:Int)) else (ZfC,5))∧Ls=[l1,l2,l3]∧v = .tuple #[.agg #[str Y.domain,.slice q1 Y.users.length c1,.slice q2 Y.folders.length c2,.int .i64 Y.queue.next,.slice q3 Y.queue.items.length c3],.int .i64 d]∧ZU Kn.none l1 q1 c1 123 3 Zn Y.users∧ZaM l2 q2 c2 75 5 (Z3 133 205) Y.folders∧ZaM l3 q3 c3 126 4 (ZaP 9) Y.queue.items):=by
 refine Zb 25 Tryz.func40 rfl rfl rfl (Nat.le_of_ble_eq_true rfl) ?_
 have hun:=hu.len
 have hfn:=hf.len
 have hin:=hi.len
 refine Za ?_
 refine xBx [_,_,_,_,_] (h:=fun b1=>?_)
 refine xAl [_,_,_,_,_] Zch (h:=fun b2=>?_)
 refine xA (h:=?_)
 refine ZE [_,_] rfl ?_
 refine Ze ?_
 refine Za ?_
 refine xM (h:=?_)
 refine xN (h:=?_)
 refine xM (h:=?_)
 refine Zw (d:=12) rfl (fun g1=>?_) (fun g1=>?_)
 try simp only [sQ,ne_eq] at g1
 refine xP (h:=?_)
 refine xP (h:=?_)
 refine xP (h:=?_)
 refine xT (h:=?_)
 refine ZtB [[],[],[]] rfl ?_
 refine Zc (t:=true) rfl (fun _=>?_) (fun h=>Bool.noConfusion h)
 refine Za ?_
 refine xB [] [_,_,_,_,_] [_,_,_,_,_] Zgl Zch (h:=?_)
 refine xS [_,_,_,_,_] 1 [_,_,_,_,_] Zdn (h:=?_)
 refine xA (h:=?_)
 refine ZE [_,_,_,_,_] rfl ?_
 refine Zh (Zq ?_)
 exact Zbe .ret (.inl rfl) [_,_] [2,3,4] rfl ⟨⟨_,rfl,.inr ⟨[_,_,_,_,_],Zcx,Zb1 1 rfl rfl rfl,rfl⟩⟩,rfl,trivial⟩ ⟨ZfC,5,none,0,none,0,none,0,[],[],[],by rw [if_neg (by simp [g1])],rfl,rfl,ZU.nil,ZaM.nil,ZaM.nil⟩
 try simp only [sQ,ne_eq] at g1
 refine xL [_,_,_,_,_] Zcx 0 (h:=?_)
 refine Zp (Zig rfl rfl ZxK rfl (Zk0 hJ _ _ _ _ _ _ x om2 _ hu hf hi) ?_)
 intro vv Bv hlev
 rintro rfl
 replace hu:=hu.mono Zn.mono hlev
 replace hf:=hf.mono Zj.mono hlev
 replace hi:=hi.mono Zu.mono hlev
 replace hE:=hE.mono hlev
 refine xN (h:=?_)
 refine xF (h:=?_)
 refine Zc rfl (fun g2=>?_) (fun g2=>?_)
 try simp only [sQ,ne_eq] at g2
 refine ZtB [[],[],[]] rfl ?_
 refine Za ?_
 refine xB [] [_,_,_,_,_] [_,_,_,_,_] Zgl Zch (h:=?_)
 refine xS [_,_,_,_,_] 1 [_,_,_,_,_] Zdn (h:=?_)
 refine xA (h:=?_)
 refine ZE [_,_,_,_,_] rfl ?_
 refine Zh (Zq ?_)
 exact Zbe .ret (.inl rfl) [_,_] [2,3,4] rfl ⟨⟨_,rfl,.inr ⟨[_,_,_,_,_],Zcx,Zb1 1 rfl rfl rfl,rfl⟩⟩,rfl,trivial⟩ ⟨ZfC,5,none,0,none,0,none,0,[],[],[],by rw [if_neg (by simp [g2])],rfl,rfl,ZU.nil,ZaM.nil,ZaM.nil⟩
 try simp only [sQ,ne_eq] at g2
 refine Zf ?_
 refine Zd ?_
 refine Za ?_
 refine xL [_,_,_,_,_] Zcx 0 (h:=?_)
 refine Zp (ZV rfl rfl ZxJ rfl (ZjP _ _ _ _ _ _ x _ hu hf hi) ?_)
 rintro _ Bc _ hlec ⟨q1c,c1c,q2c,c2c,q3c,c3c,l1c,l2c,l3c,rfl,rfl,huc,hfc,hic⟩
 replace hu:=hu.mono Zn.mono hlec
 replace hf:=hf.mono Zj.mono hlec
 replace hi:=hi.mono Zu.mono hlec
 replace hE:=hE.mono hlec
 refine xAl [_,_,_,_,_] Zch (h:=fun b5=>?_)
 refine xS [_,_,_,_,_] 5 [_,_,_,_,_] Zdn (h:=?_)
 refine ZE [_,_,_,_,_,_] rfl ?_
 refine Za ?_
 refine xM (h:=?_)
 refine Zp (ZrX [5,2,3,4] rfl rfl rfl rfl he rfl rfl (hw (by simpa using g1) (by simpa using g2) _ _ _ _ _ _ _ _ _ _ _ (hlev.trans hlec) huc hfc hic) ?_)
 rintro _ B6 _ hle6 ⟨q16,c16,q26,c26,q36,c36,l16,l26,l36,rfl,rfl,hu6,hf6,hi6⟩
 replace hu:=hu.mono Zn.mono hle6
 replace hf:=hf.mono Zj.mono hle6
 replace hi:=hi.mono Zu.mono hle6
 replace huc:=huc.mono Zn.mono hle6
 replace hE:=hE.mono hle6
 refine xA (h:=?_)
 refine ZE [_,_,_,_,_,_] rfl ?_
 refine Ze ?_
 refine Z8 (keeps _ [5] _) mo kr ⟨Kn.le.refl _,ZbU.refl _ _⟩ (fun _ _=>?_)
 refine aT 0 rfl (Z5 fun D B L hI=>Zaj [_,_,_,_,_] rfl rfl Zcx rfl (Zb1 5 (hI.2.1.trans rfl) rfl rfl) r4) (h:=?_)
 refine aM 1 rfl (h:=?_)
 refine aT 2 rfl (Z5 fun D B L hI=>Zaf rfl rfl Zw3 rfl (ZmS k om2 a _ (hE.mono hI.1)) r4) (h:=?_)
 refine Zhu 3 kr rfl kr kr (Z4 [_,_,_,_,_] 1 [_,_,_,_,_] rfl rfl Zdn rfl rfl rfl rfl rfl rfl rfl rfl ?_)
 refine aA 4 rfl (h:=?_)
 refine ZA kr kr ?_
 refine Zd ?_
 refine ZE [_,_,_,_,_,_] rfl ?_
 refine Zh ?_
 exact Zbe .ret (.inl rfl) [_,_] [2,3,4] rfl ⟨⟨_,rfl,.inr ⟨[_,_,_,_,_],Zcx,Zb1 1 rfl rfl rfl,rfl⟩⟩,rfl,trivial⟩ ⟨R,k,_,_,_,_,_,_,_,_,_,by rw [if_pos ⟨by simpa using g1,by simpa using g2⟩],rfl,rfl,hu6.anyK Zn.any,hf6,hi6⟩

set_option maxHeartbeats 400000 in
theorem ZmJ (b:Nat) (m:DMail) (hm:m.text.length≤2000000) (B:Kn):Zz (pj J) 170 [ptr ⟨b,0,none⟩,.agg #[.int .i64 m.uid,.int .i64 m.flags,str m.text]] B [Zae b [.pointer none,.pointer none,.int .i64 0] 258] (fun v B' Ls=>B'=B∧∃s,Ls=[s]∧MLst 258 260 b ([] ++ [m]) s):=by
 refine Zb 35 Tryz.func170 rfl rfl rfl (Nat.le_of_ble_eq_true rfl) ?_
 refine Za (xBx [_,_,_] (h:=fun b1=>ZE [_,_] rfl (Za (xL [_,_,_] Zf5 1 (h:=xB [(0,_)] [_,_,_,_] [_,_,_,_] ZtU Zti (h:=xBx [_,_,_,_] (h:=fun b2=>xA (h:=ZE [_,_,_] rfl (Ze (Za (xM (h:=xNc (h:=?_)))))))))))))
 refine xW Zhf (h:=x1 Zos 0 (h:=Zp (Znw rfl rfl rfl rfl rfl (ZgD Tryz.underlying256) (Zc rfl (fun g1=>?_) (fun g1=>by cases g1)))))
 try simp only [sQ,ne_eq] at g1
 refine Zk (xM (h:=xM (h:=xNc (h:=xW ZoP (h:=xS [_] 0 [_,_,_] Zp3 (h:=Zd (Za (xM (h:=xM (h:=xNc (h:=xW Zhf (h:=xS [_] 0 [_,_,_] Zp3 (h:=?_)))))))))))))
 refine ZE [_,_,_] rfl (Zk (xM (h:=xNc (h:=xW Zhe (h:=x1 lk3 0 (h:=xD (h:=xNc (h:=xW Zhe (h:=xS [_] 0 [_,_,_] sz3 (h:=?_))))))))))
 exact Zxl .normal (.inr rfl) [] [0,2] rfl trivial ⟨rfl,_,rfl,MLst.one (bn:=b2) hm (List.Perm.refl _)⟩

set_option maxHeartbeats 400000 in
theorem ZmI (b bl:Nat) (v0:Value) (x:DMail) (rest:Cells) (xs:List DMail) (m:DMail) (hm:m.text.length≤2000000) (hn:xs.length≤2000000) (B:Kn) (hh:Zhw 260 v0 bl x rest xs):Zz (pj J) 170 [ptr ⟨b,0,none⟩,.agg #[.int .i64 m.uid,.int .i64 m.flags,str m.text]] B [Zae b [v0,ptr ⟨bl,0,none⟩,.int .i64 xs.length] 258,Zae bl (Zgu x (.pointer none)) 260,rest] (fun v B' Ls=>B'=B∧∃s,Ls=[s]∧MLst 258 260 b (xs ++ [m]) s):=by
 refine Zb 35 Tryz.func170 rfl rfl rfl (Nat.le_of_ble_eq_true rfl) ?_
 refine Za (xBx [_,_,_] (h:=fun b1=>ZE [_,_,_,_] rfl (Za (xL [_,_,_] Zf5 3 (h:=xB [(0,_)] [_,_,_,_] [_,_,_,_] ZtU Zti (h:=xBx [_,_,_,_] (h:=fun b2=>xA (h:=ZE [_,_,_,_,_] rfl (Ze (Za (xM (h:=xNc (h:=?_)))))))))))))
 refine xW Zhf (h:=x1 Zos 0 (h:=Zp (Znw rfl rfl rfl rfl rfl (ZgD Tryz.underlying256) (Zc rfl (fun g1=>by cases g1) (fun g1=>?_)))))
 try simp only [sQ,ne_eq] at g1
 refine Zk (xM (h:=xNc (h:=xW Zhf (h:=x1 Zos 0 (h:=xM (h:=xNc (h:=xW ZoO (h:=xS [_] 1 [_,_,_,_] Zp3 (h:=Zd (Za (xM (h:=xM (h:=?_)))))))))))))
 refine xNc (h:=xW Zhf (h:=xS [_] 0 [_,_,_] Zp3 (h:=ZE [_,_,_,_,_] rfl (Zk (xM (h:=xNc (h:=xW Zhe (h:=x1 lk3 0 (h:=xD (h:=xNc (h:=xW Zhe (h:=xS [_] 0 [_,_,_] sz3 (h:=?_)))))))))))))
 exact Zxl .normal (.inr rfl) [] [0,4,2,1] rfl trivial ⟨rfl,_,rfl,MLst.add (bn:=b2) hh hm rfl (List.Perm.refl _)⟩

theorem ZjD (b:Nat) (xs:List DMail) (m:DMail) (s:Cells) (hm:m.text.length≤2000000) (hn:xs.length≤2000000) (B:Kn) (hs:MLst 258 260 b xs s):Zz (pj J) 170 [ptr ⟨b,0,none⟩,.agg #[.int .i64 m.uid,.int .i64 m.flags,str m.text]] B [s] (fun v B' Ls=>B'=B∧∃s',Ls=[s']∧MLst 258 260 b (xs ++ [m]) s'):=by
 rcases hs with ⟨rfl,hp⟩ | ⟨v0,bl,x,rest,hp,hh⟩
 · exact Zz.perm (by simpa using hp) (ZmJ b m hm B)
 · exact Zz.perm (by simpa using hp) (ZmI b bl v0 x rest xs m hm hn B hh)

set_option maxHeartbeats 400000 in
theorem ZmH (q:Option Addr) (cp:Nat) (xs:List DMail) (B:Kn) (hx:SlK B q cp 3 ZZ xs):Zz (pj J) 169 [.slice q xs.length cp] B [] (fun v B' Ls=>∃b s,Ls=[s]∧v=ptr ⟨b,0,none⟩∧MLst 258 260 b xs s):=by
 refine Zb 19 Tryz.func169 rfl rfl rfl (Nat.le_of_ble_eq_true rfl) ?_
 have hxn:=hx.len
 refine Za (xA (h:=Za (xB [] [_,_,_] [_,_,_] Zvu Zu1 (h:=xBx [_,_,_] (h:=fun b1=>xA (h:=ZE [_] rfl (Ze (Za (xM (h:=xV Tryz.underlying71 (h:=xM (h:=Zl ?_))))))))))))
 refine ZC (α:=Gh DMail) [0,2,3,8,9] (fun g=>[(10,.int .i64 g.k)]) [0] (fun g=>[g.l]) (fun g Bx=>Bx=B∧g.k≤xs.length∧g.xs=xs.take g.k∧g.xs.length≤g.k∧MLst 258 260 b1 g.xs g.l) (fun g=>xs.length - g.k) ⟨0,0,_,none,0,[]⟩ t1 rfl (⟨rfl,Nat.zero_le _,by simp,Nat.le_refl _,MLst.nil⟩) (fun g B2 hle2 hI=>?_)
 obtain ⟨rfl,hk,hxs,hxl,hv⟩:=hI
 refine ZF [(0,_),(2,_),(3,_),(8,_),(9,_),(10,_)] [_] t6 rfl (Za (ZJ (h:=Ze (Zc rfl (fun g1=>?_) (fun g1=>?_)))))
 try simp only [sQ,ne_eq] at g1
 refine Zf (Zd (Ze (Zl (Za ?_))))
 obtain ⟨w,hw⟩:=ZY (xs:=xs) (i:=g.k) om
 obtain ⟨bb4,oo4,rfl⟩:=hx.base hw
 obtain ⟨_,⟨rfl,hb5⟩,hc5⟩:=hx.elem hw
 refine xIx Tryz.underlying71 Zcs (h:=yL [_,_,_] Zf5 hc5 0 (h:=xAl [_,_,_] ZfT (h:=fun b6=>xS [_,_,_] 1 [_,_,_] Zcs (h:=ZE [_,_] rfl (Zk (xM (h:=xL [_,_,_] Zf5 1 (h:=Zp (ZaI [0] rfl rfl rfl rfl Zuu rfl (ZjD _ g.xs w _ om2 om2 _ hv) ?_)))))))))
 rintro _ B7 _ hle7 ⟨rfl,s7,rfl,hs7⟩
 refine ZS (Zd (Zk (xD (h:=xM (h:=?_)))))
 exact ZG ⟨g.k+1,0,s7,none,0,(g.xs ++ [w])⟩ [0] so2 ⟨rfl,so,by simp only [];rw [Zbr hw,hxs],by simp;omega,hs7⟩ t6 rfl
 try simp only [sQ,ne_eq] at g1
 have hxe:g.xs=xs:=by rw [hxs];exact List.take_of_length_le oz
 refine ZH (Z0 (ZM (Zx (Zd (Za (xM (h:=xA (h:=Zh ?_))))))))
 exact Zbe .ret (.inl rfl) [_] [0] rfl t1 ⟨_,_,rfl,rfl,hxe ▸ hv⟩

set_option maxHeartbeats 400000 in
theorem ZkO (b:Nat) (xs:List DMail) (s:Cells) (hn:xs.length≤2000000) (B:Kn) (hs:MLst 258 260 b xs s):Zz (pj J) 171 [ptr ⟨b,0,none⟩] B [s] (fun v B' Ls=>B'=B∧∃l a c,Ls=[l]∧v = .slice a xs.length c∧ZU Kn.none l a c 205 3 ZZ xs):=by
 refine Zb 28 Tryz.func171 rfl rfl rfl (Nat.le_of_ble_eq_true rfl) ?_
 obtain ⟨p,vl,s0,hp,hl⟩:=hs.chain
 refine ZeY 0 rfl hp (ZE [_,_] rfl (Za (xA (h:=Za (xM (h:=xNc (h:=xW Zhe (h:=x1 lk3 0 (h:=Zp (ZaR (m:=0) (c:=xs.length) (by_:=32) [.int .i64 0,.int .i64 0,.string ⟨#[]⟩] rfl rfl Zth ZfT rfl rfl ⟨_,_,rfl,by first | omega | (simp;done) | (simp;omega)⟩ ⟨_,_,rfl,by first | omega | (simp;done) | (simp;omega)⟩ om om (fun b1=>?_)))))))))))
 have hv1:=ZU.zeros (B:=Kn.none) (b:=b1) (T:=205) (R:=ZZ) (d:=(⟨0,0,[]⟩:DMail)) (m:=0) (c:=xs.length) (zs:=[.int .i64 0,.int .i64 0,.string ⟨#[]⟩]) rfl (⟨rfl,by simp⟩) om
 refine xA (h:=ZE [_,_,_] rfl (Ze (Za (xM (h:=xNc (h:=xW ZoP (h:=x1 Zos 0 (h:=xA (h:=Zl (ZC (α:=MOf) [0,2] (fun g=>[(3,.slice g.q g.ys.length g.c),(4,.pointer g.p)]) [1,2] (fun g=>[g.cells,g.l]) (fun g Bx=>Bx=B∧g.ys ++ g.xs=xs∧Zgv 260 (.pointer g.p) g.xs g.cells∧ZU Kn.none g.l g.q g.c 205 3 ZZ g.ys) (fun g=>g.xs.length) ⟨p,[],xs,_,_,_,_⟩ t2 rfl (⟨rfl,rfl,hl,hv1⟩) (fun g B2 hle2 hI=>?_)))))))))))
 obtain ⟨rfl,hxs,hl,hv⟩:=hI
 refine ZF [(0,_),(2,_),(3,_),(4,_)] [_,_,_] t4 rfl (Ze (Za (xM (h:=Zp (Zrr rfl rfl rfl rfl rfl (ZgD Tryz.underlying256) (Zc rfl (fun g1=>?_) (fun g1=>?_)))))))
 try simp only [sQ,ne_eq] at g1
 obtain ⟨y,ys,b8,np,rest8,hp8,hrest,hperm,hy8,hl8⟩:=hl.more (by simpa using g1)
 rw [hp8]
 have hlen:=congrArg List.length hxs
 rw [List.length_append,hrest,List.length_cons] at hlen
 replace hlen:g.ys.length+1≤2000000:=by omega
 refine ZeY 1 rfl hperm (ZE [_,_,_,_] rfl (Zf (Zd (Ze (Zl (Zk (xM (h:=xM (h:=xNc (h:=xW ZsK (h:=xL [_,_,_] Zf5 1 (h:=xBs [(0,_)] [_,_,_] Tryz.underlying71 Zcs ZfT (h:=fun b3=>?_)))))))))))))
 refine Zp (Zi6 (z:=⟨y.uid,y.flags,y.text⟩) (R:=ZZ) 2 rfl hv rfl rfl rfl Zth ZuR rfl rfl (Zcg.box 4 rfl) rfl rfl (⟨rfl,by first | assumption | omega | (simp;done) | (simp;omega)⟩) om (fun l4 p4 c4 hv4=>?_))
 refine xA (h:=ZS (Zd (Zk (xM (h:=xNc (h:=xW ZoO (h:=x1 Zos 1 (h:=xA (h:=?_)))))))))
 exact ZG ⟨np,g.ys ++ [y],ys,l4,p4,c4,rest8⟩ [0,3,2] (by rw [hrest];simp) ⟨rfl,by rw [← hxs,hrest];simp,hl8,hv4⟩ t4 rfl
 try simp only [sQ,ne_eq] at g1
 rw [hl.done (by simpa using g1),List.append_nil] at hxs
 subst hxs
 refine ZH (Z0 (ZM (Zx (Zd (Za (xM (h:=xA (h:=Zh ?_))))))))
 exact Zbe .ret (.inl rfl) [_] [2] rfl t1 ⟨rfl,_,_,_,rfl,rfl,hv⟩

set_option maxHeartbeats 400000 in
theorem Zpt (q:Option Addr) (cp:Nat) (x:DBox) (fl:Int) (t:Str) (hb:ZdF x=true) (hfl:Zcd fl=true) (ht:t.length≤20) (B:Kn) (hm:SlK B q cp 3 ZZ x.mail):Zz (pj J) 122 [.agg #[.int .i64 x.next,.slice q x.mail.length cp],.int .i64 fl,str t] B [] (fun v B' Ls=>∃l a c,Ls=[l]∧v = .tuple #[.agg #[.int .i64 (ZeL x fl t).1.next,.slice a (ZeL x fl t).1.mail.length c],.bool (ZeL x fl t).2]∧ZU Kn.none l a c 205 3 ZZ (ZeL x fl t).1.mail):=by
 refine Zb 50 Tryz.func122 rfl rfl rfl (Nat.le_of_ble_eq_true rfl) ?_
 have hxn:=hm.len
 have hbn:=ZeF hb
 have hfl2:0≤fl∧fl≤31:=by simpa [Zcd] using hfl
 refine Za (xBx [_,_] (h:=fun b1=>xAl [_,_] Znl (h:=fun b2=>xA (h:=ZE [_,_] rfl (Ze (Za (xL [_,_] Zfa 0 (h:=xR Zs4 rfl (Zg4 _ _ (⟨x.next,x.mail⟩:DBox) _ hm) (h:=xN (h:=xM (h:=Zw (d:=12) rfl (fun g1=>by simp [hb] at g1) (fun g1=>?_))))))))))))
 try simp only [sQ,ne_eq] at g1
 refine xM (h:=xR ZvJ rfl (Zfb _ _) (h:=xN (h:=xF (h:=xM (h:=Zw (d:=17) rfl (fun g2=>by first | (simp [hfl2] at g2;done) | (simp at g2;omega)) (fun g2=>?_))))))
 try simp only [sQ,ne_eq] at g2
 refine xM (h:=xVs Tryz.underlying9 (h:=ZcL (h:=xF (h:=Zc rfl (fun g3=>by first | omega | (simp at g3;omega)) (fun g3=>?_)))))
 try simp only [sQ,ne_eq] at g3
 refine Zf (Zd (Ze (Za (xW Zbd (h:=x1 ZhX 0 (h:=xV Tryz.underlying71 (h:=Zlr (h:=xM (h:=Zw (d:=27) rfl (fun g4=>?_) (fun g4=>?_))))))))))
 try simp only [sQ,ne_eq] at g4
 refine xP (h:=xP (h:=xP (h:=xT (h:=Zc (t:=true) rfl (fun _=>Za (xL [_,_] Zfa 0 (h:=Zp (ZV rfl rfl Zs3 rfl (Zgc _ _ (⟨x.next,x.mail⟩:DBox) _ hm) ?_)))) (fun h=>Bool.noConfusion h)))))
 rintro _ B5 _ hle5 ⟨rfl,l5,a5,c5,rfl,rfl,hs5⟩
 refine xS [_,_] 1 [_,_] Zjg (h:=xA (h:=ZE [_,_,_] rfl (Zh (Zq ?_))))
 have hae:=ZfP (fl:=fl) (t:=t) (b:=x) (.inl oz)
 exact Zbe .ret (.inl rfl) [_,_] [2] rfl ⟨⟨_,rfl,.inr ⟨[_,_],Zfa,Zb1 1 rfl rfl rfl,rfl⟩⟩,rfl,trivial⟩ (by rw [hae];exact ⟨_,_,_,rfl,rfl,hs5.anyK ZZ.any⟩)
 try simp only [sQ,ne_eq] at g4
 refine xW Zcy (h:=x1 lk3 0 (h:=ZcL (h:=xF (h:=Zc rfl (fun g5=>?_) (fun g5=>?_)))))
 try simp only [sQ,ne_eq] at g5
 refine Za (xL [_,_] Zfa 0 (h:=Zp (ZV rfl rfl Zs3 rfl (Zgc _ _ (⟨x.next,x.mail⟩:DBox) _ hm) ?_)))
 rintro _ B6 _ hle6 ⟨rfl,l6,a6,c6,rfl,rfl,hs6⟩
 refine xS [_,_] 1 [_,_] Zjg (h:=xA (h:=ZE [_,_,_] rfl (Zh (Zq ?_))))
 have hae:=ZfP (fl:=fl) (t:=t) (b:=x) (.inr oz)
 exact Zbe .ret (.inl rfl) [_,_] [2] rfl ⟨⟨_,rfl,.inr ⟨[_,_],Zfa,Zb1 1 rfl rfl rfl,rfl⟩⟩,rfl,trivial⟩ (by rw [hae];exact ⟨_,_,_,rfl,rfl,hs6.anyK ZZ.any⟩)
 try simp only [sQ,ne_eq] at g5
 refine Zf (Zd (Za (xW Zbd (h:=x1 ZhX 0 (h:=Zp (ZV rfl rfl Zwg rfl (ZmH _ _ x.mail _ hm) ?_))))))
 rintro _ B7 _ hle7 ⟨b7,s7,rfl,rfl,hs7⟩
 replace hm:=hm.mono ZZ.mono hle7
 refine xA (h:=ZE [_,_,_] rfl (Za (xM (h:=xW Zcy (h:=x1 lk3 0 (h:=xM (h:=xM (h:=xB [(0,_),(1,_),(2,_)] [_,_,_] [_,_,_] ZtV ZfT (h:=Zp (ZaI [2] rfl rfl rfl rfl Zuu rfl (ZjD _ x.mail (⟨x.next,fl,t⟩:DMail) _ om2 om2 _ hs7) ?_))))))))))
 rintro _ B8 _ hle8 ⟨rfl,s8,rfl,hs8⟩
 refine ZE [_,_,_] rfl (Ze (Z8 (keeps _ [0] _) mo kr ⟨Kn.le.refl _,ZbU.refl _ _⟩ (fun _ _=>?_)))
 refine aW 0 rfl Zcy (h:=aT 1 rfl (Z5 fun D B L hI=>Zr rfl rfl lk3 rfl (atL 0 (hI.2.1.trans rfl) rfl rfl) r4) (h:=aD 2 rfl (h:=aM 3 rfl (h:=ZN 4 kr rfl kr (ZaI [2] rfl rfl rfl rfl Zwf rfl (ZkO _ (x.mail ++ [(⟨x.next,fl,t⟩:DMail)]) _ om2 _ hs8) ?_)))))
 rintro _ B9 _ hle9 ⟨rfl,l9,a9,c9,rfl,rfl,hv9⟩
 refine ⟨⟨Kn.le.refl _,t1⟩,(aT 5 rfl (Z5 fun D B L hI=>Zay (parts:=[(0,_),(1,_)]) [_,_] [_,_] rfl rfl Zxd Znl rfl rfl rfl r4) (h:=Zhu 6 kr rfl kr kr (Z4 [_,_] 1 [_,_] rfl rfl Zjg rfl rfl rfl rfl rfl rfl rfl rfl ?_)))⟩
 refine aA 7 rfl (h:=ZA kr kr ?_)
 refine Zd (ZE [_,_,_] rfl (Zh ?_))
 have hae:=ZpA (fl:=fl) (t:=t) (b:=x) oz
 exact Zbe .ret (.inl rfl) [_,_] [2] rfl ⟨⟨_,rfl,.inr ⟨[_,_],Zfa,Zb1 1 rfl rfl rfl,rfl⟩⟩,rfl,trivial⟩ (by rw [hae];exact ⟨_,_,_,rfl,rfl,hv9.anyK ZZ.any⟩)

set_option maxHeartbeats 400000 in
theorem Znb (b:Nat) (q1 q2 q3:Option Addr) (c1 c2 c3:Nat) (x:DHost) (l1 l2 l3:Cells) (k:Nat) (f:DFolder) (fl:Int) (t:Str) (hfx:x.folders[k]? = some f) (hn1:x.users.length≤2000000) (hn2:x.folders.length≤2000000) (hok:Z7 x=true) (hfl:Zcd fl=true) (ht:t.length≤20) (a:Nat→Addr) (B:Kn) (hE:ErrsB 321 [0,3,2,1] B a) (hu:ZU Kn.none l1 q1 c1 123 3 Zn x.users) (hf:ZaM l2 q2 c2 75 5 (Z3 133 205) x.folders) (hi:ZaM l3 q3 c3 126 4 (ZaP 9) x.queue.items):Zz (pj J) 69 [ptr ⟨b,0,none⟩,.int .i64 k,.int .i64 fl,str t] B [Zae b [str x.domain,.slice q1 x.users.length c1,.slice q2 x.folders.length c2,.int .i64 x.queue.next,.slice q3 x.queue.items.length c3] 36,l1,l2,l3] (fun v B' Ls=>∃q1' c1' q2' c2' q3' c3' l1' l2' l3',Ls=[Zae b [str (ZaY x k fl t).1.domain,.slice q1' (ZaY x k fl t).1.users.length c1',.slice q2' (ZaY x k fl t).1.folders.length c2',.int .i64 (ZaY x k fl t).1.queue.next,.slice q3' (ZaY x k fl t).1.queue.items.length c3'] 36,l1',l2',l3']∧v=errv 321 a (Zmz x k fl t)∧ZU Kn.none l1' q1' c1' 123 3 Zn (ZaY x k fl t).1.users∧ZaM l2' q2' c2' 75 5 (Z3 133 205) (ZaY x k fl t).1.folders∧ZaM l3' q3' c3' 126 4 (ZaP 9) (ZaY x k fl t).1.queue.items):=by
 refine Zb 44 Tryz.func69 rfl rfl rfl (Nat.le_of_ble_eq_true rfl) ?_
 have hfk:=(List.getElem?_eq_some_iff.1 hfx).1
 have hbo:ZdF (⟨f.next,f.mail⟩:DBox)=true:=Zf8 (Zem hok hfx)
 have hol:=Zoa hok (List.mem_of_getElem? hfx)
 have hbn:f.mail.length≤10:=(ZeF hbo).2.2
 have hml:(f.withBox (ZeL f.box fl t).1).mail.length≤2000000:=Nat.le_trans (ZiX f.box fl t) (by show f.mail.length+1≤_;omega)
 have hql:=Zeb (ZlY hok)
 obtain ⟨bq,_,_,lre,hpq,⟨qg,cg,qm,cm,ia,ib,rfl,rfl,hg,hm,ho,hn,hx,hy⟩,hwq,hqq,hcl,hcr,hkk⟩:=hf.cellA hfx
 refine Za (xA (h:=Za (xM (h:=xNc (h:=xW Zar (h:=x1 Zew 0 (h:=xM (h:=Zp (Zmi hpq rfl rfl Tryz.underlying31 ZbO rfl rfl oz oz ?_)))))))))
 refine xA (h:=Ze (Za (xM (h:=xM (h:=xNc (h:=xW Zbw (h:=Zp (Zr rfl rfl lk9 rfl (hcl _ _ 2 rfl 0 _ rfl) (xM (h:=xVs Tryz.underlying9 (h:=Zp (Zgj [0,1,2,3] rfl rfl rfl rfl rfl Zuy rfl (Z9.borrowL fun hm1=>ZjZ _ _ _ _ _ _ _ _ x f.owner ↑t.length om2 om2 om2 _ (Zxy 0 rfl hm1) (hu.lendK Zn.any 1 rfl hm1 om) (hf.lendK Z3.known Zj.mono 2 rfl hm1 om)) ?_))))))))))))
 refine Zc rfl (fun g1=>?_) (fun g1=>?_)
 try simp only [sQ,ne_eq] at g1
 refine Za (Zp (Zr rfl rfl Zqv rfl ((hE.row 2 (by decide)) _ 0 _ rfl) ?_))
 refine xA (h:=Zh (Zq ?_))
 obtain ⟨e1,e2⟩:=Zn7 (fl:=fl) hok hfx g1
 exact Zbe .ret (.inl rfl) [_] [0,1,2,3] rfl t1 (by rw [e1,e2];exact ⟨_,_,_,_,_,_,_,_,_,rfl,rfl,hu,hf,hi⟩)
 try simp only [sQ,ne_eq] at g1
 refine ZeY 2 rfl (Zn9 hqq) (Zf (Zd (Za (xM (h:=xNc (h:=xW ZbY (h:=Zp (Zaj [_,_] rfl rfl Zfa rfl (ZxC (hcr _ _ 2 rfl) 3 rfl rfl) (xM (h:=xM (h:=Zp (ZaI [5] rfl rfl rfl rfl ZwN rfl (Zz.borrow fun hm2=>Zpt _ _ (⟨f.next,f.mail⟩:DBox) fl t (oy) (oy) (oy) _ ((hm.anyK ZZ.any).lend ZZ.mono hm2 om)) ?_))))))))))))
 rintro _ B2 _ hle2 ⟨BB2,_,rfl,hB2,_,hm2,_,l2,a2,c2,rfl,rfl,hs2⟩
 replace hu:=hu.mono Zn.mono hle2
 replace hg:=hg.mono ZW.mono hle2
 replace hm:=hm.mono ZZ.mono hle2
 replace hE:=hE.mono hle2
 refine xM (h:=xE (h:=xE (h:=xAl [_,_] Znl (h:=fun b3=>xS [_,_] 7 [_,_] Zjg (h:=xA (h:=ZE [_,_,_,_,_,_,_,_] rfl (Ze0 2 5 rfl rfl (by decide) ?_)))))))
 refine Ze0 2 4 rfl rfl (by decide) ?_
 have hf9:=hkk f _ ⟨qg,cg,qm,cm,_,_,rfl,rfl,hg,hm,ho,hn,hx,hy⟩
 rw [List.append_assoc,ZtT hfx] at hf9
 refine Ze (Za (xM (h:=xN (h:=ZE [_,_,_,_,_,_,_,_] rfl (Zc rfl (fun g2=>?_) (fun g2=>?_))))))
 try simp only [sQ,ne_eq] at g2
 refine Za (Zp (Zr rfl rfl Zqv rfl ((hE.row 3 (by decide)) _ 0 _ rfl) ?_))
 refine xA (h:=Zh (Zq ?_))
 obtain ⟨e1,e2⟩:=Zqa hok hfx (by simpa using g1) (by simpa [DFolder.box] using g2)
 exact Zbe .ret (.inl rfl) [_] [0,1,2,3] rfl t1 (by rw [e1,e2];exact ⟨_,_,_,_,_,_,_,_,_,rfl,rfl,hu,hf9,hi⟩)
 try simp only [sQ,ne_eq] at g2
 refine Zf (Zd (Za (xM (h:=xL [_,_] Zfa 7 (h:=xNc (h:=xW ZbY (h:=Zp (Ztk (R:=(Z3 133 205)) (x0:=f) (f.withBox (ZeL f.box fl t).1) (us:=[_,_]) (sz:=5) (k:=k) 3 2 [6] rfl rfl hf9 hpq hfx rfl rfl Zjg rfl rfl rfl rfl (Nat.le_of_ble_eq_true rfl) (by rintro _ _ ⟨_,_,_,_,_,_,rfl,rfl,k1,k2,k3,k4,k5,k6⟩;exact ⟨_,_,⟨_,_,_,_,_,_,rfl,rfl,k1,hs2,k3,k4,k5,hml⟩,by simpa [List.append_assoc] using List.Perm.append_left _ List.perm_append_comm⟩) (fun l4 hd4=>?_)))))))))
 refine ZE [_,_,_,_,_,_,_,_] rfl (Za (xA (h:=Zh ?_)))
 obtain ⟨e1,e2⟩:=Zqb hok hfx (by simpa using g1) (by simpa [DFolder.box] using g2)
 exact Zbe .ret (.inl rfl) [_] [0,1,2,3] rfl t1 (by rw [e1,e2];simp only [DHost.withFolders,List.length_set];exact ⟨_,_,_,_,_,_,_,_,_,rfl,rfl,hu,hd4,hi⟩)

set_option maxHeartbeats 400000 in
theorem Zrz (b1 b2 b3 b4 b5:Nat) (u o n:Str) (fl:Int) (t:Str) (b:Nat) (q1 q2 q3:Option Addr) (c1 c2 c3:Nat) (x:DHost) (l1 l2 l3:Cells) (hul:u.length≤2000000) (hol:o.length≤2000000) (hnl:n.length≤2000000) (hn1:x.users.length≤2000000) (hn2:x.folders.length≤2000000) (hok:Z7 x=true) (hfl:Zcd fl=true) (ht:t.length≤20) (a:Nat→Addr) (B:Kn) (hE:ErrsB 321 [0,3,2,1] B a) (hc1:Zaq B b1 0 [str u]) (hc2:Zaq B b2 0 [str o]) (hc3:Zaq B b3 0 [str n]) (hc4:Zaq B b4 0 [.int .i64 fl]) (hc5:Zaq B b5 0 [str t]) (hu:ZU Kn.none l1 q1 c1 123 3 Zn x.users) (hf:ZaM l2 q2 c2 75 5 (Z3 133 205) x.folders) (hi:ZaM l3 q3 c3 126 4 (ZaP 9) x.queue.items):Zz (pj J) 68 [ptr ⟨b,0,none⟩,ptr ⟨b1,0,none⟩,ptr ⟨b2,0,none⟩,ptr ⟨b3,0,none⟩,ptr ⟨b4,0,none⟩,ptr ⟨b5,0,none⟩] B [Zae b [str x.domain,.slice q1 x.users.length c1,.slice q2 x.folders.length c2,.int .i64 x.queue.next,.slice q3 x.queue.items.length c3] 36,l1,l2,l3] (fun v B' Ls=>∃q1' c1' q2' c2' q3' c3' l1' l2' l3',Ls=[Zae b [str (Ze8 x u o n fl t).domain,.slice q1' (Ze8 x u o n fl t).users.length c1',.slice q2' (Ze8 x u o n fl t).folders.length c2',.int .i64 (Ze8 x u o n fl t).queue.next,.slice q3' (Ze8 x u o n fl t).queue.items.length c3'] 36,l1',l2',l3']∧v=errv 321 a (Zhz x u o n fl t)∧ZU Kn.none l1' q1' c1' 123 3 Zn (Ze8 x u o n fl t).users∧ZaM l2' q2' c2' 75 5 (Z3 133 205) (Ze8 x u o n fl t).folders∧ZaM l3' q3' c3' 126 4 (ZaP 9) (Ze8 x u o n fl t).queue.items):=by
 refine Zb 26 Tryz.func68 rfl rfl rfl (Nat.le_of_ble_eq_true rfl) ?_
 have hix:=ZiG (inF o n) x.folders
 have hck:=Zpm x.users x.folders u o n 8
 have hql:=Zeb (ZlY hok)
 refine Za (xA (h:=Za (xM (h:=y1 lk9 hc1 0 (h:=y1 lk9 hc2 0 (h:=y1 lk9 hc3 0 (h:=Zp (Zgj [0,1,2,3] rfl rfl rfl rfl rfl Zyh rfl (Z9.borrowL fun hm1=>Ztb _ _ _ _ _ _ _ _ x u o n 8 om2 om2 om2 a _ (hE.mono (Kn.le_add _ _)) (Zxy 0 rfl hm1) (hu.lendK Zn.any 1 rfl hm1 om) (hf.lendK Z3.known Zj.mono 2 rfl hm1 om)) ?_))))))))
 refine xM (h:=xE (h:=xE (h:=xA (h:=xA (h:=Ze (Za (xM (h:=Zp (Ztq (tE:=321) (a:=a) (c:=(Zhn x.users x.folders u o n 8)) rfl rfl Tryz.underlying82 rfl (Zc rfl (fun g1=>?_) (fun g1=>?_)))))))))))
 try simp only [sQ,ne_eq] at g1
 refine Za (xM (h:=xA (h:=Zh (Zq ?_))))
 have hce:Zhn x.users x.folders u o n 8≠0:=by omega
 exact Zbe .ret (.inl rfl) [_] [0,1,2,3] rfl t1 (by rw [Ze8,Zhz,if_neg hce,if_neg hce];exact ⟨_,_,_,_,_,_,_,_,_,rfl,rfl,hu,hf,hi⟩)
 try simp only [sQ,ne_eq] at g1
 have hce:Zhn x.users x.folders u o n 8=0:=by omega
 have hk0:=Zq4 hce
 obtain ⟨k,hke⟩ :∃k:Nat,ZcX (inF o n) x.folders=(k:Int):=⟨_,(Int.toNat_of_nonneg hk0).symm⟩
 obtain ⟨f,hfx⟩:=ZY (xs:=x.folders) (i:=k) oz
 rw [if_pos hce,hke]
 refine Zf (Zd (Za (xM (h:=xM (h:=y1 lk3 hc4 0 (h:=y1 lk9 hc5 0 (h:=Zp (ZaI [0,1,2,3] rfl rfl rfl rfl ZxZ rfl (Znb b q1 q2 q3 c1 c2 c3 x l1 l2 l3 k f fl t hfx hn1 hn2 hok hfl ht a _ hE hu hf hi) ?_))))))))
 rintro _ B2 _ hle2 ⟨q12,c12,q22,c22,q32,c32,l12,l22,l32,rfl,rfl,hu2,hf2,hi2⟩
 replace hc1:=hc1.mono hle2
 replace hc2:=hc2.mono hle2
 replace hc3:=hc3.mono hle2
 replace hc4:=hc4.mono hle2
 replace hc5:=hc5.mono hle2
 replace hu:=hu.mono Zn.mono hle2
 replace hE:=hE.mono hle2
 refine xA (h:=ZE [_,_,_,_] rfl (Zh ?_))
 exact Zbe .ret (.inl rfl) [_] [0,1,2,3] rfl t1 (by rw [Ze8,Zhz,if_pos hce,if_pos hce,hke];exact ⟨_,_,_,_,_,_,_,_,_,rfl,rfl,hu2,hf2,hi2⟩)

set_option maxHeartbeats 400000 in
theorem Zh0 (hJ:Joins Tryz.prog J) (q1 q2 q3:Option Addr) (c1 c2 c3:Nat) (x:DHost) (u o n:Str) (fl:Int) (t:Str) (hul:u.length≤2000000) (hol:o.length≤2000000) (hnl:n.length≤2000000) (htl:t.length≤2000000) (hd:x.domain.length≤2000000) (a:Nat→Addr) (B:Kn) (hE:ErrsB 321 [0,3,2,1] B a) (hu:SlK B q1 c1 3 Zn x.users) (hf:SlK B q2 c2 5 Zj x.folders) (hi:SlK B q3 c3 4 Zu x.queue.items):Zz (pj J) 22 [.agg #[str x.domain,.slice q1 x.users.length c1,.slice q2 x.folders.length c2,.int .i64 x.queue.next,.slice q3 x.queue.items.length c3],str u,str o,str n,.int .i64 fl,str t] B [] (fun v B' Ls=>∃q1 c1 q2 c2 q3 c3 l1 l2 l3,Ls=[l1,l2,l3]∧v = .tuple #[.agg #[str (ZdJ x u o n fl t).1.domain,.slice q1 (ZdJ x u o n fl t).1.users.length c1,.slice q2 (ZdJ x u o n fl t).1.folders.length c2,.int .i64 (ZdJ x u o n fl t).1.queue.next,.slice q3 (ZdJ x u o n fl t).1.queue.items.length c3],.int .i64 (ZdJ x u o n fl t).2]∧ZU Kn.none l1 q1 c1 123 3 Zn (ZdJ x u o n fl t).1.users∧ZaM l2 q2 c2 75 5 (Z3 133 205) (ZdJ x u o n fl t).1.folders∧ZaM l3 q3 c3 126 4 (ZaP 9) (ZdJ x u o n fl t).1.queue.items):=by
 refine Zb 26 Tryz.func22 rfl rfl rfl (Nat.le_of_ble_eq_true rfl) ?_
 have hun:=hu.len
 have hfn:=hf.len
 have hin:=hi.len
 refine Za (xBx [_,_,_,_,_] (h:=fun b1=>xBx [_] (h:=fun b2=>xBx [_] (h:=fun b3=>xBx [_] (h:=fun b4=>xBx [_] (h:=fun b5=>xBx [_] (h:=fun b6=>xAl [_,_,_,_,_] Zch (h:=fun b7=>xA (h:=ZE [_,_,_,_,_,_,_] rfl (Zkg 1 rfl (fun B8 hle8 hpm8=>?_)))))))))))
 have hc8:=ZaW hpm8
 replace hu:=hu.mono Zn.mono hle8
 replace hf:=hf.mono Zj.mono hle8
 replace hi:=hi.mono Zu.mono hle8
 replace hE:=hE.mono hle8
 refine Zkg 2 rfl (fun B9 hle9 hpm9=>?_)
 have hc9:=ZaW hpm9
 replace hu:=hu.mono Zn.mono hle9
 replace hf:=hf.mono Zj.mono hle9
 replace hi:=hi.mono Zu.mono hle9
 replace hc8:=hc8.mono hle9
 replace hE:=hE.mono hle9
 refine Zkg 3 rfl (fun B10 hle10 hpm10=>?_)
 have hc10:=ZaW hpm10
 replace hu:=hu.mono Zn.mono hle10
 replace hf:=hf.mono Zj.mono hle10
 replace hi:=hi.mono Zu.mono hle10
 replace hc8:=hc8.mono hle10
 replace hc9:=hc9.mono hle10
 replace hE:=hE.mono hle10
 refine Zkg 4 rfl (fun B11 hle11 hpm11=>?_)
 have hc11:=ZaW hpm11
 replace hu:=hu.mono Zn.mono hle11
 replace hf:=hf.mono Zj.mono hle11
 replace hi:=hi.mono Zu.mono hle11
 replace hc8:=hc8.mono hle11
 replace hc9:=hc9.mono hle11
 replace hc10:=hc10.mono hle11
 replace hE:=hE.mono hle11
 refine Zkg 5 rfl (fun B12 hle12 hpm12=>?_)
 have hc12:=ZaW hpm12
 replace hu:=hu.mono Zn.mono hle12
 replace hf:=hf.mono Zj.mono hle12
 replace hi:=hi.mono Zu.mono hle12
 replace hc8:=hc8.mono hle12
 replace hc9:=hc9.mono hle12
 replace hc10:=hc10.mono hle12
 replace hc11:=hc11.mono hle12
 replace hE:=hE.mono hle12
 refine Ze (Z8 (keeps _ [0] _) mo kr ⟨Kn.le.refl _,ZbU.refl _ _⟩ (fun _ _=>?_))
 refine aT 0 rfl (Z5 fun D B L hI=>Zaj [_,_,_,_,_] rfl rfl Zcx rfl (Zb1 0 (hI.2.1.trans rfl) rfl rfl) r4) (h:=aT 1 rfl (Z5 fun D B L hI=>Zr rfl rfl lk3 rfl ((hc11.mono hI.1) _ 0 _ rfl) r4) (h:=aT 2 rfl (Z5 fun D B L hI=>Zaf rfl rfl ZvJ rfl (Zfb _ _) r4) (h:=aM 3 rfl (h:=Zav (d:=17) rfl (fun g1=>?_) (fun g1=>?_)))))
 try simp only [sQ,ne_eq] at g1
 refine aT 4 rfl (Z5 fun D B L hI=>Zr rfl rfl lk9 rfl ((hc12.mono hI.1) _ 0 _ rfl) r4) (h:=aT 5 rfl (Z5 fun D B L hI=>Zlu rfl rfl Tryz.underlying9 rfl r4) (h:=Zrh 6 rfl (h:=aPT 7 rfl (h:=ZN 8 kr rfl kr (ZcG (xs:=[]) (ys:=[_,_,_,_,_]) rfl rfl rfl rfl ?_)))))
 refine ⟨⟨Kn.le.refl _,t1⟩,(ZN 9 kr rfl kr (ZV rfl rfl Zxr rfl (ZjN _ _ _ _ _ _ x _ 68 _ (Ze8 x u o n fl t) (Zhz x u o n fl t) (ZlM x u o n fl t) Zxp hJ hd a _ hE hu hf hi (fun har hok B2 b q1 q2 q3 c1 c2 c3 l1 l2 l3 hle k1 k2 k3=>Zrz _ _ _ _ _ u o n fl t b q1 q2 q3 c1 c2 c3 x l1 l2 l3 hul hol hnl oz oz hok (by simpa [Zcd] using g1) (by simp at har;omega) a B2 (hE.mono hle) (hc8.mono hle) (hc9.mono hle) (hc10.mono hle) (hc11.mono hle) (hc12.mono hle) k1 k2 k3)) ?_))⟩
 rintro _ B14 _ hle14 ⟨Y14,d14,q114,c114,q214,c214,q314,c314,l114,l214,l314,hYd14,rfl,rfl,hu14,hf14,hi14⟩
 replace hu:=hu.mono Zn.mono hle14
 replace hf:=hf.mono Zj.mono hle14
 replace hi:=hi.mono Zu.mono hle14
 replace hc8:=hc8.mono hle14
 replace hc9:=hc9.mono hle14
 replace hc10:=hc10.mono hle14
 replace hc11:=hc11.mono hle14
 replace hc12:=hc12.mono hle14
 replace hE:=hE.mono hle14
 rw [ZoE (by simp only [Zcd,decide_eq_true_eq];simp at g1;constructor <;> (intro hh;simp at hh ⊢;omega))] at hYd14
 refine ⟨⟨hle14,t1⟩,(aE 10 rfl (h:=aE 11 rfl (h:=Zhu 12 kr rfl kr kr (Z4 [_,_,_,_,_] 6 [_,_,_,_,_] rfl rfl Zdn rfl rfl rfl rfl rfl rfl rfl rfl ?_))))⟩
 refine aA 13 rfl (h:=ZA kr kr ?_)
 refine Zd (ZE [_,_,_,_,_,_,_,_,_,_] rfl (Zh ?_))
 have e1:=congrArg Prod.fst hYd14
 have e2:=congrArg Prod.snd hYd14
 dsimp only at e1 e2
 subst e1 e2
 exact Zbe .ret (.inl rfl) [_,_] [7,8,9] rfl ⟨⟨_,rfl,.inr ⟨[_,_,_,_,_],Zcx,Zb1 6 rfl rfl rfl,rfl⟩⟩,rfl,trivial⟩ ⟨_,_,_,_,_,_,_,_,_,rfl,rfl,hu14.anyK Zn.any,hf14,hi14⟩
 try simp only [sQ,ne_eq] at g1
 refine aZ 4 rfl (h:=aZ 5 rfl (h:=aZ 6 rfl (h:=aPF 7 rfl (h:=ZN 8 kr rfl kr (ZcG (xs:=[]) (ys:=[_,_,_,_,_]) rfl rfl rfl rfl ?_)))))
 refine ⟨⟨Kn.le.refl _,t1⟩,(ZN 9 kr rfl kr (ZV rfl rfl Zxr rfl (ZjN _ _ _ _ _ _ x _ 68 _ (Ze8 x u o n fl t) (Zhz x u o n fl t) (ZlM x u o n fl t) Zxp hJ hd a _ hE hu hf hi (fun har hok B2 b q1 q2 q3 c1 c2 c3 l1 l2 l3 hle k1 k2 k3=>Zrz _ _ _ _ _ u o n fl t b q1 q2 q3 c1 c2 c3 x l1 l2 l3 hul hol hnl oz oz hok (by cases har) (by cases har) a B2 (hE.mono hle) (hc8.mono hle) (hc9.mono hle) (hc10.mono hle) (hc11.mono hle) (hc12.mono hle) k1 k2 k3)) ?_))⟩
 rintro _ B15 _ hle15 ⟨Y15,d15,q115,c115,q215,c215,q315,c315,l115,l215,l315,hYd15,rfl,rfl,hu15,hf15,hi15⟩
 replace hu:=hu.mono Zn.mono hle15
 replace hf:=hf.mono Zj.mono hle15
 replace hi:=hi.mono Zu.mono hle15
 replace hc8:=hc8.mono hle15
 replace hc9:=hc9.mono hle15
 replace hc10:=hc10.mono hle15
 replace hc11:=hc11.mono hle15
 replace hc12:=hc12.mono hle15
 replace hE:=hE.mono hle15
 rw [ZoE (by simp at g1;simp [Zcd];omega)] at hYd15
 refine ⟨⟨hle15,t1⟩,(aE 10 rfl (h:=aE 11 rfl (h:=Zhu 12 kr rfl kr kr (Z4 [_,_,_,_,_] 6 [_,_,_,_,_] rfl rfl Zdn rfl rfl rfl rfl rfl rfl rfl rfl ?_))))⟩
 refine aA 13 rfl (h:=ZA kr kr ?_)
 refine Zd (ZE [_,_,_,_,_,_,_,_,_,_] rfl (Zh ?_))
 have e1:=congrArg Prod.fst hYd15
 have e2:=congrArg Prod.snd hYd15
 dsimp only at e1 e2
 subst e1 e2
 exact Zbe .ret (.inl rfl) [_,_] [7,8,9] rfl ⟨⟨_,rfl,.inr ⟨[_,_,_,_,_],Zcx,Zb1 6 rfl rfl rfl,rfl⟩⟩,rfl,trivial⟩ ⟨_,_,_,_,_,_,_,_,_,rfl,rfl,hu15.anyK Zn.any,hf15,hi15⟩

set_option maxHeartbeats 6400000 in
theorem Zk9 (q1 q2 q3:Option Addr) (c1 c2 c3:Nat) (x:DHost) (hd:x.domain.length≤140737488355328) (u o n:Str) (fl:Int) (t:Str) (hw1:u.length≤140737488355328) (hw2:o.length≤140737488355328) (hw3:n.length≤140737488355328) (hw4:t.length≤140737488355328) (a:Nat→Addr) (B:Kn) (hE:ErrsB 321 [0,3,2,1] B a) (hu:SlB B q1 c1 3 ZhF x.users) (hf:SlB B q2 c2 5 Zdl x.folders) (hi:SlB B q3 c3 4 Zgg x.queue.items) :∃code,Tryz.f5.body=some code∧wpS (pj (Znh Tryz.prog)) 133 code (Zhr (pj (Znh Tryz.prog)) [.tmp 12] (fun v B' Ls=>v = .bool true)) (Zdf [.agg #[str x.domain,.slice q1 x.users.length c1,.slice q2 x.folders.length c2,.int .i64 x.queue.next,.slice q3 x.queue.items.length c3],str u,str o,str n,.int .i64 fl,str t] 0) [] B []:=by
 have hJ:=ZkT Tryz.prog
 refine ⟨_,rfl,(Za (xBx [_,_,_,_,_] (h:=fun b1=>xA (h:=ZE [_] rfl (Ze (Za (xM (h:=xVs Tryz.underlying9 (h:=ZcL (h:=Zc rfl (fun g1=>?_) (fun g1=>?_)))))))))))⟩
 try simp only [sQ,ne_eq] at g1
 refine Za (xA (h:=Zh (Zq ?_)))
 exact ZB .ret (.inl rfl) [_] t1 rfl
 try simp only [sQ,ne_eq] at g1
 refine Zf (Zd (Ze (Za (xM (h:=xVs Tryz.underlying9 (h:=ZcL (h:=Zc rfl (fun g2=>?_) (fun g2=>?_))))))))
 try simp only [sQ,ne_eq] at g2
 refine Za (xA (h:=Zh (Zq ?_)))
 exact ZB .ret (.inl rfl) [_] t1 rfl
 try simp only [sQ,ne_eq] at g2
 refine Zf (Zd (Ze (Za (xM (h:=xVs Tryz.underlying9 (h:=ZcL (h:=Zc rfl (fun g3=>?_) (fun g3=>?_))))))))
 try simp only [sQ,ne_eq] at g3
 refine Za (xA (h:=Zh (Zq ?_)))
 exact ZB .ret (.inl rfl) [_] t1 rfl
 try simp only [sQ,ne_eq] at g3
 refine Zf (Zd (Ze (Za (xM (h:=xVs Tryz.underlying9 (h:=ZcL (h:=Zc rfl (fun g4=>?_) (fun g4=>?_))))))))
 try simp only [sQ,ne_eq] at g4
 refine Za (xA (h:=Zh (Zq ?_)))
 exact ZB .ret (.inl rfl) [_] t1 rfl
 try simp only [sQ,ne_eq] at g4
 refine Zf (Zd (Za (xA (h:=Za (xL [_,_,_,_,_] Zt3 0 (h:=xM (h:=xR en8 rfl (Zp2 _ _ _ _ _ _ x om 1048576 om om _ hu hf hi) (h:=?_))))))))
 refine xA (h:=Ze (Za (xM (h:=ZJ (h:=Zc rfl (fun g5=>?_) (fun g5=>?_))))))
 try simp only [sQ,ne_eq] at g5
 refine Za (xA (h:=Zh (Zq ?_)))
 exact ZB .ret (.inl rfl) [_] t1 rfl
 try simp only [sQ,ne_eq] at g5
 have hsz:=(Zcr oz g5).2
 replace hsz:ZcQ x≤1048576:=by omega
 have hsz2:=ZkZ hsz
 have hkh:=Zug hsz
 replace hu:=Zkk hu hsz2.2.1
 replace hf:=ZiK hf hsz2.2.2.1
 replace hi:=ZkU hi hsz2.2.2.2
 have hun:=hu.len
 have hfn:=hf.len
 have hin:=hi.len
 obtain ⟨hka,hkb,hkc,hkd⟩:=Zsx (u:=u) (o:=o) (n:=n) (fl:=fl) (t:=t) hsz
 refine Zf (Zd (Za (xL [_,_,_,_,_] Zt3 0 (h:=Zp (ZV rfl rfl ZuZ rfl (Zgx _ _ _ _ _ _ x _ hu hf hi om2) ?_)))))
 rintro _ B3 _ hle3 ⟨q3,c3,l3,q3b,c3b,l3b,q3c,c3c,l3c,rfl,rfl,rfl,hv3,hv3b,hv3c⟩
 refine Zry 1 rfl hv3 Zn.any om (fun B4 hle4 hr4=>?_)
 replace hu:=hu.mono Zn.mono hle4
 replace hf:=hf.mono Zj.mono hle4
 replace hi:=hi.mono Zu.mono hle4
 replace hE:=hE.mono hle4
 have hr4n:=hr4.len
 refine ZlJ 2 rfl hv3b Z3.known Zj.mono om (fun B5 hle5 hr5=>?_)
 replace hu:=hu.mono Zn.mono hle5
 replace hf:=hf.mono Zj.mono hle5
 replace hi:=hi.mono Zu.mono hle5
 replace hr4:=hr4.mono Zn.mono hle5
 replace hE:=hE.mono hle5
 have hr5n:=hr5.len
 refine ZlJ 3 rfl hv3c ZaP.known Zu.mono om (fun B6 hle6 hr6=>?_)
 replace hu:=hu.mono Zn.mono hle6
 replace hf:=hf.mono Zj.mono hle6
 replace hi:=hi.mono Zu.mono hle6
 replace hr4:=hr4.mono Zn.mono hle6
 replace hr5:=hr5.mono Zj.mono hle6
 replace hE:=hE.mono hle6
 have hr6n:=hr6.len
 refine xM (h:=xM (h:=xM (h:=xM (h:=xM (h:=Zp (Zig rfl rfl Zyr rfl (ZnV _ _ _ _ _ _ x u o n fl t om2 om2 om2 om2 om2 _ hr4 hr5 hr6) ?_))))))
 intro v7 B7 hle7
 rintro ⟨p17,d17,p27,d27,p37,d37,rfl,hu7,hf7,hi7,hd7⟩
 replace hu:=hu.mono Zn.mono hle7
 replace hf:=hf.mono Zj.mono hle7
 replace hi:=hi.mono Zu.mono hle7
 replace hr4:=hr4.mono Zn.mono hle7
 replace hr5:=hr5.mono Zj.mono hle7
 replace hr6:=hr6.mono Zu.mono hle7
 replace hE:=hE.mono hle7
 have hu7n:=hu7.len
 have hf7n:=hf7.len
 have hi7n:=hi7.len
 refine xM (h:=xE (h:=xE (h:=xAl [_,_,_,_,_] Zch (h:=fun b8=>xS [_,_,_,_,_] 4 [_,_,_,_,_] Zdn (h:=xA (h:=ZE [_,_,_,_,_] rfl (Za (xL [_,_,_,_,_] Zt3 0 (h:=Zp (ZV rfl rfl ZuZ rfl (Zgx _ _ _ _ _ _ x _ hu hf hi om2) ?_))))))))))
 rintro _ B9 _ hle9 ⟨q9,c9,l9,q9b,c9b,l9b,q9c,c9c,l9c,rfl,rfl,rfl,hv9,hv9b,hv9c⟩
 refine xAl [_,_,_,_,_] Zch (h:=fun b10=>xS [_,_,_,_,_] 8 [_,_,_,_,_] Zdn (h:=ZE [_,_,_,_,_,_,_,_,_] rfl (Za (xL [_,_,_,_,_] Zcx 8 (h:=xM (h:=xM (h:=xM (h:=xM (h:=xM (h:=Zp (ZaI [5,6,7] rfl rfl rfl rfl Zxu rfl (Zz.borrowK 3 fun hm11=>Zh0 hJ _ _ _ _ _ _ x u o n fl t om2 om2 om2 om2 om2 a _ (hE.mono (Kn.le_add _ _)) (hv9.lendK Zn.any 0 rfl hm11 om) (hv9b.lendK Z3.known Zj.mono 1 rfl hm11 om) (hv9c.lendK ZaP.known Zu.mono 2 rfl hm11 om)) ?_)))))))))))
 rintro _ B11 _ hle11 ⟨BB11,_,rfl,hB11,_,hm11,_,q111,c111,q211,c211,q311,c311,l111,l211,l311,rfl,rfl,hu11,hf11,hi11⟩
 replace hu:=hu.mono Zn.mono hle11
 replace hf:=hf.mono Zj.mono hle11
 replace hi:=hi.mono Zu.mono hle11
 replace hu7:=hu7.mono Zn.mono hle11
 replace hf7:=hf7.mono Zj.mono hle11
 replace hi7:=hi7.mono Zu.mono hle11
 replace hv9:=hv9.mono Zn.mono hle11
 replace hE:=hE.mono hle11
 refine xM (h:=xE (h:=xE (h:=xAl [_,_,_,_,_] Zch (h:=fun b12=>xS [_,_,_,_,_] 12 [_,_,_,_,_] Zdn (h:=xA (h:=ZE [_,_,_,_,_,_,_,_,_,_,_,_,_] rfl (Ze (Za (xL [_,_,_,_,_] Zcx 12 (h:=xL [_,_,_,_,_] Zcx 4 (h:=Zp (Zgj [9,10,11] rfl rfl rfl rfl rfl ZuY rfl (Z9.borrowL fun hm13=>ZgE _ _ _ _ _ _ _ _ _ _ _ _ ((ZdJ x u o n fl t).1) ((ZdJ x u o n fl t).1) _ (hu11.lendK Zn.any 0 rfl hm13 om) (hf11.lendK Z3.known Zj.mono 1 rfl hm13 om) (hi11.lendK ZaP.known Zu.mono 2 rfl hm13 om) (hu7.mono Zn.mono (Kn.le_add _ _)) (hf7.mono Zj.mono (Kn.le_add _ _)) (hi7.mono Zu.mono (Kn.le_add _ _))) ?_))))))))))))
 refine xN (h:=xM (h:=Zw (d:=68) rfl (fun g6=>by simp at g6) (fun g6=>?_)))
 try simp only [sQ,ne_eq] at g6
 refine xM (h:=xM (h:=ZaN (h:=xF (h:=Zc rfl (fun g7=>by simp at g7) (fun g7=>?_)))))
 try simp only [sQ,ne_eq] at g7
 refine Zf (Zd (Ze (Ze (Z8 (keeps _ [0,8] _) mo kr ⟨Kn.le.refl _,ZbU.refl _ _⟩ (fun _ _=>?_)))))
 refine aT 0 rfl (Z5 fun D B L hI=>Zaj [_,_,_,_,_] rfl rfl Zcx rfl (Zb1 8 (hI.2.2.1.trans rfl) rfl rfl) r4) (h:=aT 1 rfl (Z5 fun D B L hI=>Zaj [_,_,_,_,_] rfl rfl Zt3 rfl (Zb1 0 (hI.2.1.trans rfl) rfl rfl) r4) (h:=ZN 2 kr rfl kr (ZV rfl rfl ZuZ rfl (Zgx _ _ _ _ _ _ x _ hu hf hi om2) ?_)))
 rintro _ B14 _ hle14 ⟨q14,c14,l14,q14b,c14b,l14b,q14c,c14c,l14c,rfl,rfl,rfl,hv14,hv14b,hv14c⟩
 refine ⟨⟨Kn.le.refl _,t2⟩,(ZuO 13 rfl hv14 Zn.any om (fun B' hle'=>⟨hle',t2⟩) (fun B15 hle15 hr15=>?_))⟩
 replace hu:=hu.mono Zn.mono hle15
 replace hf:=hf.mono Zj.mono hle15
 replace hi:=hi.mono Zu.mono hle15
 replace hu7:=hu7.mono Zn.mono hle15
 replace hf7:=hf7.mono Zj.mono hle15
 replace hi7:=hi7.mono Zu.mono hle15
 replace hv9:=hv9.mono Zn.mono hle15
 replace hu11:=hu11.mono Zn.mono hle15
 replace hE:=hE.mono hle15
 have hr15n:=hr15.len
 refine ZrO 14 rfl hv14b Z3.known Zj.mono om (fun B' hle'=>⟨hle15.trans hle',t2⟩) (fun B16 hle16 hr16=>?_)
 replace hu:=hu.mono Zn.mono hle16
 replace hf:=hf.mono Zj.mono hle16
 replace hi:=hi.mono Zu.mono hle16
 replace hr15:=hr15.mono Zn.mono hle16
 replace hu7:=hu7.mono Zn.mono hle16
 replace hf7:=hf7.mono Zj.mono hle16
 replace hi7:=hi7.mono Zu.mono hle16
 replace hv9:=hv9.mono Zn.mono hle16
 replace hu11:=hu11.mono Zn.mono hle16
 replace hE:=hE.mono hle16
 have hr16n:=hr16.len
 refine ZrO 15 rfl hv14c ZaP.known Zu.mono om (fun B' hle'=>⟨(hle15.trans hle16).trans hle',t2⟩) (fun B17 hle17 hr17=>?_)
 replace hu:=hu.mono Zn.mono hle17
 replace hf:=hf.mono Zj.mono hle17
 replace hi:=hi.mono Zu.mono hle17
 replace hr15:=hr15.mono Zn.mono hle17
 replace hr16:=hr16.mono Zj.mono hle17
 replace hu7:=hu7.mono Zn.mono hle17
 replace hf7:=hf7.mono Zj.mono hle17
 replace hi7:=hi7.mono Zu.mono hle17
 replace hv9:=hv9.mono Zn.mono hle17
 replace hu11:=hu11.mono Zn.mono hle17
 replace hE:=hE.mono hle17
 have hr17n:=hr17.len
 refine ZN 3 kr rfl kr (Zgj [5,6,7] rfl rfl rfl rfl rfl ZuY rfl (Z9.borrowL fun hm18=>ZgE _ _ _ _ _ _ _ _ _ _ _ _ x x _ (hv9.lendK Zn.any 0 rfl hm18 om) (hv9b.lendK Z3.known Zj.mono 1 rfl hm18 om) (hv9c.lendK ZaP.known Zu.mono 2 rfl hm18 om) (hr15.mono Zn.mono (Kn.le_add _ _)) (hr16.mono Zj.mono (Kn.le_add _ _)) (hr17.mono Zu.mono (Kn.le_add _ _))) ?_)
 refine ⟨⟨((hle15.trans hle16).trans hle17),t2⟩,(aN 4 rfl (h:=ZA kr kr ?_))⟩
 refine Zd (ZE [_,_,_,_,_,_,_,_,_,_,_,_,_,_,_,_] rfl (Zc rfl (fun g8=>by simp at g8) (fun g8=>?_)))
 try simp only [sQ,ne_eq] at g8
 refine Zf (Zd (Za (xA (h:=Za (xL [_,_,_,_,_] Zcx 8 (h:=xM (h:=Zp (ZaI [5,6,7] rfl rfl rfl rfl Zxw rfl (ZhV _ _ _ _ _ _ x _ _ _ 1 oa oz oz oz _ (hv9.anyK Zn.any) hv9b hv9c) ?_))))))))
 rintro _ B19 _ hle19 ⟨rfl,l19a,l19b,l19c,rfl,rfl,hs19a,hs19b,hs19c⟩
 refine xA (h:=ZE [_,_,_,_,_,_,_,_,_,_,_,_,_,_,_,_] rfl (Ze (Za (xM (h:=ZJ (h:=xM (h:=Zw (d:=83) rfl (fun g9=>by first | omega | (simp at g9;done) | (simp at g9;omega)) (fun g9=>?_))))))))
 try simp only [sQ,ne_eq] at g9
 refine xL [_,_,_,_,_] Zcx 12 (h:=xL [_,_,_,_,_] Zcx 4 (h:=Zp (Zgj [9,10,11] rfl rfl rfl rfl rfl ZuY rfl (Z9.borrowL fun hm20=>ZgE _ _ _ _ _ _ _ _ _ _ _ _ ((ZdJ x u o n fl t).1) ((ZdJ x u o n fl t).1) _ (hu11.lendK Zn.any 0 rfl hm20 om) (hf11.lendK Z3.known Zj.mono 1 rfl hm20 om) (hi11.lendK ZaP.known Zu.mono 2 rfl hm20 om) (hu7.mono Zn.mono (Kn.le_add _ _)) (hf7.mono Zj.mono (Kn.le_add _ _)) (hi7.mono Zu.mono (Kn.le_add _ _))) ?_)))
 refine xN (h:=xF (h:=xM (h:=Zw (d:=89) rfl (fun ga=>by simp at ga) (fun ga=>?_))))
 try simp only [sQ,ne_eq] at ga
 refine xM (h:=xM (h:=ZaN (h:=xF (h:=Zc rfl (fun gb=>by simp at gb) (fun gb=>?_)))))
 try simp only [sQ,ne_eq] at gb
 refine Zf (Zd (Za (xA (h:=Za (xL [_,_,_,_,_] Zcx 12 (h:=xM (h:=Zp (ZaI [9,10,11] rfl rfl rfl rfl Zxw rfl (ZhV _ _ _ _ _ _ ((ZdJ x u o n fl t).1) _ _ _ 1 oa oz oz oz _ (hu11.anyK Zn.any) hf11 hi11) ?_))))))))
 rintro _ B21 _ hle21 ⟨rfl,l21a,l21b,l21c,rfl,rfl,hs21a,hs21b,hs21c⟩
 refine xA (h:=ZE [_,_,_,_,_,_,_,_,_,_,_,_,_,_,_,_] rfl (Za (xA (h:=Za (xL [_,_,_,_,_] Zcx 12 (h:=xM (h:=Zp (Zgj [9,10,11] rfl rfl rfl rfl rfl Zxv rfl (Z9.borrowL fun hm22=>Zh1 _ _ _ _ _ _ (ZdJ x u o n fl t).1 1 oa _ (hs21a.lendK Zn.any 0 rfl hm22 (by simp only [Zao,Zaz,Za9,Za2,ZdU];omega)) (hs21b.lendK Z3.known Zj.mono 1 rfl hm22 (by simp only [Zao,Zaz,Za9,Za2,ZdU];omega)) (hs21c.lendK ZaP.known Zu.mono 2 rfl hm22 (by simp only [Zao,Zaz,Za9,Za2,ZdU];omega))) ?_))))))))
 refine xA (h:=Ze (Za (xM (h:=ZJ (h:=Zc rfl (fun gc=>by first | omega | (simp at gc;done) | (simp at gc;omega)) (fun gc=>?_))))))
 try simp only [sQ,ne_eq] at gc
 refine Zf (Zd (Ze (Za (xM (h:=xM (h:=ZaN (h:=Zc rfl (fun gd=>by simp at gd) (fun gd=>?_))))))))
 try simp only [sQ,ne_eq] at gd
 refine Zf (Zd (Za (xL [_,_,_,_,_] Zt3 0 (h:=Zp (ZV rfl rfl ZuZ rfl (Zgx _ _ _ _ _ _ x _ hu hf hi om2) ?_)))))
 rintro _ B23 _ hle23 ⟨q23,c23,l23,q23b,c23b,l23b,q23c,c23c,l23c,rfl,rfl,rfl,hv23,hv23b,hv23c⟩
 refine Zry 16 rfl hv23 Zn.any om (fun B24 hle24 hr24=>?_)
 replace hu:=hu.mono Zn.mono hle24
 replace hf:=hf.mono Zj.mono hle24
 replace hi:=hi.mono Zu.mono hle24
 replace hu7:=hu7.mono Zn.mono hle24
 replace hf7:=hf7.mono Zj.mono hle24
 replace hi7:=hi7.mono Zu.mono hle24
 replace hs19a:=hs19a.mono Zn.mono hle24
 replace hs21a:=hs21a.mono Zn.mono hle24
 replace hE:=hE.mono hle24
 have hr24n:=hr24.len
 refine ZlJ 17 rfl hv23b Z3.known Zj.mono om (fun B25 hle25 hr25=>?_)
 replace hu:=hu.mono Zn.mono hle25
 replace hf:=hf.mono Zj.mono hle25
 replace hi:=hi.mono Zu.mono hle25
 replace hr24:=hr24.mono Zn.mono hle25
 replace hu7:=hu7.mono Zn.mono hle25
 replace hf7:=hf7.mono Zj.mono hle25
 replace hi7:=hi7.mono Zu.mono hle25
 replace hs19a:=hs19a.mono Zn.mono hle25
 replace hs21a:=hs21a.mono Zn.mono hle25
 replace hE:=hE.mono hle25
 have hr25n:=hr25.len
 refine ZlJ 18 rfl hv23c ZaP.known Zu.mono om (fun B26 hle26 hr26=>?_)
 replace hu:=hu.mono Zn.mono hle26
 replace hf:=hf.mono Zj.mono hle26
 replace hi:=hi.mono Zu.mono hle26
 replace hr24:=hr24.mono Zn.mono hle26
 replace hr25:=hr25.mono Zj.mono hle26
 replace hu7:=hu7.mono Zn.mono hle26
 replace hf7:=hf7.mono Zj.mono hle26
 replace hi7:=hi7.mono Zu.mono hle26
 replace hs19a:=hs19a.mono Zn.mono hle26
 replace hs21a:=hs21a.mono Zn.mono hle26
 replace hE:=hE.mono hle26
 have hr26n:=hr26.len
 refine xM (h:=xM (h:=xM (h:=xM (h:=xM (h:=Zp (ZV rfl rfl Zxu rfl (Zh0 hJ _ _ _ _ _ _ x u o n fl t om2 om2 om2 om2 om2 a _ hE hr24 hr25 hr26) ?_))))))
 rintro _ B27 _ hle27 ⟨q127,c127,q227,c227,q327,c327,l127,l227,l327,rfl,rfl,hu27,hf27,hi27⟩
 replace hu:=hu.mono Zn.mono hle27
 replace hf:=hf.mono Zj.mono hle27
 replace hi:=hi.mono Zu.mono hle27
 replace hr24:=hr24.mono Zn.mono hle27
 replace hr25:=hr25.mono Zj.mono hle27
 replace hr26:=hr26.mono Zu.mono hle27
 replace hu7:=hu7.mono Zn.mono hle27
 replace hf7:=hf7.mono Zj.mono hle27
 replace hi7:=hi7.mono Zu.mono hle27
 replace hs19a:=hs19a.mono Zn.mono hle27
 replace hs21a:=hs21a.mono Zn.mono hle27
 replace hE:=hE.mono hle27
 refine xM (h:=xE (h:=xE (h:=xAl [_,_,_,_,_] Zch (h:=fun b28=>xS [_,_,_,_,_] 22 [_,_,_,_,_] Zdn (h:=xA (h:=ZE [_,_,_,_,_,_,_,_,_,_,_,_,_,_,_,_,_,_,_,_,_,_,_] rfl (Ze (Za (xL [_,_,_,_,_] Zcx 22 (h:=xL [_,_,_,_,_] Zcx 4 (h:=Zp (Zgj [19,20,21] rfl rfl rfl rfl rfl ZuY rfl (Z9.borrowL fun hm29=>ZgE _ _ _ _ _ _ _ _ _ _ _ _ ((ZdJ x u o n fl t).1) ((ZdJ x u o n fl t).1) _ (hu27.lendK Zn.any 0 rfl hm29 om) (hf27.lendK Z3.known Zj.mono 1 rfl hm29 om) (hi27.lendK ZaP.known Zu.mono 2 rfl hm29 om) (hu7.mono Zn.mono (Kn.le_add _ _)) (hf7.mono Zj.mono (Kn.le_add _ _)) (hi7.mono Zu.mono (Kn.le_add _ _))) ?_))))))))))))
 refine xN (h:=xM (h:=Zw (d:=120) rfl (fun ge=>by simp at ge) (fun ge=>?_)))
 try simp only [sQ,ne_eq] at ge
 refine xM (h:=xM (h:=ZaN (h:=xF (h:=Zc rfl (fun gf=>by simp at gf) (fun gf=>?_)))))
 try simp only [sQ,ne_eq] at gf
 refine Zf (Zd (Za (xA (h:=Za (xL [_,_,_,_,_] Zcx 12 (h:=xM (h:=Zp (Zgj [9,10,11] rfl rfl rfl rfl rfl Zxv rfl (Z9.borrowL fun hm30=>Zh1 _ _ _ _ _ _ (ZdJ x u o n fl t).1 1 oa _ (hs21a.lendK Zn.any 0 rfl hm30 (by simp only [Zao,Zaz,Za9,Za2,ZdU];omega)) (hs21b.lendK Z3.known Zj.mono 1 rfl hm30 (by simp only [Zao,Zaz,Za9,Za2,ZdU];omega)) (hs21c.lendK ZaP.known Zu.mono 2 rfl hm30 (by simp only [Zao,Zaz,Za9,Za2,ZdU];omega))) ?_))))))))
 refine xA (h:=Ze (Za (xM (h:=ZJ (h:=Zc rfl (fun gg=>by first | omega | (simp at gg;done) | (simp at gg;omega)) (fun gg=>?_))))))
 try simp only [sQ,ne_eq] at gg
 refine Zf (Zd (Ze (Za (xM (h:=xM (h:=ZaN (h:=Zc rfl (fun gh=>by simp at gh) (fun gh=>?_))))))))
 try simp only [sQ,ne_eq] at gh
 refine Zf (Zd (Za (xA (h:=Zh ?_))))
 exact ZB .ret (.inl rfl) [_] t1 rfl

end Go.Proofs.YthgggppcgbglkaaGreatDoor
