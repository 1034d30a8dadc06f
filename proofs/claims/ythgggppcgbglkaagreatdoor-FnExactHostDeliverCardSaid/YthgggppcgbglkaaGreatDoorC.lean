/-
  WHAT THE FUNCTIONS THAT THE LAWS REACH COMPUTE: each function's contract, proved off its printed body (the text is written by program). No condition beyond those that each theorem states.
-/
import Derived.Test.YthgggppcgbglkaaGreatDoorC2
namespace Go.Proofs.YthgggppcgbglkaaGreatDoor
open Go Go.BL
set_option linter.unusedVariables false
set_option linter.unusedSimpArgs false
set_option maxRecDepth 4000
variable {J : JoinT}
set_option maxRecDepth 4000 in
set_option maxHeartbeats 400000 in
theorem ZhE (q : Option Addr) (cp : Nat) (xs : List DFolder) (B : Kn) (hx : SlK B q cp 5 Zk xs) : Zx (pj J) 154 [.slice q xs.length cp] B [] (fun v B' Ls => B' = B ∧ ∃ l a c, Ls = [l] ∧ v = .slice a xs.length c ∧ ZaP l a c 75 5 (Z1 133 205) xs) := by
  refine Zb 22 Tryz.func154 rfl rfl rfl (Nat.le_of_ble_eq_true rfl) ?_
  have hxn := hx.len
  refine Za (xA (h:=Za (xM (h:=xV Tryz.underlying31 (h:=Zp (Za2 (m := 0) (c := xs.length) (by_ := 88) [.string ⟨#[]⟩, .string ⟨#[]⟩, .slice none 0 0, .int .i64 0, .slice none 0 0] rfl rfl Zu9 Zf9 rfl rfl ⟨_, _, rfl, by first | omega | (simp; done) | (simp; omega)⟩ ⟨_, _, rfl, by first | omega | (simp; done) | (simp; omega)⟩ (by first | omega | (simp; done) | (simp; omega)) (by first | omega | (simp; done) | (simp; omega)) (fun b1 => ?_)))))))
  have hd1 := ZaP.zeros (b := b1) (T := 75) (R := (Z1 133 205)) (d := (⟨[], [], [], 0, []⟩ : DFolder)) (m := 0) (c := xs.length) (zs := [.string ⟨#[]⟩, .string ⟨#[]⟩, .slice none 0 0, .int .i64 0, .slice none 0 0]) rfl (⟨_, _, _, _, [], [], rfl, rfl, ZW.nil, ZW.nil, by simp, by simp, by simp, by simp⟩) (by first | omega | (simp; done) | (simp; omega))
  refine xA (h:=ZB [_] rfl (Ze (Za (xM (h:=xV Tryz.underlying31 (h:=xM (h:=Zl (ZA (α := Gh DFolder) [0, 2, 9, 10] (fun g => [(3, .slice g.a g.xs.length g.c), (11, .int .i64 g.k)]) [0] (fun g => [g.l]) (fun g Bx => Bx = B ∧ g.k ≤ xs.length ∧ g.xs = xs.take g.k ∧ g.xs.length ≤ g.k ∧ ZaP g.l g.a g.c 75 5 (Z1 133 205) g.xs) (fun g => xs.length - g.k) ⟨0, 0, (Z7 b1 (zrow [.string ⟨#[]⟩, .string ⟨#[]⟩, .slice none 0 0, .int .i64 0, .slice none 0 0] xs.length) 75), (some ⟨b1, 0, none⟩), xs.length, []⟩ ⟨rfl, rfl, trivial⟩ rfl (⟨rfl, Nat.zero_le _, by simp, Nat.le_refl _, hd1⟩) (fun g B2 hle2 hI => ?_)))))))))
  obtain ⟨rfl, hk, hxs, hxl, hv⟩ := hI
  refine ZG [(0, _), (2, _), (3, _), (9, _), (10, _), (11, _)] [_] ⟨rfl, rfl, rfl, rfl, rfl, rfl, trivial⟩ rfl (Za (ZI (h:=Ze (Zc rfl (fun g1 => ?_) (fun g1 => ?_)))))
  try simp only [sQ, ne_eq] at g1
  refine Zf (Zd (Ze (Zl (Za ?_))))
  obtain ⟨w, hw⟩ := ZZ (xs := xs) (i := g.k) (by first | omega | (simp; done) | (simp; omega))
  obtain ⟨bb4, oo4, rfl⟩ := hx.base hw
  obtain ⟨_, ⟨qg5, cg5, qm5, cm5, rfl, hg5, hm5, hb5, hb5b⟩, hc5⟩ := hx.elem hw
  have hg5n := hg5.len
  have hm5n := hm5.len
  have hm5s := Zay hm5
  refine xIx Tryz.underlying31 Zcb (h:=yL [_, _, _, _, _] Ziq hc5 0 (h:=xAl [_, _, _, _, _] Zf9 (h:=fun b6 => xS [_, _, _, _, _] 1 [_, _, _, _, _] Zcb (h:=ZB [_, _] rfl (Zg (xM (h:=xL [_, _, _, _, _] Ziq 1 (h:=Zp (ZX rfl rfl Zwc rfl (Zjf _ _ _ _ w _ hg5 hm5) ?_)))))))))
  rintro _ B7 _ hle7 ⟨rfl, l7, a7, c7, l7b, a7b, c7b, rfl, rfl, hs7, hs7b⟩
  refine xBs [(0, _)] [_, _, _, _, _] Tryz.underlying31 Zcb Zf9 (h:=fun b8 => Zp (Zsa (R := (Z1 133 205)) (⟨w.owner, w.name, w.grants, w.next, w.mail⟩) 0 [2, 3] rfl rfl hv rfl rfl rfl Zu9 Zxj rfl rfl (ZbG.box 4 rfl) rfl rfl (l7 ++ l7b) (by simp) (⟨_, _, _, _, _, _, rfl, rfl, (hs7.anyK Z5.any), (hs7b.anyK Z3.any), by first | assumption | omega | (simp; done) | (simp; omega), by first | assumption | omega | (simp; done) | (simp; omega), by first | assumption | omega | (simp; done) | (simp; omega), by first | assumption | omega | (simp; done) | (simp; omega)⟩) (by first | omega | (simp; done) | (simp; omega)) (fun l9 p9 c9 hd9 => ?_)))
  refine xA (h:=ZT (Zd (Zg (xD (h:=xM (h:=?_))))))
  exact ZF ⟨g.k + 1, 0, l9, p9, c9, (g.xs ++ [⟨w.owner, w.name, w.grants, w.next, w.mail⟩])⟩ [0] (by first | omega | (simp only []; omega)) ⟨rfl, by simp only []; omega, by simp only []; rw [ZaF hw, hxs], by simp; omega, hd9⟩ ⟨rfl, rfl, rfl, rfl, rfl, rfl, trivial⟩ rfl
  try simp only [sQ, ne_eq] at g1
  have hxe : g.xs = xs := by rw [hxs]; exact List.take_of_length_le (by omega)
  refine ZH (Z0 (ZJ (Zw (Zd (Za (xM (h:=xA (h:=Zh ?_))))))))
  exact ZaW .ret (.inl rfl) [_] [0] rfl ⟨rfl, trivial⟩ ⟨rfl, _, _, _, rfl, by rw [← hxe]; rfl, hxe ▸ hv⟩

set_option maxHeartbeats 400000 in
theorem Zkk (q1 q2 q3:Option Addr) (c1 c2 c3:Nat) (x:DHost) (B:Kn) (hu:SlK B q1 c1 3 Zm x.users) (hf:SlK B q2 c2 5 Zk x.folders) (hi:SlK B q3 c3 4 Zs x.queue.items):Zx (pj J) 99 [.agg #[str x.domain,.slice q1 x.users.length c1,.slice q2 x.folders.length c2,.int .i64 x.queue.next,.slice q3 x.queue.items.length c3]] B [] (fun v B' Ls=>∃q1 c1 q2 c2 q3 c3 l1 l2 l3,Ls=[l1,l2,l3]∧v = .agg #[str x.domain,.slice q1 x.users.length c1,.slice q2 x.folders.length c2,.int .i64 x.queue.next,.slice q3 x.queue.items.length c3]∧ZW Kn.none l1 q1 c1 123 3 Zm x.users∧ZaP l2 q2 c2 75 5 (Z1 133 205) x.folders∧ZaP l3 q3 c3 126 4 (ZaQ 9) x.queue.items):=by
 refine Zb 16 Tryz.func99 rfl rfl rfl (Nat.le_of_ble_eq_true rfl) ?_
 have hun:=hu.len
 have hfn:=hf.len
 have hin:=hi.len
 refine Za (xBx [_,_,_,_,_] (h:=fun b1=>xAl [_,_,_,_,_] Zcn (h:=fun b2=>ZB [_,_] rfl (Ze (Zaa (keeps _ [0] _) mo kr ⟨Kn.le.refl _,ZbD.refl _ _⟩ (fun _ _=>?_))))))
 refine aW 0 rfl ZhG (h:=aT 1 rfl (Z6 fun D B L hI=>Zr rfl rfl lk9 rfl (atL 0 (hI.2.1.trans rfl) rfl rfl) r4) (h:=aW 3 rfl ZbK (h:=aT 4 rfl (Z6 fun D B L hI=>Zr rfl rfl Zis rfl (atL 0 (hI.2.1.trans rfl) rfl rfl) r4) (h:=aW 6 rfl ZaI (h:=aT 7 rfl (Z6 fun D B L hI=>Zr rfl rfl ZfF rfl (atL 0 (hI.2.1.trans rfl) rfl rfl) r4) (h:=aW 9 rfl ZbE (h:=aT 10 rfl (Z6 fun D B L hI=>Zab [_,_] rfl rfl Zed rfl (ZbH 0 (hI.2.1.trans rfl) rfl rfl) r4) (h:=ZL 2 kr rfl kr (ZK (parts:=[]) [] rfl rfl Tryz.underlying30 Zbe ZdP rfl rfl rfl rfl rfl (fun b3=>?_))))))))))
 refine ⟨⟨Kn.le.refl _,t1⟩,(ZL 5 kr rfl kr (ZbY (R:=Zm) 2 rfl (ZW.lit0 (R:=Zm)) rfl rfl rfl Znr ZnF rfl rfl rfl hu.rows Zm.one rfl om (fun l4 p4 c4 hv4=>?_)))⟩
 refine ⟨⟨Kn.le.refl _,t1⟩,(ZL 8 kr rfl kr (ZX rfl rfl ZwC rfl (ZhE _ _ x.folders _ hf) ?_))⟩
 rintro _ B5 _ hle5 ⟨rfl,l5,a5,c5,rfl,rfl,hs5⟩
 refine ⟨⟨Kn.le.refl _,t1⟩,(ZL 11 kr rfl kr (ZX rfl rfl Zte rfl (Zet _ _ x.queue _ hi) ?_))⟩
 rintro _ B6 _ hle6 ⟨l6,q6,c6,rfl,rfl,hd6⟩
 replace hu:=hu.mono Zm.mono hle6
 replace hf:=hf.mono Zk.mono hle6
 replace hi:=hi.mono Zs.mono hle6
 replace hv4:=hv4.mono Zm.mono hle6
 refine ⟨⟨hle6,t1⟩,(aT 12 rfl (Z6 fun D B L hI=>ZaB (parts:=[(0,_),(1,_),(2,_),(3,_)]) [_,_,_,_,_] [_,_,_,_,_] rfl rfl ZgU Zcn rfl rfl rfl r4) (h:=Zat 13 kr rfl kr kr kr (Z4 [_,_,_,_,_] 1 [_,_,_,_,_] rfl rfl Zde rfl rfl rfl rfl rfl rfl rfl rfl ?_)))⟩
 refine Zd (ZB [_,_,_,_,_] rfl (Zh ?_))
 exact ZaW .ret (.inl rfl) [_] [2,3,4] rfl ⟨⟨_,rfl,.inr ⟨[_,_,_,_,_],ZcA,ZbH 1 rfl rfl rfl,rfl⟩⟩,trivial⟩ ⟨_,_,_,_,_,_,_,_,_,rfl,rfl,hv4.anyK Zm.any,hs5,hd6⟩

set_option maxHeartbeats 400000 in
theorem Zo5 (q1 q2 q3:Option Addr) (c1 c2 c3:Nat) (x:DHost) (ar:Bool) (f:FuncId) (cap:Array Value) (R:DHost) (k:Nat) (hk:k<5) (he:enters Tryz.prog f=true) (hJ:Joins Tryz.prog J) (hd:x.domain.length≤2000000) (a:Nat→Addr) (B:Kn) (hE:ErrsB 321 [0,3,2,1] B a) (hu:SlK B q1 c1 3 Zm x.users) (hf:SlK B q2 c2 5 Zk x.folders) (hi:SlK B q3 c3 4 Zs x.queue.items) (hw:ar=true→Zad x=true→∀(B2:Kn) (b:Nat) (q1 q2 q3:Option Addr) (c1 c2 c3:Nat) (l1 l2 l3:Cells),B.le B2→ZW Kn.none l1 q1 c1 123 3 Zm x.users→ZaP l2 q2 c2 75 5 (Z1 133 205) x.folders→ZaP l3 q3 c3 126 4 (ZaQ 9) x.queue.items→Zx (pj J) f (ptr ⟨b,0,none⟩ :: cap.toList) B2 [Z7 b [str x.domain,.slice q1 x.users.length c1,.slice q2 x.folders.length c2,.int .i64 x.queue.next,.slice q3 x.queue.items.length c3] 36,l1,l2,l3] (fun v B' Ls=>∃q1' c1' q2' c2' q3' c3' l1' l2' l3',Ls=[Z7 b [str R.domain,.slice q1' R.users.length c1',.slice q2' R.folders.length c2',.int .i64 R.queue.next,.slice q3' R.queue.items.length c3'] 36,l1',l2',l3']∧v=errv 321 a (k)∧ZW Kn.none l1' q1' c1' 123 3 Zm R.users∧ZaP l2' q2' c2' 75 5 (Z1 133 205) R.folders∧ZaP l3' q3' c3' 126 4 (ZaQ 9) R.queue.items)):Zx (pj J) 40 [.agg #[str x.domain,.slice q1 x.users.length c1,.slice q2 x.folders.length c2,.int .i64 x.queue.next,.slice q3 x.queue.items.length c3],.bool ar,.func (.func f) #[] cap] B [] (fun v B' Ls=>∃(Y:DHost) (d:Int),∃q1 c1 q2 c2 q3 c3 l1 l2 l3,(Y,d)=(if ar=true∧Zad x=true then (R,(k:Int)) else (Zho,5))∧Ls=[l1,l2,l3]∧v = .tuple #[.agg #[str Y.domain,.slice q1 Y.users.length c1,.slice q2 Y.folders.length c2,.int .i64 Y.queue.next,.slice q3 Y.queue.items.length c3],.int .i64 d]∧ZW Kn.none l1 q1 c1 123 3 Zm Y.users∧ZaP l2 q2 c2 75 5 (Z1 133 205) Y.folders∧ZaP l3 q3 c3 126 4 (ZaQ 9) Y.queue.items):=by
 refine Zb 25 Tryz.func40 rfl rfl rfl (Nat.le_of_ble_eq_true rfl) ?_
 have hun:=hu.len
 have hfn:=hf.len
 have hin:=hi.len
 refine Za ?_
 refine xBx [_,_,_,_,_] (h:=fun b1=>?_)
 refine xAl [_,_,_,_,_] Zcn (h:=fun b2=>?_)
 refine xA (h:=?_)
 refine ZB [_,_] rfl ?_
 refine Ze ?_
 refine Za ?_
 refine xM (h:=?_)
 refine xN (h:=?_)
 refine xM (h:=?_)
 refine Zz (d:=12) rfl (fun g1=>?_) (fun g1=>?_)
 try simp only [sQ,ne_eq] at g1
 refine xP (h:=?_)
 refine xP (h:=?_)
 refine xP (h:=?_)
 refine xT (h:=?_)
 refine ZtO [[],[],[]] rfl ?_
 refine Zc (t:=true) rfl (fun _=>?_) (fun h=>Bool.noConfusion h)
 refine Za ?_
 refine xB [] [_,_,_,_,_] [_,_,_,_,_] ZgU Zcn (h:=?_)
 refine xS [_,_,_,_,_] 1 [_,_,_,_,_] Zde (h:=?_)
 refine xA (h:=?_)
 refine ZB [_,_,_,_,_] rfl ?_
 refine Zh (Zq ?_)
 exact ZaW .ret (.inl rfl) [_,_] [2,3,4] rfl ⟨⟨_,rfl,.inr ⟨[_,_,_,_,_],ZcA,ZbH 1 rfl rfl rfl,rfl⟩⟩,rfl,trivial⟩ ⟨Zho,5,none,0,none,0,none,0,[],[],[],by rw [if_neg (by simp [g1])],rfl,rfl,ZW.nil,ZaP.nil,ZaP.nil⟩
 try simp only [sQ,ne_eq] at g1
 refine xL [_,_,_,_,_] ZcA 0 (h:=?_)
 refine Zp (Zgb rfl rfl ZxL rfl (Zlq hJ _ _ _ _ _ _ x om2 _ hu hf hi) ?_)
 intro vv Bv hlev
 rintro rfl
 replace hu:=hu.mono Zm.mono hlev
 replace hf:=hf.mono Zk.mono hlev
 replace hi:=hi.mono Zs.mono hlev
 replace hE:=hE.mono hlev
 refine xN (h:=?_)
 refine xF (h:=?_)
 refine Zc rfl (fun g2=>?_) (fun g2=>?_)
 try simp only [sQ,ne_eq] at g2
 refine ZtO [[],[],[]] rfl ?_
 refine Za ?_
 refine xB [] [_,_,_,_,_] [_,_,_,_,_] ZgU Zcn (h:=?_)
 refine xS [_,_,_,_,_] 1 [_,_,_,_,_] Zde (h:=?_)
 refine xA (h:=?_)
 refine ZB [_,_,_,_,_] rfl ?_
 refine Zh (Zq ?_)
 exact ZaW .ret (.inl rfl) [_,_] [2,3,4] rfl ⟨⟨_,rfl,.inr ⟨[_,_,_,_,_],ZcA,ZbH 1 rfl rfl rfl,rfl⟩⟩,rfl,trivial⟩ ⟨Zho,5,none,0,none,0,none,0,[],[],[],by rw [if_neg (by simp [g2])],rfl,rfl,ZW.nil,ZaP.nil,ZaP.nil⟩
 try simp only [sQ,ne_eq] at g2
 refine Zf ?_
 refine Zd ?_
 refine Za ?_
 refine xL [_,_,_,_,_] ZcA 0 (h:=?_)
 refine Zp (ZX rfl rfl ZxK rfl (Zkk _ _ _ _ _ _ x _ hu hf hi) ?_)
 rintro _ Bc _ hlec ⟨q1c,c1c,q2c,c2c,q3c,c3c,l1c,l2c,l3c,rfl,rfl,huc,hfc,hic⟩
 replace hu:=hu.mono Zm.mono hlec
 replace hf:=hf.mono Zk.mono hlec
 replace hi:=hi.mono Zs.mono hlec
 replace hE:=hE.mono hlec
 refine xAl [_,_,_,_,_] Zcn (h:=fun b5=>?_)
 refine xS [_,_,_,_,_] 5 [_,_,_,_,_] Zde (h:=?_)
 refine ZB [_,_,_,_,_,_] rfl ?_
 refine Za ?_
 refine xM (h:=?_)
 refine Zp (Zr8 [5,2,3,4] rfl rfl rfl rfl he rfl rfl (hw (by simpa using g1) (by simpa using g2) _ _ _ _ _ _ _ _ _ _ _ (hlev.trans hlec) huc hfc hic) ?_)
 rintro _ B6 _ hle6 ⟨q16,c16,q26,c26,q36,c36,l16,l26,l36,rfl,rfl,hu6,hf6,hi6⟩
 replace hu:=hu.mono Zm.mono hle6
 replace hf:=hf.mono Zk.mono hle6
 replace hi:=hi.mono Zs.mono hle6
 replace huc:=huc.mono Zm.mono hle6
 replace hE:=hE.mono hle6
 refine xA (h:=?_)
 refine ZB [_,_,_,_,_,_] rfl ?_
 refine Ze ?_
 refine Zaa (keeps _ [5] _) mo kr ⟨Kn.le.refl _,ZbD.refl _ _⟩ (fun _ _=>?_)
 refine aT 0 rfl (Z6 fun D B L hI=>Zab [_,_,_,_,_] rfl rfl ZcA rfl (ZbH 5 (hI.2.1.trans rfl) rfl rfl) r4) (h:=?_)
 refine aM 1 rfl (h:=?_)
 refine aT 2 rfl (Z6 fun D B L hI=>Zak rfl rfl Zxa rfl (Zne k om2 a _ (hE.mono hI.1)) r4) (h:=?_)
 refine ZeG 3 kr rfl kr kr (Z4 [_,_,_,_,_] 1 [_,_,_,_,_] rfl rfl Zde rfl rfl rfl rfl rfl rfl rfl rfl ?_)
 refine aA 4 rfl (h:=?_)
 refine ZC kr kr ?_
 refine Zd ?_
 refine ZB [_,_,_,_,_,_] rfl ?_
 refine Zh ?_
 exact ZaW .ret (.inl rfl) [_,_] [2,3,4] rfl ⟨⟨_,rfl,.inr ⟨[_,_,_,_,_],ZcA,ZbH 1 rfl rfl rfl,rfl⟩⟩,rfl,trivial⟩ ⟨R,k,_,_,_,_,_,_,_,_,_,by rw [if_pos ⟨by simpa using g1,by simpa using g2⟩],rfl,rfl,hu6.anyK Zm.any,hf6,hi6⟩

set_option maxHeartbeats 400000 in
theorem Zm6 (b:Nat) (m:DMail) (hm:m.text.length≤2000000) (B:Kn):Zx (pj J) 170 [ptr ⟨b,0,none⟩,.agg #[.int .i64 m.uid,.int .i64 m.flags,str m.text]] B [Z7 b [.pointer none,.pointer none,.int .i64 0] 258] (fun v B' Ls=>B'=B∧∃s,Ls=[s]∧MLst 258 260 b ([] ++ [m]) s):=by
 refine Zb 35 Tryz.func170 rfl rfl rfl (Nat.le_of_ble_eq_true rfl) ?_
 refine Za (xBx [_,_,_] (h:=fun b1=>ZB [_,_] rfl (Za (xL [_,_,_] Zgl 1 (h:=xB [(0,_)] [_,_,_,_] [_,_,_,_] Zt7 Ztv (h:=xBx [_,_,_,_] (h:=fun b2=>xA (h:=ZB [_,_,_] rfl (Ze (Za (xM (h:=xNc (h:=?_)))))))))))))
 refine xW ZhI (h:=x1 ZoN 0 (h:=Zp (Zjy rfl rfl rfl rfl rfl (Zd9 Tryz.underlying256) (Zc rfl (fun g1=>?_) (fun g1=>by cases g1)))))
 try simp only [sQ,ne_eq] at g1
 refine Zg (xM (h:=xM (h:=xNc (h:=xW Zpf (h:=xS [_] 0 [_,_,_] Zqi (h:=Zd (Za (xM (h:=xM (h:=xNc (h:=xW ZhI (h:=xS [_] 0 [_,_,_] Zqi (h:=?_)))))))))))))
 refine ZB [_,_,_] rfl (Zg (xM (h:=xNc (h:=xW ZhH (h:=x1 lk3 0 (h:=xD (h:=xNc (h:=xW ZhH (h:=xS [_] 0 [_,_,_] sz3 (h:=?_))))))))))
 exact Zxr .normal (.inr rfl) [] [0,2] rfl trivial ⟨rfl,_,rfl,MLst.one (bn:=b2) hm (List.Perm.refl _)⟩

set_option maxHeartbeats 400000 in
theorem Zm5 (b bl:Nat) (v0:Value) (x:DMail) (rest:Cells) (xs:List DMail) (m:DMail) (hm:m.text.length≤2000000) (hn:xs.length≤2000000) (B:Kn) (hh:ZhW 260 v0 bl x rest xs):Zx (pj J) 170 [ptr ⟨b,0,none⟩,.agg #[.int .i64 m.uid,.int .i64 m.flags,str m.text]] B [Z7 b [v0,ptr ⟨bl,0,none⟩,.int .i64 xs.length] 258,Z7 bl (ZgO x (.pointer none)) 260,rest] (fun v B' Ls=>B'=B∧∃s,Ls=[s]∧MLst 258 260 b (xs ++ [m]) s):=by
 refine Zb 35 Tryz.func170 rfl rfl rfl (Nat.le_of_ble_eq_true rfl) ?_
 refine Za (xBx [_,_,_] (h:=fun b1=>ZB [_,_,_,_] rfl (Za (xL [_,_,_] Zgl 3 (h:=xB [(0,_)] [_,_,_,_] [_,_,_,_] Zt7 Ztv (h:=xBx [_,_,_,_] (h:=fun b2=>xA (h:=ZB [_,_,_,_,_] rfl (Ze (Za (xM (h:=xNc (h:=?_)))))))))))))
 refine xW ZhI (h:=x1 ZoN 0 (h:=Zp (Zjy rfl rfl rfl rfl rfl (Zd9 Tryz.underlying256) (Zc rfl (fun g1=>by cases g1) (fun g1=>?_)))))
 try simp only [sQ,ne_eq] at g1
 refine Zg (xM (h:=xNc (h:=xW ZhI (h:=x1 ZoN 0 (h:=xM (h:=xNc (h:=xW Zpe (h:=xS [_] 1 [_,_,_,_] Zqi (h:=Zd (Za (xM (h:=xM (h:=?_)))))))))))))
 refine xNc (h:=xW ZhI (h:=xS [_] 0 [_,_,_] Zqi (h:=ZB [_,_,_,_,_] rfl (Zg (xM (h:=xNc (h:=xW ZhH (h:=x1 lk3 0 (h:=xD (h:=xNc (h:=xW ZhH (h:=xS [_] 0 [_,_,_] sz3 (h:=?_)))))))))))))
 exact Zxr .normal (.inr rfl) [] [0,4,2,1] rfl trivial ⟨rfl,_,rfl,MLst.add (bn:=b2) hh hm rfl (List.Perm.refl _)⟩

theorem Zj9 (b:Nat) (xs:List DMail) (m:DMail) (s:Cells) (hm:m.text.length≤2000000) (hn:xs.length≤2000000) (B:Kn) (hs:MLst 258 260 b xs s):Zx (pj J) 170 [ptr ⟨b,0,none⟩,.agg #[.int .i64 m.uid,.int .i64 m.flags,str m.text]] B [s] (fun v B' Ls=>B'=B∧∃s',Ls=[s']∧MLst 258 260 b (xs ++ [m]) s'):=by
 rcases hs with ⟨rfl,hp⟩ | ⟨v0,bl,x,rest,hp,hh⟩
 · exact Zx.perm (by simpa using hp) (Zm6 b m hm B)
 · exact Zx.perm (by simpa using hp) (Zm5 b bl v0 x rest xs m hm hn B hh)

set_option maxHeartbeats 400000 in
theorem Zm4 (q:Option Addr) (cp:Nat) (xs:List DMail) (B:Kn) (hx:SlK B q cp 3 Z3 xs):Zx (pj J) 169 [.slice q xs.length cp] B [] (fun v B' Ls=>∃b s,Ls=[s]∧v=ptr ⟨b,0,none⟩∧MLst 258 260 b xs s):=by
 refine Zb 19 Tryz.func169 rfl rfl rfl (Nat.le_of_ble_eq_true rfl) ?_
 have hxn:=hx.len
 refine Za (xA (h:=Za (xB [] [_,_,_] [_,_,_] ZvG Zvg (h:=xBx [_,_,_] (h:=fun b1=>xA (h:=ZB [_] rfl (Ze (Za (xM (h:=xV Tryz.underlying71 (h:=xM (h:=Zl ?_))))))))))))
 refine ZA (α:=Gh DMail) [0,2,3,8,9] (fun g=>[(10,.int .i64 g.k)]) [0] (fun g=>[g.l]) (fun g Bx=>Bx=B∧g.k≤xs.length∧g.xs=xs.take g.k∧g.xs.length≤g.k∧MLst 258 260 b1 g.xs g.l) (fun g=>xs.length - g.k) ⟨0,0,_,none,0,[]⟩ t1 rfl (⟨rfl,Nat.zero_le _,by simp,Nat.le_refl _,MLst.nil⟩) (fun g B2 hle2 hI=>?_)
 obtain ⟨rfl,hk,hxs,hxl,hv⟩:=hI
 refine ZG [(0,_),(2,_),(3,_),(8,_),(9,_),(10,_)] [_] t6 rfl (Za (ZI (h:=Ze (Zc rfl (fun g1=>?_) (fun g1=>?_)))))
 try simp only [sQ,ne_eq] at g1
 refine Zf (Zd (Ze (Zl (Za ?_))))
 obtain ⟨w,hw⟩:=ZZ (xs:=xs) (i:=g.k) om
 obtain ⟨bb4,oo4,rfl⟩:=hx.base hw
 obtain ⟨_,⟨rfl,hb5⟩,hc5⟩:=hx.elem hw
 refine xIx Tryz.underlying71 Zcx (h:=yL [_,_,_] Zgl hc5 0 (h:=xAl [_,_,_] Zga (h:=fun b6=>xS [_,_,_] 1 [_,_,_] Zcx (h:=ZB [_,_] rfl (Zg (xM (h:=xL [_,_,_] Zgl 1 (h:=Zp (Zaj [0] rfl rfl rfl rfl ZuE rfl (Zj9 _ g.xs w _ om2 om2 _ hv) ?_)))))))))
 rintro _ B7 _ hle7 ⟨rfl,s7,rfl,hs7⟩
 refine ZT (Zd (Zg (xD (h:=xM (h:=?_)))))
 exact ZF ⟨g.k+1,0,s7,none,0,(g.xs ++ [w])⟩ [0] so2 ⟨rfl,so,by simp only [];rw [ZaF hw,hxs],by simp;omega,hs7⟩ t6 rfl
 try simp only [sQ,ne_eq] at g1
 have hxe:g.xs=xs:=by rw [hxs];exact List.take_of_length_le oz
 refine ZH (Z0 (ZJ (Zw (Zd (Za (xM (h:=xA (h:=Zh ?_))))))))
 exact ZaW .ret (.inl rfl) [_] [0] rfl t1 ⟨_,_,rfl,rfl,hxe ▸ hv⟩

set_option maxHeartbeats 400000 in
theorem Zlg (b:Nat) (xs:List DMail) (s:Cells) (hn:xs.length≤2000000) (B:Kn) (hs:MLst 258 260 b xs s):Zx (pj J) 171 [ptr ⟨b,0,none⟩] B [s] (fun v B' Ls=>B'=B∧∃l a c,Ls=[l]∧v = .slice a xs.length c∧ZW Kn.none l a c 205 3 Z3 xs):=by
 refine Zb 28 Tryz.func171 rfl rfl rfl (Nat.le_of_ble_eq_true rfl) ?_
 obtain ⟨p,vl,s0,hp,hl⟩:=hs.chain
 refine Zfh 0 rfl hp (ZB [_,_] rfl (Za (xA (h:=Za (xM (h:=xNc (h:=xW ZhH (h:=x1 lk3 0 (h:=Zp (Za2 (m:=0) (c:=xs.length) (by_:=32) [.int .i64 0,.int .i64 0,.string ⟨#[]⟩] rfl rfl Ztr Zga rfl rfl ⟨_,_,rfl,by first | omega | (simp;done) | (simp;omega)⟩ ⟨_,_,rfl,by first | omega | (simp;done) | (simp;omega)⟩ om om (fun b1=>?_)))))))))))
 have hv1:=ZW.zeros (B:=Kn.none) (b:=b1) (T:=205) (R:=Z3) (d:=(⟨0,0,[]⟩:DMail)) (m:=0) (c:=xs.length) (zs:=[.int .i64 0,.int .i64 0,.string ⟨#[]⟩]) rfl (⟨rfl,by simp⟩) om
 refine xA (h:=ZB [_,_,_] rfl (Ze (Za (xM (h:=xNc (h:=xW Zpf (h:=x1 ZoN 0 (h:=xA (h:=Zl (ZA (α:=MOf) [0,2] (fun g=>[(3,.slice g.q g.ys.length g.c),(4,.pointer g.p)]) [1,2] (fun g=>[g.cells,g.l]) (fun g Bx=>Bx=B∧g.ys ++ g.xs=xs∧ZgQ 260 (.pointer g.p) g.xs g.cells∧ZW Kn.none g.l g.q g.c 205 3 Z3 g.ys) (fun g=>g.xs.length) ⟨p,[],xs,_,_,_,_⟩ t2 rfl (⟨rfl,rfl,hl,hv1⟩) (fun g B2 hle2 hI=>?_)))))))))))
 obtain ⟨rfl,hxs,hl,hv⟩:=hI
 refine ZG [(0,_),(2,_),(3,_),(4,_)] [_,_,_] t4 rfl (Ze (Za (xM (h:=Zp (ZnR rfl rfl rfl rfl rfl (Zd9 Tryz.underlying256) (Zc rfl (fun g1=>?_) (fun g1=>?_)))))))
 try simp only [sQ,ne_eq] at g1
 obtain ⟨y,ys,b8,np,rest8,hp8,hrest,hperm,hy8,hl8⟩:=hl.more (by simpa using g1)
 rw [hp8]
 have hlen:=congrArg List.length hxs
 rw [List.length_append,hrest,List.length_cons] at hlen
 replace hlen:g.ys.length+1≤2000000:=by omega
 refine Zfh 1 rfl hperm (ZB [_,_,_,_] rfl (Zf (Zd (Ze (Zl (Zg (xM (h:=xM (h:=xNc (h:=xW ZsT (h:=xL [_,_,_] Zgl 1 (h:=xBs [(0,_)] [_,_,_] Tryz.underlying71 Zcx Zga (h:=fun b3=>?_)))))))))))))
 refine Zp (ZfK (z:=⟨y.uid,y.flags,y.text⟩) (R:=Z3) 2 rfl hv rfl rfl rfl Ztr Zu5 rfl rfl (ZbG.box 4 rfl) rfl rfl (⟨rfl,by first | assumption | omega | (simp;done) | (simp;omega)⟩) om (fun l4 p4 c4 hv4=>?_))
 refine xA (h:=ZT (Zd (Zg (xM (h:=xNc (h:=xW Zpe (h:=x1 ZoN 1 (h:=xA (h:=?_)))))))))
 exact ZF ⟨np,g.ys ++ [y],ys,l4,p4,c4,rest8⟩ [0,3,2] (by rw [hrest];simp) ⟨rfl,by rw [← hxs,hrest];simp,hl8,hv4⟩ t4 rfl
 try simp only [sQ,ne_eq] at g1
 rw [hl.done (by simpa using g1),List.append_nil] at hxs
 subst hxs
 refine ZH (Z0 (ZJ (Zw (Zd (Za (xM (h:=xA (h:=Zh ?_))))))))
 exact ZaW .ret (.inl rfl) [_] [2] rfl t1 ⟨rfl,_,_,_,rfl,rfl,hv⟩

set_option maxHeartbeats 400000 in
theorem ZpP (q:Option Addr) (cp:Nat) (x:DBox) (fl:Int) (t:Str) (hb:ZdL x=true) (hfl:Zjg fl=true) (ht:t.length≤20) (B:Kn) (hm:SlK B q cp 3 Z3 x.mail):Zx (pj J) 122 [.agg #[.int .i64 x.next,.slice q x.mail.length cp],.int .i64 fl,str t] B [] (fun v B' Ls=>∃l a c,Ls=[l]∧v = .tuple #[.agg #[.int .i64 (Zfd x fl t).1.next,.slice a (Zfd x fl t).1.mail.length c],.bool (Zfd x fl t).2]∧ZW Kn.none l a c 205 3 Z3 (Zfd x fl t).1.mail):=by
 refine Zb 50 Tryz.func122 rfl rfl rfl (Nat.le_of_ble_eq_true rfl) ?_
 have hxn:=hm.len
 have hbn:=ZeW hb
 have hfl2:0≤fl∧fl≤31:=by simpa [Zjg] using hfl
 refine Za (xBx [_,_] (h:=fun b1=>xAl [_,_] ZnI (h:=fun b2=>xA (h:=ZB [_,_] rfl (Ze (Za (xL [_,_] Zfs 0 (h:=xR Ztb rfl (Zhy _ _ (⟨x.next,x.mail⟩:DBox) _ hm) (h:=xN (h:=xM (h:=Zz (d:=12) rfl (fun g1=>by simp [hb] at g1) (fun g1=>?_))))))))))))
 try simp only [sQ,ne_eq] at g1
 refine xM (h:=xR Zxu rfl (Zhx _ _) (h:=xN (h:=xF (h:=xM (h:=Zz (d:=17) rfl (fun g2=>by first | (simp [hfl2] at g2;done) | (simp at g2;omega)) (fun g2=>?_))))))
 try simp only [sQ,ne_eq] at g2
 refine xM (h:=xVs Tryz.underlying9 (h:=Zdb (h:=xF (h:=Zc rfl (fun g3=>by first | omega | (simp at g3;omega)) (fun g3=>?_)))))
 try simp only [sQ,ne_eq] at g3
 refine Zf (Zd (Ze (Za (xW Zbu (h:=x1 Zir 0 (h:=xV Tryz.underlying71 (h:=Zh3 (h:=xM (h:=Zz (d:=27) rfl (fun g4=>?_) (fun g4=>?_))))))))))
 try simp only [sQ,ne_eq] at g4
 refine xP (h:=xP (h:=xP (h:=xT (h:=Zc (t:=true) rfl (fun _=>Za (xL [_,_] Zfs 0 (h:=Zp (ZX rfl rfl Zta rfl (Zgu _ _ (⟨x.next,x.mail⟩:DBox) _ hm) ?_)))) (fun h=>Bool.noConfusion h)))))
 rintro _ B5 _ hle5 ⟨rfl,l5,a5,c5,rfl,rfl,hs5⟩
 refine xS [_,_] 1 [_,_] ZjO (h:=xA (h:=ZB [_,_,_] rfl (Zh (Zq ?_))))
 have hae:=Zf7 (fl:=fl) (t:=t) (b:=x) (.inl oz)
 exact ZaW .ret (.inl rfl) [_,_] [2] rfl ⟨⟨_,rfl,.inr ⟨[_,_],Zfs,ZbH 1 rfl rfl rfl,rfl⟩⟩,rfl,trivial⟩ (by rw [hae];exact ⟨_,_,_,rfl,rfl,hs5.anyK Z3.any⟩)
 try simp only [sQ,ne_eq] at g4
 refine xW ZcG (h:=x1 lk3 0 (h:=Zdb (h:=xF (h:=Zc rfl (fun g5=>?_) (fun g5=>?_)))))
 try simp only [sQ,ne_eq] at g5
 refine Za (xL [_,_] Zfs 0 (h:=Zp (ZX rfl rfl Zta rfl (Zgu _ _ (⟨x.next,x.mail⟩:DBox) _ hm) ?_)))
 rintro _ B6 _ hle6 ⟨rfl,l6,a6,c6,rfl,rfl,hs6⟩
 refine xS [_,_] 1 [_,_] ZjO (h:=xA (h:=ZB [_,_,_] rfl (Zh (Zq ?_))))
 have hae:=Zf7 (fl:=fl) (t:=t) (b:=x) (.inr oz)
 exact ZaW .ret (.inl rfl) [_,_] [2] rfl ⟨⟨_,rfl,.inr ⟨[_,_],Zfs,ZbH 1 rfl rfl rfl,rfl⟩⟩,rfl,trivial⟩ (by rw [hae];exact ⟨_,_,_,rfl,rfl,hs6.anyK Z3.any⟩)
 try simp only [sQ,ne_eq] at g5
 refine Zf (Zd (Za (xW Zbu (h:=x1 Zir 0 (h:=Zp (ZX rfl rfl Zws rfl (Zm4 _ _ x.mail _ hm) ?_))))))
 rintro _ B7 _ hle7 ⟨b7,s7,rfl,rfl,hs7⟩
 replace hm:=hm.mono Z3.mono hle7
 refine xA (h:=ZB [_,_,_] rfl (Za (xM (h:=xW ZcG (h:=x1 lk3 0 (h:=xM (h:=xM (h:=xB [(0,_),(1,_),(2,_)] [_,_,_] [_,_,_] Zt8 Zga (h:=Zp (Zaj [2] rfl rfl rfl rfl ZuE rfl (Zj9 _ x.mail (⟨x.next,fl,t⟩:DMail) _ om2 om2 _ hs7) ?_))))))))))
 rintro _ B8 _ hle8 ⟨rfl,s8,rfl,hs8⟩
 refine ZB [_,_,_] rfl (Ze (Zaa (keeps _ [0] _) mo kr ⟨Kn.le.refl _,ZbD.refl _ _⟩ (fun _ _=>?_)))
 refine aW 0 rfl ZcG (h:=aT 1 rfl (Z6 fun D B L hI=>Zr rfl rfl lk3 rfl (atL 0 (hI.2.1.trans rfl) rfl rfl) r4) (h:=aD 2 rfl (h:=aM 3 rfl (h:=ZL 4 kr rfl kr (Zaj [2] rfl rfl rfl rfl Zwr rfl (Zlg _ (x.mail ++ [(⟨x.next,fl,t⟩:DMail)]) _ om2 _ hs8) ?_)))))
 rintro _ B9 _ hle9 ⟨rfl,l9,a9,c9,rfl,rfl,hv9⟩
 refine ⟨⟨Kn.le.refl _,t1⟩,(aT 5 rfl (Z6 fun D B L hI=>ZaB (parts:=[(0,_),(1,_)]) [_,_] [_,_] rfl rfl Zxk ZnI rfl rfl rfl r4) (h:=ZeG 6 kr rfl kr kr (Z4 [_,_] 1 [_,_] rfl rfl ZjO rfl rfl rfl rfl rfl rfl rfl rfl ?_)))⟩
 refine aA 7 rfl (h:=ZC kr kr ?_)
 refine Zd (ZB [_,_,_] rfl (Zh ?_))
 have hae:=ZpT (fl:=fl) (t:=t) (b:=x) oz
 exact ZaW .ret (.inl rfl) [_,_] [2] rfl ⟨⟨_,rfl,.inr ⟨[_,_],Zfs,ZbH 1 rfl rfl rfl,rfl⟩⟩,rfl,trivial⟩ (by rw [hae];exact ⟨_,_,_,rfl,rfl,hv9.anyK Z3.any⟩)

set_option maxHeartbeats 400000 in
theorem Zny (b:Nat) (q1 q2 q3:Option Addr) (c1 c2 c3:Nat) (x:DHost) (l1 l2 l3:Cells) (k:Nat) (f:DFolder) (fl:Int) (t:Str) (hfx:x.folders[k]? = some f) (hn1:x.users.length≤2000000) (hn2:x.folders.length≤2000000) (hok:Zad x=true) (hfl:Zjg fl=true) (ht:t.length≤20) (a:Nat→Addr) (B:Kn) (hE:ErrsB 321 [0,3,2,1] B a) (hu:ZW Kn.none l1 q1 c1 123 3 Zm x.users) (hf:ZaP l2 q2 c2 75 5 (Z1 133 205) x.folders) (hi:ZaP l3 q3 c3 126 4 (ZaQ 9) x.queue.items):Zx (pj J) 69 [ptr ⟨b,0,none⟩,.int .i64 k,.int .i64 fl,str t] B [Z7 b [str x.domain,.slice q1 x.users.length c1,.slice q2 x.folders.length c2,.int .i64 x.queue.next,.slice q3 x.queue.items.length c3] 36,l1,l2,l3] (fun v B' Ls=>∃q1' c1' q2' c2' q3' c3' l1' l2' l3',Ls=[Z7 b [str (Zaf x k fl t).1.domain,.slice q1' (Zaf x k fl t).1.users.length c1',.slice q2' (Zaf x k fl t).1.folders.length c2',.int .i64 (Zaf x k fl t).1.queue.next,.slice q3' (Zaf x k fl t).1.queue.items.length c3'] 36,l1',l2',l3']∧v=errv 321 a (Ze9 x k fl t)∧ZW Kn.none l1' q1' c1' 123 3 Zm (Zaf x k fl t).1.users∧ZaP l2' q2' c2' 75 5 (Z1 133 205) (Zaf x k fl t).1.folders∧ZaP l3' q3' c3' 126 4 (ZaQ 9) (Zaf x k fl t).1.queue.items):=by
 refine Zb 44 Tryz.func69 rfl rfl rfl (Nat.le_of_ble_eq_true rfl) ?_
 have hfk:=(List.getElem?_eq_some_iff.1 hfx).1
 have hbo:ZdL (⟨f.next,f.mail⟩:DBox)=true:=Zgq (ZeB hok hfx)
 have hol:=Zov hok (List.mem_of_getElem? hfx)
 have hbn:f.mail.length≤10:=(ZeW hbo).2.2
 have hml:(f.withBox (Zfd f.box fl t).1).mail.length≤2000000:=Nat.le_trans (Zjq f.box fl t) (by show f.mail.length+1≤_;omega)
 have hql:=Zdg (Zdk hok)
 obtain ⟨bq,_,_,lre,hpq,⟨qg,cg,qm,cm,ia,ib,rfl,rfl,hg,hm,ho,hn,hx,hy⟩,hwq,hqq,hcl,hcr,hkk⟩:=hf.cellA hfx
 refine Za (xA (h:=Za (xM (h:=xNc (h:=xW ZaI (h:=x1 ZfF 0 (h:=xM (h:=Zp (ZmF hpq rfl rfl Tryz.underlying31 Zcb rfl rfl oz oz ?_)))))))))
 refine xA (h:=Ze (Za (xM (h:=xM (h:=xNc (h:=xW Zca (h:=Zp (Zr rfl rfl lk9 rfl (hcl _ _ 2 rfl 0 _ rfl) (xM (h:=xVs Tryz.underlying9 (h:=Zp (Ze6 [0,1,2,3] rfl rfl rfl rfl rfl ZuL rfl (Zag.borrowL fun hm1=>Zku _ _ _ _ _ _ _ _ x f.owner ↑t.length om2 om2 om2 _ (Zve 0 rfl hm1) (hu.lendK Zm.any 1 rfl hm1 om) (hf.lendK Z1.known Zk.mono 2 rfl hm1 om)) ?_))))))))))))
 refine Zc rfl (fun g1=>?_) (fun g1=>?_)
 try simp only [sQ,ne_eq] at g1
 refine Za (Zp (Zr rfl rfl ZnH rfl ((hE.row 2 (by decide)) _ 0 _ rfl) ?_))
 refine xA (h:=Zh (Zq ?_))
 obtain ⟨e1,e2⟩:=Zot (fl:=fl) hok hfx g1
 exact ZaW .ret (.inl rfl) [_] [0,1,2,3] rfl t1 (by rw [e1,e2];exact ⟨_,_,_,_,_,_,_,_,_,rfl,rfl,hu,hf,hi⟩)
 try simp only [sQ,ne_eq] at g1
 refine Zfh 2 rfl (Zou hqq) (Zf (Zd (Za (xM (h:=xNc (h:=xW Zb9 (h:=Zp (Zab [_,_] rfl rfl Zfs rfl (ZxE (hcr _ _ 2 rfl) 3 rfl rfl) (xM (h:=xM (h:=Zp (Zaj [5] rfl rfl rfl rfl ZwV rfl (Zx.borrow fun hm2=>ZpP _ _ (⟨f.next,f.mail⟩:DBox) fl t (oy) (oy) (oy) _ ((hm.anyK Z3.any).lend Z3.mono hm2 om)) ?_))))))))))))
 rintro _ B2 _ hle2 ⟨BB2,_,rfl,hB2,_,hm2,_,l2,a2,c2,rfl,rfl,hs2⟩
 replace hu:=hu.mono Zm.mono hle2
 replace hg:=hg.mono Z5.mono hle2
 replace hm:=hm.mono Z3.mono hle2
 replace hE:=hE.mono hle2
 refine xM (h:=xE (h:=xE (h:=xAl [_,_] ZnI (h:=fun b3=>xS [_,_] 7 [_,_] ZjO (h:=xA (h:=ZB [_,_,_,_,_,_,_,_] rfl (Zfj 2 5 rfl rfl (by decide) ?_)))))))
 refine Zfj 2 4 rfl rfl (by decide) ?_
 have hf9:=hkk f _ ⟨qg,cg,qm,cm,_,_,rfl,rfl,hg,hm,ho,hn,hx,hy⟩
 rw [List.append_assoc,Zt6 hfx] at hf9
 refine Ze (Za (xM (h:=xN (h:=ZB [_,_,_,_,_,_,_,_] rfl (Zc rfl (fun g2=>?_) (fun g2=>?_))))))
 try simp only [sQ,ne_eq] at g2
 refine Za (Zp (Zr rfl rfl ZnH rfl ((hE.row 3 (by decide)) _ 0 _ rfl) ?_))
 refine xA (h:=Zh (Zq ?_))
 obtain ⟨e1,e2⟩:=Zqq hok hfx (by simpa using g1) (by simpa [DFolder.box] using g2)
 exact ZaW .ret (.inl rfl) [_] [0,1,2,3] rfl t1 (by rw [e1,e2];exact ⟨_,_,_,_,_,_,_,_,_,rfl,rfl,hu,hf9,hi⟩)
 try simp only [sQ,ne_eq] at g2
 refine Zf (Zd (Za (xM (h:=xL [_,_] Zfs 7 (h:=xNc (h:=xW Zb9 (h:=Zp (Zty (R:=(Z1 133 205)) (x0:=f) (f.withBox (Zfd f.box fl t).1) (us:=[_,_]) (sz:=5) (k:=k) 3 2 [6] rfl rfl hf9 hpq hfx rfl rfl ZjO rfl rfl rfl rfl (Nat.le_of_ble_eq_true rfl) (by rintro _ _ ⟨_,_,_,_,_,_,rfl,rfl,k1,k2,k3,k4,k5,k6⟩;exact ⟨_,_,⟨_,_,_,_,_,_,rfl,rfl,k1,hs2,k3,k4,k5,hml⟩,by simpa [List.append_assoc] using List.Perm.append_left _ List.perm_append_comm⟩) (fun l4 hd4=>?_)))))))))
 refine ZB [_,_,_,_,_,_,_,_] rfl (Za (xA (h:=Zh ?_)))
 obtain ⟨e1,e2⟩:=Zqr hok hfx (by simpa using g1) (by simpa [DFolder.box] using g2)
 exact ZaW .ret (.inl rfl) [_] [0,1,2,3] rfl t1 (by rw [e1,e2];simp only [DHost.withFolders,List.length_set];exact ⟨_,_,_,_,_,_,_,_,_,rfl,rfl,hu,hd4,hi⟩)

theorem ZfD (b:Nat) (q1 q2 q3:Option Addr) (c1 c2 c3:Nat) (x:DHost) (l1 l2 l3:Cells) (i:Int) (k:Nat) (hik:i=(k:Int)) (f:DFolder) (fl:Int) (t:Str) (hfx:x.folders[k]? = some f) (hn1:x.users.length≤2000000) (hn2:x.folders.length≤2000000) (hok:Zad x=true) (hfl:Zjg fl=true) (ht:t.length≤20) (a:Nat→Addr) (B:Kn) (hE:ErrsB 321 [0,3,2,1] B a) (hu:ZW Kn.none l1 q1 c1 123 3 Zm x.users) (hf:ZaP l2 q2 c2 75 5 (Z1 133 205) x.folders) (hi:ZaP l3 q3 c3 126 4 (ZaQ 9) x.queue.items):Zx (pj J) 69 [ptr ⟨b,0,none⟩,.int .i64 i,.int .i64 fl,str t] B [Z7 b [str x.domain,.slice q1 x.users.length c1,.slice q2 x.folders.length c2,.int .i64 x.queue.next,.slice q3 x.queue.items.length c3] 36,l1,l2,l3] (fun v B' Ls=>∃q1' c1' q2' c2' q3' c3' l1' l2' l3',Ls=[Z7 b [str (Zaf x k fl t).1.domain,.slice q1' (Zaf x k fl t).1.users.length c1',.slice q2' (Zaf x k fl t).1.folders.length c2',.int .i64 (Zaf x k fl t).1.queue.next,.slice q3' (Zaf x k fl t).1.queue.items.length c3'] 36,l1',l2',l3']∧v=errv 321 a (Ze9 x k fl t)∧ZW Kn.none l1' q1' c1' 123 3 Zm (Zaf x k fl t).1.users∧ZaP l2' q2' c2' 75 5 (Z1 133 205) (Zaf x k fl t).1.folders∧ZaP l3' q3' c3' 126 4 (ZaQ 9) (Zaf x k fl t).1.queue.items):=by
 subst hik
 exact Zny b q1 q2 q3 c1 c2 c3 x l1 l2 l3 k f fl t hfx hn1 hn2 hok hfl ht a B hE hu hf hi

set_option maxHeartbeats 400000 in
theorem ZuQ (b1 b2:Nat) (id:Int) (u:Str) (b:Nat) (q1 q2 q3:Option Addr) (c1 c2 c3:Nat) (x:DHost) (l1 l2 l3:Cells) (hul:u.length≤2000000) (hn1:x.users.length≤2000000) (hn2:x.folders.length≤2000000) (hok:Zad x=true) (a:Nat→Addr) (B:Kn) (hE:ErrsB 321 [0,3,2,1] B a) (hc1:ZaK B b1 0 [.int .i64 id]) (hc2:ZaK B b2 0 [str u]) (hu:ZW Kn.none l1 q1 c1 123 3 Zm x.users) (hf:ZaP l2 q2 c2 75 5 (Z1 133 205) x.folders) (hi:ZaP l3 q3 c3 126 4 (ZaQ 9) x.queue.items):Zx (pj J) 79 [ptr ⟨b,0,none⟩,ptr ⟨b1,0,none⟩,ptr ⟨b2,0,none⟩] B [Z7 b [str x.domain,.slice q1 x.users.length c1,.slice q2 x.folders.length c2,.int .i64 x.queue.next,.slice q3 x.queue.items.length c3] 36,l1,l2,l3] (fun v B' Ls=>∃q1' c1' q2' c2' q3' c3' l1' l2' l3',Ls=[Z7 b [str (Zjs x id u).domain,.slice q1' (Zjs x id u).users.length c1',.slice q2' (Zjs x id u).folders.length c2',.int .i64 (Zjs x id u).queue.next,.slice q3' (Zjs x id u).queue.items.length c3'] 36,l1',l2',l3']∧v=errv 321 a (Zkx x id u)∧ZW Kn.none l1' q1' c1' 123 3 Zm (Zjs x id u).users∧ZaP l2' q2' c2' 75 5 (Z1 133 205) (Zjs x id u).folders∧ZaP l3' q3' c3' 126 4 (ZaQ 9) (Zjs x id u).queue.items):=by
 refine Zb 41 Tryz.func79 rfl rfl rfl (Nat.le_of_ble_eq_true rfl) ?_
 have hix:=Zo3 (inF u inbox) x.folders
 have hql:=Zdg (Zdk hok)
 have htl:(Zas x.queue id u).2.1.length≤20:=by rw [ZfS (Zdk hok)];exact ZgL hok
 refine Za (xA (h:=Ze (Zaa (keeps _ [] _) mo kr ⟨Kn.le.refl _,ZbD.refl _ _⟩ (fun _ _=>?_))))
 refine aM 0 rfl (h:=aNc 1 rfl (h:=aW 2 rfl ZbE (h:=aT 4 rfl (Z6 fun D B L hI=>Zr rfl rfl lk3 rfl ((hc1.mono hI.1) _ 0 _ rfl) r4) (h:=aT 5 rfl (Z6 fun D B L hI=>Zr rfl rfl lk9 rfl ((hc2.mono hI.1) _ 0 _ rfl) r4) (h:=Za6 [3,11] kr kr kr ⟨?_,?_⟩)))))
 refine (Zab [_,_] rfl rfl Zed rfl (ZbH 0 rfl rfl rfl) (⟨⟨Kn.le.refl _,trivial⟩,(Za6 [6,11] kr kr kr ⟨?_,?_⟩)⟩))
 refine (Zaj [3] rfl rfl rfl rfl ZvT rfl (Zx.borrowK 1 fun hm1=>Zgo _ _ x.queue id u _ (hi.lendK ZaQ.known Zs.mono 0 rfl hm1 om)) ?_)
 rintro _ B1 _ hle1 ⟨BB1,_,rfl,hB1,_,hm1,_,lx1,ax1,cx1,rfl,rfl,hd1,ht1⟩
 replace hc1:=hc1.mono hle1
 replace hc2:=hc2.mono hle1
 replace hu:=hu.mono Zm.mono hle1
 replace hE:=hE.mono hle1
 refine ⟨⟨hle1,trivial⟩,(aM 7 rfl (h:=aE 8 rfl (h:=aE 9 rfl (h:=aE 10 rfl (h:=ZL 11 kr rfl kr (ZaY (l:=[_,_]) rfl rfl Zjr rfl (fun b2=>?_)))))))⟩
 refine ⟨⟨hle1,trivial⟩,(ZeG 12 kr rfl kr kr (Z4 [_,_] 5 [_,_] rfl rfl ZgF rfl rfl rfl rfl rfl rfl rfl rfl ?_))⟩
 refine aA 13 rfl (h:=aA 14 rfl (h:=ZC kr kr ?_))
 refine Zd (ZB [_,_,_,_,_,_] rfl (Ze (Za (xM (h:=xN (h:=Zc rfl (fun g1=>?_) (fun g1=>?_)))))))
 try simp only [sQ,ne_eq] at g1
 refine Za (Zp (Zr rfl rfl ZnH rfl ((hE.row 0 (by decide)) _ 0 _ rfl) ?_))
 refine xA (h:=Zh (Zq ?_))
 obtain ⟨e1,e2⟩:=Zjl (x:=x) (id:=id) (u:=u) (by simpa using g1)
 exact ZaW .ret (.inl rfl) [_] [0,1,2,3] rfl t1 (by rw [e1,e2];exact ⟨_,_,_,_,_,_,_,_,_,rfl,rfl,hu.anyK Zm.any,hf,hi⟩)
 try simp only [sQ,ne_eq] at g1
 have hqt:(Zas x.queue id u).2.2=true:=by simpa using g1
 have hk0:0≤Zb4 (inF u inbox) x.folders:=ZeU hok (by rw [← ZfS (Zdk hok)];exact hqt)
 obtain ⟨k,hke⟩ :∃k:Nat,Zb4 (inF u inbox) x.folders=(k:Int):=⟨_,(Int.toNat_of_nonneg hk0).symm⟩
 obtain ⟨f,hfx⟩:=ZZ (xs:=x.folders) (i:=k) oz
 have hpv:=Zhk x k 0 (Zas x.queue id u).2.1
 refine Zf (Zd (Za (xM (h:=xM (h:=y1 lk9 hc2 0 (h:=Zp (Ze6 [0,1,2,3] rfl rfl rfl rfl rfl Zva rfl (Zag.borrowL fun hm3=>Zms _ _ _ _ _ _ _ _ x u [105,110,98,111,120] om2 om2 _ (Zve 0 rfl hm3) (hf.lendK Z1.known Zk.mono 2 rfl hm3 om)) ?_)))))))
 refine xM (h:=Zp (Zaj [0,1,2,3] rfl rfl rfl rfl ZvU rfl (ZfD b q1 q2 q3 c1 c2 c3 x l1 l2 l3 _ k hke f 0 (Zas x.queue id u).2.1 hfx hn1 hn2 hok (by decide) htl a _ hE (hu.anyK Zm.any) hf hi) ?_))
 rintro _ B4 _ hle4 ⟨q14,c14,q24,c24,q34,c34,l14,l24,l34,rfl,rfl,hu4,hf4,hi4⟩
 replace hc1:=hc1.mono hle4
 replace hc2:=hc2.mono hle4
 replace hu:=hu.mono Zm.mono hle4
 replace hE:=hE.mono hle4
 refine xA (h:=ZB [_,_,_,_,_,_] rfl (Ze (Za (xM (h:=Zp (Zg5 (tE:=321) (a:=a) (c:=(Ze9 x k 0 (Zas x.queue id u).2.1)) rfl rfl Tryz.underlying82 rfl (xM (h:=Zz (d:=31) rfl (fun g2=>?_) (fun g2=>?_)))))))))
 try simp only [sQ,ne_eq] at g2
 refine xP (h:=xP (h:=xP (h:=xT (h:=Zc (t:=true) rfl (fun _=>Zg (xM (h:=xL [_,_] Zed 5 (h:=xNc (h:=xW ZbE (h:=xS [_,_] 0 [_,_,_,_,_] ZgF (h:=Zd (Za ?_)))))))) (fun h=>Bool.noConfusion h)))))
 refine xM (h:=xA (h:=ZB [_,_,_,_,_,_] rfl (Zh ?_)))
 obtain ⟨e1,e2⟩:=ZeV hqt hke oz
 exact ZaW .ret (.inl rfl) [_] [0,1,2,4] rfl t1 (by rw [e1,e2];exact ⟨_,_,_,_,_,_,_,_,_,rfl,rfl,hu4.anyK Zm.any,hf4,hd1⟩)
 try simp only [sQ,ne_eq] at g2
 refine xM (h:=Zp (Zr rfl rfl ZnH rfl ((hE.row 2 (by decide)) _ 0 _ rfl) ?_))
 refine xR Zs8 rfl (ZhL (Ze9 x k 0 (Zas x.queue id u).2.1) 2 om2 om2 a _ hE) (h:=?_)
 refine xF (h:=Zc rfl (fun g3=>?_) (fun g3=>?_))
 try simp only [sQ,ne_eq] at g3
 refine Zg (xM (h:=xL [_,_] Zed 5 (h:=xNc (h:=xW ZbE (h:=xS [_,_] 0 [_,_,_,_,_] ZgF (h:=Zd (Za (xM (h:=xA (h:=ZB [_,_,_,_,_,_] rfl (Zh ?_)))))))))))
 obtain ⟨e1,e2⟩:=ZeV hqt hke oz
 exact ZaW .ret (.inl rfl) [_] [0,1,2,4] rfl t1 (by rw [e1,e2];exact ⟨_,_,_,_,_,_,_,_,_,rfl,rfl,hu4.anyK Zm.any,hf4,hd1⟩)
 try simp only [sQ,ne_eq] at g3
 refine Zf (Zd (Za (xM (h:=xA (h:=Zh ?_)))))
 obtain ⟨e1,e2⟩:=Zjm hqt hke oz
 exact ZaW .ret (.inl rfl) [_] [0,1,2,3] rfl t1 (by rw [e1,e2];exact ⟨_,_,_,_,_,_,_,_,_,rfl,rfl,hu4.anyK Zm.any,hf4,hi4⟩)
 refine (ZaY (l:=[_,_]) rfl rfl Zjr rfl (fun b6=>⟨⟨Kn.le.refl _,trivial⟩,(ZL 6 kr rfl kr (Zaj [3] rfl rfl rfl rfl ZvT rfl (Zx.borrowK 1 fun hm7=>Zgo _ _ x.queue id u _ (hi.lendK ZaQ.known Zs.mono 0 rfl hm7 om)) ?_))⟩))
 rintro _ B7 _ hle7 ⟨BB7,_,rfl,hB7,_,hm7,_,lx7,ax7,cx7,rfl,rfl,hd7,ht7⟩
 replace hc1:=hc1.mono hle7
 replace hc2:=hc2.mono hle7
 replace hu:=hu.mono Zm.mono hle7
 replace hE:=hE.mono hle7
 refine ⟨⟨hle7,trivial⟩,(aM 7 rfl (h:=aE 8 rfl (h:=aE 9 rfl (h:=aE 10 rfl (h:=ZeG 12 kr rfl kr kr (Z4 [_,_] 4 [_,_] rfl rfl ZgF rfl rfl rfl rfl rfl rfl rfl rfl ?_))))))⟩
 refine aA 13 rfl (h:=aA 14 rfl (h:=ZC kr kr ?_))
 refine Zd (ZB [_,_,_,_,_,_] rfl (Ze (Za (xM (h:=xN (h:=Zc rfl (fun g1=>?_) (fun g1=>?_)))))))
 try simp only [sQ,ne_eq] at g1
 refine Za (Zp (Zr rfl rfl ZnH rfl ((hE.row 0 (by decide)) _ 0 _ rfl) ?_))
 refine xA (h:=Zh (Zq ?_))
 obtain ⟨e1,e2⟩:=Zjl (x:=x) (id:=id) (u:=u) (by simpa using g1)
 exact ZaW .ret (.inl rfl) [_] [0,1,2,3] rfl t1 (by rw [e1,e2];exact ⟨_,_,_,_,_,_,_,_,_,rfl,rfl,hu.anyK Zm.any,hf,hi⟩)
 try simp only [sQ,ne_eq] at g1
 have hqt:(Zas x.queue id u).2.2=true:=by simpa using g1
 have hk0:0≤Zb4 (inF u inbox) x.folders:=ZeU hok (by rw [← ZfS (Zdk hok)];exact hqt)
 obtain ⟨k,hke⟩ :∃k:Nat,Zb4 (inF u inbox) x.folders=(k:Int):=⟨_,(Int.toNat_of_nonneg hk0).symm⟩
 obtain ⟨f,hfx⟩:=ZZ (xs:=x.folders) (i:=k) oz
 have hpv:=Zhk x k 0 (Zas x.queue id u).2.1
 refine Zf (Zd (Za (xM (h:=xM (h:=y1 lk9 hc2 0 (h:=Zp (Ze6 [0,1,2,3] rfl rfl rfl rfl rfl Zva rfl (Zag.borrowL fun hm8=>Zms _ _ _ _ _ _ _ _ x u [105,110,98,111,120] om2 om2 _ (Zve 0 rfl hm8) (hf.lendK Z1.known Zk.mono 2 rfl hm8 om)) ?_)))))))
 refine xM (h:=Zp (Zaj [0,1,2,3] rfl rfl rfl rfl ZvU rfl (ZfD b q1 q2 q3 c1 c2 c3 x l1 l2 l3 _ k hke f 0 (Zas x.queue id u).2.1 hfx hn1 hn2 hok (by decide) htl a _ hE (hu.anyK Zm.any) hf hi) ?_))
 rintro _ B9 _ hle9 ⟨q19,c19,q29,c29,q39,c39,l19,l29,l39,rfl,rfl,hu9,hf9,hi9⟩
 replace hc1:=hc1.mono hle9
 replace hc2:=hc2.mono hle9
 replace hu:=hu.mono Zm.mono hle9
 replace hE:=hE.mono hle9
 refine xA (h:=ZB [_,_,_,_,_,_] rfl (Ze (Za (xM (h:=Zp (Zg5 (tE:=321) (a:=a) (c:=(Ze9 x k 0 (Zas x.queue id u).2.1)) rfl rfl Tryz.underlying82 rfl (xM (h:=Zz (d:=31) rfl (fun g2=>?_) (fun g2=>?_)))))))))
 try simp only [sQ,ne_eq] at g2
 refine xP (h:=xP (h:=xP (h:=xT (h:=Zc (t:=true) rfl (fun _=>Zg (xM (h:=xL [_,_] Zed 4 (h:=xNc (h:=xW ZbE (h:=xS [_,_] 0 [_,_,_,_,_] ZgF (h:=Zd (Za ?_)))))))) (fun h=>Bool.noConfusion h)))))
 refine xM (h:=xA (h:=ZB [_,_,_,_,_,_] rfl (Zh ?_)))
 obtain ⟨e1,e2⟩:=ZeV hqt hke oz
 exact ZaW .ret (.inl rfl) [_] [0,1,2,5] rfl t1 (by rw [e1,e2];exact ⟨_,_,_,_,_,_,_,_,_,rfl,rfl,hu9.anyK Zm.any,hf9,hd7⟩)
 try simp only [sQ,ne_eq] at g2
 refine xM (h:=Zp (Zr rfl rfl ZnH rfl ((hE.row 2 (by decide)) _ 0 _ rfl) ?_))
 refine xR Zs8 rfl (ZhL (Ze9 x k 0 (Zas x.queue id u).2.1) 2 om2 om2 a _ hE) (h:=?_)
 refine xF (h:=Zc rfl (fun g3=>?_) (fun g3=>?_))
 try simp only [sQ,ne_eq] at g3
 refine Zg (xM (h:=xL [_,_] Zed 4 (h:=xNc (h:=xW ZbE (h:=xS [_,_] 0 [_,_,_,_,_] ZgF (h:=Zd (Za (xM (h:=xA (h:=ZB [_,_,_,_,_,_] rfl (Zh ?_)))))))))))
 obtain ⟨e1,e2⟩:=ZeV hqt hke oz
 exact ZaW .ret (.inl rfl) [_] [0,1,2,5] rfl t1 (by rw [e1,e2];exact ⟨_,_,_,_,_,_,_,_,_,rfl,rfl,hu9.anyK Zm.any,hf9,hd7⟩)
 try simp only [sQ,ne_eq] at g3
 refine Zf (Zd (Za (xM (h:=xA (h:=Zh ?_)))))
 obtain ⟨e1,e2⟩:=Zjm hqt hke oz
 exact ZaW .ret (.inl rfl) [_] [0,1,2,3] rfl t1 (by rw [e1,e2];exact ⟨_,_,_,_,_,_,_,_,_,rfl,rfl,hu9.anyK Zm.any,hf9,hi9⟩)
 refine (ZaY (l:=[_,_]) rfl rfl Zjr rfl (fun b11=>⟨⟨Kn.le.refl _,trivial⟩,(ZL 3 kr rfl kr (Zab [_,_] rfl rfl Zed rfl (ZbH 0 rfl rfl rfl) ?_))⟩))
 refine ⟨⟨Kn.le.refl _,trivial⟩,(ZL 6 kr rfl kr (Zaj [3] rfl rfl rfl rfl ZvT rfl (Zx.borrowK 1 fun hm12=>Zgo _ _ x.queue id u _ (hi.lendK ZaQ.known Zs.mono 0 rfl hm12 om)) ?_))⟩
 rintro _ B12 _ hle12 ⟨BB12,_,rfl,hB12,_,hm12,_,lx12,ax12,cx12,rfl,rfl,hd12,ht12⟩
 replace hc1:=hc1.mono hle12
 replace hc2:=hc2.mono hle12
 replace hu:=hu.mono Zm.mono hle12
 replace hE:=hE.mono hle12
 refine ⟨⟨hle12,trivial⟩,(aM 7 rfl (h:=aE 8 rfl (h:=aE 9 rfl (h:=aE 10 rfl (h:=ZeG 12 kr rfl kr kr (Z4 [_,_] 4 [_,_] rfl rfl ZgF rfl rfl rfl rfl rfl rfl rfl rfl ?_))))))⟩
 refine aA 13 rfl (h:=aA 14 rfl (h:=ZC kr kr ?_))
 refine Zd (ZB [_,_,_,_,_,_] rfl (Ze (Za (xM (h:=xN (h:=Zc rfl (fun g1=>?_) (fun g1=>?_)))))))
 try simp only [sQ,ne_eq] at g1
 refine Za (Zp (Zr rfl rfl ZnH rfl ((hE.row 0 (by decide)) _ 0 _ rfl) ?_))
 refine xA (h:=Zh (Zq ?_))
 obtain ⟨e1,e2⟩:=Zjl (x:=x) (id:=id) (u:=u) (by simpa using g1)
 exact ZaW .ret (.inl rfl) [_] [0,1,2,3] rfl t1 (by rw [e1,e2];exact ⟨_,_,_,_,_,_,_,_,_,rfl,rfl,hu.anyK Zm.any,hf,hi⟩)
 try simp only [sQ,ne_eq] at g1
 have hqt:(Zas x.queue id u).2.2=true:=by simpa using g1
 have hk0:0≤Zb4 (inF u inbox) x.folders:=ZeU hok (by rw [← ZfS (Zdk hok)];exact hqt)
 obtain ⟨k,hke⟩ :∃k:Nat,Zb4 (inF u inbox) x.folders=(k:Int):=⟨_,(Int.toNat_of_nonneg hk0).symm⟩
 obtain ⟨f,hfx⟩:=ZZ (xs:=x.folders) (i:=k) oz
 have hpv:=Zhk x k 0 (Zas x.queue id u).2.1
 refine Zf (Zd (Za (xM (h:=xM (h:=y1 lk9 hc2 0 (h:=Zp (Ze6 [0,1,2,3] rfl rfl rfl rfl rfl Zva rfl (Zag.borrowL fun hm13=>Zms _ _ _ _ _ _ _ _ x u [105,110,98,111,120] om2 om2 _ (Zve 0 rfl hm13) (hf.lendK Z1.known Zk.mono 2 rfl hm13 om)) ?_)))))))
 refine xM (h:=Zp (Zaj [0,1,2,3] rfl rfl rfl rfl ZvU rfl (ZfD b q1 q2 q3 c1 c2 c3 x l1 l2 l3 _ k hke f 0 (Zas x.queue id u).2.1 hfx hn1 hn2 hok (by decide) htl a _ hE (hu.anyK Zm.any) hf hi) ?_))
 rintro _ B14 _ hle14 ⟨q114,c114,q214,c214,q314,c314,l114,l214,l314,rfl,rfl,hu14,hf14,hi14⟩
 replace hc1:=hc1.mono hle14
 replace hc2:=hc2.mono hle14
 replace hu:=hu.mono Zm.mono hle14
 replace hE:=hE.mono hle14
 refine xA (h:=ZB [_,_,_,_,_,_] rfl (Ze (Za (xM (h:=Zp (Zg5 (tE:=321) (a:=a) (c:=(Ze9 x k 0 (Zas x.queue id u).2.1)) rfl rfl Tryz.underlying82 rfl (xM (h:=Zz (d:=31) rfl (fun g2=>?_) (fun g2=>?_)))))))))
 try simp only [sQ,ne_eq] at g2
 refine xP (h:=xP (h:=xP (h:=xT (h:=Zc (t:=true) rfl (fun _=>Zg (xM (h:=xL [_,_] Zed 4 (h:=xNc (h:=xW ZbE (h:=xS [_,_] 0 [_,_,_,_,_] ZgF (h:=Zd (Za ?_)))))))) (fun h=>Bool.noConfusion h)))))
 refine xM (h:=xA (h:=ZB [_,_,_,_,_,_] rfl (Zh ?_)))
 obtain ⟨e1,e2⟩:=ZeV hqt hke oz
 exact ZaW .ret (.inl rfl) [_] [0,1,2,5] rfl t1 (by rw [e1,e2];exact ⟨_,_,_,_,_,_,_,_,_,rfl,rfl,hu14.anyK Zm.any,hf14,hd12⟩)
 try simp only [sQ,ne_eq] at g2
 refine xM (h:=Zp (Zr rfl rfl ZnH rfl ((hE.row 2 (by decide)) _ 0 _ rfl) ?_))
 refine xR Zs8 rfl (ZhL (Ze9 x k 0 (Zas x.queue id u).2.1) 2 om2 om2 a _ hE) (h:=?_)
 refine xF (h:=Zc rfl (fun g3=>?_) (fun g3=>?_))
 try simp only [sQ,ne_eq] at g3
 refine Zg (xM (h:=xL [_,_] Zed 4 (h:=xNc (h:=xW ZbE (h:=xS [_,_] 0 [_,_,_,_,_] ZgF (h:=Zd (Za (xM (h:=xA (h:=ZB [_,_,_,_,_,_] rfl (Zh ?_)))))))))))
 obtain ⟨e1,e2⟩:=ZeV hqt hke oz
 exact ZaW .ret (.inl rfl) [_] [0,1,2,5] rfl t1 (by rw [e1,e2];exact ⟨_,_,_,_,_,_,_,_,_,rfl,rfl,hu14.anyK Zm.any,hf14,hd12⟩)
 try simp only [sQ,ne_eq] at g3
 refine Zf (Zd (Za (xM (h:=xA (h:=Zh ?_)))))
 obtain ⟨e1,e2⟩:=Zjm hqt hke oz
 exact ZaW .ret (.inl rfl) [_] [0,1,2,3] rfl t1 (by rw [e1,e2];exact ⟨_,_,_,_,_,_,_,_,_,rfl,rfl,hu14.anyK Zm.any,hf14,hi14⟩)

set_option maxHeartbeats 400000 in
theorem Ziv (hJ:Joins Tryz.prog J) (q1 q2 q3:Option Addr) (c1 c2 c3:Nat) (x:DHost) (id:Int) (u:Str) (hul:u.length≤2000000) (hd:x.domain.length≤2000000) (a:Nat→Addr) (B:Kn) (hE:ErrsB 321 [0,3,2,1] B a) (hu:SlK B q1 c1 3 Zm x.users) (hf:SlK B q2 c2 5 Zk x.folders) (hi:SlK B q3 c3 4 Zs x.queue.items):Zx (pj J) 26 [.agg #[str x.domain,.slice q1 x.users.length c1,.slice q2 x.folders.length c2,.int .i64 x.queue.next,.slice q3 x.queue.items.length c3],.int .i64 id,str u] B [] (fun v B' Ls=>∃q1 c1 q2 c2 q3 c3 l1 l2 l3,Ls=[l1,l2,l3]∧v = .tuple #[.agg #[str (ZO x id u).1.domain,.slice q1 (ZO x id u).1.users.length c1,.slice q2 (ZO x id u).1.folders.length c2,.int .i64 (ZO x id u).1.queue.next,.slice q3 (ZO x id u).1.queue.items.length c3],.int .i64 (ZO x id u).2]∧ZW Kn.none l1 q1 c1 123 3 Zm (ZO x id u).1.users∧ZaP l2 q2 c2 75 5 (Z1 133 205) (ZO x id u).1.folders∧ZaP l3 q3 c3 126 4 (ZaQ 9) (ZO x id u).1.queue.items):=by
 refine Zb 13 Tryz.func26 rfl rfl rfl (Nat.le_of_ble_eq_true rfl) ?_
 have hun:=hu.len
 have hfn:=hf.len
 have hin:=hi.len
 refine Za (xBx [_,_,_,_,_] (h:=fun b1=>xBx [_] (h:=fun b2=>xBx [_] (h:=fun b3=>xAl [_,_,_,_,_] Zcn (h:=fun b4=>xA (h:=ZB [_,_,_,_] rfl (Zp3 1 rfl (fun B5 hle5 hpm5=>?_))))))))
 have hc5:=Zb1 hpm5
 replace hu:=hu.mono Zm.mono hle5
 replace hf:=hf.mono Zk.mono hle5
 replace hi:=hi.mono Zs.mono hle5
 replace hE:=hE.mono hle5
 refine Zp3 2 rfl (fun B6 hle6 hpm6=>?_)
 have hc6:=Zb1 hpm6
 replace hu:=hu.mono Zm.mono hle6
 replace hf:=hf.mono Zk.mono hle6
 replace hi:=hi.mono Zs.mono hle6
 replace hc5:=hc5.mono hle6
 replace hE:=hE.mono hle6
 refine Za (xL [_,_,_,_,_] ZcA 0 (h:=Zp (Zdv (xs:=[]) (ys:=[_,_]) rfl rfl rfl rfl (Zp (ZX rfl rfl Zyk rfl (Zo5 _ _ _ _ _ _ x true 79 _ (Zjs x id u) (Zkx x id u) (Ztg x id u) ZxY hJ hd a _ hE hu hf hi (fun har hok B2 b q1 q2 q3 c1 c2 c3 l1 l2 l3 hle k1 k2 k3=>ZuQ _ _ id u b q1 q2 q3 c1 c2 c3 x l1 l2 l3 hul oz oz hok a B2 (hE.mono hle) (hc5.mono hle) (hc6.mono hle) k1 k2 k3)) ?_)))))
 rintro _ B7 _ hle7 ⟨Y7,d7,q17,c17,q27,c27,q37,c37,l17,l27,l37,hYd7,rfl,rfl,hu7,hf7,hi7⟩
 replace hu:=hu.mono Zm.mono hle7
 replace hf:=hf.mono Zk.mono hle7
 replace hi:=hi.mono Zs.mono hle7
 replace hc5:=hc5.mono hle7
 replace hc6:=hc6.mono hle7
 replace hE:=hE.mono hle7
 rw [ZuP] at hYd7
 refine xE (h:=xE (h:=xS [_,_,_,_,_] 3 [_,_,_,_,_] Zde (h:=xA (h:=ZB [_,_,_,_,_,_,_] rfl (Zh ?_)))))
 have e1:=congrArg Prod.fst hYd7
 have e2:=congrArg Prod.snd hYd7
 dsimp only at e1 e2
 subst e1 e2
 exact ZaW .ret (.inl rfl) [_,_] [4,5,6] rfl ⟨⟨_,rfl,.inr ⟨[_,_,_,_,_],ZcA,ZbH 3 rfl rfl rfl,rfl⟩⟩,rfl,trivial⟩ ⟨_,_,_,_,_,_,_,_,_,rfl,rfl,hu7.anyK Zm.any,hf7,hi7⟩

set_option maxHeartbeats 6400000 in
theorem ZlB (q1 q2 q3:Option Addr) (c1 c2 c3:Nat) (x:DHost) (hd:x.domain.length≤140737488355328) (id:Int) (u:Str) (hw1:u.length≤140737488355328) (a:Nat→Addr) (B:Kn) (hE:ErrsB 321 [0,3,2,1] B a) (hu:SlB B q1 c1 3 Zh2 x.users) (hf:SlB B q2 c2 5 Zdt x.folders) (hi:SlB B q3 c3 4 Zgz x.queue.items) :∃code,Tryz.f7.body=some code∧wpS (pj (ZnD Tryz.prog)) 109 code (ZhU (pj (ZnD Tryz.prog)) [.tmp 6] (fun v B' Ls=>v = .bool true)) (Zdm [.agg #[str x.domain,.slice q1 x.users.length c1,.slice q2 x.folders.length c2,.int .i64 x.queue.next,.slice q3 x.queue.items.length c3],.int .i64 id,str u] 0) [] B []:=by
 have hJ:=Zlk Tryz.prog
 refine ⟨_,rfl,(Za (xBx [_,_,_,_,_] (h:=fun b1=>xA (h:=ZB [_] rfl (Ze (Za (xM (h:=xVs Tryz.underlying9 (h:=Zdb (h:=Zc rfl (fun g1=>?_) (fun g1=>?_)))))))))))⟩
 try simp only [sQ,ne_eq] at g1
 refine Za (xA (h:=Zh (Zq ?_)))
 exact ZE .ret (.inl rfl) [_] t1 rfl
 try simp only [sQ,ne_eq] at g1
 refine Zf (Zd (Za (xA (h:=Za (xL [_,_,_,_,_] Zue 0 (h:=xM (h:=xR en8 rfl (Zqh _ _ _ _ _ _ x om 1048576 om om _ hu hf hi) (h:=?_))))))))
 refine xA (h:=Ze (Za (xM (h:=ZI (h:=Zc rfl (fun g2=>?_) (fun g2=>?_))))))
 try simp only [sQ,ne_eq] at g2
 refine Za (xA (h:=Zh (Zq ?_)))
 exact ZE .ret (.inl rfl) [_] t1 rfl
 try simp only [sQ,ne_eq] at g2
 have hsz:=(Zcw oz g2).2
 replace hsz:ZcV x≤1048576:=by omega
 have hsz2:=Zlp hsz
 have hkh:=Zur hsz
 replace hu:=ZkP hu hsz2.2.1
 replace hf:=Zjc hf hsz2.2.2.1
 replace hi:=Zll hi hsz2.2.2.2
 have hun:=hu.len
 have hfn:=hf.len
 have hin:=hi.len
 obtain ⟨hka,hkb,hkc,hkd⟩:=ZsJ (id:=id) (u:=u) hsz
 refine Zf (Zd (Za (xL [_,_,_,_,_] Zue 0 (h:=Zp (ZX rfl rfl Zvd rfl (ZgS _ _ _ _ _ _ x _ hu hf hi om2) ?_)))))
 rintro _ B3 _ hle3 ⟨q3,c3,l3,q3b,c3b,l3b,q3c,c3c,l3c,rfl,rfl,rfl,hv3,hv3b,hv3c⟩
 refine ZrG 1 rfl hv3 Zm.any om (fun B4 hle4 hr4=>?_)
 replace hu:=hu.mono Zm.mono hle4
 replace hf:=hf.mono Zk.mono hle4
 replace hi:=hi.mono Zs.mono hle4
 replace hE:=hE.mono hle4
 have hr4n:=hr4.len
 refine Zl8 2 rfl hv3b Z1.known Zk.mono om (fun B5 hle5 hr5=>?_)
 replace hu:=hu.mono Zm.mono hle5
 replace hf:=hf.mono Zk.mono hle5
 replace hi:=hi.mono Zs.mono hle5
 replace hr4:=hr4.mono Zm.mono hle5
 replace hE:=hE.mono hle5
 have hr5n:=hr5.len
 refine Zl8 3 rfl hv3c ZaQ.known Zs.mono om (fun B6 hle6 hr6=>?_)
 replace hu:=hu.mono Zm.mono hle6
 replace hf:=hf.mono Zk.mono hle6
 replace hi:=hi.mono Zs.mono hle6
 replace hr4:=hr4.mono Zm.mono hle6
 replace hr5:=hr5.mono Zk.mono hle6
 replace hE:=hE.mono hle6
 have hr6n:=hr6.len
 refine xM (h:=xM (h:=Zp (Zgb rfl rfl Zys rfl (ZiO _ _ _ _ _ _ x id u om2 om2 _ hr4 hr5 hr6) ?_)))
 intro v7 B7 hle7
 rintro ⟨p17,d17,p27,d27,p37,d37,rfl,hu7,hf7,hi7,hd7⟩
 replace hu:=hu.mono Zm.mono hle7
 replace hf:=hf.mono Zk.mono hle7
 replace hi:=hi.mono Zs.mono hle7
 replace hr4:=hr4.mono Zm.mono hle7
 replace hr5:=hr5.mono Zk.mono hle7
 replace hr6:=hr6.mono Zs.mono hle7
 replace hE:=hE.mono hle7
 have hu7n:=hu7.len
 have hf7n:=hf7.len
 have hi7n:=hi7.len
 refine xM (h:=xE (h:=xE (h:=xAl [_,_,_,_,_] Zcn (h:=fun b8=>xS [_,_,_,_,_] 4 [_,_,_,_,_] Zde (h:=xA (h:=ZB [_,_,_,_,_] rfl (Za (xL [_,_,_,_,_] Zue 0 (h:=Zp (ZX rfl rfl Zvd rfl (ZgS _ _ _ _ _ _ x _ hu hf hi om2) ?_))))))))))
 rintro _ B9 _ hle9 ⟨q9,c9,l9,q9b,c9b,l9b,q9c,c9c,l9c,rfl,rfl,rfl,hv9,hv9b,hv9c⟩
 refine xAl [_,_,_,_,_] Zcn (h:=fun b10=>xS [_,_,_,_,_] 8 [_,_,_,_,_] Zde (h:=ZB [_,_,_,_,_,_,_,_,_] rfl (Za (xL [_,_,_,_,_] ZcA 8 (h:=xM (h:=xM (h:=Zp (Zaj [5,6,7] rfl rfl rfl rfl Zxy rfl (Zx.borrowK 3 fun hm11=>Ziv hJ _ _ _ _ _ _ x id u om2 om2 a _ (hE.mono (Kn.le_add _ _)) (hv9.lendK Zm.any 0 rfl hm11 om) (hv9b.lendK Z1.known Zk.mono 1 rfl hm11 om) (hv9c.lendK ZaQ.known Zs.mono 2 rfl hm11 om)) ?_))))))))
 rintro _ B11 _ hle11 ⟨BB11,_,rfl,hB11,_,hm11,_,q111,c111,q211,c211,q311,c311,l111,l211,l311,rfl,rfl,hu11,hf11,hi11⟩
 replace hu:=hu.mono Zm.mono hle11
 replace hf:=hf.mono Zk.mono hle11
 replace hi:=hi.mono Zs.mono hle11
 replace hu7:=hu7.mono Zm.mono hle11
 replace hf7:=hf7.mono Zk.mono hle11
 replace hi7:=hi7.mono Zs.mono hle11
 replace hv9:=hv9.mono Zm.mono hle11
 replace hE:=hE.mono hle11
 refine xM (h:=xE (h:=xE (h:=xAl [_,_,_,_,_] Zcn (h:=fun b12=>xS [_,_,_,_,_] 12 [_,_,_,_,_] Zde (h:=xA (h:=ZB [_,_,_,_,_,_,_,_,_,_,_,_,_] rfl (Ze (Za (xL [_,_,_,_,_] ZcA 12 (h:=xL [_,_,_,_,_] ZcA 4 (h:=Zp (Ze6 [9,10,11] rfl rfl rfl rfl rfl Zvc rfl (Zag.borrowL fun hm13=>ZgY _ _ _ _ _ _ _ _ _ _ _ _ ((ZO x id u).1) ((ZO x id u).1) _ (hu11.lendK Zm.any 0 rfl hm13 om) (hf11.lendK Z1.known Zk.mono 1 rfl hm13 om) (hi11.lendK ZaQ.known Zs.mono 2 rfl hm13 om) (hu7.mono Zm.mono (Kn.le_add _ _)) (hf7.mono Zk.mono (Kn.le_add _ _)) (hi7.mono Zs.mono (Kn.le_add _ _))) ?_))))))))))))
 refine xN (h:=xM (h:=Zz (d:=47) rfl (fun g6=>by simp at g6) (fun g6=>?_)))
 try simp only [sQ,ne_eq] at g6
 refine xM (h:=xM (h:=ZaT (h:=xF (h:=Zc rfl (fun g7=>by simp at g7) (fun g7=>?_)))))
 try simp only [sQ,ne_eq] at g7
 refine Zf (Zd (Ze (Ze (Zaa (keeps _ [0,8] _) mo kr ⟨Kn.le.refl _,ZbD.refl _ _⟩ (fun _ _=>?_)))))
 refine aT 0 rfl (Z6 fun D B L hI=>Zab [_,_,_,_,_] rfl rfl ZcA rfl (ZbH 8 (hI.2.2.1.trans rfl) rfl rfl) r4) (h:=aT 1 rfl (Z6 fun D B L hI=>Zab [_,_,_,_,_] rfl rfl Zue rfl (ZbH 0 (hI.2.1.trans rfl) rfl rfl) r4) (h:=ZL 2 kr rfl kr (ZX rfl rfl Zvd rfl (ZgS _ _ _ _ _ _ x _ hu hf hi om2) ?_)))
 rintro _ B14 _ hle14 ⟨q14,c14,l14,q14b,c14b,l14b,q14c,c14c,l14c,rfl,rfl,rfl,hv14,hv14b,hv14c⟩
 refine ⟨⟨Kn.le.refl _,t2⟩,(Zu0 13 rfl hv14 Zm.any om (fun B' hle'=>⟨hle',t2⟩) (fun B15 hle15 hr15=>?_))⟩
 replace hu:=hu.mono Zm.mono hle15
 replace hf:=hf.mono Zk.mono hle15
 replace hi:=hi.mono Zs.mono hle15
 replace hu7:=hu7.mono Zm.mono hle15
 replace hf7:=hf7.mono Zk.mono hle15
 replace hi7:=hi7.mono Zs.mono hle15
 replace hv9:=hv9.mono Zm.mono hle15
 replace hu11:=hu11.mono Zm.mono hle15
 replace hE:=hE.mono hle15
 have hr15n:=hr15.len
 refine ZrY 14 rfl hv14b Z1.known Zk.mono om (fun B' hle'=>⟨hle15.trans hle',t2⟩) (fun B16 hle16 hr16=>?_)
 replace hu:=hu.mono Zm.mono hle16
 replace hf:=hf.mono Zk.mono hle16
 replace hi:=hi.mono Zs.mono hle16
 replace hr15:=hr15.mono Zm.mono hle16
 replace hu7:=hu7.mono Zm.mono hle16
 replace hf7:=hf7.mono Zk.mono hle16
 replace hi7:=hi7.mono Zs.mono hle16
 replace hv9:=hv9.mono Zm.mono hle16
 replace hu11:=hu11.mono Zm.mono hle16
 replace hE:=hE.mono hle16
 have hr16n:=hr16.len
 refine ZrY 15 rfl hv14c ZaQ.known Zs.mono om (fun B' hle'=>⟨(hle15.trans hle16).trans hle',t2⟩) (fun B17 hle17 hr17=>?_)
 replace hu:=hu.mono Zm.mono hle17
 replace hf:=hf.mono Zk.mono hle17
 replace hi:=hi.mono Zs.mono hle17
 replace hr15:=hr15.mono Zm.mono hle17
 replace hr16:=hr16.mono Zk.mono hle17
 replace hu7:=hu7.mono Zm.mono hle17
 replace hf7:=hf7.mono Zk.mono hle17
 replace hi7:=hi7.mono Zs.mono hle17
 replace hv9:=hv9.mono Zm.mono hle17
 replace hu11:=hu11.mono Zm.mono hle17
 replace hE:=hE.mono hle17
 have hr17n:=hr17.len
 refine ZL 3 kr rfl kr (Ze6 [5,6,7] rfl rfl rfl rfl rfl Zvc rfl (Zag.borrowL fun hm18=>ZgY _ _ _ _ _ _ _ _ _ _ _ _ x x _ (hv9.lendK Zm.any 0 rfl hm18 om) (hv9b.lendK Z1.known Zk.mono 1 rfl hm18 om) (hv9c.lendK ZaQ.known Zs.mono 2 rfl hm18 om) (hr15.mono Zm.mono (Kn.le_add _ _)) (hr16.mono Zk.mono (Kn.le_add _ _)) (hr17.mono Zs.mono (Kn.le_add _ _))) ?_)
 refine ⟨⟨((hle15.trans hle16).trans hle17),t2⟩,(aN 4 rfl (h:=ZC kr kr ?_))⟩
 refine Zd (ZB [_,_,_,_,_,_,_,_,_,_,_,_,_,_,_,_] rfl (Zc rfl (fun g8=>by simp at g8) (fun g8=>?_)))
 try simp only [sQ,ne_eq] at g8
 refine Zf (Zd (Za (xA (h:=Za (xL [_,_,_,_,_] ZcA 8 (h:=xM (h:=Zp (Zaj [5,6,7] rfl rfl rfl rfl ZxA rfl (Zio _ _ _ _ _ _ x _ _ _ 1 oa oz oz oz _ (hv9.anyK Zm.any) hv9b hv9c) ?_))))))))
 rintro _ B19 _ hle19 ⟨rfl,l19a,l19b,l19c,rfl,rfl,hs19a,hs19b,hs19c⟩
 refine xA (h:=ZB [_,_,_,_,_,_,_,_,_,_,_,_,_,_,_,_] rfl (Ze (Za (xM (h:=ZI (h:=xM (h:=Zz (d:=62) rfl (fun g9=>by first | omega | (simp at g9;done) | (simp at g9;omega)) (fun g9=>?_))))))))
 try simp only [sQ,ne_eq] at g9
 refine xL [_,_,_,_,_] ZcA 12 (h:=xL [_,_,_,_,_] ZcA 4 (h:=Zp (Ze6 [9,10,11] rfl rfl rfl rfl rfl Zvc rfl (Zag.borrowL fun hm20=>ZgY _ _ _ _ _ _ _ _ _ _ _ _ ((ZO x id u).1) ((ZO x id u).1) _ (hu11.lendK Zm.any 0 rfl hm20 om) (hf11.lendK Z1.known Zk.mono 1 rfl hm20 om) (hi11.lendK ZaQ.known Zs.mono 2 rfl hm20 om) (hu7.mono Zm.mono (Kn.le_add _ _)) (hf7.mono Zk.mono (Kn.le_add _ _)) (hi7.mono Zs.mono (Kn.le_add _ _))) ?_)))
 refine xN (h:=xF (h:=xM (h:=Zz (d:=68) rfl (fun ga=>by simp at ga) (fun ga=>?_))))
 try simp only [sQ,ne_eq] at ga
 refine xM (h:=xM (h:=ZaT (h:=xF (h:=Zc rfl (fun gb=>by simp at gb) (fun gb=>?_)))))
 try simp only [sQ,ne_eq] at gb
 refine Zf (Zd (Za (xA (h:=Za (xL [_,_,_,_,_] ZcA 12 (h:=xM (h:=Zp (Zaj [9,10,11] rfl rfl rfl rfl ZxA rfl (Zio _ _ _ _ _ _ ((ZO x id u).1) _ _ _ 1 oa oz oz oz _ (hu11.anyK Zm.any) hf11 hi11) ?_))))))))
 rintro _ B21 _ hle21 ⟨rfl,l21a,l21b,l21c,rfl,rfl,hs21a,hs21b,hs21c⟩
 refine xA (h:=ZB [_,_,_,_,_,_,_,_,_,_,_,_,_,_,_,_] rfl (Za (xA (h:=Za (xL [_,_,_,_,_] ZcA 12 (h:=xM (h:=Zp (Ze6 [9,10,11] rfl rfl rfl rfl rfl Zxz rfl (Zag.borrowL fun hm22=>Ziw _ _ _ _ _ _ (ZO x id u).1 1 oa _ (hs21a.lendK Zm.any 0 rfl hm22 (by simp only [Zaq,ZaD,Zbq,Zbd,Zd0];omega)) (hs21b.lendK Z1.known Zk.mono 1 rfl hm22 (by simp only [Zaq,ZaD,Zbq,Zbd,Zd0];omega)) (hs21c.lendK ZaQ.known Zs.mono 2 rfl hm22 (by simp only [Zaq,ZaD,Zbq,Zbd,Zd0];omega))) ?_))))))))
 refine xA (h:=Ze (Za (xM (h:=ZI (h:=Zc rfl (fun gc=>by first | omega | (simp at gc;done) | (simp at gc;omega)) (fun gc=>?_))))))
 try simp only [sQ,ne_eq] at gc
 refine Zf (Zd (Ze (Za (xM (h:=xM (h:=ZaT (h:=Zc rfl (fun gd=>by simp at gd) (fun gd=>?_))))))))
 try simp only [sQ,ne_eq] at gd
 refine Zf (Zd (Za (xL [_,_,_,_,_] Zue 0 (h:=Zp (ZX rfl rfl Zvd rfl (ZgS _ _ _ _ _ _ x _ hu hf hi om2) ?_)))))
 rintro _ B23 _ hle23 ⟨q23,c23,l23,q23b,c23b,l23b,q23c,c23c,l23c,rfl,rfl,rfl,hv23,hv23b,hv23c⟩
 refine ZrG 16 rfl hv23 Zm.any om (fun B24 hle24 hr24=>?_)
 replace hu:=hu.mono Zm.mono hle24
 replace hf:=hf.mono Zk.mono hle24
 replace hi:=hi.mono Zs.mono hle24
 replace hu7:=hu7.mono Zm.mono hle24
 replace hf7:=hf7.mono Zk.mono hle24
 replace hi7:=hi7.mono Zs.mono hle24
 replace hs19a:=hs19a.mono Zm.mono hle24
 replace hs21a:=hs21a.mono Zm.mono hle24
 replace hE:=hE.mono hle24
 have hr24n:=hr24.len
 refine Zl8 17 rfl hv23b Z1.known Zk.mono om (fun B25 hle25 hr25=>?_)
 replace hu:=hu.mono Zm.mono hle25
 replace hf:=hf.mono Zk.mono hle25
 replace hi:=hi.mono Zs.mono hle25
 replace hr24:=hr24.mono Zm.mono hle25
 replace hu7:=hu7.mono Zm.mono hle25
 replace hf7:=hf7.mono Zk.mono hle25
 replace hi7:=hi7.mono Zs.mono hle25
 replace hs19a:=hs19a.mono Zm.mono hle25
 replace hs21a:=hs21a.mono Zm.mono hle25
 replace hE:=hE.mono hle25
 have hr25n:=hr25.len
 refine Zl8 18 rfl hv23c ZaQ.known Zs.mono om (fun B26 hle26 hr26=>?_)
 replace hu:=hu.mono Zm.mono hle26
 replace hf:=hf.mono Zk.mono hle26
 replace hi:=hi.mono Zs.mono hle26
 replace hr24:=hr24.mono Zm.mono hle26
 replace hr25:=hr25.mono Zk.mono hle26
 replace hu7:=hu7.mono Zm.mono hle26
 replace hf7:=hf7.mono Zk.mono hle26
 replace hi7:=hi7.mono Zs.mono hle26
 replace hs19a:=hs19a.mono Zm.mono hle26
 replace hs21a:=hs21a.mono Zm.mono hle26
 replace hE:=hE.mono hle26
 have hr26n:=hr26.len
 refine xM (h:=xM (h:=Zp (ZX rfl rfl Zxy rfl (Ziv hJ _ _ _ _ _ _ x id u om2 om2 a _ hE hr24 hr25 hr26) ?_)))
 rintro _ B27 _ hle27 ⟨q127,c127,q227,c227,q327,c327,l127,l227,l327,rfl,rfl,hu27,hf27,hi27⟩
 replace hu:=hu.mono Zm.mono hle27
 replace hf:=hf.mono Zk.mono hle27
 replace hi:=hi.mono Zs.mono hle27
 replace hr24:=hr24.mono Zm.mono hle27
 replace hr25:=hr25.mono Zk.mono hle27
 replace hr26:=hr26.mono Zs.mono hle27
 replace hu7:=hu7.mono Zm.mono hle27
 replace hf7:=hf7.mono Zk.mono hle27
 replace hi7:=hi7.mono Zs.mono hle27
 replace hs19a:=hs19a.mono Zm.mono hle27
 replace hs21a:=hs21a.mono Zm.mono hle27
 replace hE:=hE.mono hle27
 refine xM (h:=xE (h:=xE (h:=xAl [_,_,_,_,_] Zcn (h:=fun b28=>xS [_,_,_,_,_] 22 [_,_,_,_,_] Zde (h:=xA (h:=ZB [_,_,_,_,_,_,_,_,_,_,_,_,_,_,_,_,_,_,_,_,_,_,_] rfl (Ze (Za (xL [_,_,_,_,_] ZcA 22 (h:=xL [_,_,_,_,_] ZcA 4 (h:=Zp (Ze6 [19,20,21] rfl rfl rfl rfl rfl Zvc rfl (Zag.borrowL fun hm29=>ZgY _ _ _ _ _ _ _ _ _ _ _ _ ((ZO x id u).1) ((ZO x id u).1) _ (hu27.lendK Zm.any 0 rfl hm29 om) (hf27.lendK Z1.known Zk.mono 1 rfl hm29 om) (hi27.lendK ZaQ.known Zs.mono 2 rfl hm29 om) (hu7.mono Zm.mono (Kn.le_add _ _)) (hf7.mono Zk.mono (Kn.le_add _ _)) (hi7.mono Zs.mono (Kn.le_add _ _))) ?_))))))))))))
 refine xN (h:=xM (h:=Zz (d:=96) rfl (fun ge=>by simp at ge) (fun ge=>?_)))
 try simp only [sQ,ne_eq] at ge
 refine xM (h:=xM (h:=ZaT (h:=xF (h:=Zc rfl (fun gf=>by simp at gf) (fun gf=>?_)))))
 try simp only [sQ,ne_eq] at gf
 refine Zf (Zd (Za (xA (h:=Za (xL [_,_,_,_,_] ZcA 12 (h:=xM (h:=Zp (Ze6 [9,10,11] rfl rfl rfl rfl rfl Zxz rfl (Zag.borrowL fun hm30=>Ziw _ _ _ _ _ _ (ZO x id u).1 1 oa _ (hs21a.lendK Zm.any 0 rfl hm30 (by simp only [Zaq,ZaD,Zbq,Zbd,Zd0];omega)) (hs21b.lendK Z1.known Zk.mono 1 rfl hm30 (by simp only [Zaq,ZaD,Zbq,Zbd,Zd0];omega)) (hs21c.lendK ZaQ.known Zs.mono 2 rfl hm30 (by simp only [Zaq,ZaD,Zbq,Zbd,Zd0];omega))) ?_))))))))
 refine xA (h:=Ze (Za (xM (h:=ZI (h:=Zc rfl (fun gg=>by first | omega | (simp at gg;done) | (simp at gg;omega)) (fun gg=>?_))))))
 try simp only [sQ,ne_eq] at gg
 refine Zf (Zd (Ze (Za (xM (h:=xM (h:=ZaT (h:=Zc rfl (fun gh=>by simp at gh) (fun gh=>?_))))))))
 try simp only [sQ,ne_eq] at gh
 refine Zf (Zd (Za (xA (h:=Zh ?_))))
 exact ZE .ret (.inl rfl) [_] t1 rfl

end Go.Proofs.YthgggppcgbglkaaGreatDoor
