/-
  THE WALK'S LOGIC: owned cells and known cells, goroutines started and awaited, calls, loops, data, and plain laws on lists: no program in sight.
-/
import Derived.Test.YtbebcagblefhcaaGreatDoorB0
set_option linter.unusedVariables false
set_option linter.unusedSimpArgs false
set_option linter.unusedSectionVars false
namespace Go.BL
open Go.Conc (G)
def Zb8 (Tg Tm:TypeId):ZnF DFolder:=fun row x ins=>∃q c q' c' i1 i2,row=[str x.owner,str x.name,.slice q x.grants.length c,.int .i64 x.next,.slice q' x.mail.length c']∧ins=i1 ++ i2∧ZT Kn.none i1 q c Tg 2 Z0 x.grants∧ZT Kn.none i2 q' c' Tm 3 ZS x.mail∧
 x.owner.length≤2000000∧x.name.length≤2000000∧x.grants.length≤2000000∧x.mail.length≤2000000
theorem Zb8.known {Tg Tm:TypeId} {B:Kn} {row:List Value} {x:DFolder} {ins:Cells} (h:Zb8 Tg Tm row x ins) (hm :∀q,q∈ins→B.mem q.1=some q.2):Zf B row x:=by
 obtain ⟨q,c,q',c',i1,i2,h1,rfl,h2,h3,h4,h5,h6,h7⟩:=h
 exact ⟨q,c,q',c',h1,⟨h2.rowsF Z0.any fun p hp=>hm p (List.mem_append.2 (.inl hp)),h2.cap,h6⟩,⟨h3.rowsF ZS.any fun p hp=>hm p (List.mem_append.2 (.inr hp)),h3.cap,h7⟩,h4,h5⟩
theorem All3.zeros {α:Type} {R:ZnF α} {row:List Value} {d:α} (h:R row d []) :∀m,All3 R (List.replicate m row) (List.replicate m d) []
 | 0=>.nil
 | m+1=>by rw [List.replicate_succ,List.replicate_succ];exact All3.cons (ins:=[]) h (All3.zeros h m)
theorem Zd7.zeros {α:Type} {b:Nat} {T:TypeId} {R:ZnF α} {zs:List Value} {d:α} {m c w:Nat} (hw:zs.length=w) (hR:R zs d []) (hmc:m≤c):Zd7 (Z8 b (zrow zs c) T) (some ⟨b,0,Option.none⟩) c T w R (List.replicate m d):=by
 refine ⟨List.replicate m zs,_,[],All3.zeros hR m,fun r hr=>by rw [(List.mem_replicate.1 hr).2];exact hw,by rw [List.append_nil],?_,.inr ⟨b,_,rfl,by rw [Zez,hw],?_,rfl,by rw [List.length_replicate];exact hmc⟩⟩
 ·rw [List.length_replicate]
  exact (Zez (z:=zs) (c:=m)).trans (by rw [hw])
 ·rw [List.length_replicate]
  have e:zrow zs c=zrow zs m ++ zrow zs (c - m):=by
   simp only [zrow,← List.flatten_append,List.replicate_append_replicate]
   rw [show m+(c - m)=c from by omega]
  rw [e,List.take_append_of_le_length (by rw [Zez,hw];exact Nat.le_refl _),List.take_of_length_le (by rw [Zez,hw];exact Nat.le_refl _)]
  rfl
section
variable {P:PJ} {n:Nat} {ops:Array Oper} {i:Nat} {K:Zbf} {S:Env} {D:List Deferred} {B:Kn} {L:List Cells} {Q:Exit→Zas}
variable {dst:Option Tmp} {ty:TypeId} {pos:String} {after:Array Edge} {g:Option (Nat × Bool)}
end
section
variable {P:PJ} {n:Nat} {ops:Array Oper} {i:Nat} {K:Zbf} {S:Env} {D:List Deferred} {B BV:Kn} {L:List Cells}
variable {dst:Option Tmp} {ty:TypeId} {pos:String} {after:Array Edge} {g:Option (Nat × Bool)}
end
theorem Zu.borrowL {P:PJ} {f:FuncId} {args:List Value} {B:Kn} {ls Ls:List Cells} {Post:Value→Kn→List Cells→Prop}
  (h:(∀p,p∈ls.flatten→(B.add ls.flatten).mem p.1=some p.2)→Zu P f args (B.add ls.flatten) Ls Post) :
  Zu P f args B (ls ++ Ls) (fun v B' Ls'=>∃B₂ Ls₂,Ls'=ls ++ Ls₂∧B'=B₂.minus ls.flatten∧(B.add ls.flatten).le B₂∧(∀p,p∈ls.flatten→(B.add ls.flatten).mem p.1=some p.2)∧(B.add ls.flatten).minus ls.flatten=B∧Post v B₂ Ls₂):=fun X kind c cs F hk hA=>by
 have key:=Zu.borrow (l:=ls.flatten) (Ls:=Ls) h X kind c cs F hk fun v B' Ls' hle ⟨B₂,Ls₂,h1,h2,h3,h4,h5,h6⟩=>by
  have:=hA v B' (ls ++ Ls₂) hle ⟨B₂,Ls₂,rfl,h2,h3,h4,h5,h6⟩
  subst h1
  rw [List.flatten_cons]
  rwa [List.flatten_append] at this
 rw [List.flatten_cons] at key
 rwa [List.flatten_append]
section
variable {P:PJ} {C:Cx P} {k:List Item} {n:Nat} {ops:Array Oper} {i:Nat} {S:Env} {D:List Deferred} {B BV:Kn} {L:List Cells} {Q:Exit→Zas}
variable {α:Type} {xs:List α} {l:Cells} {p:Option Addr} {cp:Nat} {T:TypeId} {w:Nat}
end
end Go.BL
namespace Go.BL
open Go.ChangeShapes Go.WideShapes Go.ChangeAt Go.RowKit
section
variable {H:Type} (enc:TypeId × Value→H) (P:Program) (W:World)
end
section
variable {H:Type} {enc:TypeId × Value→H} {P:Program} {W:World}
end
end Go.BL
namespace Go.BL
section
variable {P:PJ} {n:Nat} {ops:Array Oper} {i:Nat} {K:Zbf} {S:Env} {D:List Deferred} {B:Kn} {L:List Cells}
variable {dst:Option Tmp} {ty:TypeId} {pos:String} {after:Array Edge} {g:Option (Nat × Bool)}
end
end Go.BL
namespace Go.BL
section
variable {P:PJ} {n:Nat} {Q:Exit→Zas} {S:Env} {D:List Deferred} {B:Kn} {L:List Cells} {c:Code}
theorem ZvJ {L':List Cells} (hp:L.flatten.Perm L'.flatten) (h:wpS P n c Q S D B L'):wpS P n c Q S D B L:=fun C k T hn hT hA=>by
 refine C.X.drop (r:=L'.flatten ++ C.F) (gl:=[]) ?_ (h C k T hn hT hA)
 rw [List.append_nil];exact hp.append_right C.F
end
end Go.BL
namespace Go.BL
section
variable {P:PJ} {n:Nat} {ops:Array Oper} {i:Nat} {K:Zbf} {S:Env} {D:List Deferred} {B:Kn} {L:List Cells}
variable {dst:Option Tmp} {ty:TypeId} {pos:String} {after:Array Edge} {g:Option (Nat × Bool)}
end
end Go.BL
namespace Go.BL
open Go.Conc (G)
section
variable {P:PJ} {n:Nat} {ops:Array Oper} {i:Nat} {K:Zbf} {S:Env} {D:List Deferred} {B:Kn} {L:List Cells}
variable {dst:Option Tmp} {ty:TypeId} {pos:String} {after:Array Edge} {g:Option (Nat × Bool)}
theorem Zug {α:Type} {R:ZnF α} {xs:List α} (z:α) {t u e:TypeId} {x y:Operand} {sz by_ m c c2:Nat} {p q:Option Addr} {row:List Value} {l:Cells} {inss r:List Cells} (j:Nat) (ks:List Nat) (hpk:Za2 L (j :: ks)=some (l :: inss,r)) (hnd:ZfF (j :: ks)=true) (hv:Zd7 l p c e sz R xs) (hm:m=xs.length) (hg:Zl ops S g=some true) (hd:Zy n dst=true)
  (he:ZcL P t e sz by_=true) (hu:(match P.underlying u with | some (.slice _)=>true | _=>false)=true) (hx:ev S x=some (.slice p m c)) (hy:ev S y=some (.slice q 1 c2)) (hs:ZaO B L.flatten q row) (hone:row.all Zis=true) (hrl:row.length=sz) (ins0:Cells) (hi0:inss.flatten=ins0) (hr:R row z ins0) (hb1:(xs.length+1)*by_≤140737488355328)
  (h :∀l' p' c',Zd7 l' p' c' e sz R (xs ++ [z])→K (.slice p' (xs ++ [z]).length c') D B (Zde r (j :: ks) (l' :: inss.map fun _=>[]))):opX P n ops i ⟨dst,.call ⟨.builtin .append,#[x,y],#[t,u]⟩,ty,pos,after,g⟩ K S D B L:=by
 subst hm
 subst hi0
 obtain ⟨rows,blk,inn,h1,h2,h3,h4⟩:=hv
 have hpp:=ZaQ (j :: ks) L (l :: inss) r hpk
 have p1:L.flatten.Perm (blk ++ (inn ++ (inss.flatten ++ r.flatten))):=by
  refine hpp.trans ?_
  simp only [List.flatten_cons,List.append_assoc]
  refine (h3.append_right _).trans ?_
  rw [List.append_assoc]
 refine Zn3 (L':=[blk,inn ++ (inss.flatten ++ r.flatten)]) (K':=fun v D' B' L₁=>∃blk' p' c',L₁=[blk',inn ++ (inss.flatten ++ r.flatten)]∧v = .slice p' (xs.length+1) c'∧D'=D∧B'=B∧Zh0 blk' p' (xs.length+1) c' e sz (rows.flatten ++ row)) ?_ ?_ ?_
 ·simpa using p1
 ·refine ZeE 0 rfl h4 hg hd he hu hx hy ?_ (by rw [hrl,Nat.one_mul]) hone hb1 fun l' p' c' hv'=>⟨l',p',c',rfl,rfl,rfl,rfl,hv'⟩
  cases q with
  | none=>exact hs
  | some a=>
   intro jj v hjj
   exact (hs jj v hjj).perm (by simpa using p1)
 ·rintro v D' B' L₁ hle ⟨blk',p',c',rfl,rfl,rfl,rfl,hv'⟩
  have hnew:Zd7 (blk' ++ (inn ++ inss.flatten)) p' c' e sz R (xs ++ [z]):=⟨rows ++ [row],blk',inn ++ inss.flatten,h1.snoc hr,fun r' hr'=>by
   rcases List.mem_append.1 hr' with hr' | hr'
   ·exact h2 r' hr'
   ·rw [List.mem_singleton.1 hr'];exact hrl,.refl _,by rw [List.length_append,List.flatten_append];simpa using hv'⟩
  refine ⟨_,?_,by have:=h _ _ _ hnew;rwa [List.length_append] at this⟩
  have hq:=Zdy ((blk' ++ (inn ++ inss.flatten)) :: inss.map fun _=>[]) r (j :: ks) (ZdA hnd) (fun jj hj=>Zdz (j :: ks) L (l :: inss) r hpk jj (.inr hj))
  have hnil:((inss.map fun _=>([]:Cells))).flatten=[]:=by
   clear hpk hpp h hnew hs h3 p1 hq
   induction inss with
   | nil=>rfl
   | cons a as ih=>simp
  rw [List.flatten_cons,hnil,List.append_nil] at hq
  refine List.Perm.trans ?_ hq
  simp only [List.flatten_cons,List.flatten_nil,List.append_nil,List.append_assoc]
  exact .refl _
theorem ZaX.borrowL {f:FuncId} {args:List Value} {ls:List Cells} {v:Value} (h:(∀p,p∈ls.flatten→(B.add ls.flatten).mem p.1=some p.2)→ZaX P f args (B.add ls.flatten) v):Zu P f args B ls (fun v' B' Ls=>v'=v∧B'=B∧Ls=ls):=by
 have:=(Zu.borrowL (P:=P) (Ls:=[]) h).mono (Post':=fun v' B' Ls=>v'=v∧B'=B∧Ls=ls) fun v' B' Ls' _ ⟨B₂,Ls₂,a1,a2,_,_,a3,a4,a5,a6⟩=>by subst a5;subst a6;exact ⟨a4,a2.trans a3,by rw [a1,List.append_nil]⟩
 rwa [List.append_nil] at this
theorem ZtH {f:FuncId} {xs:List Operand} {vs:List Value} {ats:Array TypeId} {v:Value} {ls r:List Cells} (js:List Nat) (hp:Za2 L js=some (ls,r)) (hput:Zde r js ls=L) (hn:ZfF js=true) (hg:Zl ops S g=some true) (hd:Zy n dst=true) (he:enters P f=true) (ha:evs S xs=some vs)
  (hc:Zu P f vs B ls (fun v' B' Ls=>v'=v∧B'=B∧Ls=ls)) (h:K v D B L):opX P n ops i ⟨dst,.call ⟨.value (.func f),xs.toArray,ats⟩,ty,pos,after,g⟩ K S D B L:=
 Zao js hp hn hg hd he ha hc fun v' B' Ls' hle ⟨h1,h2,h3⟩=>by subst h1;subst h2;subst h3;rw [hput];exact h
end
theorem ZqK {B:Kn} {ls:List Cells} {l:Cells} (hm :∀p,p∈ls.flatten→B.mem p.1=some p.2) (k:Nat) (hk:ls[k]? = some l) :∀q,q∈l→B.mem q.1=some q.2:=fun q hq=>hm q (List.mem_flatten.2 ⟨l,List.mem_of_getElem? hk,hq⟩)
theorem ZT.lendK {α:Type} {B BV:Kn} {l:Cells} {ls:List Cells} {p:Option Addr} {c:Nat} {T:TypeId} {w:Nat} {R:Rel α} {xs:List α} (h:ZT BV l p c T w R xs) (hR:ZrU R) (k:Nat) (hk:ls[k]? = some l) (hm :∀q,q∈ls.flatten→(B.add ls.flatten).mem q.1=some q.2) (hl:xs.length≤2000000):SlK (B.add ls.flatten) p c w R xs:=⟨h.rowsF hR (ZqK hm k hk),h.cap,hl⟩
theorem Zd7.lendK {α:Type} {B:Kn} {l:Cells} {ls:List Cells} {p:Option Addr} {c:Nat} {T:TypeId} {w:Nat} {R:ZnF α} {R':Rel α} {xs:List α} (h:Zd7 l p c T w R xs) (hR :∀{B:Kn} {row:List Value} {x:α} {ins:Cells},R row x ins→(∀q,q∈ins→B.mem q.1=some q.2)→R' B row x) (hM:Mono R') (k:Nat) (hk:ls[k]? = some l) (hm :∀q,q∈ls.flatten→(B.add ls.flatten).mem q.1=some q.2) (hl:xs.length≤2000000):SlK (B.add ls.flatten) p c w R' xs:=h.known (fun _ _ _ a b=>hR a b) hM (ZqK hm k hk) hl
theorem ZvX {P:PJ} {n:Nat} {Q:Exit→Zas} {S:Env} {D:List Deferred} {B:Kn} {L:List Cells} {c:Code} (es:List Cells) (he:es.flatten=[]) (h:wpS P n c Q S D B (L ++ es)):wpS P n c Q S D B L:=
 ZvJ (by rw [List.flatten_append,he,List.append_nil]) h
end Go.BL
namespace Go.BL
open Go.Conc (G)
def errv (tE:TypeId) (a:Nat→Addr):Nat→Value
 | 0=>.nilIface
 | k+1=>.iface tE (.pointer (some (a k)))
structure ErrsB (tE:TypeId) (gs:List Nat) (B:Kn) (a:Nat→Addr):Prop where
 row :∀k,k<4→ZaI B (gs.getD k 0) 0 [.iface tE (.pointer (some (a k)))]
 cell :∀k,k<4→∃cs T,B.mem (a k).block=some (.cells cs T (0,0))
 ne :∀i j,i<4→j<4→i≠j→a i≠a j
theorem ErrsB.mono {tE:TypeId} {gs:List Nat} {B B':Kn} {a:Nat→Addr} (h:ErrsB tE gs B a) (hle:B.le B'):ErrsB tE gs B' a:=
 ⟨fun k hk=>(h.row k hk).mono hle,fun k hk=>let ⟨cs,T,e⟩:=h.cell k hk;⟨cs,T,hle _ _ e⟩,h.ne⟩
section
variable {P:Program}
theorem Zs2 {a:Addr} {B:Kn} {L:Cells} {Q:Bool→Kn→Cells→Prop} (q:Q true B L):hb P (sameAddr a a) Q B L:=by
 have e:sameAddr a a=pure true:=by simp [sameAddr]
 rw [e];exact q
theorem Zht {x:Addr} {cx:Array Value} {tx:TypeId} {B:Kn} {L:Cells} {Q:Bool→Kn→Cells→Prop} (hx:Zj4 B L x.block (.cells cx tx (0,0))) (q:Q false B L):hb P (stringish x) Q B L:=by
 unfold stringish
 rw [Zi]
 refine ⟨_,hx,?_⟩
 simp only [Zb2,Zr,ZbA,Nat.not_lt_zero,decide_false,Bool.and_false,Bool.false_eq_true,if_false]
 rw [Zi]
 refine ⟨_,hx,?_⟩
 simp only [Zj9,Zr,ZbA]
 refine ⟨_,hx,?_⟩
 simp only [Zb2,Nat.not_lt_zero,decide_false,Bool.and_false]
 exact q
theorem ZlT {x:Addr} {cx:Array Value} {tx:TypeId} {B:Kn} {L:Cells} {Q:Unit→Kn→Cells→Prop} (hx:Zj4 B L x.block (.cells cx tx (0,0))) (q:Q () B L):hb P (noView x) Q B L:=by
 unfold noView viewAt
 simp only [Zi]
 refine ⟨_,hx,?_⟩
 simp only [Zj9,Option.isSome_some,if_true,Zr,ZbA]
 exact q
theorem Zs3 {a b:Addr} {ca cb:Array Value} {ta tb:TypeId} {B:Kn} {L:Cells} {Q:Bool→Kn→Cells→Prop} (hne:a≠b) (ha:Zj4 B L a.block (.cells ca ta (0,0))) (hb':Zj4 B L b.block (.cells cb tb (0,0))) (q:Q false B L):hb P (sameAddr a b) Q B L:=by
 unfold sameAddr
 by_cases h:a.block=b.block
 ·have e1:(a.block == b.block)=true:=by simpa using h
  have e2:(a == b)=false:=by simpa using hne
  simp only [e1,if_true,e2];exact q
 ·have e1:(a.block == b.block)=false:=by simpa using h
  simp only [e1,Bool.false_eq_true,if_false,Zi]
  refine ⟨_,ha,?_⟩
  have f1:Zb2 a.off (.cells ca ta (0,0))=false:=by simp [Zb2]
  simp only [f1,Zr,ZbA,Bool.false_eq_true,if_false,Bool.false_and,Zi]
  refine ⟨_,hb',?_⟩
  simp only [Zr,ZbA,Zi]
  refine ZlT ha ?_
  rw [Zi]
  refine ZlT hb' ?_
  unfold mayBeOne
  simp only [Zi]
  refine Zht ha ?_
  rw [Zi]
  refine Zht hb' ?_
  simp only [Zi]
  refine ⟨_,ha,?_⟩
  simp only [Zr,ZbA,Zi]
  refine ⟨_,hb',?_⟩
  simp only [Bool.false_and,Bool.or_false,Bool.false_eq_true,if_false,Zr,ZbA]
  exact q
theorem Zwq {tI tE te:TypeId} {ms:Array (String × TypeId)} {i:TypeInfo} {d:Nat} {x y:Addr} {B:Kn} {L:Cells} {Q:Bool→Kn→Cells→Prop} (hi:P.underlying tI=some (.interface ms)) (hp:P.underlying tE=some (.pointer te)) (hinfo:P.info? tE=some i) (hc:i.comparable=true) (hs:Z9 P te=some (d+1))
  (h:hb P (sameAddr x y) Q B L):hb P (Op.equal tI (.iface tE (.pointer (some x))) (.iface tE (.pointer (some y)))) Q B L:=by
 show hb P (Op.equalIn (9999+1) tI _ _) Q B L
 rw [Op.equalIn,Zi,Zt hi]
 simp only [ne_eq,not_true_eq_false,if_false,Zi,ZbV hinfo,hc,Bool.not_true,Bool.false_eq_true]
 show hb P (Op.equalIn (9998+1) tE _ _) Q B L
 rw [Op.equalIn,Zi,Zt hp]
 simp only [Zi,ZaZ hs,ne_eq,Nat.add_eq_zero_iff,Nat.one_ne_zero,and_false,not_false_eq_true,if_true]
 exact h
theorem Zrh {tE:TypeId} {gs:List Nat} {B:Kn} {a:Nat→Addr} (h:ErrsB tE gs B a) {k:Nat} (hk:k<4) (L:Cells) :∃cs T,Zj4 B L (a k).block (.cells cs T (0,0)):=
 let ⟨cs,T,e⟩:=h.cell k hk;⟨cs,T,.inl e⟩
theorem Zwr {tI tE te:TypeId} {ms:Array (String × TypeId)} {i:TypeInfo} {d:Nat} {c k:Nat} {gs:List Nat} {a:Nat→Addr} {B:Kn} {L:Cells} {Q:Bool→Kn→Cells→Prop} (hE:ErrsB tE gs B a) (hcb:c<5) (hkb:k<4) (hi:P.underlying tI=some (.interface ms)) (hp:P.underlying tE=some (.pointer te)) (hinfo:P.info? tE=some i) (hc:i.comparable=true) (hs:Z9 P te=some (d+1))
  (h:Q (decide (c=k+1)) B L):hb P (Op.equal tI (errv tE a c) (errv tE a (k+1))) Q B L:=by
 cases c with
 | zero=>
  show hb P (Op.equalIn (9999+1) tI .nilIface _) Q B L
  rw [Op.equalIn,Zi,Zt hi]
  simp only [errv,Zr]
  simpa using h
 | succ c=>
  refine Zwq hi hp hinfo hc hs ?_
  by_cases e:c=k
  ·subst e
   exact Zs2 (by simpa using h)
  ·obtain ⟨cs,T,h1⟩:=Zrh hE (k:=c) (by omega) L
   obtain ⟨cs',T',h2⟩:=Zrh hE hkb L
   exact Zs3 (hE.ne c k (by omega) hkb e) h1 h2 (by simpa [e] using h)
end
section
variable {P:PJ} {n:Nat} {ops:Array Oper} {i:Nat} {K:Zbf} {S:Env} {D:List Deferred} {B:Kn} {L:List Cells}
variable {dst:Option Tmp} {ty:TypeId} {pos:String} {after:Array Edge} {g:Option (Nat × Bool)}
theorem ZnL {t u:TypeId} {x:Operand} {tE:TypeId} {a:Nat→Addr} {c:Nat} {ms:Array (String × TypeId)} (hg:Zl ops S g=some true) (hd:Zy n dst=true) (hu:P.underlying t=some (.interface ms)) (hx:ev S x=some (errv tE a c)) (h:K (.bool (decide (c=0))) D B L):opX P n ops i ⟨dst,.binOp .eql t x (.const .nilIface) u,ty,pos,after,g⟩ K S D B L:=
 ZP hg hd (fun ρ hρ Q F q=>by
  have e0:ρ (.const .nilIface) = .nilIface:=hρ (.const .nilIface) _ rfl
  simp only [execOp,hρ x _ hx,e0,Zi]
  cases c with
  | zero=>
   simp only [errv,eqGuard,binOp,Bool.not_true,Bool.false_eq_true,if_false,Bool.or_true,if_true,Zr,Zi]
   show hb P (Op.equalIn (9999+1) t .nilIface .nilIface) _ B _
   rw [Op.equalIn,Zi,Zt hu]
   simp only [Zr]
   simpa using q
  | succ c=>
   simp only [errv,eqGuard,binOp,Bool.not_true,Bool.false_eq_true,if_false,Bool.or_true,if_true,Zr,Zi]
   show hb P (Op.equalIn (9999+1) t (.iface tE _) .nilIface) _ B _
   rw [Op.equalIn,Zi,Zt hu]
   simp only [Zr]
   simpa using q) h
theorem ZpL {t u:TypeId} {x:Operand} {tE:TypeId} {a:Nat→Addr} {c:Nat} {ms:Array (String × TypeId)} (hg:Zl ops S g=some true) (hd:Zy n dst=true) (hu:P.underlying t=some (.interface ms)) (hx:ev S x=some (errv tE a c)) (h:K (.bool (decide (c≠0))) D B L):opX P n ops i ⟨dst,.binOp .neq t x (.const .nilIface) u,ty,pos,after,g⟩ K S D B L:=
 ZP hg hd (fun ρ hρ Q F q=>by
  have e0:ρ (.const .nilIface) = .nilIface:=hρ (.const .nilIface) _ rfl
  simp only [execOp,hρ x _ hx,e0,Zi]
  cases c with
  | zero=>
   simp only [errv,eqGuard,binOp,Bool.not_true,Bool.false_eq_true,if_false,Bool.or_true,if_true,Zr,Zi]
   show hb P (Op.equalIn (9999+1) t .nilIface .nilIface) _ B _
   rw [Op.equalIn,Zi,Zt hu]
   simp only [Zr]
   simpa using q
  | succ c=>
   simp only [errv,eqGuard,binOp,Bool.not_true,Bool.false_eq_true,if_false,Bool.or_true,if_true,Zr,Zi]
   show hb P (Op.equalIn (9999+1) t (.iface tE _) .nilIface) _ B _
   rw [Op.equalIn,Zi,Zt hu]
   simp only [Zr]
   simpa using q) h
theorem ZpS {t u:TypeId} {x y:Operand} {tE te:TypeId} {gs:List Nat} {a:Nat→Addr} {c k:Nat} {ms:Array (String × TypeId)} (hE:ErrsB tE gs B a) (hcb:c<5) (hkb:k<4) (hg:Zl ops S g=some true) (hd:Zy n dst=true) (hu:P.underlying t=some (.interface ms)) (hp:P.underlying tE=some (.pointer te)) (hinf:(P.info? tE).map (·.comparable)=some true) (hs:Z9 P te=some 1)
  (hx:ev S x=some (errv tE a c)) (hy:ev S y=some (errv tE a (k+1))) (h:K (.bool (decide (c=k+1))) D B L):opX P n ops i ⟨dst,.binOp .eql t x y u,ty,pos,after,g⟩ K S D B L:=
 ZP hg hd (fun ρ hρ Q F q=>by
  obtain ⟨inf,hinfo,hc⟩:=Option.map_eq_some_iff.1 hinf
  have hpl:ZgX (errv tE a c) (errv tE a (k+1))=true:=by cases c <;> rfl
  simp only [execOp,hρ x _ hx,hρ y _ hy,Zi,Zf1 hpl,Zjf (.inl hpl)]
  exact Zwr hE hcb hkb hu hp hinfo hc hs q) h
theorem Zid {x:Operand} {xt t asserted:TypeId} {v:Value} {want:Array (String × TypeId)} (hg:Zl ops S g=some true) (hd:Zy n dst=true) (hu:P.underlying asserted=some (.interface want)) (hl:(P.info? t).map (fun i=>(lacking want i.methods).isEmpty)=some false) (hz:Zaq P asserted=some .nilIface)
  (hx:ev S x=some (.iface t v)) (h:K (.tuple #[.nilIface,.bool false]) D B L):opX P n ops i ⟨dst,.typeAssert x xt asserted true,ty,pos,after,g⟩ K S D B L:=
 ZP hg hd (fun ρ hρ Q F q=>by
  obtain ⟨j,hj,hm⟩:=Option.map_eq_some_iff.1 hl
  obtain ⟨m,hm⟩:=missingMethod_some (want:=want) (got:=j.methods) (fun e=>by rw [e] at hm;cases hm)
  simp only [execOp,Instr.typeAssert,hρ x _ hx,Zi,Zt hu,ZbV hj,hm,if_true,ZbU hz,Zr]
  exact q) h
theorem ZvV {f:FuncId} {fn:Func} {ext:Array Value→Sem Value} {x:Operand} {ats:Array TypeId} {v r:Value} (hg:Zl ops S g=some true) (hd:Zy n dst=true) (hf:P.funcs[f]? = some fn) (hname:(fn.name == "runtime.NumGoroutine")=false) (hb0:fn.body.isNone=true) (hn:Extern.findNext fn=none) (he:Extern.find fn=some ext)
  (hx:ev S x=some v) (hr :∀(Q:Value→Kn→Cells→Prop) B L,hb P (ext #[v]) Q B L=Q r B L) (h:K r D B L):opX P n ops i ⟨dst,.call ⟨.value (.func f),#[x],ats⟩,ty,pos,after,g⟩ K S D B L:=
 Zej hg hd fun ρ hρ F=>by
  have e0:ρ (.func f) = .func (.func f) #[] #[]:=hρ (.func f) _ rfl
  simp only [execOp,resolve,e0,Deferred.ofValue,Zi,Zr,invoke,List.map_toArray,List.map_cons,List.map_nil,hρ x _ hx]
  have e:(#[] ++ #[v]:Array Value) ++ #[] = #[v]:=by simp
  rw [e]
  simp only [callFunc,Zi,ZbF,hf,hname,Bool.false_eq_true,if_false,hb0,if_true,hn,he]
  refine ⟨rfl,?_⟩
  simp only [ZbA,Zr,Zi,hr]
  exact ⟨L,.of (.refl _),h⟩
theorem ZvS {f:FuncId} {fn:Func} {ext:Array Value→Sem Value} {x:Operand} {t:TypeId} {name:String} {ats:Array TypeId} {v u r:Value} (hg:Zl ops S g=some true) (hd:Zy n dst=true) (hf:P.funcs[f]? = some fn) (hname:(fn.name == "runtime.NumGoroutine")=false) (hb0:fn.body.isNone=true) (hn:Extern.findNext fn=none) (he:Extern.find fn=some ext)
  (hx:ev S x=some (.iface t v)) (hm :∀(k:Nat) (Q:FuncId × Value→Kn→Cells→Prop) B L,hb P (method (k+1) t v name) Q B L=Q (f,u) B L) (hr :∀(Q:Value→Kn→Cells→Prop) B L,hb P (ext #[u]) Q B L=Q r B L) (h:K r D B L):opX P n ops i ⟨dst,.call ⟨.invoke x name,#[],ats⟩,ty,pos,after,g⟩ K S D B L:=
 Zej hg hd fun ρ hρ F=>by
  have e1:(#[Value.iface t v] ++ #[])[0]? = some (.iface t v):=by simp
  have e2:(#[Value.iface t v] ++ #[]).extract 1 (#[Value.iface t v] ++ #[]).size = #[]:=by apply Array.ext';simp
  have e3 : #[u] ++ #[] = #[u]:=by simp
  simp only [execOp,resolve,hρ x _ hx,Zi,Zr,invoke,List.map_toArray,List.map_nil,e1,e2,callMethod,ZbF]
  have hpos:0<Made.depth:=by decide
  obtain ⟨d,hd'⟩ :∃d,P.types.size+Made.depth=d+1:=⟨P.types.size+Made.depth - 1,by omega⟩
  rw [hd',hm]
  simp only [e3,callFunc,Zi,ZbF,hf,hname,Bool.false_eq_true,if_false,hb0,if_true,hn,he]
  refine ⟨rfl,?_⟩
  simp only [ZbA,Zr,Zi,hr]
  exact ⟨L,.of (.refl _),h⟩
end
end Go.BL
namespace Go.BL
open Go.ChangeShapes Go.WideShapes Go.ChangeAt Go.RowKit Go.Conc
section
variable {H:Type} {enc:TypeId × Value→H} {P:Program}
theorem ZoA {t:TypeId} {ms:Array (String × TypeId)} (hu:P.underlying t=some (.interface ms)) {W W':World} {sp sp':Nat→Bool} {fuel:Nat} {cs:List Value} : DataW.trod enc P W 0 sp true fuel t cs=DataW.trod enc P W' 0 sp' true fuel t cs:=by
 cases fuel with
 | zero=>simp [DataW.trod]
 | succ n=>
  cases cs with
  | nil=>simp [DataW.trod,hu]
  | cons x xs=>
   cases xs with
   | nil=>cases x <;> simp [DataW.trod,hu]
   | cons y ys=>cases x <;> simp [DataW.trod,hu]
theorem Zsd {W W':World} (hk:Kept W W') {n:String} {g:Nat} {cs:Array Value} (hg:P.globalNamed n=some g) (hlt:g<W.heap.size) (h:W.var? P n=some cs):W'.var? P n=some cs:=by
 simp only [World.var?,hg,Option.bind_some] at h ⊢
 rw [hk.1 g hlt];exact h
theorem Zlu {W W':World} (hk:Kept W W') {sp sp':Nat→Bool} :∀{ns:List String} {gs:List (DataW H)} {ps:List MemPlace},(∀n,n∈ns→∀g t,P.globalNamed n=some g→(P.globals[g]?).map (·.type)=some t→∃ms,P.underlying t=some (.interface ms))→
  DataW.TrodVars enc P W sp ns gs ps→(∀n,n∈ns→∀g,P.globalNamed n=some g→g<W.heap.size)→DataW.TrodVars enc P W' sp' ns gs ps
 | [],[],_,_,h,_=>h
 | n :: ns,d :: ds,ps,ht,⟨g,t,cs,fuel,p,q,hg,hty,hv,hd,hr,e⟩,hlt=>by
  obtain ⟨ms,hu⟩:=ht n (List.mem_cons_self ..) g t hg hty
  exact ⟨g,t,cs,fuel,p,q,hg,hty,Zsd hk hg (hlt n (List.mem_cons_self ..) g hg) hv,(ZoA hu).trans hd,
   Zlu hk (fun n hn=>ht n (List.mem_cons_of_mem _ hn)) hr (fun n hn=>hlt n (List.mem_cons_of_mem _ hn)),e⟩
 | [],_ :: _,_,_,h,_=>h.elim
 | _ :: _,[],_,_,h,_=>h.elim
theorem ZpV {W:World} {sp:Nat→Bool} :∀{ns:List String} {gs:List (DataW H)} {ps:List MemPlace},DataW.TrodVars enc P W sp ns gs ps→∀n,n∈ns→∀g,P.globalNamed n=some g→g<W.heap.size
 | [],_,_,_,n,hn,_,_=>by cases hn
 | m :: ns,d :: ds,ps,⟨g,t,cs,fuel,p,q,hg,hty,hv,hd,hr,e⟩,n,hn,g',hg'=>by
  rcases List.mem_cons.1 hn with rfl | hn
  ·obtain rfl:=Option.some.inj (hg.symm.trans hg')
   simp only [World.var?,hg,Option.bind_some] at hv
   rcases Nat.lt_or_ge g W.heap.size with h | h
   ·exact h
   ·rw [Array.getElem?_eq_none h] at hv;cases hv
  ·exact ZpV hr n hn g' hg'
 | _ :: _,[],_,h,_,_,_,_=>h.elim
theorem ZnN {W:World} {sp:Nat→Bool} :∀{ns:List String} {gs:List (DataW H)} {ps:List MemPlace},DataW.TrodVars enc P W sp ns gs ps→gs.length=ns.length
 | [],[],_,_=>rfl
 | n :: ns,d :: ds,ps,⟨g,t,cs,fuel,p,q,hg,hty,hv,hd,hr,e⟩=>by rw [List.length_cons,List.length_cons,ZnN hr]
 | [],_ :: _,_,h=>h.elim
 | _ :: _,[],_,h=>h.elim
theorem ZqL {f:Func} {s:ChangeSpec} {apart fresh handsOn again:Bool} {W W':World} {args:Array Value} {ds gs:List (DataW H)} {before:List MemPlace} {tb:TypeId}
  (hl:laidOutB P=true) (hts:(f.params.toList.all fun t=>P.readableRec t && decide (t<P.types.size))=true) (hres:f.resultTypes.toList=[tb]) (hb:P.underlying tb=some .bool)
  (hvars :∀n,n∈s.vars→∀g t,P.globalNamed n=some g→(P.globals[g]?).map (·.type)=some t→∃ms,P.underlying t=some (.interface ms))
  (hW:DataW.Whole enc P f.params.toList s.vars apart W args.toList ds gs before) (hfn :∀ds' gs',gs'.length=s.vars.length→ds'.length=f.params.toList.length→s.fn H (ds' ++ gs') = { results:=[.lit (.bool true)],args:=ds',vars:=gs' })
  (hk:Kept W W'):s.post enc P f apart fresh handsOn again W args (.bool true) W':=by
 have hlt:=hW.lt
 have hW':=hW
 obtain ⟨p,q,hA0,hV,rfl,hfz,hnd⟩:=hW
 have hlen:=(trodAll_length hA0).2
 have hvl:gs.length=s.vars.length:=ZnN hV
 have hf2:=hfn ds gs hvl hlen
 have hr2:f.resultTypes = #[tb]:=by apply Array.ext';rw [hres]
 refine post_of_same (pa:=p) (pv:=q) hW' (fun b sp hd=>?_) (fun sp hsp=>?_) (fun sp hsp=>?_) rfl (hk.2.frame _) hk.2.2.1 ?_
 ·rw [hf2,hr2]
  exact trodAll_cons_mk (shut_bool hb _) trodAll_mk0
 ·rw [hf2]
  exact ZnW hl hk hts hA0 (fun x hx=>hlt x (List.mem_append_left _ hx)) (fun x hx=>hsp x (List.mem_append_left _ hx))
 ·rw [hf2]
  exact Zlu hk hvars hV (ZpV hV)
 ·intro j t r h1 h2
  rw [hr2] at h1 h2
  cases j with
  | zero=>
   simp only [List.getElem?_toArray,List.getElem?_cons_zero,Option.some.injEq] at h1
   simp [Value.resultList] at h2
   subst h1;subst h2
   exact okWide_bool_mk hb _
  | succ j=>simp at h1
theorem Zmy {ns:List String} (h:(ns.all fun n=>match P.globalNamed n with | some g=>(match (P.globals[g]?).map (·.type) with | some t=>(match P.underlying t with | some (.interface _)=>true | _=>false) | none=>true) | none=>true)=true) :
∀n,n∈ns→∀g t,P.globalNamed n=some g→(P.globals[g]?).map (·.type)=some t→∃ms,P.underlying t=some (.interface ms):=fun n hn g t hg ht=>by
 have h1:=List.all_eq_true.1 h n hn
 simp only [hg,ht] at h1
 split at h1
 ·exact ⟨_,by assumption⟩
 ·cases h1
theorem Zsj {ts:Array TypeId} (h:(ts.toList.all fun t=>!P.wantsStandIn t)=true) {j:Nat} {t:TypeId} (ht:ts[j]? = some t):P.wantsStandIn t=false:=by
 have:=List.all_eq_true.1 h t (by
  rw [← Array.getElem?_toList] at ht
  exact List.mem_of_getElem? ht)
 simpa using this
theorem Zlw {a:Assume} {C:Checked} {os:Os} {f:FuncId} {fn:Func} {s:ChangeSpec} {conds:List PathCond} {apart fresh handsOn again:Bool} {laid:List (String × DataW Unit)}
  (own:ownKnob C.prog.godebug=none) (started:os.Started) (hfn:C.prog.funcs[f]? = some fn)
  (witness :∃(w:World) (tape:Tape) (i:Input),w.os=os∧(w.forCall tape i).Shaped C.prog∧i.vars=[]∧Input.okWide C.prog (w.forCall tape i) .any w.heap.size f i∧
   ((s.pre enc C.prog fn conds apart (w.forCall tape i).memory i.args∧laidMetH C.prog laid (w.forCall tape i).memory)∧sizedMet enc C.prog fn (OpenSpec.ofChange s) apart (w.forCall tape i).memory i.args)∧a.holds C.prog (lone (Frame.enter C.prog f i.args .normal) [] (w.forCall tape i)))
  (runs :∀(W:World) (base:Nat) (args:Array Value) (ds gs:List (DataW H)) (before:List MemPlace),
   (∀(j:Nat) t v,fn.params[j]? = some t→args[j]? = some v→Value.okWide C.prog W .any base t v)→
   DataW.Whole enc C.prog fn.params.toList s.vars apart W args.toList ds gs before→
   (DataW.weightsEach C.prog (fn.params.toList ++ s.plain.varTypes C.prog) (ds ++ gs)).all (·≤reachBytes)=true→
   laidMetH C.prog laid W→
∃M last o w' t',runNT C.prog (M+1) (solo (G (Frame.enter C.prog f args .normal) []) W) #[]=(.ended o w',t')∧runN C.prog M (solo (G (Frame.enter C.prog f args .normal) []) W) = .next last∧
    step C.prog last = .ended o w'∧Conc.Good C.prog (fun v W'=>s.post enc C.prog fn apart fresh handsOn again W args v W') last o w' t') :
  ReturnsInLeavingWide a C os f .any (fun w args=>(s.pre enc C.prog fn conds apart w args∧laidMetH C.prog laid w)∧sizedMet enc C.prog fn (OpenSpec.ofChange s) apart w args) (s.post enc C.prog fn apart fresh handsOn again):=by
 refine returnsInLeavingWide_of_good own started witness ?_
 intro w tape i _ _ _ hok hpre hholds
 obtain ⟨_,_,_,fn',hfn',_,_,_,_,hval⟩:=hok
 have e:fn'=fn:=Option.some.inj (hfn'.symm.trans hfn)
 subst e
 obtain ⟨⟨⟨ds,gs,before,hw,hc⟩,hL⟩,hz⟩:=hpre
 have hw':=DataW.Whole.of_heap (w':=w.forCall tape i) (by rfl) hw
 have hL':=hL.of_heap (w':=w.forCall tape i) (by rfl)
 obtain ⟨M,last,o,w',t',h1,h2,h3,h4⟩:=runs (w.forCall tape i) w.heap.size i.args ds gs before hval hw' (hz.weights hw) hL'
 exact ⟨M,last,o,w',t',h1,h2,h3,h4.mono fun v hp=>ChangeSpec.post_blind hp⟩
theorem Zri {n0 n1 n2 n3 nm:String} {x0 x1 x2 x3:List UInt8} {r:List (String × DataW Unit)} {W:World} {k0 k1 k2 k3:Nat} {ti tp te ts:TypeId} {ms:Array (String × TypeId)} {f:Field}
  (h:laidMet P ((n0,.iface nm (.ptr (.agg [.lit (.string x0)]))) :: (n1,.iface nm (.ptr (.agg [.lit (.string x1)]))) :: (n2,.iface nm (.ptr (.agg [.lit (.string x2)]))) :: (n3,.iface nm (.ptr (.agg [.lit (.string x3)]))) :: r) W)
  (hg0:P.globalNamed n0=some k0) (hg1:P.globalNamed n1=some k1) (hg2:P.globalNamed n2=some k2) (hg3:P.globalNamed n3=some k3) (hy0:(P.globals[k0]?).map (·.type)=some ti) (hy1:(P.globals[k1]?).map (·.type)=some ti) (hy2:(P.globals[k2]?).map (·.type)=some ti) (hy3:(P.globals[k3]?).map (·.type)=some ti)
  (hi:P.underlying ti=some (.interface ms)) (hrow :∀u,P.typeName? 3 u=some nm→u=tp)
  (hp:P.underlying tp=some (.pointer te)) (he:P.underlying te=some (.struct #[f])) (hft:f.type=ts) (hfo:f.offset=0) (hs:P.underlying ts=some .string) (hc:P.cellsOf te=1) (hcs:P.cellsOf ts=1) :
∃a:Nat→Addr,ErrsB tp [k0,k1,k2,k3] (Zml W) a:=by
 obtain ⟨ps,⟨g0,t0,cs0,f0,p0,q0,hg0',ht0',hv0,hd0,⟨g1,t1,cs1,f1,p1,q1,hg1',ht1',hv1,hd1,⟨g2,t2,cs2,f2,p2,q2,hg2',ht2',hv2,hd2,⟨g3,t3,cs3,f3,p3,q3,hg3',ht3',hv3,hd3,_,e3⟩,e2⟩,e1⟩,e0⟩,hnd,hrows⟩:=h
 obtain rfl:=Option.some.inj (hg0.symm.trans hg0')
 obtain rfl:=Option.some.inj (hg1.symm.trans hg1')
 obtain rfl:=Option.some.inj (hg2.symm.trans hg2')
 obtain rfl:=Option.some.inj (hg3.symm.trans hg3')
 obtain rfl:=Option.some.inj (hy0.symm.trans ht0')
 obtain rfl:=Option.some.inj (hy1.symm.trans ht1')
 obtain rfl:=Option.some.inj (hy2.symm.trans ht2')
 obtain rfl:=Option.some.inj (hy3.symm.trans ht3')
 subst e3
 subst e2
 subst e1
 subst e0
 obtain ⟨l0⟩:=cs0
 obtain ⟨l1⟩:=cs1
 obtain ⟨l2⟩:=cs2
 obtain ⟨l3⟩:=cs3
 have ok0 :∀u v,l0=[.iface u v]→Value.okWide P W .any 0 u v:=fun u v e=>by
  subst e
  exact (hrows k0 0 (by simp [MemPlace.row])).2 u v (by simpa using World.var?_cell hg0' hv0 0)
 have ok1 :∀u v,l1=[.iface u v]→Value.okWide P W .any 0 u v:=fun u v e=>by
  subst e
  exact (hrows k1 0 (by simp [MemPlace.row])).2 u v (by simpa using World.var?_cell hg1' hv1 0)
 have ok2 :∀u v,l2=[.iface u v]→Value.okWide P W .any 0 u v:=fun u v e=>by
  subst e
  exact (hrows k2 0 (by simp [MemPlace.row])).2 u v (by simpa using World.var?_cell hg2' hv2 0)
 have ok3 :∀u v,l3=[.iface u v]→Value.okWide P W .any 0 u v:=fun u v e=>by
  subst e
  exact (hrows k3 0 (by simp [MemPlace.row])).2 u v (by simpa using World.var?_cell hg3' hv3 0)
 obtain ⟨a0,s0,rfl,hc0,hs0,hz0,rfl⟩:=errorString_of_trod hi hrow hp he hft hfo hs hc hcs hd0 ok0
 obtain ⟨a1,s1,rfl,hc1,hs1,hz1,rfl⟩:=errorString_of_trod hi hrow hp he hft hfo hs hc hcs hd1 ok1
 obtain ⟨a2,s2,rfl,hc2,hs2,hz2,rfl⟩:=errorString_of_trod hi hrow hp he hft hfo hs hc hcs hd2 ok2
 obtain ⟨a3,s3,rfl,hc3,hs3,hz3,rfl⟩:=errorString_of_trod hi hrow hp he hft hfo hs hc hcs hd3 ok3
 have b0:=(hrows a0.block a0.off (by simp [MemPlace.row])).1
 have b1:=(hrows a1.block a1.off (by simp [MemPlace.row])).1
 have b2:=(hrows a2.block a2.off (by simp [MemPlace.row])).1
 have b3:=(hrows a3.block a3.off (by simp [MemPlace.row])).1
 have row :∀(g:Nat) (v:Value) (n:String),P.globalNamed n=some g→W.var? P n=some #[v]→ZaI (Zml W) g 0 [v]:=fun g v n hg hv L j u hj=>by
  cases j with
  | zero=>
   simp only [List.getElem?_cons_zero,Option.some.injEq] at hj
   subst hj
   have:=Zjb (by simpa using World.var?_cell hg hv 0:W.cell? ⟨g,0,none⟩=some v)
   obtain ⟨h1,cs,T,fr,h2,h3⟩:=this
   exact ⟨h1,cs,T,fr,h2.elim .inl (fun h=>by cases h),h3⟩
  | succ j=>simp at hj
 refine ⟨fun k=>if k=0 then a0 else if k=1 then a1 else if k=2 then a2 else a3,fun k hk=>?_,fun k hk=>?_,fun i j hi' hj' hne=>?_⟩
 ·match k,hk with
  | 0,_=>exact row k0 _ _ hg0 hv0
  | 1,_=>exact row k1 _ _ hg1 hv1
  | 2,_=>exact row k2 _ _ hg2 hv2
  | 3,_=>exact row k3 _ _ hg3 hv3
 ·match k,hk with
  | 0,_=>exact b0
  | 1,_=>exact b1
  | 2,_=>exact b2
  | 3,_=>exact b3
 ·have h01:a0≠a1:=by rintro rfl;simp [MemPlace.row] at hnd
  have h02:a0≠a2:=by rintro rfl;simp [MemPlace.row] at hnd
  have h03:a0≠a3:=by rintro rfl;simp [MemPlace.row] at hnd
  have h12:a1≠a2:=by rintro rfl;simp [MemPlace.row] at hnd
  have h13:a1≠a3:=by rintro rfl;simp [MemPlace.row] at hnd
  have h23:a2≠a3:=by rintro rfl;simp [MemPlace.row] at hnd
  match i,j,hi',hj',hne with
  | 0,1,_,_,_=>exact h01
  | 0,2,_,_,_=>exact h02
  | 0,3,_,_,_=>exact h03
  | 1,0,_,_,_=>exact h01.symm
  | 1,2,_,_,_=>exact h12
  | 1,3,_,_,_=>exact h13
  | 2,0,_,_,_=>exact h02.symm
  | 2,1,_,_,_=>exact h12.symm
  | 2,3,_,_,_=>exact h23
  | 3,0,_,_,_=>exact h03.symm
  | 3,1,_,_,_=>exact h13.symm
  | 3,2,_,_,_=>exact h23.symm
  | 0,0,_,_,h=>exact (h rfl).elim
  | 1,1,_,_,h=>exact (h rfl).elim
  | 2,2,_,_,h=>exact (h rfl).elim
  | 3,3,_,_,h=>exact (h rfl).elim
end
theorem ZrB (Lk:Looks) {p:Pinned} {s:OpenSpec} {c:OpenClaim} (kinds:List LaidKind) (tests:Bool) (har:Bool × String) (lk:Bool)
  (hc:c.holds p s) (hw:c.wfByText s=true) (htie:c.laidByTextAt Lk p kinds tests)
  (hst:c.start = .entering) (hnb:c.noBlocks=false∧c.again=false) (hm:p.checked.prog.mainIs=some (har.1,har.2.toList)) (hn:(!har.1 && har.2.isEmpty && !lk)=false)
  (hl :∀f fn,p.checked.prog.funcNamed c.func=some f→p.checked.prog.funcs[f]? = some fn→lk=p.checked.prog.looks []∧∀(j:Nat) t,fn.params[j]? = some t→p.checked.prog.wantsStandIn t=false)
  (hg:true=c.goesBy p.checked.prog) :
  Claim7.holds p (.plain s) { stood:={ row:=c,standIns:=[],harness:=har,looks:=lk },kinds:=[],alts:=[],goes:=true,laidByText:=true,laidKinds:=kinds,laidTests:=tests,laidLooks:=Lk }:=by
 have h6 :∀r:OpenClaim,Claim7.isSixth { stood:={ row:=r,standIns:=[],harness:=har,looks:=lk },kinds:=[] } = false:=fun r=>by simpa [Claim7.isSixth] using hn
 refine ⟨Claim7.tied_new_at Lk kinds tests (Claim7.new_of_sixth hc har lk hst hnb hm (h6 c) hl) hw,(fun D hD=>by cases hD),htie,(fun h=>by cases h),hg⟩
end Go.BL
namespace Go.BL
open Go.Conc (G)
section
variable {P:PJ} {n:Nat} {ops:Array Oper} {i:Nat} {K:Zbf} {S:Env} {D:List Deferred} {B:Kn} {L:List Cells}
variable {dst:Option Tmp} {ty:TypeId} {pos:String} {after:Array Edge} {g:Option (Nat × Bool)}
theorem Zuf {f:FuncId} {x:Operand} {cap:Array Value} {xs:List Operand} {vs:List Value} {ats:Array TypeId} {Post:Value→Kn→List Cells→Prop} (js:List Nat) {ss r:List Cells} (hp:Za2 L js=some (ss,r)) (hn:ZfF js=true) (hg:Zl ops S g=some true) (hd:Zy n dst=true) (he:enters P f=true) (hx:ev S x=some (.func (.func f) #[] cap)) (ha:evs S xs=some vs) (hc:Zu P f (vs ++ cap.toList) B ss Post)
  (h :∀v B' Ls',B.le B'→Post v B' Ls'→K v D B' (Zde r js Ls')):opX P n ops i ⟨dst,.call ⟨.value x,xs.toArray,ats⟩,ty,pos,after,g⟩ K S D B L:=
 Zek (o:=⟨dst,.call ⟨.value x,xs.toArray,ats⟩,ty,pos,after,g⟩) (vs:=vs ++ cap.toList) hg (fun ρ hρ Q F q=>by
   have:=ZeP (P:=P) (B:=B) (L:=L) (dst:=dst) (ty:=ty) (pos:=pos) (after:=after) (g:=g) (x:=x) (first:=#[]) (cap:=cap) (ats:=ats) he hx ha ρ hρ Q F
   exact this (by simpa using q)) hd (Ls:=ss) (Lk:=r) (ZaQ js L ss r hp) hc
  fun v' B' Ls' hle hq=>⟨Zde r js Ls',Zdy Ls' r js (ZdA hn) (fun j hj=>Zdz js L ss r hp j (.inr hj)),h v' B' Ls' hle hq⟩
end
theorem ZzA {B:Kn} {ls:List Cells} {b:Nat} {row:List Value} {T:TypeId} (k:Nat) (hk:ls[k]? = some (Z8 b row T)) (hm :∀q,q∈ls.flatten→(B.add ls.flatten).mem q.1=some q.2):ZaI (B.add ls.flatten) b 0 row:=ZbR (ZqK hm k hk)
end Go.BL
namespace Go.BL
open Go.Conc (G)
end Go.BL
namespace Go.BL
section
variable {P:PJ} {n:Nat} {ops:Array Oper} {i:Nat} {K:Zbf} {S:Env} {D:List Deferred} {B:Kn} {L:List Cells}
variable {dst:Option Tmp} {ty:TypeId} {pos:String} {after:Array Edge} {g:Option (Nat × Bool)}
theorem ZnJ {x y:Operand} {ats:Array TypeId} {a b:Int} {k k':IntKind} (hg:Zl ops S g=some true) (hd:Zy n dst=true) (hx:ev S x=some (.int k a)) (hy:ev S y=some (.int k' b)) (h:K (.int k (max a b)) D B L):opX P n ops i ⟨dst,.call ⟨.builtin .max,#[x,y],ats⟩,ty,pos,after,g⟩ K S D B L:=
 ZP hg hd (fun ρ hρ Q F q=>by
  have e:(if b > a then b else a)=max a b:=by rw [Int.max_def];split <;> split <;> omega
  simp only [execOp,resolve,Zi,Zr,invoke,builtin,Builtin.max_,List.map_toArray,List.map_cons,List.map_nil,hρ x _ hx,hρ y _ hy,List.foldlM_cons,List.foldlM_nil,Builtin.max2,e]
  exact q) h
theorem Zjt {x y:Operand} {ats:Array TypeId} {a b:Int} {k k':IntKind} (hg:Zl ops S g=some true) (hd:Zy n dst=true) (hx:ev S x=some (.int k a)) (hy:ev S y=some (.int k' b)) (h:K (.int k (min a b)) D B L):opX P n ops i ⟨dst,.call ⟨.builtin .min,#[x,y],ats⟩,ty,pos,after,g⟩ K S D B L:=
 ZP hg hd (fun ρ hρ Q F q=>by
  have e:(if b<a then b else a)=min a b:=by rw [Int.min_def];split <;> split <;> omega
  simp only [execOp,resolve,Zi,Zr,invoke,builtin,Builtin.min_,List.map_toArray,List.map_cons,List.map_nil,hρ x _ hx,hρ y _ hy,List.foldlM_cons,List.foldlM_nil,Builtin.min2,e]
  exact q) h
end
end Go.BL
namespace Go.BL
section
variable {P:PJ} {n:Nat} {ops:Array Oper} {i:Nat} {K:Zbf} {S:Env} {D:List Deferred} {B:Kn} {L:List Cells}
variable {dst:Option Tmp} {ty:TypeId} {pos:String} {after:Array Edge} {g:Option (Nat × Bool)}
variable {α:Type} {R:Rel α} {xs:List α}
theorem ZaO.own {B:Kn} {L:List Cells} {l:Cells} {p:Option Addr} {m c sz:Nat} {T:TypeId} {vs:List Value} (h:Zh0 l p m c T sz vs) (j:Nat) (hj:L[j]? = some l):ZaO B L.flatten p vs:=by
 obtain ⟨h1,⟨rfl,rfl,rfl,rfl⟩ | ⟨b,arr,rfl,h2,h3,rfl,h4⟩⟩:=h
 ·exact List.eq_nil_of_length_eq_zero (by simpa using h1)
 ·intro k v hk
  have hv':arr[k]? = some v:=by
   rw [← h3,List.getElem?_take] at hk
   split at hk
   ·exact hk
   ·cases hk
  exact ZaO.box (B:=B) j hj k v hv'
theorem ZvY {t u e:TypeId} {x y:Operand} {sz by_ m c:Nat} {p:Option Addr} {l:Cells} (j:Nat) (hj:L[j]? = some l) (hv:ZT B l p c e sz R xs) (hm:m=xs.length) (hg:Zl ops S g=some true) (hd:Zy n dst=true)
  (he:ZcL P t e sz by_=true) (hu:(match P.underlying u with | some (.slice _)=>true | _=>false)=true) (hx:ev S x=some (.slice p m c)) (hy:ev S y=some (.slice p m c)) (hone :∀row y,R B row y→row.all Zis=true∧row.length=sz) (hb1:(xs.length+xs.length)*by_≤140737488355328)
  (h :∀l' p' c',ZT B l' p' c' e sz R (xs ++ xs)→K (.slice p' (xs ++ xs).length c') D B (L.set j l')):opX P n ops i ⟨dst,.call ⟨.builtin .append,#[x,y],#[t,u]⟩,ty,pos,after,g⟩ K S D B L:=by
 obtain ⟨rows,h1,h2,h3⟩:=id hv
 have ho:rows.flatten.all Zis=true:=by
  clear h2 h3 hb1 h hv hm
  induction h1 with
  | nil=>rfl
  | cons a b ih=>rw [List.flatten_cons,List.all_append,(hone _ _ a).1,ih];rfl
 exact ZnM j hj hv hm hg hd he hu hx hy hm (ZaO.own h3 j hj) ho h2 h1 hb1 h
end
end Go.BL
namespace Go.BL
theorem ZgE {P:PJ} {n:Nat} {Q:Exit→Zas} {S:Env} {D:List Deferred} {B:Kn} {L:List Cells} {c:Code} (L':List Cells) (hl:L=L') (h:wpS P n c Q S D B L'):wpS P n c Q S D B L:=by subst hl;exact h
theorem sQ:(∀(p:Prop) [Decidable p],(decide p=true)=p)∧(∀(p:Prop) [Decidable p],(decide p=false) = ¬p)∧(∀b:Bool,((!b)=true)=(b=false))∧(∀b:Bool,((!b)=false)=(b=true))∧(∀(p:Prop) [Decidable p],(decide (¬p)) = !decide p)∧(∀(p:Prop) [Decidable p],(¬¬p)=p)∧(∀a b:Int,(¬a<b)=(b≤a))∧(∀a b:Int,(¬a≤b)=(b<a)):=
 ⟨fun p _=>by simp,fun p _=>by simp,by simp,by simp,fun p _=>by simp,fun p _=>by simp,by simp,by simp⟩
end Go.BL
namespace Go.BL
def orI (a b:Int):Int:=IntKind.i64.wrap (BitVec.ofInt 64 a ||| BitVec.ofInt 64 b).toNat
def Zw0 (a b:Int):Int:=IntKind.i64.wrap (BitVec.ofInt 64 a &&& BitVec.ofInt 64 b).toNat
section
variable {P:PJ} {n:Nat} {ops:Array Oper} {i:Nat} {K:Zbf} {S:Env} {D:List Deferred} {B:Kn} {L:List Cells}
variable {dst:Option Tmp} {ty:TypeId} {pos:String} {after:Array Edge} {g:Option (Nat × Bool)}
theorem ZnK {t kt et:TypeId} {x y:Operand} {b:Nat} {l:Cells} {kvs:KV} {k:List UInt8} (j:Nat) (hj:L[j]? = some l) (hl:Zvu l b kvs) (hg:Zl ops S g=some true) (hd:Zy n dst=true) (hu:P.underlying t=some (.map kt et)) (hk:P.underlying kt=some .string)
  (hz:Zaq P et=some (.int .i64 0)) (hx:ev S x=some (.map (some b))) (hy:ev S y=some (str k)) (h:K (.int .i64 ((mget kvs k).getD 0)) D B L):opX P n ops i ⟨dst,.lookup t x y false,ty,pos,after,g⟩ K S D B L:=
 Zej hg hd fun ρ hρ F=>by
  obtain ⟨es,clock,rfl,ok⟩:=hl
  have hin:(b,Obj.map es clock)∈L.flatten ++ F:=by
   rw [((Zai F [] hj).choose_spec.1).mem_iff];simp
  simp only [execOp,Instr.lookup,hρ x _ hx,hρ y _ hy,Zi,Zt hu]
  refine ⟨_,.inr hin,rfl,rfl,?_⟩
  simp only [ZbA,Zi,Zr]
  refine ZiQ hk ?_
  rw [Zi]
  refine ZjP hk ok.ent ?_
  cases hm:mlook kvs k 0 with
  | none=>
   obtain ⟨_,_,_,m4⟩:=ZgM hm
   simp only [ZbU hz,Zr,Zi,ZqY,Bool.false_eq_true,if_false]
   rw [m4] at h
   exact ⟨L,.of (List.Perm.refl _),h⟩
  | some p=>
   obtain ⟨jj,u⟩:=p
   obtain ⟨m,w,rfl,rfl,m3,m4,_,m6⟩:=ZgL hm
   simp only [Zr,Zi,Bool.false_eq_true,if_false]
   rw [m6] at h
   exact ⟨L,.of (List.Perm.refl _),h⟩
section
variable {t u:TypeId} {x y:Operand} {a b r:Int}
theorem Zxt (hg:Zl ops S g=some true) (hd:Zy n dst=true) (hx:ev S x=some (.int .i64 a)) (hy:ev S y=some (.int .i64 b)) (h:K (.int .i64 (orI a b)) D B L):opX P n ops i ⟨dst,.binOp .or t x y u,ty,pos,after,g⟩ K S D B L:=
 ZP hg hd (fun ρ hρ Q F q=>by
  simp only [execOp,hρ x _ hx,hρ y _ hy,Zi,Zap,binOp,ne_eq,not_true_eq_false,if_false,Op.intBits,Zr];exact q) h
theorem Zv0 (hg:Zl ops S g=some true) (hd:Zy n dst=true) (hx:ev S x=some (.int .i64 a)) (hy:ev S y=some (.int .i64 b)) (h:K (.int .i64 (Zw0 a b)) D B L):opX P n ops i ⟨dst,.binOp .and t x y u,ty,pos,after,g⟩ K S D B L:=
 ZP hg hd (fun ρ hρ Q F q=>by
  simp only [execOp,hρ x _ hx,hρ y _ hy,Zi,Zap,binOp,ne_eq,not_true_eq_false,if_false,Op.intBits,Zr];exact q) h
end
end
end Go.BL
namespace Go.BL
theorem om {p:Prop} (h:p:=by first | omega | (simp;done) | (simp;omega)):p:=h
theorem om2 {p:Prop} (h:p:=by first | assumption | omega | (simp;done) | (simp;omega)):p:=h
theorem oz {p:Prop} (h:p:=by omega):p:=h
theorem kr {p:Prop} (h:p:=by kernel_rfl):p:=h
theorem so {p:Prop} (h:p:=by simp only [];omega):p:=h
theorem so2 {p:Prop} (h:p:=by first | omega | (simp only [];omega)):p:=h
theorem oa {p:Prop} (h:p:=by first | assumption | omega):p:=h
theorem oy {p:Prop} (h:p:=by assumption):p:=h
theorem om3 {p:Prop} (h:p:=by first | omega | decide | (simp;done) | (simp;omega)):p:=h
theorem ob {p:Prop} (h:p:=by first | assumption | omega | (simp only [];omega) | (simp only [];assumption) | (simp;done) | (simp;omega)):p:=h
theorem ol {p:Prop} (h:p:=by first | rfl | (simp only [List.length_set];rfl)):p:=h
theorem t1 {α0:Sort _} {a0:α0} : a0=a0∧True:=⟨rfl,trivial⟩
theorem t2 {α0 α1:Sort _} {a0:α0} {a1:α1} : a0=a0∧a1=a1∧True:=⟨rfl,rfl,trivial⟩
theorem t3 {α0 α1 α2:Sort _} {a0:α0} {a1:α1} {a2:α2} : a0=a0∧a1=a1∧a2=a2∧True:=⟨rfl,rfl,rfl,trivial⟩
theorem t4 {α0 α1 α2 α3:Sort _} {a0:α0} {a1:α1} {a2:α2} {a3:α3} : a0=a0∧a1=a1∧a2=a2∧a3=a3∧True:=⟨rfl,rfl,rfl,rfl,trivial⟩
theorem t5 {α0 α1 α2 α3 α4:Sort _} {a0:α0} {a1:α1} {a2:α2} {a3:α3} {a4:α4} : a0=a0∧a1=a1∧a2=a2∧a3=a3∧a4=a4∧True:=⟨rfl,rfl,rfl,rfl,rfl,trivial⟩
theorem t6 {α0 α1 α2 α3 α4 α5:Sort _} {a0:α0} {a1:α1} {a2:α2} {a3:α3} {a4:α4} {a5:α5} : a0=a0∧a1=a1∧a2=a2∧a3=a3∧a4=a4∧a5=a5∧True:=⟨rfl,rfl,rfl,rfl,rfl,rfl,trivial⟩
theorem t7 {α0 α1 α2 α3 α4 α5 α6:Sort _} {a0:α0} {a1:α1} {a2:α2} {a3:α3} {a4:α4} {a5:α5} {a6:α6} : a0=a0∧a1=a1∧a2=a2∧a3=a3∧a4=a4∧a5=a5∧a6=a6∧True:=⟨rfl,rfl,rfl,rfl,rfl,rfl,rfl,trivial⟩
theorem t8 {α0 α1 α2 α3 α4 α5 α6 α7:Sort _} {a0:α0} {a1:α1} {a2:α2} {a3:α3} {a4:α4} {a5:α5} {a6:α6} {a7:α7} : a0=a0∧a1=a1∧a2=a2∧a3=a3∧a4=a4∧a5=a5∧a6=a6∧a7=a7∧True:=⟨rfl,rfl,rfl,rfl,rfl,rfl,rfl,rfl,trivial⟩
theorem t9 {α0 α1 α2 α3 α4 α5 α6 α7 α8:Sort _} {a0:α0} {a1:α1} {a2:α2} {a3:α3} {a4:α4} {a5:α5} {a6:α6} {a7:α7} {a8:α8} : a0=a0∧a1=a1∧a2=a2∧a3=a3∧a4=a4∧a5=a5∧a6=a6∧a7=a7∧a8=a8∧True:=⟨rfl,rfl,rfl,rfl,rfl,rfl,rfl,rfl,rfl,trivial⟩
theorem t10 {α0 α1 α2 α3 α4 α5 α6 α7 α8 α9:Sort _} {a0:α0} {a1:α1} {a2:α2} {a3:α3} {a4:α4} {a5:α5} {a6:α6} {a7:α7} {a8:α8} {a9:α9} : a0=a0∧a1=a1∧a2=a2∧a3=a3∧a4=a4∧a5=a5∧a6=a6∧a7=a7∧a8=a8∧a9=a9∧True:=⟨rfl,rfl,rfl,rfl,rfl,rfl,rfl,rfl,rfl,rfl,trivial⟩
theorem t11 {α0 α1 α2 α3 α4 α5 α6 α7 α8 α9 α10:Sort _} {a0:α0} {a1:α1} {a2:α2} {a3:α3} {a4:α4} {a5:α5} {a6:α6} {a7:α7} {a8:α8} {a9:α9} {a10:α10} : a0=a0∧a1=a1∧a2=a2∧a3=a3∧a4=a4∧a5=a5∧a6=a6∧a7=a7∧a8=a8∧a9=a9∧a10=a10∧True:=⟨rfl,rfl,rfl,rfl,rfl,rfl,rfl,rfl,rfl,rfl,rfl,trivial⟩
theorem t12 {α0 α1 α2 α3 α4 α5 α6 α7 α8 α9 α10 α11:Sort _} {a0:α0} {a1:α1} {a2:α2} {a3:α3} {a4:α4} {a5:α5} {a6:α6} {a7:α7} {a8:α8} {a9:α9} {a10:α10} {a11:α11} : a0=a0∧a1=a1∧a2=a2∧a3=a3∧a4=a4∧a5=a5∧a6=a6∧a7=a7∧a8=a8∧a9=a9∧a10=a10∧a11=a11∧True:=⟨rfl,rfl,rfl,rfl,rfl,rfl,rfl,rfl,rfl,rfl,rfl,rfl,trivial⟩
theorem t17 {α0 α1 α2 α3 α4 α5 α6 α7 α8 α9 α10 α11 α12 α13 α14 α15 α16:Sort _} {a0:α0} {a1:α1} {a2:α2} {a3:α3} {a4:α4} {a5:α5} {a6:α6} {a7:α7} {a8:α8} {a9:α9} {a10:α10} {a11:α11} {a12:α12} {a13:α13} {a14:α14} {a15:α15} {a16:α16} : a0=a0∧a1=a1∧a2=a2∧a3=a3∧a4=a4∧a5=a5∧a6=a6∧a7=a7∧a8=a8∧a9=a9∧a10=a10∧a11=a11∧a12=a12∧a13=a13∧a14=a14∧a15=a15∧a16=a16∧True:=⟨rfl,rfl,rfl,rfl,rfl,rfl,rfl,rfl,rfl,rfl,rfl,rfl,rfl,rfl,rfl,rfl,rfl,trivial⟩
section
variable {P:PJ} {n:Nat} {ops:Array Oper} {i:Nat} {K:Zas} {S:Env} {D:List Deferred} {B:Kn} {L:List Cells}
variable {dst:Option Tmp} {ty:TypeId} {pos:String} {after:Array Edge} {g:Option (Nat × Bool)} {t u:TypeId} {x y:Operand}
theorem xM {x:Operand} {v:Value} (hg:Zl ops S g=some true:=by exact rfl) (hd:Zy n dst=true:=by exact rfl) (hx:ev S x=some v:=by exact rfl) (h:K (ZbS S dst v) D B L):opW P n ops i ⟨dst,.move x,ty,pos,after,g⟩ K S D B L:=Zm (Zdu hg hd hx h)
theorem xA {x:Operand} {v:Value} (hg:Zl ops S g=some true:=by exact rfl) (hd:Zy n dst=true:=by exact rfl) (hx:ev S x=some v:=by exact rfl) (h:K (ZbS S dst v) D B L):opW P n ops i ⟨dst,.assign x,ty,pos,after,g⟩ K S D B L:=Zm (ZhI hg hd hx h)
theorem xP  {dst:Option Tmp} {op:Op} {t:TypeId} {pos:String} {after:Array Edge} {g:Option (Nat × Bool)}   (hg:Zl ops S g=some false:=by exact rfl) (hd:Zy n dst=true:=by exact rfl) (h:K (ZbS S dst undef) D B L):opW P n ops i ⟨dst,op,t,pos,after,g⟩ K S D B L:=Zm (ZtI  hg hd h)
theorem xT  {c:Operand} {a:Operand} {b:Operand} {v:Value}   (hg:Zl ops S g=some true:=by exact rfl) (hd:Zy n dst=true:=by exact rfl) (hc:ev S c=some (.bool true):=by exact rfl) (hx:ev S a=some v:=by exact rfl) (h:K (ZbS S dst v) D B L):opW P n ops i ⟨dst,.pick c a b,ty,pos,after,g⟩ K S D B L:=Zm (ZpJ  hg hd hc hx h)
theorem xF  {c:Operand} {a:Operand} {b:Operand} {v:Value}   (hg:Zl ops S g=some true:=by exact rfl) (hd:Zy n dst=true:=by exact rfl) (hc:ev S c=some (.bool false):=by exact rfl) (hx:ev S b=some v:=by exact rfl) (h:K (ZbS S dst v) D B L):opW P n ops i ⟨dst,.pick c a b,ty,pos,after,g⟩ K S D B L:=Zm (ZpK  hg hd hc hx h)
theorem xE  {x:Operand} {ix:Nat} {vs:List Value} {v:Value}   (hg:Zl ops S g=some true:=by exact rfl) (hd:Zy n dst=true:=by exact rfl) (hx:ev S x=some (.tuple vs.toArray):=by exact rfl) (hi:vs[ix]? = some v:=by exact rfl) (h:K (ZbS S dst v) D B L):opW P n ops i ⟨dst,.extract x ix,ty,pos,after,g⟩ K S D B L:=Zm (Zic  hg hd hx hi h)
theorem xN  {x:Operand} {b:Bool} {t:TypeId}   (hg:Zl ops S g=some true:=by exact rfl) (hd:Zy n dst=true:=by exact rfl) (hx:ev S x=some (.bool b):=by exact rfl) (h:K (ZbS S dst (.bool (!b))) D B L):opW P n ops i ⟨dst,.unOp .not t x,ty,pos,after,g⟩ K S D B L:=Zm (ZvK  hg hd hx h)
theorem xW  {s:TypeId} {x:Operand} {fi:Nat} {off:Nat} {a:Addr}  (hf:ZF P s fi=some off) (hg:Zl ops S g=some true:=by exact rfl) (hd:Zy n dst=true:=by exact rfl) (hx:ev S x=some (ptr a):=by exact rfl) (h:K (ZbS S dst (ptr (a.add off))) D B L):opW P n ops i ⟨dst,.fieldAddr s x fi,ty,pos,after,g⟩ K S D B L:=Zm (Zav  hg hd hf hx h)
theorem xD  {k:IntKind} {a b r:Int}   (hg:Zl ops S g=some true:=by exact rfl) (hd:Zy n dst=true:=by exact rfl) (hx:ev S x=some (.int k a):=by exact rfl) (hy:ev S y=some (.int k b):=by exact rfl) (hr:k.wrap (a+b)=r:=by first | exact ZaY (by first | omega | (simp;done) | (simp;omega)) (by first | omega | (simp;done) | (simp;omega)) | exact rfl) (h:K (ZbS S dst (.int k r)) D B L):opW P n ops i ⟨dst,.binOp .add t x y u,ty,pos,after,g⟩ K S D B L:=Zm (ZeY  hg hd hx hy hr h)
theorem xU  {k:IntKind} {a b r:Int}   (hg:Zl ops S g=some true:=by exact rfl) (hd:Zy n dst=true:=by exact rfl) (hx:ev S x=some (.int k a):=by exact rfl) (hy:ev S y=some (.int k b):=by exact rfl) (hr:k.wrap (a - b)=r:=by first | exact ZaY (by first | omega | (simp;done) | (simp;omega)) (by first | omega | (simp;done) | (simp;omega)) | exact rfl) (h:K (ZbS S dst (.int k r)) D B L):opW P n ops i ⟨dst,.binOp .sub t x y u,ty,pos,after,g⟩ K S D B L:=Zm (Zjk  hg hd hx hy hr h)
theorem xY  {k:IntKind} {a b r:Int}   (hg:Zl ops S g=some true:=by exact rfl) (hd:Zy n dst=true:=by exact rfl) (hx:ev S x=some (.int k a):=by exact rfl) (hy:ev S y=some (.int k b):=by exact rfl) (hr:k.wrap (a*b)=r:=by first | exact ZaY (by first | omega | (simp;done) | (simp;omega)) (by first | omega | (simp;done) | (simp;omega)) | exact rfl) (h:K (ZbS S dst (.int k r)) D B L):opW P n ops i ⟨dst,.binOp .mul t x y u,ty,pos,after,g⟩ K S D B L:=Zm (Zk4  hg hd hx hy hr h)
theorem Zag  {k:IntKind} {a b:Int}   (hg:Zl ops S g=some true:=by exact rfl) (hd:Zy n dst=true:=by exact rfl) (hx:ev S x=some (.int k a):=by exact rfl) (hy:ev S y=some (.int k b):=by exact rfl) (h:K (ZbS S dst (.bool (decide (a<b)))) D B L):opW P n ops i ⟨dst,.binOp .lss t x y u,ty,pos,after,g⟩ K S D B L:=Zm (ZvP  hg hd hx hy h)
theorem ZcO  {k:IntKind} {a b:Int}   (hg:Zl ops S g=some true:=by exact rfl) (hd:Zy n dst=true:=by exact rfl) (hx:ev S x=some (.int k a):=by exact rfl) (hy:ev S y=some (.int k b):=by exact rfl) (h:K (ZbS S dst (.bool (decide (a≤b)))) D B L):opW P n ops i ⟨dst,.binOp .leq t x y u,ty,pos,after,g⟩ K S D B L:=Zm (ZvQ  hg hd hx hy h)
theorem ZbG  {k:IntKind} {a b:Int}   (hg:Zl ops S g=some true:=by exact rfl) (hd:Zy n dst=true:=by exact rfl) (hx:ev S x=some (.int k a):=by exact rfl) (hy:ev S y=some (.int k b):=by exact rfl) (h:K (ZbS S dst (.bool (decide (b<a)))) D B L):opW P n ops i ⟨dst,.binOp .gtr t x y u,ty,pos,after,g⟩ K S D B L:=Zm (ZvT  hg hd hx hy h)
theorem ZdN  {k:IntKind} {a b:Int}   (hg:Zl ops S g=some true:=by exact rfl) (hd:Zy n dst=true:=by exact rfl) (hx:ev S x=some (.int k a):=by exact rfl) (hy:ev S y=some (.int k b):=by exact rfl) (h:K (ZbS S dst (.bool (decide (b≤a)))) D B L):opW P n ops i ⟨dst,.binOp .geq t x y u,ty,pos,after,g⟩ K S D B L:=Zm (ZvU  hg hd hx hy h)
theorem ZG  {k:IntKind} {a b:Int}   (hg:Zl ops S g=some true:=by exact rfl) (hd:Zy n dst=true:=by exact rfl) (hx:ev S x=some (.int k a):=by exact rfl) (hy:ev S y=some (.int k b):=by exact rfl) (h:K (ZbS S dst (.bool (decide (a=b)))) D B L):opW P n ops i ⟨dst,.binOp .eql t x y u,ty,pos,after,g⟩ K S D B L:=Zm (ZtN  hg hd hx hy h)
theorem Zdt  {k:IntKind} {a b:Int}   (hg:Zl ops S g=some true:=by exact rfl) (hd:Zy n dst=true:=by exact rfl) (hx:ev S x=some (.int k a):=by exact rfl) (hy:ev S y=some (.int k b):=by exact rfl) (h:K (ZbS S dst (.bool (decide (a≠b)))) D B L):opW P n ops i ⟨dst,.binOp .neq t x y u,ty,pos,after,g⟩ K S D B L:=Zm (ZpM  hg hd hx hy h)
theorem Zeh  {a b:List UInt8}   (hg:Zl ops S g=some true:=by exact rfl) (hd:Zy n dst=true:=by exact rfl) (hx:ev S x=some (str a):=by exact rfl) (hy:ev S y=some (str b):=by exact rfl) (h:K (ZbS S dst (.bool (decide (a=b)))) D B L):opW P n ops i ⟨dst,.binOp .eql t x y u,ty,pos,after,g⟩ K S D B L:=Zm (ZtM  hg hd hx hy h)
theorem Zjp  {a b:List UInt8}   (hg:Zl ops S g=some true:=by exact rfl) (hd:Zy n dst=true:=by exact rfl) (hx:ev S x=some (str a):=by exact rfl) (hy:ev S y=some (str b):=by exact rfl) (h:K (ZbS S dst (.bool (decide (a≠b)))) D B L):opW P n ops i ⟨dst,.binOp .neq t x y u,ty,pos,after,g⟩ K S D B L:=Zm (ZvL  hg hd hx hy h)
theorem ZtF  {a b:List UInt8}   (hg:Zl ops S g=some true:=by exact rfl) (hd:Zy n dst=true:=by exact rfl) (hx:ev S x=some (str a):=by exact rfl) (hy:ev S y=some (str b):=by exact rfl) (h:K (ZbS S dst (.bool (Op.bytesLess a b))) D B L):opW P n ops i ⟨dst,.binOp .lss t x y u,ty,pos,after,g⟩ K S D B L:=Zm (ZvO  hg hd hx hy h)
theorem ZvF  {a b:List UInt8}   (hg:Zl ops S g=some true:=by exact rfl) (hd:Zy n dst=true:=by exact rfl) (hx:ev S x=some (str a):=by exact rfl) (hy:ev S y=some (str b):=by exact rfl) (h:K (ZbS S dst (.bool (!Op.bytesLess a b))) D B L):opW P n ops i ⟨dst,.binOp .geq t x y u,ty,pos,after,g⟩ K S D B L:=Zm (ZpQ  hg hd hx hy h)
theorem xV  {x:Operand} {t:TypeId} {e:TypeId} {p:Option Addr} {len:Nat} {cap:Nat}  (hu:P.underlying t=some (.slice e)) (hg:Zl ops S g=some true:=by exact rfl) (hd:Zy n dst=true:=by exact rfl) (hx:ev S x=some (.slice p len cap):=by exact rfl) (h:K (ZbS S dst (.int .i64 len)) D B L):opW P n ops i ⟨dst,.call ⟨.builtin .len,#[x],#[t]⟩,ty,pos,after,g⟩ K S D B L:=Zm (ZtL  hg hd hu hx h)
theorem xVs  {x:Operand} {t:TypeId} {l:List UInt8}  (hu:P.underlying t=some .string) (hg:Zl ops S g=some true:=by exact rfl) (hd:Zy n dst=true:=by exact rfl) (hx:ev S x=some (str l):=by exact rfl) (h:K (ZbS S dst (.int .i64 l.length)) D B L):opW P n ops i ⟨dst,.call ⟨.builtin .len,#[x],#[t]⟩,ty,pos,after,g⟩ K S D B L:=Zm (ZpP  hg hd hu hx h)
theorem xNc  {x:Operand} {a:Addr}   (hg:Zl ops S g=some true:=by exact rfl) (hd:Zy n dst=true:=by exact rfl) (hx:ev S x=some (.pointer (some a)):=by exact rfl) (h:K (ZbS S dst (.pointer (some a))) D B L):opW P n ops i ⟨dst,.nilCheck x,ty,pos,after,g⟩ K S D B L:=Zm (Za7  hg hd hx h)
theorem x1  {t:TypeId} {x:Operand} {a:Addr} {v:Value} {l:List Value} {T:TypeId} {fr:Nat × Nat} {r:Cells}  (hl:lk P t=some none) (j:Nat) (hg:Zl ops S g=some true:=by exact rfl) (hd:Zy n dst=true:=by exact rfl) (hx:ev S x=some (ptr a):=by exact rfl) (hj:L[j]? = some ((a.block,.cells l.toArray T fr) :: r):=by exact rfl) (hs:a.spot=none:=by exact rfl) (hv:l[a.off]? = some v:=by exact rfl) (h:K (ZbS S dst v) D B L):opW P n ops i ⟨dst,.load t x,ty,pos,after,g⟩ K S D B L:=Zm (Ze  hg hd hl hx (atL j hj hs hv) h)
theorem xL  {t:TypeId} {x:Operand} {a:Addr} {l:List Value} {T:TypeId} {fr:Nat × Nat} {r:Cells}  (vs:List Value) (hl:lk P t=some (some vs.length)) (j:Nat) (hg:Zl ops S g=some true:=by exact rfl) (hd:Zy n dst=true:=by exact rfl) (hx:ev S x=some (ptr a):=by exact rfl) (hj:L[j]? = some ((a.block,.cells l.toArray T fr) :: r):=by exact rfl) (hs:a.spot=none:=by exact rfl) (hv:(l.drop a.off).take vs.length=vs:=by exact rfl) (h:K (ZbS S dst (.agg vs.toArray)) D B L):opW P n ops i ⟨dst,.load t x,ty,pos,after,g⟩ K S D B L:=Zm (ZX  vs hg hd hl hx (Zaa j hj hs hv) h)
theorem y1  {t:TypeId} {x:Operand} {a:Addr} {v:Value} {b o:Nat} {row:List Value}  (hl:lk P t=some none) (hc:ZaI B b o row) (off:Nat) (hg:Zl ops S g=some true:=by exact rfl) (hd:Zy n dst=true:=by exact rfl) (hx:ev S x=some (ptr a):=by exact rfl) (ha:a=⟨b,o+off,none⟩:=by exact rfl) (hv:row[off]? = some v:=by exact rfl) (h:K (ZbS S dst v) D B L):opW P n ops i ⟨dst,.load t x,ty,pos,after,g⟩ K S D B L:=Zm (Ze  hg hd hl hx (by subst ha;exact hc _ off _ hv) h)
theorem yL  {t:TypeId} {x:Operand} {a:Addr} {b o:Nat} {row:List Value}  (vs:List Value) (hl:lk P t=some (some vs.length)) (hc:ZaI B b o row) (off:Nat) (hg:Zl ops S g=some true:=by exact rfl) (hd:Zy n dst=true:=by exact rfl) (hx:ev S x=some (ptr a):=by exact rfl) (ha:a=⟨b,o+off,none⟩:=by exact rfl) (hv:(row.drop off).take vs.length=vs:=by exact rfl) (h:K (ZbS S dst (.agg vs.toArray)) D B L):opW P n ops i ⟨dst,.load t x,ty,pos,after,g⟩ K S D B L:=Zm (ZX  vs hg hd hl hx (ZmN hc off ha hv) h)
theorem xS  {t:TypeId} {x:Operand} {y:Operand} {a:Addr} {v:Value} {l:List Value} {T:TypeId} {r:Cells}  (vs:List Value) (j:Nat) (l':List Value) (hsz:Z9 P t=some vs.length) (hg:Zl ops S g=some true:=by exact rfl) (hd:Zy n dst=true:=by exact rfl) (hx:ev S x=some (ptr a):=by exact rfl) (hy:ev S y=some v:=by exact rfl) (hv:v.cells=vs.toArray:=by exact rfl) (ho:vs.all Zis=true:=by exact rfl) (hj:L[j]? = some ((a.block,.cells l.toArray T (0,0)) :: r):=by exact rfl) (hs:a.spot=none:=by exact rfl) (hlen:Nat.ble (a.off+vs.length) l.length=true:=by exact rfl) (hl':Zbq l a.off vs=l':=by exact rfl) (h:K (ZbS S dst undef) D B (L.set j ((a.block,.cells l'.toArray T (0,0)) :: r))):opW P n ops i ⟨dst,.store t x y,ty,pos,after,g⟩ K S D B L:=Zm (ZE  vs j l' hg hd hsz hx hy hv ho hj hs hlen hl' h)
theorem xB  {t:TypeId} {z:Value} {pl:List (Nat × Nat)} {vs:List Value} (parts:List (Nat × Operand)) (zl l':List Value) (hpl:ZaL P t=some pl) (hz:Zaq P t=some z) (hg:Zl ops S g=some true:=by exact rfl) (hd:Zy n dst=true:=by exact rfl) (hzl:z.cells.toList=zl:=by exact rfl) (ha:evs S (parts.map (·.2))=some vs:=by exact rfl) (hf:Zjo (fun i=>pl[i]?) zl ((parts.map (·.1)).zip vs)=some l':=by exact rfl) (h:K (ZbS S dst (.agg l'.toArray)) D B L):opW P n ops i ⟨dst,.build t parts.toArray,ty,pos,after,g⟩ K S D B L:=Zm (Zam (parts:=parts) zl l' hg hd hpl hz hzl ha hf h)
theorem xAl  {t:TypeId} {z:Value} (l:List Value) (hz:Zaq P t=some z) (hg:Zl ops S g=some true:=by exact rfl) (hd:Zy n dst=true:=by exact rfl) (hl:z.cells=l.toArray:=by exact rfl) (h :∀b,K (ZbS S dst (ptr ⟨b,0,none⟩)) D B (L ++ [Z8 b l t])):opW P n ops i ⟨dst,.alloc t,ty,pos,after,g⟩ K S D B L:=Zm (Zac (l:=l) hg hd hz hl h)
theorem xBx  {t:TypeId} {x:Operand} {v:Value} (l:List Value)  (hg:Zl ops S g=some true:=by exact rfl) (hd:Zy n dst=true:=by exact rfl) (hx:ev S x=some v:=by exact rfl) (hl:v.cells=l.toArray:=by exact rfl) (h :∀b,K (ZbS S dst (ptr ⟨b,0,none⟩)) D B (L ++ [Z8 b l t])):opW P n ops i ⟨dst,.box t x,ty,pos,after,g⟩ K S D B L:=Zm (ZpU (l:=l) hg hd hx hl h)
theorem xIx  {t:TypeId} {e:TypeId} {x:Operand} {y:Operand} {k:IntKind} {b:Nat} {o:Nat} {len:Nat} {cap:Nat} {sz:Nat} {ix:Int}  (hu:P.underlying t=some (.slice e)) (hsz:Z9 P e=some sz) (hg:Zl ops S g=some true:=by exact rfl) (hd:Zy n dst=true:=by exact rfl) (hx:ev S x=some (.slice (some ⟨b,o,none⟩) len cap):=by exact rfl) (hy:ev S y=some (.int k ix):=by exact rfl) (h0:0≤ix:=by first | omega | (simp;done) | (simp;omega)) (h1:ix<len:=by first | omega | (simp;done) | (simp;omega)) (h:K (ZbS S dst (ptr ⟨b,o+ix.toNat*sz,none⟩)) D B L):opW P n ops i ⟨dst,.indexAddr t x y,ty,pos,after,g⟩ K S D B L:=Zm (ZvR  hg hd hu hsz hx hy h0 h1 h)
theorem xIp  {t:TypeId} {e:TypeId} {x:Operand} {y:Operand} {k:IntKind} {p:Option Addr} {b:Nat} {len:Nat} {cap:Nat} {sz:Nat} {ix:Int}  (hp:p=some ⟨b,0,none⟩) (hu:P.underlying t=some (.slice e)) (hsz:Z9 P e=some sz) (hg:Zl ops S g=some true:=by exact rfl) (hd:Zy n dst=true:=by exact rfl) (hx:ev S x=some (.slice p len cap):=by exact rfl) (hy:ev S y=some (.int k ix):=by exact rfl) (h0:0≤ix:=by first | omega | (simp;done) | (simp;omega)) (h1:ix<len:=by first | omega | (simp;done) | (simp;omega)) (h:K (ZbS S dst (ptr ⟨b,ix.toNat*sz,none⟩)) D B L):opW P n ops i ⟨dst,.indexAddr t x y,ty,pos,after,g⟩ K S D B L:=Zm (Zgf  hp hg hd hu hsz hx hy h0 h1 h)
theorem xX  {f:FuncId} {xs:List Operand} {vs:List Value} {ats:Array TypeId} {Q:Value→Cells→Prop} {s:Cells}  (j:Nat) (hj:L[j]? = some s) (he:enters P f=true) (ha:evs S xs=some vs) (hc:Ex1 P f vs B s Q) (hg:Zl ops S g=some true:=by exact rfl) (hd:Zy n dst=true:=by exact rfl) (h :∀v s',Q v s'→K (ZbS S dst v) D B (L.set j s')):opW P n ops i ⟨dst,.call ⟨.value (.func f),xs.toArray,ats⟩,ty,pos,after,g⟩ K S D B L:=Zm (ZcA  j hj hg hd he ha hc h)
theorem xR  {f:FuncId} {xs:List Operand} {vs:List Value} {ats:Array TypeId} {v:Value}  (he:enters P f=true) (ha:evs S xs=some vs) (hc:ZaX P f vs B v) (hg:Zl ops S g=some true:=by exact rfl) (hd:Zy n dst=true:=by exact rfl) (h:K (ZbS S dst v) D B L):opW P n ops i ⟨dst,.call ⟨.value (.func f),xs.toArray,ats⟩,ty,pos,after,g⟩ K S D B L:=Zm (ZaF  hg hd he ha hc h)
theorem xC  {f:FuncId} {xs:List Operand} {vs:List Value} {ats:Array TypeId} {Post:Value→Kn→List Cells→Prop}  (he:enters P f=true) (ha:evs S xs=some vs) (hc:Zu P f vs B [] Post) (hg:Zl ops S g=some true:=by exact rfl) (hd:Zy n dst=true:=by exact rfl) (h :∀v B' Ls',B.le B'→Post v B' Ls'→K (ZbS S dst v) D B' (L ++ Ls')):opW P n ops i ⟨dst,.call ⟨.value (.func f),xs.toArray,ats⟩,ty,pos,after,g⟩ K S D B L:=Zm (Zbd  hg hd he ha hc h)
theorem xQ  {f:FuncId} {xs:List Operand} {vs:List Value} {ats:Array TypeId} {Post:Value→Kn→Prop}  (he:enters P f=true) (ha:evs S xs=some vs) (hc:Zu P f vs B [] (fun v B' Ls=>Ls=[]∧Post v B')) (hg:Zl ops S g=some true:=by exact rfl) (hd:Zy n dst=true:=by exact rfl) (h :∀v B',B.le B'→Post v B'→K (ZbS S dst v) D B' L):opW P n ops i ⟨dst,.call ⟨.value (.func f),xs.toArray,ats⟩,ty,pos,after,g⟩ K S D B L:=Zm (ZeD  hg hd he ha hc h)
theorem xK  {f:FuncId} {xs:List Operand} {vs:List Value} {ats:Array TypeId} {Post:Value→Kn→List Cells→Prop} {ss:List Cells} {r:List Cells}  (js:List Nat) (hp:Za2 L js=some (ss,r)) (he:enters P f=true) (ha:evs S xs=some vs) (hc:Zu P f vs B ss Post) (hn:ZfF js=true:=by exact rfl) (hg:Zl ops S g=some true:=by exact rfl) (hd:Zy n dst=true:=by exact rfl) (h :∀v B' Ls',B.le B'→Post v B' Ls'→K (ZbS S dst v) D B' (Zde r js Ls')):opW P n ops i ⟨dst,.call ⟨.value (.func f),xs.toArray,ats⟩,ty,pos,after,g⟩ K S D B L:=Zm (Zao  js hp hn hg hd he ha hc h)
theorem xBs  {t:TypeId} {e:TypeId} {len:Nat} {sz:Nat} {z:Value} {vs:List Value} (parts:List (Nat × Operand)) (l':List Value) (hu:P.underlying t=some (.slice e)) (hsz:Z9 P e=some sz) (hz:Zaq P e=some z) (hg:Zl ops S g=some true:=by exact rfl) (hd:Zy n dst=true:=by exact rfl) (hbig:Nat.ble (len*sz) 1024=true:=by exact rfl) (hidx:parts.map (·.1)=List.range len:=by exact rfl) (ha:evs S (parts.map (·.2))=some vs:=by exact rfl) (hall:vs.all (fun v=>Nat.beq v.cells.toList.length sz)=true:=by exact rfl) (hl':(vs.map fun v=>v.cells.toList).flatten=l':=by exact rfl) (h :∀b,K (ZbS S dst (.slice (some ⟨b,0,none⟩) len len)) D B (L ++ [Z8 b l' e])):opW P n ops i ⟨dst,.buildSlice t len parts.toArray,ty,pos,after,g⟩ K S D B L:=Zm (Zs (parts:=parts) l' hg hd hu hsz hz hbig hidx ha hall hl' h)
end
section
variable {P:PJ} {n:Nat} {ops:Array Oper} {K:Zas} {S:Env} {D:List Deferred} {B:Kn} {L:List Cells}
variable {dst:Option Tmp} {ty:TypeId} {pos:String} {after:Array Edge} {g:Option (Nat × Bool)} {t u:TypeId} {x y:Operand}
theorem aT {C:Cx P} {k':List Item} {I:Kn→List Cells→Prop} {ℓ:List Nat} (i:Nat) {o:Oper} {v:Value} (hi:ops[i]? = some o) (hq:quiet P n ops I i o v (sel (o.looksAt ops) S)) (hr:(Zba ops ℓ).contains i=true:=by kernel_rfl) (hd:Zy n o.dst=true:=by exact rfl) (hp:ZjO o=false:=by rfl) (h:ZbX C k' n ops I (i :: ℓ) K (ZbS S o.dst v) D B L):ZbX C k' n ops I ℓ K S D B L:=Ztv i hi hr hd hq h hp
theorem r4 {α β γ δ:Type} {a:α} {b:β} {c:γ} {d:δ} : a=a∧b=b∧c=c∧d=d:=⟨rfl,rfl,rfl,rfl⟩
variable {C:Cx P} {k':List Item} {I:Kn→List Cells→Prop} {ℓ:List Nat}
theorem aM  {x:Operand} {v:Value} (i:Nat) (hii:ops[i]? = some ⟨dst,.move x,ty,pos,after,g⟩)  (hrr:(Zba ops ℓ).contains i=true:=by kernel_rfl) (hdd:Zy n dst=true:=by exact rfl) (hg:Zl ops (sel ((⟨dst,.move x,ty,pos,after,g⟩:Oper).looksAt ops) S) g=some true:=by exact rfl) (hd:Zy n dst=true:=by exact rfl) (hx:ev (sel ((⟨dst,.move x,ty,pos,after,g⟩:Oper).looksAt ops) S) x=some v:=by exact rfl) (h:ZbX C k' n ops I (i :: ℓ) K (ZbS S dst v) D B L):ZbX C k' n ops I ℓ K S D B L:=ZaB i hii hrr hdd (fun _ _ _=>Zdu hg hd hx ⟨rfl,rfl,rfl,rfl⟩) h
theorem aA  {x:Operand} {v:Value} (i:Nat) (hii:ops[i]? = some ⟨dst,.assign x,ty,pos,after,g⟩)  (hrr:(Zba ops ℓ).contains i=true:=by kernel_rfl) (hdd:Zy n dst=true:=by exact rfl) (hg:Zl ops (sel ((⟨dst,.assign x,ty,pos,after,g⟩:Oper).looksAt ops) S) g=some true:=by exact rfl) (hd:Zy n dst=true:=by exact rfl) (hx:ev (sel ((⟨dst,.assign x,ty,pos,after,g⟩:Oper).looksAt ops) S) x=some v:=by exact rfl) (h:ZbX C k' n ops I (i :: ℓ) K (ZbS S dst v) D B L):ZbX C k' n ops I ℓ K S D B L:=ZaB i hii hrr hdd (fun _ _ _=>ZhI hg hd hx ⟨rfl,rfl,rfl,rfl⟩) h
theorem aZ  {dst:Option Tmp} {op:Op} {t:TypeId} {pos:String} {after:Array Edge} {g:Option (Nat × Bool)} (i:Nat) (hii:ops[i]? = some ⟨dst,op,t,pos,after,g⟩)  (hrr:(Zba ops ℓ).contains i=true:=by kernel_rfl) (hdd:Zy n dst=true:=by exact rfl) (hg:Zl ops (sel ((⟨dst,op,t,pos,after,g⟩:Oper).looksAt ops) S) g=some false:=by exact rfl) (hd:Zy n dst=true:=by exact rfl) (h:ZbX C k' n ops I (i :: ℓ) K (ZbS S dst undef) D B L):ZbX C k' n ops I ℓ K S D B L:=ZaB i hii hrr hdd (fun _ _ _=>ZtI hg hd ⟨rfl,rfl,rfl,rfl⟩) h
theorem aPT  {c:Operand} {a:Operand} {b:Operand} {v:Value} (i:Nat) (hii:ops[i]? = some ⟨dst,.pick c a b,ty,pos,after,g⟩)  (hrr:(Zba ops ℓ).contains i=true:=by kernel_rfl) (hdd:Zy n dst=true:=by exact rfl) (hg:Zl ops (sel ((⟨dst,.pick c a b,ty,pos,after,g⟩:Oper).looksAt ops) S) g=some true:=by exact rfl) (hd:Zy n dst=true:=by exact rfl) (hc:ev (sel ((⟨dst,.pick c a b,ty,pos,after,g⟩:Oper).looksAt ops) S) c=some (.bool true):=by exact rfl) (hx:ev (sel ((⟨dst,.pick c a b,ty,pos,after,g⟩:Oper).looksAt ops) S) a=some v:=by exact rfl) (h:ZbX C k' n ops I (i :: ℓ) K (ZbS S dst v) D B L):ZbX C k' n ops I ℓ K S D B L:=ZaB i hii hrr hdd (fun _ _ _=>ZpJ hg hd hc hx ⟨rfl,rfl,rfl,rfl⟩) h
theorem aPF  {c:Operand} {a:Operand} {b:Operand} {v:Value} (i:Nat) (hii:ops[i]? = some ⟨dst,.pick c a b,ty,pos,after,g⟩)  (hrr:(Zba ops ℓ).contains i=true:=by kernel_rfl) (hdd:Zy n dst=true:=by exact rfl) (hg:Zl ops (sel ((⟨dst,.pick c a b,ty,pos,after,g⟩:Oper).looksAt ops) S) g=some true:=by exact rfl) (hd:Zy n dst=true:=by exact rfl) (hc:ev (sel ((⟨dst,.pick c a b,ty,pos,after,g⟩:Oper).looksAt ops) S) c=some (.bool false):=by exact rfl) (hx:ev (sel ((⟨dst,.pick c a b,ty,pos,after,g⟩:Oper).looksAt ops) S) b=some v:=by exact rfl) (h:ZbX C k' n ops I (i :: ℓ) K (ZbS S dst v) D B L):ZbX C k' n ops I ℓ K S D B L:=ZaB i hii hrr hdd (fun _ _ _=>ZpK hg hd hc hx ⟨rfl,rfl,rfl,rfl⟩) h
theorem aE  {x:Operand} {ix:Nat} {vs:List Value} {v:Value} (i:Nat) (hii:ops[i]? = some ⟨dst,.extract x ix,ty,pos,after,g⟩)  (hrr:(Zba ops ℓ).contains i=true:=by kernel_rfl) (hdd:Zy n dst=true:=by exact rfl) (hg:Zl ops (sel ((⟨dst,.extract x ix,ty,pos,after,g⟩:Oper).looksAt ops) S) g=some true:=by exact rfl) (hd:Zy n dst=true:=by exact rfl) (hx:ev (sel ((⟨dst,.extract x ix,ty,pos,after,g⟩:Oper).looksAt ops) S) x=some (.tuple vs.toArray):=by exact rfl) (hi:vs[ix]? = some v:=by exact rfl) (h:ZbX C k' n ops I (i :: ℓ) K (ZbS S dst v) D B L):ZbX C k' n ops I ℓ K S D B L:=ZaB i hii hrr hdd (fun _ _ _=>Zic hg hd hx hi ⟨rfl,rfl,rfl,rfl⟩) h
theorem aW  {s:TypeId} {x:Operand} {fi:Nat} {off:Nat} {a:Addr} (i:Nat) (hii:ops[i]? = some ⟨dst,.fieldAddr s x fi,ty,pos,after,g⟩) (hf:ZF P s fi=some off) (hrr:(Zba ops ℓ).contains i=true:=by kernel_rfl) (hdd:Zy n dst=true:=by exact rfl) (hg:Zl ops (sel ((⟨dst,.fieldAddr s x fi,ty,pos,after,g⟩:Oper).looksAt ops) S) g=some true:=by exact rfl) (hd:Zy n dst=true:=by exact rfl) (hx:ev (sel ((⟨dst,.fieldAddr s x fi,ty,pos,after,g⟩:Oper).looksAt ops) S) x=some (ptr a):=by exact rfl) (h:ZbX C k' n ops I (i :: ℓ) K (ZbS S dst (ptr (a.add off))) D B L):ZbX C k' n ops I ℓ K S D B L:=ZaB i hii hrr hdd (fun _ _ _=>Zav hg hd hf hx ⟨rfl,rfl,rfl,rfl⟩) h
theorem aN  {x:Operand} {b:Bool} {t:TypeId} (i:Nat) (hii:ops[i]? = some ⟨dst,.unOp .not t x,ty,pos,after,g⟩)  (hrr:(Zba ops ℓ).contains i=true:=by kernel_rfl) (hdd:Zy n dst=true:=by exact rfl) (hg:Zl ops (sel ((⟨dst,.unOp .not t x,ty,pos,after,g⟩:Oper).looksAt ops) S) g=some true:=by exact rfl) (hd:Zy n dst=true:=by exact rfl) (hx:ev (sel ((⟨dst,.unOp .not t x,ty,pos,after,g⟩:Oper).looksAt ops) S) x=some (.bool b):=by exact rfl) (h:ZbX C k' n ops I (i :: ℓ) K (ZbS S dst (.bool (!b))) D B L):ZbX C k' n ops I ℓ K S D B L:=ZaB i hii hrr hdd (fun _ _ _=>ZvK hg hd hx ⟨rfl,rfl,rfl,rfl⟩) h
theorem aNc  {x:Operand} {a:Addr} (i:Nat) (hii:ops[i]? = some ⟨dst,.nilCheck x,ty,pos,after,g⟩)  (hrr:(Zba ops ℓ).contains i=true:=by kernel_rfl) (hdd:Zy n dst=true:=by exact rfl) (hg:Zl ops (sel ((⟨dst,.nilCheck x,ty,pos,after,g⟩:Oper).looksAt ops) S) g=some true:=by exact rfl) (hd:Zy n dst=true:=by exact rfl) (hx:ev (sel ((⟨dst,.nilCheck x,ty,pos,after,g⟩:Oper).looksAt ops) S) x=some (.pointer (some a)):=by exact rfl) (h:ZbX C k' n ops I (i :: ℓ) K (ZbS S dst (.pointer (some a))) D B L):ZbX C k' n ops I ℓ K S D B L:=ZaB i hii hrr hdd (fun _ _ _=>Za7 hg hd hx ⟨rfl,rfl,rfl,rfl⟩) h
theorem aV  {x:Operand} {t:TypeId} {e:TypeId} {p:Option Addr} {len:Nat} {cap:Nat} (i:Nat) (hii:ops[i]? = some ⟨dst,.call ⟨.builtin .len,#[x],#[t]⟩,ty,pos,after,g⟩) (hu:P.underlying t=some (.slice e)) (hrr:(Zba ops ℓ).contains i=true:=by kernel_rfl) (hdd:Zy n dst=true:=by exact rfl) (hg:Zl ops (sel ((⟨dst,.call ⟨.builtin .len,#[x],#[t]⟩,ty,pos,after,g⟩:Oper).looksAt ops) S) g=some true:=by exact rfl) (hd:Zy n dst=true:=by exact rfl) (hx:ev (sel ((⟨dst,.call ⟨.builtin .len,#[x],#[t]⟩,ty,pos,after,g⟩:Oper).looksAt ops) S) x=some (.slice p len cap):=by exact rfl) (h:ZbX C k' n ops I (i :: ℓ) K (ZbS S dst (.int .i64 len)) D B L):ZbX C k' n ops I ℓ K S D B L:=ZaB i hii hrr hdd (fun _ _ _=>ZtL hg hd hu hx ⟨rfl,rfl,rfl,rfl⟩) h
theorem ZrM  {k:IntKind} {a b:Int} (i:Nat) (hii:ops[i]? = some ⟨dst,.binOp .lss t x y u,ty,pos,after,g⟩)  (hrr:(Zba ops ℓ).contains i=true:=by kernel_rfl) (hdd:Zy n dst=true:=by exact rfl) (hg:Zl ops (sel ((⟨dst,.binOp .lss t x y u,ty,pos,after,g⟩:Oper).looksAt ops) S) g=some true:=by exact rfl) (hd:Zy n dst=true:=by exact rfl) (hx:ev (sel ((⟨dst,.binOp .lss t x y u,ty,pos,after,g⟩:Oper).looksAt ops) S) x=some (.int k a):=by exact rfl) (hy:ev (sel ((⟨dst,.binOp .lss t x y u,ty,pos,after,g⟩:Oper).looksAt ops) S) y=some (.int k b):=by exact rfl) (h:ZbX C k' n ops I (i :: ℓ) K (ZbS S dst (.bool (decide (a<b)))) D B L):ZbX C k' n ops I ℓ K S D B L:=ZaB i hii hrr hdd (fun _ _ _=>ZvP hg hd hx hy ⟨rfl,rfl,rfl,rfl⟩) h
theorem Zvt  {k:IntKind} {a b:Int} (i:Nat) (hii:ops[i]? = some ⟨dst,.binOp .leq t x y u,ty,pos,after,g⟩)  (hrr:(Zba ops ℓ).contains i=true:=by kernel_rfl) (hdd:Zy n dst=true:=by exact rfl) (hg:Zl ops (sel ((⟨dst,.binOp .leq t x y u,ty,pos,after,g⟩:Oper).looksAt ops) S) g=some true:=by exact rfl) (hd:Zy n dst=true:=by exact rfl) (hx:ev (sel ((⟨dst,.binOp .leq t x y u,ty,pos,after,g⟩:Oper).looksAt ops) S) x=some (.int k a):=by exact rfl) (hy:ev (sel ((⟨dst,.binOp .leq t x y u,ty,pos,after,g⟩:Oper).looksAt ops) S) y=some (.int k b):=by exact rfl) (h:ZbX C k' n ops I (i :: ℓ) K (ZbS S dst (.bool (decide (a≤b)))) D B L):ZbX C k' n ops I ℓ K S D B L:=ZaB i hii hrr hdd (fun _ _ _=>ZvQ hg hd hx hy ⟨rfl,rfl,rfl,rfl⟩) h
theorem ZnE  {k:IntKind} {a b:Int} (i:Nat) (hii:ops[i]? = some ⟨dst,.binOp .gtr t x y u,ty,pos,after,g⟩)  (hrr:(Zba ops ℓ).contains i=true:=by kernel_rfl) (hdd:Zy n dst=true:=by exact rfl) (hg:Zl ops (sel ((⟨dst,.binOp .gtr t x y u,ty,pos,after,g⟩:Oper).looksAt ops) S) g=some true:=by exact rfl) (hd:Zy n dst=true:=by exact rfl) (hx:ev (sel ((⟨dst,.binOp .gtr t x y u,ty,pos,after,g⟩:Oper).looksAt ops) S) x=some (.int k a):=by exact rfl) (hy:ev (sel ((⟨dst,.binOp .gtr t x y u,ty,pos,after,g⟩:Oper).looksAt ops) S) y=some (.int k b):=by exact rfl) (h:ZbX C k' n ops I (i :: ℓ) K (ZbS S dst (.bool (decide (b<a)))) D B L):ZbX C k' n ops I ℓ K S D B L:=ZaB i hii hrr hdd (fun _ _ _=>ZvT hg hd hx hy ⟨rfl,rfl,rfl,rfl⟩) h
theorem Zw7  {k:IntKind} {a b:Int} (i:Nat) (hii:ops[i]? = some ⟨dst,.binOp .geq t x y u,ty,pos,after,g⟩)  (hrr:(Zba ops ℓ).contains i=true:=by kernel_rfl) (hdd:Zy n dst=true:=by exact rfl) (hg:Zl ops (sel ((⟨dst,.binOp .geq t x y u,ty,pos,after,g⟩:Oper).looksAt ops) S) g=some true:=by exact rfl) (hd:Zy n dst=true:=by exact rfl) (hx:ev (sel ((⟨dst,.binOp .geq t x y u,ty,pos,after,g⟩:Oper).looksAt ops) S) x=some (.int k a):=by exact rfl) (hy:ev (sel ((⟨dst,.binOp .geq t x y u,ty,pos,after,g⟩:Oper).looksAt ops) S) y=some (.int k b):=by exact rfl) (h:ZbX C k' n ops I (i :: ℓ) K (ZbS S dst (.bool (decide (b≤a)))) D B L):ZbX C k' n ops I ℓ K S D B L:=ZaB i hii hrr hdd (fun _ _ _=>ZvU hg hd hx hy ⟨rfl,rfl,rfl,rfl⟩) h
theorem ZrO  {k:IntKind} {a b:Int} (i:Nat) (hii:ops[i]? = some ⟨dst,.binOp .eql t x y u,ty,pos,after,g⟩)  (hrr:(Zba ops ℓ).contains i=true:=by kernel_rfl) (hdd:Zy n dst=true:=by exact rfl) (hg:Zl ops (sel ((⟨dst,.binOp .eql t x y u,ty,pos,after,g⟩:Oper).looksAt ops) S) g=some true:=by exact rfl) (hd:Zy n dst=true:=by exact rfl) (hx:ev (sel ((⟨dst,.binOp .eql t x y u,ty,pos,after,g⟩:Oper).looksAt ops) S) x=some (.int k a):=by exact rfl) (hy:ev (sel ((⟨dst,.binOp .eql t x y u,ty,pos,after,g⟩:Oper).looksAt ops) S) y=some (.int k b):=by exact rfl) (h:ZbX C k' n ops I (i :: ℓ) K (ZbS S dst (.bool (decide (a=b)))) D B L):ZbX C k' n ops I ℓ K S D B L:=ZaB i hii hrr hdd (fun _ _ _=>ZtN hg hd hx hy ⟨rfl,rfl,rfl,rfl⟩) h
theorem Zw6  {k:IntKind} {a b:Int} (i:Nat) (hii:ops[i]? = some ⟨dst,.binOp .neq t x y u,ty,pos,after,g⟩)  (hrr:(Zba ops ℓ).contains i=true:=by kernel_rfl) (hdd:Zy n dst=true:=by exact rfl) (hg:Zl ops (sel ((⟨dst,.binOp .neq t x y u,ty,pos,after,g⟩:Oper).looksAt ops) S) g=some true:=by exact rfl) (hd:Zy n dst=true:=by exact rfl) (hx:ev (sel ((⟨dst,.binOp .neq t x y u,ty,pos,after,g⟩:Oper).looksAt ops) S) x=some (.int k a):=by exact rfl) (hy:ev (sel ((⟨dst,.binOp .neq t x y u,ty,pos,after,g⟩:Oper).looksAt ops) S) y=some (.int k b):=by exact rfl) (h:ZbX C k' n ops I (i :: ℓ) K (ZbS S dst (.bool (decide (a≠b)))) D B L):ZbX C k' n ops I ℓ K S D B L:=ZaB i hii hrr hdd (fun _ _ _=>ZpM hg hd hx hy ⟨rfl,rfl,rfl,rfl⟩) h
theorem ZrN  {a b:List UInt8} (i:Nat) (hii:ops[i]? = some ⟨dst,.binOp .eql t x y u,ty,pos,after,g⟩)  (hrr:(Zba ops ℓ).contains i=true:=by kernel_rfl) (hdd:Zy n dst=true:=by exact rfl) (hg:Zl ops (sel ((⟨dst,.binOp .eql t x y u,ty,pos,after,g⟩:Oper).looksAt ops) S) g=some true:=by exact rfl) (hd:Zy n dst=true:=by exact rfl) (hx:ev (sel ((⟨dst,.binOp .eql t x y u,ty,pos,after,g⟩:Oper).looksAt ops) S) x=some (str a):=by exact rfl) (hy:ev (sel ((⟨dst,.binOp .eql t x y u,ty,pos,after,g⟩:Oper).looksAt ops) S) y=some (str b):=by exact rfl) (h:ZbX C k' n ops I (i :: ℓ) K (ZbS S dst (.bool (decide (a=b)))) D B L):ZbX C k' n ops I ℓ K S D B L:=ZaB i hii hrr hdd (fun _ _ _=>ZtM hg hd hx hy ⟨rfl,rfl,rfl,rfl⟩) h
theorem aD  {k:IntKind} {a b r:Int} (i:Nat) (hii:ops[i]? = some ⟨dst,.binOp .add t x y u,ty,pos,after,g⟩)  (hrr:(Zba ops ℓ).contains i=true:=by kernel_rfl) (hdd:Zy n dst=true:=by exact rfl) (hg:Zl ops (sel ((⟨dst,.binOp .add t x y u,ty,pos,after,g⟩:Oper).looksAt ops) S) g=some true:=by exact rfl) (hd:Zy n dst=true:=by exact rfl) (hx:ev (sel ((⟨dst,.binOp .add t x y u,ty,pos,after,g⟩:Oper).looksAt ops) S) x=some (.int k a):=by exact rfl) (hy:ev (sel ((⟨dst,.binOp .add t x y u,ty,pos,after,g⟩:Oper).looksAt ops) S) y=some (.int k b):=by exact rfl) (hr:k.wrap (a+b)=r:=by first | exact ZaY (by first | omega | (simp;done) | (simp;omega)) (by first | omega | (simp;done) | (simp;omega)) | exact rfl) (h:ZbX C k' n ops I (i :: ℓ) K (ZbS S dst (.int k r)) D B L):ZbX C k' n ops I ℓ K S D B L:=ZaB i hii hrr hdd (fun _ _ _=>ZeY hg hd hx hy hr ⟨rfl,rfl,rfl,rfl⟩) h
theorem aU  {k:IntKind} {a b r:Int} (i:Nat) (hii:ops[i]? = some ⟨dst,.binOp .sub t x y u,ty,pos,after,g⟩)  (hrr:(Zba ops ℓ).contains i=true:=by kernel_rfl) (hdd:Zy n dst=true:=by exact rfl) (hg:Zl ops (sel ((⟨dst,.binOp .sub t x y u,ty,pos,after,g⟩:Oper).looksAt ops) S) g=some true:=by exact rfl) (hd:Zy n dst=true:=by exact rfl) (hx:ev (sel ((⟨dst,.binOp .sub t x y u,ty,pos,after,g⟩:Oper).looksAt ops) S) x=some (.int k a):=by exact rfl) (hy:ev (sel ((⟨dst,.binOp .sub t x y u,ty,pos,after,g⟩:Oper).looksAt ops) S) y=some (.int k b):=by exact rfl) (hr:k.wrap (a - b)=r:=by first | exact ZaY (by first | omega | (simp;done) | (simp;omega)) (by first | omega | (simp;done) | (simp;omega)) | exact rfl) (h:ZbX C k' n ops I (i :: ℓ) K (ZbS S dst (.int k r)) D B L):ZbX C k' n ops I ℓ K S D B L:=ZaB i hii hrr hdd (fun _ _ _=>Zjk hg hd hx hy hr ⟨rfl,rfl,rfl,rfl⟩) h
theorem aIx  {t:TypeId} {e:TypeId} {x:Operand} {y:Operand} {k:IntKind} {b:Nat} {o:Nat} {len:Nat} {cap:Nat} {sz:Nat} {ix:Int} (i:Nat) (hii:ops[i]? = some ⟨dst,.indexAddr t x y,ty,pos,after,g⟩) (hu:P.underlying t=some (.slice e)) (hsz:Z9 P e=some sz) (hrr:(Zba ops ℓ).contains i=true:=by kernel_rfl) (hdd:Zy n dst=true:=by exact rfl) (hg:Zl ops (sel ((⟨dst,.indexAddr t x y,ty,pos,after,g⟩:Oper).looksAt ops) S) g=some true:=by exact rfl) (hd:Zy n dst=true:=by exact rfl) (hx:ev (sel ((⟨dst,.indexAddr t x y,ty,pos,after,g⟩:Oper).looksAt ops) S) x=some (.slice (some ⟨b,o,none⟩) len cap):=by exact rfl) (hy:ev (sel ((⟨dst,.indexAddr t x y,ty,pos,after,g⟩:Oper).looksAt ops) S) y=some (.int k ix):=by exact rfl) (h0:0≤ix:=by first | omega | (simp;done) | (simp;omega)) (h1:ix<len:=by first | omega | (simp;done) | (simp;omega)) (h:ZbX C k' n ops I (i :: ℓ) K (ZbS S dst (ptr ⟨b,o+ix.toNat*sz,none⟩)) D B L):ZbX C k' n ops I ℓ K S D B L:=ZaB i hii hrr hdd (fun _ _ _=>ZvR hg hd hu hsz hx hy h0 h1 ⟨rfl,rfl,rfl,rfl⟩) h
end
section
variable {P:PJ} {n:Nat} {Q:Exit→Zas} {S:Env} {D:List Deferred} {B:Kn} {L:List Cells}
theorem tL1 {c:Code} {x0:Cells} (h:wpS P n c Q S D B [x0]):wpS P n c Q S D B [x0]:=h
theorem tL2 {c:Code} {x0 x1:Cells} (h:wpS P n c Q S D B [x0,x1]):wpS P n c Q S D B [x0,x1]:=h
theorem tL3 {c:Code} {x0 x1 x2:Cells} (h:wpS P n c Q S D B [x0,x1,x2]):wpS P n c Q S D B [x0,x1,x2]:=h
theorem tL4 {c:Code} {x0 x1 x2 x3:Cells} (h:wpS P n c Q S D B [x0,x1,x2,x3]):wpS P n c Q S D B [x0,x1,x2,x3]:=h
theorem tL5 {c:Code} {x0 x1 x2 x3 x4:Cells} (h:wpS P n c Q S D B [x0,x1,x2,x3,x4]):wpS P n c Q S D B [x0,x1,x2,x3,x4]:=h
theorem tL6 {c:Code} {x0 x1 x2 x3 x4 x5:Cells} (h:wpS P n c Q S D B [x0,x1,x2,x3,x4,x5]):wpS P n c Q S D B [x0,x1,x2,x3,x4,x5]:=h
theorem tL7 {c:Code} {x0 x1 x2 x3 x4 x5 x6:Cells} (h:wpS P n c Q S D B [x0,x1,x2,x3,x4,x5,x6]):wpS P n c Q S D B [x0,x1,x2,x3,x4,x5,x6]:=h
theorem tL8 {c:Code} {x0 x1 x2 x3 x4 x5 x6 x7:Cells} (h:wpS P n c Q S D B [x0,x1,x2,x3,x4,x5,x6,x7]):wpS P n c Q S D B [x0,x1,x2,x3,x4,x5,x6,x7]:=h
theorem tL9 {c:Code} {x0 x1 x2 x3 x4 x5 x6 x7 x8:Cells} (h:wpS P n c Q S D B [x0,x1,x2,x3,x4,x5,x6,x7,x8]):wpS P n c Q S D B [x0,x1,x2,x3,x4,x5,x6,x7,x8]:=h
theorem Zsh {c:Code} {x0 x1 x2 x3 x4 x5 x6 x7 x8 x9:Cells} (h:wpS P n c Q S D B [x0,x1,x2,x3,x4,x5,x6,x7,x8,x9]):wpS P n c Q S D B [x0,x1,x2,x3,x4,x5,x6,x7,x8,x9]:=h
theorem wSk {K:Zas} (h:K S D B L):wpS P n .skip (thn K Q) S D B L:=ZL (Zj h)
theorem eR {rs:List ResultVar} {Post:Value→Kn→List Cells→Prop} {v:Value} (hr:Zcq P S B L rs [v]) (hp:Post v B []):ZgC P rs Post .ret S [] B L:=Zok .ret (.inl rfl) [v] hr hp
theorem eN {rs:List ResultVar} {Post:Value→Kn→List Cells→Prop} {v:Value} (js:List Nat) {ss r:List Cells} (hp:Za2 L js=some (ss,r)) (hr:Zcq P S B L rs [v]) (hq:Post v B ss):ZgC P rs Post .ret S [] B L:=Zat .ret (.inl rfl) [v] js hp hr hq
theorem e1 {rs:List ResultVar} {Post:Value→Kn→List Cells→Prop} {v:Value} (j:Nat) {s:Cells} (hj:L[j]? = some s) (hr:Zcq P S B L rs [v]) (hp:Post v B [s]):ZgC P rs Post .ret S [] B L:=Zoj .ret (.inl rfl) [v] j hj hr hp
end
theorem mT {α:Type} {R:Rel α} (h:Mono R:=by first | exact ZA.mono | exact Zf.mono | exact ZC.mono | exact ZS.mono | exact Z0.mono | exact ZfC.mono | exact ZbO.mono | exact Zb9.mono):Mono R:=h
theorem up1 {B B':Kn} {α1:Type} {q1:Option Addr} {c1 w1:Nat} {R1:Rel α1} {x1:List α1} (hle:B.le B') (h1:SlK B q1 c1 w1 R1 x1) (g1:Mono R1:=by exact mT):SlK B' q1 c1 w1 R1 x1:=h1.mono g1 hle
theorem up2 {B B':Kn} {α1:Type} {q1:Option Addr} {c1 w1:Nat} {R1:Rel α1} {x1:List α1} {α2:Type} {q2:Option Addr} {c2 w2:Nat} {R2:Rel α2} {x2:List α2} (hle:B.le B') (h1:SlK B q1 c1 w1 R1 x1) (h2:SlK B q2 c2 w2 R2 x2) (g1:Mono R1:=by exact mT) (g2:Mono R2:=by exact mT):SlK B' q1 c1 w1 R1 x1∧SlK B' q2 c2 w2 R2 x2:=⟨h1.mono g1 hle,h2.mono g2 hle⟩
theorem up3 {B B':Kn} {α1:Type} {q1:Option Addr} {c1 w1:Nat} {R1:Rel α1} {x1:List α1} {α2:Type} {q2:Option Addr} {c2 w2:Nat} {R2:Rel α2} {x2:List α2} {α3:Type} {q3:Option Addr} {c3 w3:Nat} {R3:Rel α3} {x3:List α3} (hle:B.le B') (h1:SlK B q1 c1 w1 R1 x1) (h2:SlK B q2 c2 w2 R2 x2) (h3:SlK B q3 c3 w3 R3 x3) (g1:Mono R1:=by exact mT) (g2:Mono R2:=by exact mT) (g3:Mono R3:=by exact mT):SlK B' q1 c1 w1 R1 x1∧SlK B' q2 c2 w2 R2 x2∧SlK B' q3 c3 w3 R3 x3:=⟨h1.mono g1 hle,h2.mono g2 hle,h3.mono g3 hle⟩
theorem up4 {B B':Kn} {α1:Type} {q1:Option Addr} {c1 w1:Nat} {R1:Rel α1} {x1:List α1} {α2:Type} {q2:Option Addr} {c2 w2:Nat} {R2:Rel α2} {x2:List α2} {α3:Type} {q3:Option Addr} {c3 w3:Nat} {R3:Rel α3} {x3:List α3} {α4:Type} {q4:Option Addr} {c4 w4:Nat} {R4:Rel α4} {x4:List α4} (hle:B.le B') (h1:SlK B q1 c1 w1 R1 x1) (h2:SlK B q2 c2 w2 R2 x2) (h3:SlK B q3 c3 w3 R3 x3) (h4:SlK B q4 c4 w4 R4 x4) (g1:Mono R1:=by exact mT) (g2:Mono R2:=by exact mT) (g3:Mono R3:=by exact mT) (g4:Mono R4:=by exact mT):SlK B' q1 c1 w1 R1 x1∧SlK B' q2 c2 w2 R2 x2∧SlK B' q3 c3 w3 R3 x3∧SlK B' q4 c4 w4 R4 x4:=⟨h1.mono g1 hle,h2.mono g2 hle,h3.mono g3 hle,h4.mono g4 hle⟩
theorem up5 {B B':Kn} {α1:Type} {q1:Option Addr} {c1 w1:Nat} {R1:Rel α1} {x1:List α1} {α2:Type} {q2:Option Addr} {c2 w2:Nat} {R2:Rel α2} {x2:List α2} {α3:Type} {q3:Option Addr} {c3 w3:Nat} {R3:Rel α3} {x3:List α3} {α4:Type} {q4:Option Addr} {c4 w4:Nat} {R4:Rel α4} {x4:List α4} {α5:Type} {q5:Option Addr} {c5 w5:Nat} {R5:Rel α5} {x5:List α5} (hle:B.le B') (h1:SlK B q1 c1 w1 R1 x1) (h2:SlK B q2 c2 w2 R2 x2) (h3:SlK B q3 c3 w3 R3 x3) (h4:SlK B q4 c4 w4 R4 x4) (h5:SlK B q5 c5 w5 R5 x5) (g1:Mono R1:=by exact mT) (g2:Mono R2:=by exact mT) (g3:Mono R3:=by exact mT) (g4:Mono R4:=by exact mT) (g5:Mono R5:=by exact mT):SlK B' q1 c1 w1 R1 x1∧SlK B' q2 c2 w2 R2 x2∧SlK B' q3 c3 w3 R3 x3∧SlK B' q4 c4 w4 R4 x4∧SlK B' q5 c5 w5 R5 x5:=⟨h1.mono g1 hle,h2.mono g2 hle,h3.mono g3 hle,h4.mono g4 hle,h5.mono g5 hle⟩
theorem up6 {B B':Kn} {α1:Type} {q1:Option Addr} {c1 w1:Nat} {R1:Rel α1} {x1:List α1} {α2:Type} {q2:Option Addr} {c2 w2:Nat} {R2:Rel α2} {x2:List α2} {α3:Type} {q3:Option Addr} {c3 w3:Nat} {R3:Rel α3} {x3:List α3} {α4:Type} {q4:Option Addr} {c4 w4:Nat} {R4:Rel α4} {x4:List α4} {α5:Type} {q5:Option Addr} {c5 w5:Nat} {R5:Rel α5} {x5:List α5} {α6:Type} {q6:Option Addr} {c6 w6:Nat} {R6:Rel α6} {x6:List α6} (hle:B.le B') (h1:SlK B q1 c1 w1 R1 x1) (h2:SlK B q2 c2 w2 R2 x2) (h3:SlK B q3 c3 w3 R3 x3) (h4:SlK B q4 c4 w4 R4 x4) (h5:SlK B q5 c5 w5 R5 x5) (h6:SlK B q6 c6 w6 R6 x6) (g1:Mono R1:=by exact mT) (g2:Mono R2:=by exact mT) (g3:Mono R3:=by exact mT) (g4:Mono R4:=by exact mT) (g5:Mono R5:=by exact mT) (g6:Mono R6:=by exact mT):SlK B' q1 c1 w1 R1 x1∧SlK B' q2 c2 w2 R2 x2∧SlK B' q3 c3 w3 R3 x3∧SlK B' q4 c4 w4 R4 x4∧SlK B' q5 c5 w5 R5 x5∧SlK B' q6 c6 w6 R6 x6:=⟨h1.mono g1 hle,h2.mono g2 hle,h3.mono g3 hle,h4.mono g4 hle,h5.mono g5 hle,h6.mono g6 hle⟩
theorem cB {P:PJ} {f:FuncId} {fn:Func} {code:Code} {rs:List ResultVar} (n:Nat) (hf:P.funcs[f]? = some fn) (hb:fn.body=some code:=by exact rfl) (hn:fn.ntmps=n:=by exact rfl) (hrs:fn.results.toList=rs:=by exact rfl) {args:List Value} (ha:args.length≤n:=by exact Nat.le_of_ble_eq_true rfl) {B:Kn} {Ls:List Cells} {Post:Value→Kn→List Cells→Prop} (h:wpS P n code (ZgC P rs Post) (ZdJ args 0) [] B Ls):Zu P f args B Ls Post:=ZcX n hf hb hn hrs ha h
end Go.BL
namespace Go.BL
open Go.Conc (G)
def bits (f:Nat→Bool):List Value:=(List.range 100).map (fun n=>.bool (f n))
section
variable {P:PJ} {n:Nat} {ops:Array Oper} {i:Nat} {K:Zbf} {S:Env} {D:List Deferred} {B:Kn} {L:List Cells}
variable {dst:Option Tmp} {ty:TypeId} {pos:String} {after:Array Edge} {g:Option (Nat × Bool)}
end
end Go.BL
namespace Go.BL
open Go
def ZbH (c:UInt8):Bool:=(decide (97≤c.toNat) && decide (c.toNat≤122)) || (decide (48≤c.toNat) && decide (c.toNat≤57))
def Zal (l:List UInt8):Bool:=l.all ZbH && decide (1≤l.length) && decide (l.length≤8)
theorem Ztw {l:List UInt8} {k:Nat} {c:UInt8} (hc:l[k]? = some c) (h:ZbH c=false):l.all ZbH=false:=by
 rw [Bool.eq_false_iff];intro ha
 have:=List.all_eq_true.1 ha c (List.mem_of_getElem? hc)
 rw [h] at this;cases this
theorem Zor {l:List UInt8} {k:Nat} {c:UInt8} (hc:l[k]? = some c) (h:ZbH c=true) (ha:(l.take k).all ZbH=true):(l.take (k+1)).all ZbH=true:=by
 rw [List.take_add_one,hc];simp only [Option.toList_some,List.all_append,ha,List.all_cons,h,List.all_nil];rfl
def word (l:List UInt8) (i:Nat):List UInt8:=(l.drop i).takeWhile ZbH
def ZdR (w:List UInt8):Bool:=decide (1≤w.length) && decide (w.length≤8)
theorem Zqf {o:Option UInt8} {f:UInt8→Bool} (h:(match o with | some c=>f c | none=>false)=true) :∃c,o=some c∧f c=true:=by
 cases o with
 | none=>cases h
 | some c=>exact ⟨c,rfl,h⟩
theorem Zcc {α:Type} {l:List α} {k:Nat} {c:α} (h:l[k]? = some c):k<l.length:=(List.getElem?_eq_some_iff.1 h).1
theorem Zgg {p:UInt8→Bool} :∀{m:List UInt8} {k:Nat},(m.take k).all p=true→(∀c,m[k]? = some c→p c=false)→m.takeWhile p=m.take k
 | [],k,_,_=>by simp
 | c :: m,0,_,h=>by simp [List.takeWhile,h c rfl]
 | c :: m,k+1,ha,h=>by
  simp only [List.take_succ_cons,List.all_cons,Bool.and_eq_true] at ha
  simp only [List.takeWhile,ha.1,List.take_succ_cons]
  rw [Zgg ha.2 (fun c hc=>h c (by simpa using hc))]
theorem Zr8 {l:List UInt8} {i k:Nat} (ha:((l.drop i).take k).all ZbH=true) (h :∀c,l[i+k]? = some c→ZbH c=false):word l i=(l.drop i).take k:=
 Zgg ha (fun c hc=>h c (by simpa using hc))
theorem ZfK {l:List UInt8} {i k:Nat} : (l.take (i+k)).drop i=(l.drop i).take k:=by
 rw [List.drop_take,Nat.add_sub_cancel_left]
theorem Zjw {a b c d:Value} (h:a=c) (h':b=d):Value.tuple #[a,b]=Value.tuple #[c,d]:=by rw [h,h']
def more:Nat→List UInt8→Nat→Bool × Nat
 | 0,_,i=>(true,i)
 | n+1,l,i=>if l[i]? = some 46 then (if ZdR (word l (i+1))=true then more n l (i+1+(word l (i+1)).length) else (false,i+1+(word l (i+1)).length)) else (true,i)
def dom (l:List UInt8) (i:Nat):Bool × Nat:=if ZdR (word l i)=true then more 2 l (i+(word l i).length) else (false,i+(word l i).length)
def Zi6 (l:List UInt8) (i:Nat):List UInt8:=if (dom l i).1=true then (l.take (dom l i).2).drop i else []
def Znr (l:List UInt8) (i:Nat):Bool:=(dom l i).1 && decide ((dom l i).2 - i≤20)
theorem Znq {l:List UInt8} {i:Nat} (h:ZdR (word l i)=false):dom l i=(false,i+(word l i).length):=by simp [dom,h]
theorem Ztn {l:List UInt8} {i:Nat} (h:ZdR (word l i)=true):dom l i=more 2 l (i+(word l i).length):=by simp [dom,h]
theorem Zh6 {l:List UInt8} {i:Nat} (h:i≤l.length):i+(word l i).length≤l.length:=by
 have:=List.IsPrefix.length_le (List.takeWhile_prefix ZbH (l:=l.drop i))
 rw [List.length_drop] at this
 unfold word;omega
theorem Zix {l:List UInt8} {n j:Nat} (h : ¬ l[j]? = some 46):more n l j=(true,j):=by
 cases n with
 | zero=>rfl
 | succ n=>rw [more,if_neg h]
theorem ZsF {l:List UInt8} {n j:Nat} (hn:1≤n) (h:l[j]? = some 46) (hw:ZdR (word l (j+1))=false):more n l j=(false,j+1+(word l (j+1)).length):=by
 cases n with
 | zero=>omega
 | succ n=>rw [more,if_pos h,if_neg (by simp [hw])]
theorem ZqC {l:List UInt8} {n j:Nat} (hn:1≤n) (h:l[j]? = some 46) (hw:ZdR (word l (j+1))=true):more n l j=more (n - 1) l (j+1+(word l (j+1)).length):=by
 cases n with
 | zero=>omega
 | succ n=>rw [more,if_pos h,if_pos hw];rfl
theorem ZeF {p:UInt8→Bool} :∀l:List UInt8,(l.takeWhile p).length=l.length↔l.all p=true
 | []=>by simp
 | c :: l=>by
  have h:=ZeF (p:=p) l
  cases hc:p c with
  | true=>simp [List.takeWhile,hc] at h ⊢;exact h
  | false=>simp [List.takeWhile,hc]
theorem ZdB {l:List UInt8} : Zal l=(ZdR (word l 0) && decide ((word l 0).length=l.length)):=by
 have h:=ZeF (p:=ZbH) l
 have e:word l 0=l.takeWhile ZbH:=by simp [word]
 rw [Bool.eq_iff_iff]
 simp only [Zal,ZdR,e,Bool.and_eq_true,decide_eq_true_eq]
 constructor
 ·rintro ⟨⟨h1,h2⟩,h3⟩
  have:=h.2 h1
  omega
 ·rintro ⟨⟨h1,h2⟩,h3⟩
  exact ⟨⟨h.1 h3,by omega⟩,by omega⟩
theorem ZqB {l:List UInt8} :∀(n j:Nat),j≤l.length→(more n l j).2≤l.length
 | 0,j,h=>h
 | n+1,j,h=>by
  rw [more]
  split
  ·rename_i e
   have:=Zcc e
   have h2:=Zh6 (l:=l) (i:=j+1) (by omega)
   split
   ·exact ZqB n _ h2
   ·exact h2
  ·exact h
theorem ZwT {l:List UInt8} {i:Nat} (h:i≤l.length):(dom l i).2≤l.length:=by
 unfold dom
 have h2:=Zh6 h
 split
 ·exact ZqB 2 _ h2
 ·exact h2
def glue (a:List UInt8):List (List UInt8)→List (List UInt8)
 | []=>[a]
 | p :: ps=>(a ++ p) :: ps
def cut (x:UInt8):List UInt8→List (List UInt8)
 | []=>[[]]
 | c :: r=>if c=x then [] :: cut x r else glue [c] (cut x r)
theorem Zoo (x:UInt8) :∀l,cut x l≠[]
 | []=>by simp [cut]
 | c :: r=>by
  rw [cut]
  split
  ·simp
  ·cases cut x r <;> simp [glue]
theorem Zod {m:List (List UInt8)} (h:m≠[]):glue [] m=m:=by
 cases m with
 | nil=>exact absurd rfl h
 | cons p ps=>rfl
theorem Zq4 (a b:List UInt8) (m:List (List UInt8)):glue a (glue b m)=glue (a ++ b) m:=by
 cases m <;> simp [glue]
structure CutSt where
 i:Nat
 f:Nat
 m:Nat
 ps:List (List UInt8)
 q:Option Addr
 cp:Nat
 s:Cells
theorem Zxx {a b:UInt8} (h:(a.toNat:Int)=b.toNat):a=b:=UInt8.toNat_inj.1 (by exact_mod_cast h)
theorem Zvm {l:List UInt8} {x c:UInt8} {i:Nat} (h:l[i]? = some c) (e:c=x):cut x (l.drop i)=[] :: cut x (l.drop (i+1)):=by
 obtain ⟨hlt,he⟩:=List.getElem?_eq_some_iff.1 h
 rw [List.drop_eq_getElem_cons hlt,he,cut,if_pos e]
theorem Ztp {l:List UInt8} {x c:UInt8} {i:Nat} (h:l[i]? = some c) (e:c≠x):cut x (l.drop i)=glue [c] (cut x (l.drop (i+1))):=by
 obtain ⟨hlt,he⟩:=List.getElem?_eq_some_iff.1 h
 rw [List.drop_eq_getElem_cons hlt,he,cut,if_neg e]
theorem Zxw {a b:UInt8} (h : ¬ (a.toNat:Int)=b.toNat):a≠b:=fun e=>h (by rw [e])
theorem Zp5 {l:List UInt8} {c:UInt8} {i f:Nat} (h:l[i]? = some c) (hf:f≤i):(l.take i).drop f ++ [c]=(l.take (i+1)).drop f:=by
 have hlt:=Zcc h
 rw [List.take_add_one,h]
 simp only [Option.toList_some]
 rw [List.drop_append_of_le_length (by rw [List.length_take];omega)]
theorem Zs9 (a:List UInt8) (m:List (List UInt8)):glue a ([] :: m)=a :: m:=by simp [glue]
def Zcm (l:List UInt8):Bool:=(cut 46 l).all Zal && decide ((cut 46 l).length≤3) && decide (l.length≤20)
theorem Zs8 {a:List UInt8} {m:List (List UInt8)} {n:Nat} (h :∀p,p∈m→p.length≤n) :∀p,p∈glue a m→p.length≤a.length+n:=by
 cases m with
 | nil=>intro p hp;simp [glue] at hp;subst hp;omega
 | cons q qs=>
  intro p hp
  simp only [glue,List.mem_cons] at hp
  rcases hp with rfl | hp
  ·rw [List.length_append];have:=h q (List.mem_cons_self ..);omega
  ·have:=h p (List.mem_cons_of_mem _ hp);omega
theorem Zns (x:UInt8) :∀(l p:List UInt8),p∈cut x l→p.length≤l.length
 | [],p,h=>by simp [cut] at h;subst h;simp
 | c :: r,p,h=>by
  rw [cut] at h
  split at h
  ·rcases List.mem_cons.1 h with rfl | h
   ·simp
   ·have:=Zns x r p h;simp;omega
  ·have:=Zs8 (Zns x r) p h;simp at this ⊢;omega
theorem Zmk {l:List (List UInt8)} {k:Nat} {c:List UInt8} (hc:l[k]? = some c) (h:Zal c=false):l.all Zal=false:=by
 rw [Bool.eq_false_iff];intro ha
 have:=List.all_eq_true.1 ha c (List.mem_of_getElem? hc)
 rw [h] at this;cases this
theorem Zjg {l:List (List UInt8)} {k:Nat} {c:List UInt8} (hc:l[k]? = some c) (h:Zal c=true) (ha:(l.take k).all Zal=true):(l.take (k+1)).all Zal=true:=by
 rw [List.take_add_one,hc];simp only [Option.toList_some,List.all_append,ha,List.all_cons,h,List.all_nil];rfl
theorem Zma (x:UInt8) :∀l:List UInt8,(cut x l).length≤l.length+1
 | []=>by simp [cut]
 | c :: r=>by
  have h:=Zma x r
  rw [cut]
  split
  ·simp;omega
  ·cases hq:cut x r with
   | nil=>exact absurd hq (Zoo x r)
   | cons p ps=>rw [hq] at h;simp [glue] at h ⊢;omega
end Go.BL
namespace Go.BL
open Go
theorem ZkN {x:UInt8} :∀{l:List UInt8},x ∉ l→cut x l=[l]
 | [],_=>rfl
 | c :: r,h=>by
  rw [cut,if_neg (fun e=>h (by rw [e];exact List.mem_cons_self ..)),ZkN (fun hm=>h (List.mem_cons_of_mem _ hm))]
  rfl
theorem Zi7 {x:UInt8} {b:List UInt8} :∀{a:List UInt8},x ∉ a→cut x (a ++ x :: b)=a :: cut x b
 | [],_=>by simp [cut]
 | c :: r,h=>by
  rw [List.cons_append,cut,if_neg (fun e=>h (by rw [e];exact List.mem_cons_self ..)),Zi7 (fun hm=>h (List.mem_cons_of_mem _ hm))]
  rfl
theorem ZfS {x:UInt8} :∀{l:List UInt8},x∈l→∃a b,l=a ++ x :: b∧x ∉ a
 | c :: r,h=>by
  by_cases e:c=x
  ·exact ⟨[],r,by simp [e],by simp⟩
  ·have hr:x∈r:=(List.mem_cons.1 h).resolve_left (Ne.symm e)
   obtain ⟨a,b,h1,h2⟩:=ZfS hr
   exact ⟨c :: a,b,by simp [h1],by simp [Ne.symm e,h2]⟩
theorem Zjq (l:List UInt8) (i j:Nat):word l (i+j)=word (l.drop i) j:=by
 unfold word;rw [List.drop_drop]
theorem ZjK (l:List UInt8) (i:Nat) :∀n j,more n l (i+j)=((more n (l.drop i) j).1,i+(more n (l.drop i) j).2)
 | 0,j=>rfl
 | n+1,j=>by
  simp only [more,List.getElem?_drop]
  rw [show i+j+1=i+(j+1) from by omega,Zjq]
  split
  ·split
   ·rw [show i+(j+1)+(word (l.drop i) (j+1)).length=i+(j+1+(word (l.drop i) (j+1)).length) from by omega,ZjK l i n]
   ·simp only [Prod.mk.injEq,true_and];omega
  ·rfl
theorem Zr9 {l:List UInt8} (h:l.all ZbH=true):word l 0=l:=by
 have:=(ZeF (p:=ZbH) l).2 h
 have h2:=List.takeWhile_prefix ZbH (l:=l)
 simp only [word,List.drop_zero]
 exact List.IsPrefix.eq_of_length h2 this
theorem Zhe {a b:List UInt8} {x:UInt8} (hx:ZbH x=false) (h:a.all ZbH=true):word (a ++ x :: b) 0=a:=by
 simp only [word,List.drop_zero]
 induction a with
 | nil=>simp [List.takeWhile,hx]
 | cons c a ih=>
  simp only [List.all_cons,Bool.and_eq_true] at h
  simp only [List.cons_append,List.takeWhile,h.1,ih h.2]
theorem Zhd {a:List UInt8} (b:List UInt8) (h:a.all ZbH=false):(word (a ++ b) 0).length<a.length∧word (a ++ b) 0=word a 0:=by
 simp only [word,List.drop_zero]
 induction a with
 | nil=>simp at h
 | cons c a ih=>
  cases hc:ZbH c with
  | false=>simp [List.takeWhile,hc]
  | true=>
   have h':a.all ZbH=false:=by simpa [hc] using h
   have:=ih h'
   simp only [List.cons_append,List.takeWhile,hc,List.length_cons]
   exact ⟨by omega,by rw [this.2]⟩
theorem ZuX {a:List UInt8} (b:List UInt8) {k:Nat} (h:k<a.length):(a ++ b)[k]? = a[k]?:=List.getElem?_append_left h
theorem ZiT {x:UInt8} {a:List UInt8} (h:x ∉ a) (k:Nat):a[k]?≠some x:=fun e=>h (List.mem_of_getElem? e)
theorem Zqw :∀(n:Nat) (b:List UInt8),(ZdR (word b 0)=true∧more n b (word b 0).length=(true,b.length))↔((cut 46 b).all Zal=true∧(cut 46 b).length≤n+1):=by
 intro n
 induction n with
 | zero=>
  intro b
  by_cases hd:(46:UInt8)∈b
  ·obtain ⟨a,r,rfl,ha⟩:=ZfS hd
   rw [Zi7 ha]
   have hlen:(word (a ++ 46 :: r) 0).length≤a.length:=by
    cases hna:a.all ZbH with
    | true=>rw [Zhe (by decide) hna];exact Nat.le_refl _
    | false=>exact Nat.le_of_lt (Zhd _ hna).1
   constructor
   ·rintro ⟨_,h2⟩
    simp only [more,Prod.mk.injEq,true_and] at h2
    rw [List.length_append,List.length_cons] at h2
    omega
   ·rintro ⟨_,h2⟩
    have:=Zoo 46 r
    simp only [List.length_cons] at h2
    exact absurd (List.eq_nil_of_length_eq_zero (by omega)) this
  ·rw [ZkN hd]
   simp only [more,List.all_cons,List.all_nil,Bool.and_true,List.length_cons,List.length_nil,Nat.zero_add,Nat.le_refl,and_true,Prod.mk.injEq,true_and,ZdB,Bool.and_eq_true,decide_eq_true_eq]
 | succ n ih=>
  intro b
  by_cases hd:(46:UInt8)∈b
  ·obtain ⟨a,r,rfl,ha⟩:=ZfS hd
   rw [Zi7 ha]
   cases hna:a.all ZbH with
   | true=>
    rw [Zhe (by decide) hna]
    have hg:(a ++ 46 :: r)[a.length]? = some 46:=by simp
    have hdr:(a ++ 46 :: r).drop (a.length+1)=r:=by rw [List.drop_append];simp
    have hw:word (a ++ 46 :: r) (a.length+1)=word r 0:=by
     have:=Zjq (a ++ 46 :: r) (a.length+1) 0
     rw [Nat.add_zero,hdr] at this;exact this
    have hm:more n (a ++ 46 :: r) (a.length+1+(word r 0).length)=((more n r (word r 0).length).1,a.length+1+(more n r (word r 0).length).2):=by
     rw [ZjK,hdr]
    simp only [more,hg,if_true,hw,hm,List.all_cons,Bool.and_eq_true,List.length_cons]
    have hna':Zal a=ZdR a:=by rw [ZdB,Zr9 hna];simp
    have hi:=ih r
    constructor
    ·rintro ⟨h1,h2⟩
     split at h2
     ·rename_i h3
      simp only [Prod.mk.injEq,List.length_append,List.length_cons] at h2
      have:=hi.1 ⟨h3,by ext1;exact h2.1;simp only [];omega⟩
      exact ⟨⟨by rw [hna'];exact h1,this.1⟩,by omega⟩
     ·simp at h2
    ·rintro ⟨⟨h1,h2⟩,h3⟩
     obtain ⟨h4,h5⟩:=hi.2 ⟨h2,by omega⟩
     refine ⟨by rw [← hna'];exact h1,?_⟩
     rw [if_pos h4,h5]
     simp;omega
   | false=>
    obtain ⟨h1,h2⟩:=Zhd (46 :: r) hna
    have hne:Zal a=false:=by simp [Zal,hna]
    constructor
    ·rintro ⟨_,h3⟩
     rw [Zix (by rw [ZuX _ h1];exact ZiT ha _)] at h3
     simp only [Prod.mk.injEq,true_and,List.length_append,List.length_cons] at h3
     omega
    ·rintro ⟨h3,_⟩
     simp [hne] at h3
  ·rw [ZkN hd]
   rw [Zix (ZiT hd _)]
   simp only [List.all_cons,List.all_nil,Bool.and_true,List.length_cons,List.length_nil,Prod.mk.injEq,true_and,ZdB,Bool.and_eq_true,decide_eq_true_eq]
   constructor
   ·rintro ⟨h1,h2⟩;exact ⟨⟨h1,h2⟩,by omega⟩
   ·rintro ⟨⟨h1,h2⟩,_⟩;exact ⟨h1,h2⟩
theorem Zl8 (b:List UInt8):((dom b 0).1=true∧(dom b 0).2≤20∧(dom b 0).2=b.length)↔Zcm b=true:=by
 have h:=Zqw 2 b
 simp only [Zcm,Bool.and_eq_true,decide_eq_true_eq]
 constructor
 ·rintro ⟨h1,h2,h3⟩
  cases hw:ZdR (word b 0) with
  | false=>simp [dom,hw] at h1
  | true=>
   simp only [dom,hw,if_true,Nat.zero_add] at h1 h2 h3
   have:=h.1 ⟨hw,by ext1;exact h1;exact h3⟩
   exact ⟨⟨this.1,this.2⟩,by omega⟩
 ·rintro ⟨⟨h1,h2⟩,h3⟩
  obtain ⟨h4,h5⟩:=h.2 ⟨h1,h2⟩
  simp only [dom,h4,if_true,Nat.zero_add,h5]
  exact ⟨trivial,h3,trivial⟩
end Go.BL
namespace Go.BL
open Go
theorem Zbk {α:Type} {p:α→Prop} {l:List α} {k:Nat} {x:α} (hx:l[k]? = some x) (h :∀y,y∈l.take k→p y) (hp:p x) :∀y,y∈l.take (k+1)→p y:=by
 intro y hy
 rw [List.take_add_one,hx] at hy
 simp only [Option.toList_some,List.mem_append,List.mem_singleton] at hy
 rcases hy with hy | rfl
 ·exact h y hy
 ·exact hp
def ZdO (us:List DUser) (u:Str):Int:=match us.findIdx? (fun x=>decide (x.name=u)) with | some i=>i | none=>-1
theorem ZsV {us:List DUser} {u:Str} {k:Nat} {x:DUser} (hx:us[k]? = some x) (he:x.name=u) (h :∀y,y∈us.take k→y.name≠u):ZdO us u=k:=by
 have:us.findIdx? (fun x=>decide (x.name=u))=some k:=by
  rw [List.findIdx?_eq_some_iff_getElem]
  obtain ⟨hk,rfl⟩:=List.getElem?_eq_some_iff.1 hx
  refine ⟨hk,by simpa using he,fun j hj=>?_⟩
  have:=h us[j] (by rw [List.mem_take_iff_getElem];exact ⟨j,by omega,rfl⟩)
  simpa using this
 rw [ZdO,this]
theorem ZqR {us:List DUser} {u:Str} (h :∀y,y∈us→y.name≠u):ZdO us u = -1:=by
 have:us.findIdx? (fun x=>decide (x.name=u))=none:=by
  rw [List.findIdx?_eq_none_iff]
  intro x hx
  simpa using h x hx
 rw [ZdO,this]
theorem ZzL {α:Type} {as:List α} {x:α} {inst:Decidable (x∈as)} (h :∀y,y∈as→y≠x):false=decide (x∈as):=by
 symm;rw [decide_eq_false_iff_not];intro hx;exact h x hx rfl
theorem ZzK {α:Type} {as:List α} {x y:α} {inst:Decidable (x∈as)} {k:Nat} (hy:as[k]? = some y) (e:y=x):true=decide (x∈as):=by
 symm;rw [decide_eq_true_eq];subst e;exact List.mem_of_getElem? hy
theorem Zby {α:Type} {p:α→Prop} {l:List α} {k:Nat} (hk : ¬ (k:Int)<l.length) (h :∀y,y∈l.take k→p y) :∀y,y∈l→p y:=by
 rwa [List.take_of_length_le (by omega)] at h
theorem ZkM {α:Type} {l:List α} {k:Nat} {x:α} (h:l[k]? = some x):l.drop k=x :: l.drop (k+1):=by
 obtain ⟨hlt,he⟩:=List.getElem?_eq_some_iff.1 h
 rw [List.drop_eq_getElem_cons hlt,he]
theorem Zrs {α:Type} {l:List α} {k:Nat} (h : ¬ (k:Int)<l.length):l.drop k=[]:=List.drop_eq_nil_of_le (by omega)
def ZcS (l:List Str):Bool:=l.all Zal && decide l.Nodup && decide (l.length≤3)
def ZaM (x:DLetter):Bool:=Zal x.fr && ZcS x.to_ && decide (0<x.to_.length) && decide (x.text.length≤20)
def ZcH (x:DItem):Bool:=ZaM ⟨x.fr,x.left,x.text⟩
def Zc2:Int→List DItem→Option Int
 | last,[]=>some last
 | last,x :: r=>if (last+1≤x.id∧x.id≤99)∧ZcH x=true then Zc2 x.id r else none
def Zad (q:DQueue):Bool:=match Zc2 0 q.items with
 | some last=>decide (last+1≤q.next) && decide (q.next≤100) && decide (q.items.length≤6)
 | none=>false
theorem Zqv {α:Type} {l:List α} {k:Nat} {x:α} (hx:l[k]? = some x) (h:(l.take k).Nodup) (hn : ¬ x∈l.take k):(l.take (k+1)).Nodup:=by
 rw [List.take_add_one,hx]
 simp only [Option.toList_some]
 rw [List.nodup_append]
 exact ⟨h,by simp,fun a ha b hb=>by rw [List.mem_singleton.1 hb];exact fun e=>hn (e ▸ ha)⟩
theorem ZuE {α:Type} {l:List α} {k:Nat} {x:α} (hx:l[k]? = some x) (h:x∈l.take k) : ¬ l.Nodup:=by
 intro hn
 have e:l=l.take k ++ l.drop k:=(List.take_append_drop k l).symm
 rw [e,ZkM hx,List.nodup_append] at hn
 exact hn.2.2 x h x (List.mem_cons_self ..) rfl
theorem Zhp {l:List Str} {k:Nat} {x:Str} (hx:l[k]? = some x) (h:Zal x=false):false=ZcS l:=by
 simp [ZcS,Zmk hx h]
theorem Zho {l:List Str} {k:Nat} {x:Str} (hx:l[k]? = some x) (h:x∈l.take k):false=ZcS l:=by
 simp [ZcS,ZuE hx h]
theorem Ziw {l:List Str} {k:Nat} (hk : ¬ (k:Int)<l.length) (ha:(l.take k).all Zal=true) (hn:(l.take k).Nodup):decide ((l.length:Int)≤3)=ZcS l:=by
 rw [List.take_of_length_le (by omega)] at ha hn
 rw [Bool.eq_iff_iff];simp only [ZcS,ha,decide_eq_true hn,Bool.true_and,decide_eq_true_eq];omega
def ZaJ {α:Type} (p:α→Bool) (xs:List α):Int:=match xs.findIdx? p with | some i=>i | none=>-1
theorem ZhS {α:Type} {p:α→Bool} {xs:List α} {k:Nat} {x:α} (hx:xs[k]? = some x) (he:p x=true) (h :∀y,y∈xs.take k→p y=false):ZaJ p xs=k:=by
 have:xs.findIdx? p=some k:=by
  rw [List.findIdx?_eq_some_iff_getElem]
  obtain ⟨hk,rfl⟩:=List.getElem?_eq_some_iff.1 hx
  refine ⟨hk,he,fun j hj=>?_⟩
  have:=h xs[j] (by rw [List.mem_take_iff_getElem];exact ⟨j,by omega,rfl⟩)
  simpa using this
 rw [ZaJ,this]
theorem Zfc {α:Type} {p:α→Bool} {xs:List α} (h :∀y,y∈xs→p y=false):ZaJ p xs = -1:=by
 have:xs.findIdx? p=none:=by
  rw [List.findIdx?_eq_none_iff]
  intro x hx
  simpa using h x hx
 rw [ZaJ,this]
theorem ZeK {α:Type} {p:α→Bool} {xs:List α} : (0≤ZaJ p xs)↔∃x,x∈xs∧p x=true:=by
 cases h:xs.findIdx? p with
 | none=>
  rw [List.findIdx?_eq_none_iff] at h
  simp only [ZaJ,List.findIdx?_eq_none_iff.2 h]
  refine ⟨fun e=>absurd e (by omega),fun ⟨x,hx,hp⟩=>?_⟩
  rw [h x hx] at hp;cases hp
 | some i=>
  simp only [ZaJ,h]
  rw [List.findIdx?_eq_some_iff_getElem] at h
  obtain ⟨hi,hp,_⟩:=h
  exact ⟨fun _=>⟨_,List.getElem_mem hi,hp⟩,fun _=>by omega⟩
def ZxT (xs:List Str) (v:Str):Int:=ZaJ (fun x=>decide (x=v)) xs
theorem ZsW {xs:List Str} {v:Str} : (0≤ZxT xs v)↔v∈xs:=by
 rw [ZxT,ZeK];simp
theorem ZnZ {q:DQueue} (h:Zc2 0 q.items=none):false=Zad q:=by simp [Zad,h]
theorem ZnY {q:DQueue} {last:Int} (h:Zc2 0 q.items=some last):(decide (last+1≤q.next) && decide (q.next≤100) && decide (q.items.length≤6))=Zad q:=by simp [Zad,h]
theorem Zqh {q:DQueue} {k:Nat} {last:Int} {x:DItem} (hs:Zc2 0 q.items=Zc2 last (q.items.drop k)) (hx:q.items[k]? = some x):Zc2 0 q.items=if (last+1≤x.id∧x.id≤99)∧ZcH x=true then Zc2 x.id (q.items.drop (k+1)) else none:=by
 rw [hs,ZkM hx,Zc2]
def rep (l:Str) (n:Nat):Str:=(List.replicate n l).flatten
theorem Zkg (l:Str) (n:Nat):(rep l n).length=n*l.length:=by simp [rep]
theorem Ze8 (x:DLetter):ZaM x=(Zal x.fr && (decide (1≤x.to_.length) && ZcS x.to_) && decide ((x.text.length:Int)≤20)):=by
 rw [Bool.eq_iff_iff];simp only [ZaM,Bool.and_eq_true,decide_eq_true_eq]
 constructor
 ·rintro ⟨⟨⟨a,b⟩,c⟩,d⟩;exact ⟨⟨a,by omega,b⟩,by omega⟩
 ·rintro ⟨⟨a,c,b⟩,d⟩;exact ⟨⟨⟨a,b⟩,by omega⟩,by omega⟩
theorem Zan.mono {B B':Kn} {q:Option Addr} {m:Nat} (h:Zan B q m) (hle:B.le B'):Zan B' q m:=fun j hj=>by
 obtain ⟨a,c,h1,h2,h3⟩:=h j hj
 exact ⟨a,c,h1,h2,h3.mono hle⟩
theorem Zus (l:Str) (n:Nat) (h:n % 2=1):rep l n=l ++ rep (l ++ l) (n / 2):=by
 obtain ⟨k,rfl⟩ :∃k,n=2*k+1:=⟨n / 2,by omega⟩
 have e:(2*k+1) / 2=k:=by omega
 rw [e]
 clear h e
 induction k with
 | zero=>simp [rep]
 | succ k ih=>
  rw [show 2*(k+1)+1=(2*k+1)+1+1 from by omega]
  simp only [rep,List.replicate_succ,List.flatten_cons] at ih ⊢
  rw [ih];simp
theorem Zsp (l:Str) (n:Nat) (h:n % 2=0):rep l n=rep (l ++ l) (n / 2):=by
 obtain ⟨k,rfl⟩ :∃k,n=2*k:=⟨n / 2,by omega⟩
 have e:2*k / 2=k:=by omega
 rw [e]
 clear h e
 induction k with
 | zero=>simp [rep]
 | succ k ih=>
  rw [show 2*(k+1)=(2*k)+1+1 from by omega]
  simp only [rep,List.replicate_succ,List.flatten_cons] at ih ⊢
  rw [ih];simp
structure Gh (α:Type) where
 k:Nat
 p:Nat
 l:Cells
 a:Option Addr
 c:Nat
 xs:List α
theorem Zaw {α:Type} {l:List α} {k:Nat} {x:α} (hx:l[k]? = some x):l.take (k+1)=l.take k ++ [x]:=by
 rw [List.take_add_one,hx];rfl
def ZhZ (q:DQueue) (x:DLetter):DQueue × Bool:=
 if Zad q=true∧ZaM x=true then
  (if 6≤q.items.length∨99<q.next then (q,false) else (⟨q.next+1,q.items ++ [⟨q.next,x.fr,x.text,x.to_⟩]⟩,true))
 else (⟨0,[]⟩,false)
theorem ZrK {q:DQueue} {x:DLetter} (h:Zad q=false):ZhZ q x=(⟨0,[]⟩,false):=by simp [ZhZ,h]
theorem ZrJ {q:DQueue} {x:DLetter} (h:ZaM x=false):ZhZ q x=(⟨0,[]⟩,false):=by simp [ZhZ,h]
theorem Zmn {q:DQueue} {x:DLetter} (h:Zad q=true) (h':ZaM x=true) (hf:6≤q.items.length∨99<q.next):ZhZ q x=(q,false):=by rw [ZhZ,if_pos ⟨h,h'⟩,if_pos hf]
theorem Zvq {q:DQueue} {x:DLetter} (h:Zad q=true) (h':ZaM x=true) (h1 : ¬ 6≤q.items.length) (h2 : ¬ 99<q.next):ZhZ q x=(⟨q.next+1,q.items ++ [⟨q.next,x.fr,x.text,x.to_⟩]⟩,true):=by
 rw [ZhZ,if_pos ⟨h,h'⟩,if_neg (by omega)]
theorem Zqi :∀{xs:List DItem} {l r:Int},Zc2 l xs=some r→l≤r
 | [],l,r,h=>by simp only [Zc2,Option.some.injEq] at h;omega
 | x :: xs,l,r,h=>by
  rw [Zc2] at h
  split at h
  ·rename_i e;have:=Zqi h;omega
  ·cases h
theorem Ze4 {q:DQueue} (h:Zad q=true):1≤q.next∧q.next≤100∧q.items.length≤6:=by
 unfold Zad at h
 split at h
 ·rename_i last e
  have:=Zqi e
  simp only [Bool.and_eq_true,decide_eq_true_eq] at h
  omega
 ·cases h
structure Gh2 (α β:Type) where
 k:Nat
 p:Nat
 l:Cells
 a:Option Addr
 c:Nat
 xs:List α
 e:β
def without (xs:List Str) (u:Str):List Str:=xs.filter fun x=>decide (x≠u)
theorem Zk3 {xs:List Str} {u:Str} {k:Nat} {x:Str} (hx:xs[k]? = some x) (h : ¬ x=u):without (xs.take (k+1)) u=without (xs.take k) u ++ [x]:=by
 rw [Zaw hx,without,without,List.filter_append];simp [h]
theorem Zk2 {xs:List Str} {u:Str} {k:Nat} {x:Str} (hx:xs[k]? = some x) (h:x=u):without (xs.take (k+1)) u=without (xs.take k) u:=by
 rw [Zaw hx,without,without,List.filter_append];simp [h]
theorem Zh7 (xs:List Str) (u:Str):(without xs u).length≤xs.length:=List.length_filter_le _ _
def ZbI (id:Int) (u:Str) (x:DItem):DItem:=if x.id=id∧u∈x.left then ⟨x.id,x.fr,x.text,without x.left u⟩ else x
def ZeW (id:Int) (u:Str) (xs:List DItem):List DItem:=(xs.map (ZbI id u)).filter fun x=>decide (0<x.left.length)
def ZbY (id:Int) (u:Str) (s:Str × Bool) (x:DItem):Str × Bool:=if x.id=id∧u∈x.left then (x.text,true) else s
def ZfR (id:Int) (u:Str) (xs:List DItem):Str × Bool:=xs.foldl (ZbY id u) ([],false)
theorem ZeZ {id:Int} {u:Str} {x:DItem} (h:x.id=id) (h':u∈x.left):ZbI id u x=⟨x.id,x.fr,x.text,without x.left u⟩:=by rw [ZbI,if_pos ⟨h,h'⟩]
theorem Zhk {id:Int} {u:Str} {x:DItem} (h : ¬ x.id=id):ZbI id u x=x:=by rw [ZbI,if_neg (fun e=>h e.1)]
theorem Zhj {id:Int} {u:Str} {x:DItem} (h : ¬ u∈x.left):ZbI id u x=x:=by rw [ZbI,if_neg (fun e=>h e.2)]
theorem Zik {id:Int} {u:Str} {xs:List DItem} {k:Nat} {x y:DItem} (hx:xs[k]? = some x) (e:ZbI id u x=y) (h:0<y.left.length):ZeW id u (xs.take (k+1))=ZeW id u (xs.take k) ++ [y]:=by
 rw [Zaw hx,ZeW,ZeW,List.map_append,List.filter_append];simp [e,h]
theorem ZgF {id:Int} {u:Str} {xs:List DItem} {k:Nat} {x y:DItem} (hx:xs[k]? = some x) (e:ZbI id u x=y) (h : ¬ 0<y.left.length):ZeW id u (xs.take (k+1))=ZeW id u (xs.take k):=by
 rw [Zaw hx,ZeW,ZeW,List.map_append,List.filter_append];simp [e,show y.left.length=0 by omega]
theorem Zll {id:Int} {u:Str} {xs:List DItem} {k:Nat} {x:DItem} (hx:xs[k]? = some x) (h:x.id=id) (h':u∈x.left):ZfR id u (xs.take (k+1))=(x.text,true):=by
 rw [Zaw hx,ZfR,List.foldl_append];simp [ZbY,h,h']
theorem Zlk {id:Int} {u:Str} {xs:List DItem} {k:Nat} {x:DItem} (hx:xs[k]? = some x) (h : ¬ x.id=id):ZfR id u (xs.take (k+1))=ZfR id u (xs.take k):=by
 rw [Zaw hx,ZfR,List.foldl_append];simp [ZbY,h,ZfR]
theorem Zlj {id:Int} {u:Str} {xs:List DItem} {k:Nat} {x:DItem} (hx:xs[k]? = some x) (h : ¬ u∈x.left):ZfR id u (xs.take (k+1))=ZfR id u (xs.take k):=by
 rw [Zaw hx,ZfR,List.foldl_append];simp [ZbY,h,ZfR]
theorem Zij (id:Int) (u:Str) (xs:List DItem):(ZeW id u xs).length≤xs.length:=by
 unfold ZeW;exact Nat.le_trans (List.length_filter_le _ _) (by simp)
def Zca (q:DQueue) (id:Int) (u:Str):DQueue × Str × Bool:=(⟨q.next,ZeW id u q.items⟩,(ZfR id u q.items).1,(ZfR id u q.items).2)
def Zc9 (q:DQueue) (id:Int) (u:Str):DQueue × Str × Bool:=if Zad q=true then Zca q id u else (⟨0,[]⟩,[],false)
structure GQ where
 k:Nat
 p:Nat
 l:Cells
 a:Option Addr
 c:Nat
 q:DQueue
structure GM where
 b:Nat
 p:Nat
 l:Cells
 a:Option Addr
 c:Nat
 q:DQueue
 f:Bool
theorem ZhY (q:DQueue) (x:DLetter):(ZhZ q x).1.items.length≤q.items.length+1:=by
 unfold ZhZ
 split
 ·split
  ·exact Nat.le_succ _
  ·simp
 ·exact Nat.zero_le _
theorem Zly (q:DQueue) (id:Int) (u:Str):(Zc9 q id u).1.items.length≤q.items.length:=by
 unfold Zc9
 split
 ·exact Zij _ _ _
 ·exact Nat.zero_le _
theorem Zrr {α:Type} {xs:List α} {j:Nat} {y:α} (h:xs[j]? = some y):xs.drop j=y :: xs.drop (j+1):=by
 obtain ⟨hj,rfl⟩:=List.getElem?_eq_some_iff.1 h
 exact List.drop_eq_getElem_cons hj
structure QOf where
 p:Option Addr
 ys:List DItem
 xs:List DItem
 l:Cells
 q:Option Addr
 c:Nat
 cells:Cells
theorem ZT.slice0 {α:Type} {B:Kn} {l:Cells} {p:Option Addr} {c:Nat} {T:TypeId} {w sz:Nat} {R:Rel α} {xs:List α} (h:ZT B l p c T w R xs):(if c=0 then p else p.map (fun a=>a.add (0*sz)))=p:=by
 obtain ⟨rows,_,_,_,⟨rfl,_,rfl,_⟩ | ⟨b,arr,rfl,_,_,_,_⟩⟩:=h
 ·rfl
 ·split
  ·rfl
  ·rw [Nat.zero_mul];simp [Addr.add_off]
theorem ZgJ {q:DQueue} (h : ¬ (q.items.length≤6∧1≤q.next∧q.next≤100)):false=Zad q:=by
 symm;rw [Bool.eq_false_iff];intro hq
 have:=Ze4 hq
 omega
end Go.BL
namespace Go.BL
open Go
def hat (xs:List Int) (k:Nat):Int:=xs.getD k 0
def swp (xs:List Int) (i j:Nat):List Int:=(xs.set i (hat xs j)).set j (hat xs i)
def ZdL (xs:List Int):Prop:=∀k,0<k→k<xs.length→hat xs ((k - 1) / 2)≤hat xs k
def Zgb (xs:List Int) (j:Nat):Prop:=(∀k,0<k→k<xs.length→k≠j→hat xs ((k - 1) / 2)≤hat xs k)∧(∀k,0<k→k<xs.length→(k - 1) / 2=j→0<j→hat xs ((j - 1) / 2)≤hat xs k)
theorem ZuV {xs:List Int} {k:Nat} {a:Int} (h:xs[k]? = some a):hat xs k=a:=by simp [hat,List.getD,h]
theorem Zbb {xs:List Int} {k:Nat} (h:k<xs.length):xs[k]? = some (hat xs k):=by simp [hat,List.getD,List.getElem?_eq_getElem h]
theorem Zdx (xs:List Int) (i j:Nat):(swp xs i j).length=xs.length:=by simp [swp]
theorem Zfd {xs:List Int} {i j:Nat} (hi:i<xs.length) (hj:j<xs.length) (k:Nat):hat (swp xs i j) k=if k=j then hat xs i else if k=i then hat xs j else hat xs k:=by
 simp only [hat,swp,List.getD,List.getElem?_set]
 by_cases h1:k=j
 ·subst h1;simp [hj]
 ·have h1' : ¬j=k:=fun h=>h1 h.symm
  by_cases h2:k=i
  ·subst h2;simp [hi,h1,h1']
  ·have h2' : ¬i=k:=fun h=>h2 h.symm
   simp [h1,h1',h2,h2']
theorem Zgi {xs:List Int} {i j:Nat} (hi:i<xs.length) (hj:j<xs.length):(swp xs i j).Perm xs:=by
 rw [List.perm_iff_count]
 intro a
 unfold swp
 rw [List.count_set (by simpa using hj),List.count_set hi]
 have e1:(xs.set i (hat xs j))[j]'(by simpa using hj)=hat xs j:=by
  rw [List.getElem_set];split
  ·rfl
  ·simp [hat,List.getD,List.getElem?_eq_getElem hj]
 have e2:xs[i]=hat xs i:=by simp [hat,List.getD,List.getElem?_eq_getElem hi]
 rw [e1,e2]
 have hp :∀v,(v == a)=true→v∈xs→0<List.count a xs:=fun v hv hm=>by
  rw [beq_iff_eq] at hv;subst hv;exact List.count_pos_iff.2 hm
 have hm1:hat xs i∈xs:=by rw [← e2];exact List.getElem_mem _
 by_cases h1:(hat xs i == a)=true <;> by_cases h2:(hat xs j == a)=true <;> simp [h1,h2] <;> (try have:=hp _ h1 hm1;omega)
theorem Zuh {xs:List Int} (h:Zgb xs 0):ZdL xs:=fun k h0 hk=>h.1 k h0 hk (by omega)
theorem Zuj {xs:List Int} {j:Nat} (h:Zgb xs j) (hj:hat xs ((j - 1) / 2)≤hat xs j):ZdL xs:=fun k h0 hk=>by
 by_cases e:k=j
 ·subst e;exact hj
 ·exact h.1 k h0 hk e
theorem Zui {xs:List Int} {j:Nat} (h0:0<j) (hj:j<xs.length) (h:Zgb xs j) (hlt:hat xs j<hat xs ((j - 1) / 2)):Zgb (swp xs ((j - 1) / 2) j) ((j - 1) / 2):=by
 have hi:(j - 1) / 2<xs.length:=by omega
 have H:=fun k=>Zfd hi hj k
 generalize hii:(j - 1) / 2=i at *
 refine ⟨fun k hk0 hk hne=>?_,fun k hk0 hk hpar hi0=>?_⟩
 ·rw [Zdx] at hk
  rw [H,H]
  by_cases e1:k=j
  ·subst e1
   rw [hii];rw [if_neg (by omega),if_pos rfl,if_pos rfl];omega
  ·rw [if_neg e1,if_neg hne]
   by_cases e2:(k - 1) / 2=j
   ·rw [if_pos e2];have:=h.2 k hk0 hk e2 h0;rw [hii] at this;exact this
   ·rw [if_neg e2]
    by_cases e3:(k - 1) / 2=i
    ·rw [if_pos e3];have:=h.1 k hk0 hk e1;rw [e3] at this;omega
    ·rw [if_neg e3];exact h.1 k hk0 hk e1
 ·rw [Zdx] at hk
  rw [H,H]
  have hpi:(i - 1) / 2≠i:=by omega
  have hpj:(i - 1) / 2≠j:=by omega
  rw [if_neg hpj,if_neg hpi]
  have hii2:=h.1 i hi0 hi (by omega)
  by_cases e1:k=j
  ·rw [if_pos e1];exact hii2
  ·rw [if_neg e1,if_neg (by omega)]
   have:=h.1 k hk0 hk e1;rw [hpar] at this;omega
theorem ZsZ {xs:List Int} (h:ZdL xs) :∀k,k<xs.length→hat xs 0≤hat xs k:=fun k=>by
 induction k using Nat.strongRecOn with
 | ind k ih=>
  intro hk
  by_cases h0:k=0
  ·subst h0;exact Int.le_refl _
  ·have h1:=ih ((k - 1) / 2) (by omega) (by omega)
   have h2:=h k (by omega) hk
   omega
def ZtE (xs:List Int) (n:Nat):Prop:=∀k,0<k→k<n→hat xs ((k - 1) / 2)≤hat xs k
def Zfn (xs:List Int) (n i:Nat):Prop:=(∀k,0<k→k<n→(k - 1) / 2≠i→hat xs ((k - 1) / 2)≤hat xs k)∧(∀k,0<k→k<n→(k - 1) / 2=i→0<i→hat xs ((i - 1) / 2)≤hat xs k)
theorem Zru {xs:List Int} {n i:Nat} (h:Zfn xs n i) (hl:n≤2*i+1):ZtE xs n:=fun k h0 hk=>h.1 k h0 hk (by omega)
theorem Zi5 {xs:List Int} {n i:Nat} (h:Zfn xs n i) (hc :∀k,0<k→k<n→(k - 1) / 2=i→hat xs i≤hat xs k):ZtE xs n:=fun k h0 hk=>by
 by_cases e:(k - 1) / 2=i
 ·rw [e];exact hc k h0 hk e
 ·exact h.1 k h0 hk e
theorem Zi4 {xs:List Int} {n i j:Nat} (hn:n≤xs.length) (hj0:0<j) (hj:j<n) (hpj:(j - 1) / 2=i) (h:Zfn xs n i) (hmin :∀k,0<k→k<n→(k - 1) / 2=i→hat xs j≤hat xs k) (hlt:hat xs j<hat xs i):Zfn (swp xs i j) n j:=by
 have hi:i<xs.length:=by omega
 have hij:i≠j:=by omega
 have H:=fun k=>Zfd hi (show j<xs.length by omega) k
 refine ⟨fun k hk0 hk hne=>?_,fun k hk0 hk hpar _=>?_⟩
 ·rw [H,H,if_neg hne]
  by_cases e1:k=j
  ·subst e1;rw [if_pos hpj,if_pos rfl];omega
  ·rw [if_neg e1]
   by_cases e2:(k - 1) / 2=i
   ·rw [if_pos e2,if_neg (by omega)];exact hmin k hk0 hk e2
   ·rw [if_neg e2]
    by_cases e3:k=i
    ·rw [if_pos e3];subst e3;exact h.2 j hj0 hj hpj hk0
    ·rw [if_neg e3];exact h.1 k hk0 hk e2
 ·rw [H,H,hpj,if_neg hij,if_pos rfl,if_neg (by omega),if_neg (by omega)]
  have:=h.1 k hk0 hk (by omega)
  rwa [hpar] at this
theorem Zxy (k:Nat):Int.tdiv ((k:Int) - 1) 2=(((k - 1) / 2:Nat):Int):=by
 cases k with
 | zero=>rfl
 | succ k=>rw [show ((k+1:Nat):Int) - 1=(k:Int) from by omega,Int.tdiv_eq_ediv_of_nonneg (by omega)];simp
theorem Zq0 {xs:List Int} {z:Int} {k:Nat} (h:k<xs.length):hat (xs ++ [z]) k=hat xs k:=by
 simp [hat,List.getD,List.getElem?_append_left h]
theorem Zsr {xs:List Int} {z:Int} (h:ZdL xs):Zgb (xs ++ [z]) xs.length:=by
 refine ⟨fun k h0 hk hne=>?_,fun k h0 hk hp _=>?_⟩
 ·rw [List.length_append,List.length_singleton] at hk
  rw [Zq0 (by omega),Zq0 (by omega)]
  exact h k h0 (by omega)
 ·rw [List.length_append,List.length_singleton] at hk
  omega
theorem Zut {xs:List Int} (h:ZdL xs) (h0:0<xs.length):Zfn (swp xs 0 (xs.length - 1)) (xs.length - 1) 0:=by
 refine ⟨fun k hk0 hk hne=>?_,fun k hk0 hk hpar hh=>absurd hh (by omega)⟩
 rw [Zfd h0 (by omega),Zfd h0 (by omega),if_neg (by omega),if_neg (by omega),if_neg (by omega),if_neg (by omega)]
 exact h k hk0 (by omega)
theorem Zsi {xs:List Int} (h0:0<xs.length):hat (swp xs 0 (xs.length - 1)) (xs.length - 1)=hat xs 0:=by rw [Zfd h0 (by omega),if_pos rfl]
theorem Zoc {xs:List Int} {n k:Nat} (h:k<n):hat (xs.take n) k=hat xs k:=by simp [hat,List.getD,List.getElem?_take,h]
theorem Zpf {ys:List Int} {n:Nat} (h:ZtE ys n) (hn:n≤ys.length):ZdL (ys.take n):=fun k h0 hk=>by
 rw [List.length_take] at hk
 rw [Zoc (by omega),Zoc (by omega)]
 exact h k h0 (by omega)
theorem Zsu {xs ys:List Int} (h0:0<ys.length) (hp:ys.Perm xs) {z:Int} (hz:hat ys (ys.length - 1)=z):(z :: ys.take (ys.length - 1)).Perm xs:=by
 refine List.Perm.trans ?_ hp
 have e:ys=ys.take (ys.length - 1) ++ [z]:=by
  have h1:=Zaw (Zbb (xs:=ys) (k:=ys.length - 1) (by omega))
  rw [show ys.length - 1+1=ys.length from by omega,List.take_length] at h1
  rw [hz] at h1;exact h1
 have h2:(z :: ys.take (ys.length - 1)).Perm (ys.take (ys.length - 1) ++ [z]):=(List.perm_append_singleton z _).symm
 rwa [← e] at h2
theorem ZsY:ZdL []:=fun k h0 hk=>by simp at hk
def asc:Int→Int→List Int→Bool
 | _,_,[]=>true
 | b,l,x :: r=>decide (b<x) && decide (x≤l) && asc x l r
theorem ZnA :∀{r:List Int} {b l z:Int},asc b l r=true→z∈r→b<z
 | [],_,_,_,_,hz=>by cases hz
 | x :: r,b,l,z,h,hz=>by
  simp only [asc,Bool.and_eq_true,decide_eq_true_eq] at h
  rcases List.mem_cons.1 hz with rfl | hz
  ·exact h.1.1
  ·have:=ZnA h.2 hz;omega
theorem ZuU {xs:List Int} {k:Nat} (h:k<xs.length):hat xs k∈xs:=List.mem_of_getElem? (Zbb h)
theorem Ztu {b l x:Int} {r ys:List Int} (hp:ys.Perm (x :: r)) (hh:ZdL ys) (hne:hat ys 0≠x):false=asc b l (x :: r):=by
 symm;rw [Bool.eq_false_iff]
 intro h
 have h0:0<ys.length:=by rw [hp.length_eq];simp
 have hm:=hp.mem_iff.1 (ZuU h0)
 simp only [asc,Bool.and_eq_true,decide_eq_true_eq] at h
 rcases List.mem_cons.1 hm with e | hm
 ·exact hne e
 ·have h1:=ZnA h.2 hm
  obtain ⟨k,hk⟩:=List.mem_iff_getElem?.1 (hp.mem_iff.2 (List.mem_cons_self (a:=x) (l:=r)))
  have h2:=ZsZ hh k (List.getElem?_eq_some_iff.1 hk).1
  rw [ZuV hk] at h2
  omega
theorem Ztt {b l x:Int} {r:List Int} (h:x≤b):false=asc b l (x :: r):=by simp [asc,show ¬ b<x from by omega]
theorem Zts {b l x:Int} {r:List Int} (h:l<x):false=asc b l (x :: r):=by simp [asc,show ¬ x≤l from by omega]
theorem ZwZ {b l x:Int} {r:List Int} (h : ¬ x≤b) (h2 : ¬ l<x):asc b l (x :: r)=asc x l r:=by simp [asc,show b<x from by omega,show x≤l from by omega]
theorem ZnU :∀{xs:List DItem} {b:Int} {l:Int},l≤99→(match Zc2 b xs with | some r=>decide (r≤l) | none=>false)=(decide (b≤l) && xs.all ZcH && asc b l (xs.map (·.id)))
 | [],b,l,_=>by simp [Zc2,asc]
 | x :: xs,b,l,hl=>by
  have ih:=ZnU (xs:=xs) (b:=x.id) hl
  rw [Zc2,List.map_cons,List.all_cons,asc]
  by_cases h1:b+1≤x.id
  ·by_cases h2:ZcH x=true
   ·by_cases h3:x.id≤99
    ·rw [if_pos ⟨⟨h1,h3⟩,h2⟩,ih,h2]
     by_cases h4:x.id≤l
     ·simp [h4,show b≤l from by omega,show b<x.id from by omega]
     ·simp [h4]
    ·rw [if_neg (fun h=>h3 h.1.2)]
     simp [show ¬ x.id≤l from by omega]
   ·rw [if_neg (fun h=>h2 h.2)]
    simp [h2]
  ·rw [if_neg (fun h=>h1 h.1.1)]
   simp [show ¬ b<x.id from by omega]
theorem ZcR (q:DQueue):Zad q=(decide (q.items.length≤6) && decide (1≤q.next) && decide (q.next≤100) && q.items.all ZcH && asc 0 (q.next - 1) (q.items.map (·.id))):=by
 by_cases h:q.next≤100
 ·have:=ZnU (xs:=q.items) (b:=0) (l:=q.next - 1) (by omega)
  unfold Zad
  cases hs:Zc2 0 q.items with
  | none=>
   rw [hs] at this
   simp only at this
   rw [Bool.eq_iff_iff]
   simp only [Bool.and_eq_true,decide_eq_true_eq,Bool.false_eq_true,false_iff]
   rintro ⟨⟨⟨⟨_,h1⟩,_⟩,h2⟩,h3⟩
   rw [h2,h3] at this
   simp at this;omega
  | some r=>
   rw [hs] at this
   simp only at this
   rw [Bool.eq_iff_iff] at this ⊢
   simp only [Bool.and_eq_true,decide_eq_true_eq] at this ⊢
   constructor
   ·rintro ⟨⟨h1,h2⟩,h3⟩
    obtain ⟨⟨a,b⟩,c⟩:=this.1 (by omega)
    exact ⟨⟨⟨⟨h3,by omega⟩,h⟩,b⟩,c⟩
   ·rintro ⟨⟨⟨⟨h1,h2⟩,h3⟩,h4⟩,h5⟩
    have:=this.2 ⟨⟨by omega,h4⟩,h5⟩
    omega
 ·unfold Zad
  cases Zc2 0 q.items <;> simp [h]
theorem Zw2 {α:Type} {p:α→Bool} {l:List α} {k:Nat} {x:α} (hx:l[k]? = some x) (h:p x=false):l.all p=false:=by
 rw [Bool.eq_false_iff];intro hp
 rw [List.all_eq_true] at hp
 have:=hp x (List.mem_of_getElem? hx)
 rw [h] at this;cases this
theorem Zw1 {α:Type} {p:α→Bool} {l:List α} {k:Nat} {x:α} (hx:l[k]? = some x) (h:p x=true) (ha:(l.take k).all p=true):(l.take (k+1)).all p=true:=by
 rw [Zaw hx,List.all_append,ha];simp [h]
theorem ZmS {q:DQueue} {k:Nat} {x:DItem} (hx:q.items[k]? = some x) (h:ZcH x=false):false=Zad q:=by
 rw [ZcR,Zw2 hx h];simp
theorem ZmR {q:DQueue} {k:Nat} (hk : ¬ (k:Int)<q.items.length) (ha:(q.items.take k).all ZcH=true) (h6:q.items.length≤6) (h1:1≤q.next) (h2:q.next≤100):asc 0 (q.next - 1) (q.items.map (·.id))=Zad q:=by
 rw [List.take_of_length_le (by omega)] at ha
 rw [ZcR,ha];simp [h6,h1,h2]
theorem Zmm {q:DQueue} {x:DLetter} (h:(ZhZ q x).2=true):(ZhZ q x).1=⟨q.next+1,q.items ++ [⟨q.next,x.fr,x.text,x.to_⟩]⟩∧Zad q=true∧ZaM x=true∧q.items.length<6∧q.next≤99:=by
 unfold ZhZ at h ⊢
 by_cases h1:Zad q=true∧ZaM x=true
 ·rw [if_pos h1] at h ⊢
  by_cases h2:6≤q.items.length∨99<q.next
  ·rw [if_pos h2] at h;cases h
  ·rw [if_neg h2];exact ⟨rfl,h1.1,h1.2,by omega,by omega⟩
 ·rw [if_neg h1] at h;cases h
theorem ZnV :∀{xs:List DItem} {b r:Int} {y:DItem},Zc2 b xs=some r→r+1≤y.id→y.id≤99→ZcH y=true→Zc2 b (xs ++ [y])=some y.id
 | [],b,r,y,h,h1,h2,h3=>by
  simp only [Zc2,Option.some.injEq] at h;subst h
  simp only [List.nil_append,Zc2,if_pos (And.intro (And.intro h1 h2) h3)]
 | x :: xs,b,r,y,h,h1,h2,h3=>by
  rw [Zc2] at h
  split at h
  ·rename_i hc
   rw [List.cons_append,Zc2,if_pos hc];exact ZnV h h1 h2 h3
  ·cases h
theorem Zpy {q:DQueue} {x:DLetter} (h:(ZhZ q x).2=true):Zad (ZhZ q x).1=true:=by
 obtain ⟨he,hq,hx,h6,h9⟩:=Zmm h
 rw [he]
 unfold Zad at hq ⊢
 split at hq
 ·rename_i last hs
  simp only [Bool.and_eq_true,decide_eq_true_eq] at hq
  have:=ZnV (y:=⟨q.next,x.fr,x.text,x.to_⟩) hs (by simp only [];omega) h9 hx
  rw [this]
  simp only [Bool.and_eq_true,decide_eq_true_eq,List.length_append,List.length_singleton]
  omega
 ·cases hq
theorem Zt4 :∀{ids:List Int} {b l:Int},asc b l ids=true→ids.Nodup
 | [],_,_,_=>by simp
 | x :: r,b,l,h=>by
  simp only [asc,Bool.and_eq_true,decide_eq_true_eq] at h
  rw [List.nodup_cons]
  exact ⟨fun hm=>by have:=ZnA h.2 hm;omega,Zt4 h.2⟩
theorem ZmQ {q:DQueue} (h:Zad q=true):(q.items.map (·.id)).Nodup:=by
 rw [ZcR] at h
 simp only [Bool.and_eq_true] at h
 exact Zt4 h.2
theorem ZdX {q:DQueue} (h:Zad q=true) {x:DItem} (hx:x∈q.items):ZcH x=true:=by
 rw [ZcR] at h
 simp only [Bool.and_eq_true] at h
 exact List.all_eq_true.1 h.1.2 x hx
theorem ZiG {x:DItem} (h:ZcH x=true):0<x.left.length∧x.left.Nodup:=by
 simp only [ZcH,ZaM,ZcS,Bool.and_eq_true,decide_eq_true_eq] at h
 exact ⟨h.1.2,h.1.1.2.1.2⟩
theorem Zli {id:Int} {u:Str} {x:DItem} (h : ¬ (x.id=id∧u∈x.left)):ZbI id u x=x:=by rw [ZbI,if_neg h]
theorem Zgh {id:Int} {u:Str} :∀{xs:List DItem} {s:Str × Bool},(∀x,x∈xs→¬ (x.id=id∧u∈x.left))→xs.foldl (ZbY id u) s=s
 | [],_,_=>rfl
 | x :: xs,s,h=>by
  rw [List.foldl_cons,ZbY,if_neg (h x (List.mem_cons_self ..))]
  exact Zgh fun y hy=>h y (List.mem_cons_of_mem _ hy)
theorem Zii {id:Int} {u:Str} {xs:List DItem} (h :∀x,x∈xs→¬ (x.id=id∧u∈x.left)) (hl :∀x,x∈xs→0<x.left.length):ZeW id u xs=xs:=by
 have e:xs.map (ZbI id u)=xs:=by
  conv=>rhs;rw [← List.map_id xs]
  exact List.map_congr_left fun x hx=>Zli (h x hx)
 rw [ZeW,e]
 exact List.filter_eq_self.2 fun x hx=>by simpa using hl x hx
theorem Zsf {q:DQueue} {id:Int} {u:Str} (hq:Zad q=true) (h :∀x,x∈q.items→¬ (x.id=id∧u∈x.left)):Zc9 q id u=(q,[],false):=by
 rw [Zc9,if_pos hq,Zca,Zii h (fun x hx=>(ZiG (ZdX hq hx)).1),ZfR,Zgh h]
theorem ZqT {q:DQueue} (hq:Zad q=true) {pre ys:List DItem} {y:DItem} (hs:pre ++ y :: ys=q.items):(∀x,x∈pre→x.id≠y.id)∧∀x,x∈ys→x.id≠y.id:=by
 have h:=ZmQ hq
 rw [← hs,List.map_append,List.map_cons,List.nodup_append] at h
 obtain ⟨_,h2,h3⟩:=h
 rw [List.nodup_cons] at h2
 refine ⟨fun x hx=>h3 _ (List.mem_map.2 ⟨x,hx,rfl⟩) _ (List.mem_cons_self ..),fun x hx e=>h2.1 (List.mem_map.2 ⟨x,hx,e⟩)⟩
theorem ZmC {q:DQueue} (hq:Zad q=true) {pre ys:List DItem} {y:DItem} (hs:pre ++ y :: ys=q.items) {u:Str} (hu:u∈y.left) :
  Zc9 q y.id u=(⟨q.next,pre ++ (if 0<(without y.left u).length then ⟨y.id,y.fr,y.text,without y.left u⟩ :: ys else ys)⟩,y.text,true):=by
 obtain ⟨h1,h2⟩:=ZqT hq hs
 have hl :∀x,x∈q.items→0<x.left.length:=fun x hx=>(ZiG (ZdX hq hx)).1
 have n1 :∀x,x∈pre→¬ (x.id=y.id∧u∈x.left):=fun x hx e=>h1 x hx e.1
 have n2 :∀x,x∈ys→¬ (x.id=y.id∧u∈x.left):=fun x hx e=>h2 x hx e.1
 have l1:=Zii n1 (fun x hx=>hl x (by rw [← hs];exact List.mem_append_left _ hx))
 have l2:=Zii n2 (fun x hx=>hl x (by rw [← hs];exact List.mem_append_right _ (List.mem_cons_of_mem _ hx)))
 rw [Zc9,if_pos hq,Zca,← hs]
 unfold ZeW at l1 l2 ⊢
 unfold ZfR
 rw [List.foldl_append,Zgh n1,List.foldl_cons,Zgh n2,ZbY,if_pos ⟨rfl,hu⟩,List.map_append,List.map_cons,List.filter_append,l1,ZeZ rfl hu,List.filter_cons,l2]
 simp only [decide_eq_true_eq]
theorem Zp4 {q:DQueue} {id:Int} {u:Str} (h:(Zc9 q id u).2.2=true):Zad q=true∧∃pre y ys,pre ++ y :: ys=q.items∧y.id=id∧u∈y.left∧
  Zc9 q id u=(⟨q.next,pre ++ (if 0<(without y.left u).length then ⟨y.id,y.fr,y.text,without y.left u⟩ :: ys else ys)⟩,y.text,true):=by
 have hq:Zad q=true:=by
  cases hq:Zad q with
  | true=>rfl
  | false=>simp [Zc9,hq] at h
 refine ⟨hq,?_⟩
 by_cases hx :∀x,x∈q.items→¬ (x.id=id∧u∈x.left)
 ·rw [Zsf hq hx] at h;cases h
 ·simp only [Classical.not_forall,Classical.not_not] at hx
  obtain ⟨y,hy,hi,hu⟩:=hx
  obtain ⟨pre,ys,hs⟩:=List.append_of_mem hy
  exact ⟨pre,y,ys,hs.symm,hi,hu,by rw [← hi];exact ZmC hq hs.symm hu⟩
theorem Ztr :∀{ids:List Int} {b b' l:Int},b'≤b→asc b l ids=true→asc b' l ids=true
 | [],_,_,_,_,_=>rfl
 | x :: r,b,b',l,hb,h=>by
  simp only [asc,Bool.and_eq_true,decide_eq_true_eq] at h ⊢
  exact ⟨⟨by omega,h.1.2⟩,h.2⟩
theorem ZrG :∀{a c:List Int} {b l x:Int},asc b l (a ++ x :: c)=true→asc b l (a ++ c)=true
 | [],c,b,l,x,h=>by
  simp only [List.nil_append,asc,Bool.and_eq_true,decide_eq_true_eq] at h ⊢
  exact Ztr (by omega) h.2
 | y :: a,c,b,l,x,h=>by
  simp only [List.cons_append,asc,Bool.and_eq_true,decide_eq_true_eq] at h ⊢
  exact ⟨h.1,ZrG h.2⟩
theorem Zjl {y:DItem} {u:Str} (h:ZcH y=true) (h0:0<(without y.left u).length):ZcH ⟨y.id,y.fr,y.text,without y.left u⟩=true:=by
 simp only [ZcH,ZaM,ZcS,Bool.and_eq_true,decide_eq_true_eq,List.all_eq_true] at h ⊢
 obtain ⟨⟨⟨h1,⟨h2,h3⟩,h4⟩,h5⟩,h6⟩:=h
 have:=Zh7 y.left u
 exact ⟨⟨⟨h1,⟨fun x hx=>h2 x (List.mem_filter.1 hx).1,h3.filter _⟩,by omega⟩,h0⟩,h6⟩
theorem ZoB {q:DQueue} {id:Int} {u:Str} (h:(Zc9 q id u).2.2=true):Zad (Zc9 q id u).1=true:=by
 obtain ⟨hq,pre,y,ys,hs,hi,hu,he⟩:=Zp4 h
 rw [he]
 have hq':=hq
 rw [ZcR,← hs] at hq'
 rw [ZcR]
 simp only [Bool.and_eq_true,decide_eq_true_eq,List.length_append,List.length_cons,List.all_append,List.all_cons,List.map_append,List.map_cons] at hq' ⊢
 obtain ⟨⟨⟨⟨h6,h1⟩,h2⟩,h3,h4,h5⟩,ha⟩:=hq'
 by_cases h0:0<(without y.left u).length
 ·rw [if_pos h0]
  simp only [List.length_cons,List.all_cons,List.map_cons,Bool.and_eq_true]
  exact ⟨⟨⟨⟨by omega,h1⟩,h2⟩,h3,Zjl h4 h0,h5⟩,ha⟩
 ·rw [if_neg h0]
  exact ⟨⟨⟨⟨by omega,h1⟩,h2⟩,h3,h5⟩,ZrG ha⟩
end Go.BL
namespace Go.BL
open Go
def ZbC (m:DMail):Bool:=(decide (1≤m.uid) && decide (m.uid≤99)) && (decide (0≤m.flags) && decide (m.flags≤31)) && decide (m.text.length≤20)
def scn {α β:Type} (p:β→α→Bool) (nx:β→α→β) (b0:β) (xs:List α):Bool × β:=xs.foldl (fun s x=>(s.1 && p s.2 x,nx s.2 x)) (true,b0)
theorem Ze3 {α β:Type} {p:β→α→Bool} {nx:β→α→β} {b0:β} {xs:List α} : scn p nx b0 (xs.take 0)=(true,b0):=by simp [scn]
theorem ZnS {α β:Type} {p:β→α→Bool} {nx:β→α→β} {b0:β} {xs:List α} {k:Nat} {x:α} (hx:xs[k]? = some x):scn p nx b0 (xs.take (k+1))=((scn p nx b0 (xs.take k)).1 && p (scn p nx b0 (xs.take k)).2 x,nx (scn p nx b0 (xs.take k)).2 x):=by
 have:xs.take (k+1)=xs.take k ++ [x]:=by rw [List.take_add_one,hx];rfl
 rw [this,scn,List.foldl_append];rfl
theorem Zcb {α β:Type} {p:β→α→Bool} {nx:β→α→β} :∀(xs:List α) (b:β),(xs.foldl (fun (s:Bool × β) x=>(s.1 && p s.2 x,nx s.2 x)) (false,b)).1=false
 | [],_=>rfl
 | x :: xs,b=>by simp only [List.foldl_cons,Bool.false_and];exact Zcb xs _
theorem Zuo {α β:Type} {p:β→α→Bool} {nx:β→α→β} {b0:β} {xs:List α} {k:Nat} (h:(scn p nx b0 (xs.take k)).1=false):(scn p nx b0 xs).1=false:=by
 have e:xs=xs.take k ++ xs.drop k:=(List.take_append_drop k xs).symm
 have:scn p nx b0 xs=(xs.drop k).foldl (fun s x=>(s.1 && p s.2 x,nx s.2 x)) (scn p nx b0 (xs.take k)):=by
  conv=>lhs;rw [e,scn,List.foldl_append]
  rfl
 rw [this]
 rcases hs:scn p nx b0 (xs.take k) with ⟨b,c⟩
 rw [hs] at h
 simp only at h
 subst h
 exact Zcb _ _
theorem ZfX {α β:Type} {p:β→α→Bool} {nx:β→α→β} {b0:β} {xs:List α} {k:Nat} {x:α} (hx:xs[k]? = some x) (h:p (scn p nx b0 (xs.take k)).2 x=false):(scn p nx b0 xs).1=false:=
 Zuo (k:=k+1) (by rw [ZnS hx,h,Bool.and_false])
theorem Zci {α β:Type} {p:β→α→Bool} {nx:β→α→β} {b0 b:β} {xs:List α} {k:Nat} {x:α} (hx:xs[k]? = some x) (hs:scn p nx b0 (xs.take k)=(true,b)) (h:p b x=true):scn p nx b0 (xs.take (k+1))=(true,nx b x):=by
 rw [ZnS hx,hs];simp [h]
theorem Zea {α β:Type} {p:β→α→Bool} {nx:β→α→β} {b0 b:β} {xs:List α} {k:Nat} (hs:scn p nx b0 (xs.take k)=(true,b)) (hk:xs.length≤k):scn p nx b0 xs=(true,b):=by
 rwa [List.take_of_length_le hk] at hs
def ZbM (b:Int) (m:DMail):Bool:=ZbC m && decide (b<m.uid)
def Zcj (ms:List DMail):Bool × Int:=scn ZbM (fun _ m=>m.uid) 0 ms
def Zbm (b:DBox):Bool:=(Zcj b.mail).1 && (decide ((Zcj b.mail).2+1≤b.next) && decide (b.next≤100)) && decide (b.mail.length≤10)
def Zah (ms:List DMail):Nat:=(ms.map (·.text.length)).sum
theorem Zin {ms:List DMail} {k:Nat} {x:DMail} (hx:ms[k]? = some x):Zah (ms.take (k+1))=Zah (ms.take k)+x.text.length:=by
 have:ms.take (k+1)=ms.take k ++ [x]:=by rw [List.take_add_one,hx];rfl
 simp [Zah,this]
theorem ZgA {b:DBox} (h:(Zcj b.mail).1=false):Zbm b=false:=by simp [Zbm,h]
theorem ZdH {b:DBox} {l:Int} (h:Zcj b.mail=(true,l)):Zbm b=((decide (l+1≤b.next) && decide (b.next≤100)) && decide (b.mail.length≤10)):=by simp [Zbm,h]
theorem ZjL {m:DMail} (h:ZbC m=true):0≤m.uid∧m.uid≤99:=by
 simp only [ZbC,Bool.and_eq_true,decide_eq_true_eq] at h;omega
theorem ZjA {ms:List DMail} {k n:Nat} (h:n=Zah (ms.take k)) (hk:ms.length≤k):n=Zah ms:=by rwa [List.take_of_length_le hk] at h
def Zeg (b:DBox):Int:=if Zbm b then (Zah b.mail:Int) else -1
def anyone:Str:=[97,110,121,111,110,101]
def ZcB (u:DUser):Bool:=Zal u.name && decide (u.name≠anyone) && Zal u.pass && (decide (0≤u.quota) && decide (u.quota≤200))
theorem Zbr :∀(a b:Str),Op.bytesLess a b = !(Op.bytesLess b a || decide (b=a))
 | [],[]=>by simp [Op.bytesLess]
 | [],_ :: _=>by simp [Op.bytesLess]
 | _ :: _,[]=>by simp [Op.bytesLess]
 | a :: x,b :: y=>by
  have ih:=Zbr x y
  simp only [Op.bytesLess,ih]
  rcases UInt8.lt_or_lt_of_ne (a:=a) (b:=b) with h
  by_cases e:a=b
  ·subst e
   have : ¬ a<a:=UInt8.lt_irrefl a
   simp [this,ih]
  ·rcases h e with h | h
   ·have h2 : ¬ b<a:=UInt8.lt_asymm h
    simp [h,h2,e,Ne.symm e]
   ·have h2 : ¬ a<b:=UInt8.lt_asymm h
    simp [h,h2,e]
def Zdw (b:Str) (u:DUser):Bool:=ZcB u && Op.bytesLess b u.name
def ZdT (us:List DUser):Bool × Str:=scn Zdw (fun _ u=>u.name) [] us
def Zar (us:List DUser):Bool:=(ZdT us).1 && (decide (1≤us.length) && decide (us.length≤4))
theorem ZfP {us:List DUser} (h:(ZdT us).1=false):Zar us=false:=by simp [Zar,h]
theorem Zie {us:List DUser} {b:Str} (h:ZdT us=(true,b)):Zar us=(decide (1≤us.length) && decide (us.length≤4)):=by simp [Zar,h]
def Zqt:DUser:=⟨[],[],0⟩
def Zf6 (t:DUser→Bool) (us:List DUser):DUser × Bool:=match us.find? t with | some x=>(x,true) | none=>(Zqt,false)
theorem Zl3 {α:Type} {t:α→Bool} {xs:List α} (h :∀y,y∈xs→t y=false):xs.find? t=none:=List.find?_eq_none.2 fun y hy=>by simp [h y hy]
theorem Ztb {α:Type} {t:α→Bool} {xs:List α} {k:Nat} {x:α} (hx:xs[k]? = some x) (ht:t x=true) (h :∀y,y∈xs.take k→t y=false):xs.find? t=some x:=by
 have hlt:=(List.getElem?_eq_some_iff.1 hx).1
 have e:xs=xs.take k ++ (x :: xs.drop (k+1)):=by
  rw [← (List.getElem?_eq_some_iff.1 hx).2,← List.drop_eq_getElem_cons hlt,List.take_append_drop]
 rw [e,List.find?_append,Zl3 h];simp [ht]
theorem Zre {t:DUser→Bool} {us:List DUser} {k:Nat} {x:DUser} (hx:us[k]? = some x) (ht:t x=true) (h :∀y,y∈us.take k→t y=false):Zf6 t us=(x,true):=by simp [Zf6,Ztb hx ht h]
theorem Zpn {t:DUser→Bool} {us:List DUser} (h :∀y,y∈us→t y=false):Zf6 t us=(Zqt,false):=by simp [Zf6,Zl3 h]
theorem Zkf {B:Kn} {b:Nat} {T:TypeId} {vs:List Value} (h :∀p,p∈Z8 b vs T→B.mem p.1=some p.2):ZaI B b 0 vs:=fun L j u hu=>
 ⟨rfl,vs.toArray,T,(0,0),.inl (h (b,.cells vs.toArray T) (List.mem_singleton.2 rfl)),by simpa using hu⟩
def Za1 (us:List DUser) (n:Str):DUser × Bool:=if Zar us then Zf6 (fun y=>decide (y.name=n)) us else (Zqt,false)
def inF (o n:Str) (f:DFolder):Bool:=decide (f.owner=o) && decide (f.name=n)
def Zdk (us:List DUser) (x:DItem):Bool:=(Za1 us x.fr).2 && x.left.all fun n=>(Za1 us n).2
theorem Zcl {α:Type} {p:α→Bool} {xs:List α} {k:Nat} {x:α} (hx:xs[k]? = some x) (h:p x=false):xs.all p=false:=by
 rw [List.all_eq_false];exact ⟨x,List.mem_of_getElem? hx,by simp [h]⟩
theorem Zd6 {α:Type} {p:α→Bool} {xs:List α} (h :∀y,y∈xs→p y=true):xs.all p=true:=List.all_eq_true.2 h
def ZcU (a b:DFolder):Bool:=Op.bytesLess a.owner b.owner || (decide (a.owner=b.owner) && Op.bytesLess a.name b.name)
theorem Zdi (a:Str):Op.bytesLess a a=false:=by
 have:=Zbr a a
 cases h:Op.bytesLess a a with
 | false=>rfl
 | true=>rw [h] at this;simp at this
end Go.BL
namespace Go.BL
open Go
inductive Prev {α β:Type} (f:α→β) (z:β) (xs:List α):Nat→β→Prop
 | zero:Prev f z xs 0 z
 | succ {k:Nat} {x:α} : xs[k]? = some x→Prev f z xs (k+1) (f x)
theorem Prev.at {α β:Type} {f:α→β} {z:β} {xs:List α} {k:Nat} {b:β} {y:α} (h:Prev f z xs k b) (hy:xs[((k:Int) - 1).toNat]? = some y) (hk:0<(k:Int)):b=f y:=by
 cases h with
 | zero=>omega
 | succ hx=>
  rename_i k x
  rw [show (((k+1:Nat):Int) - 1).toNat=k from by omega,hx] at hy
  cases hy;rfl
theorem Prev.at0 {α β:Type} {f:α→β} {z:β} {xs:List α} {k:Nat} {b:β} (h:Prev f z xs k b) (hk:(k:Int)≤0):b=z:=by
 cases h with
 | zero=>rfl
 | succ hx=>omega
theorem ZhL {α β:Type} {p:β→α→Bool} {nx:β→α→β} {b0 b:β} {xs:List α} {k:Nat} {x:α} (hx:xs[k]? = some x) (hs:scn p nx b0 (xs.take k)=(true,b)) (h:p b x=false):(scn p nx b0 xs).1=false:=
 ZfX hx (by rw [congrArg Prod.snd hs];exact h)
theorem Zdv {us:List DUser} {k:Nat} {x:DUser} {nm:Str} (hx:us[k]? = some x) (hs:ZdT (us.take k)=(true,nm)) (h:Zdw nm x=false):Zar us=false:=
 ZfP (ZhL hx hs h)
theorem Zn5 {s:Str} (h:0<s.length):Op.bytesLess [] s=true:=by
 cases s with
 | nil=>cases h
 | cons a s=>rfl
theorem ZjJ {s:Str} (h:Zal s=true):0<s.length:=by
 cases s with
 | nil=>simp [Zal] at h
 | cons a s=>simp
def Zcw (b:Str) (g:DGrant):Bool:=Zal g.user && (decide (1≤g.rights) && decide (g.rights≤63)) && Op.bytesLess b g.user
def Zc7 (gs:List DGrant):Bool × Str:=scn Zcw (fun _ g=>g.user) [] gs
def ZbN (gs:List DGrant):Bool:=(Zc7 gs).1 && decide (gs.length≤4)
theorem ZdK {gs:List DGrant} {k:Nat} {x:DGrant} {nm:Str} (hx:gs[k]? = some x) (hs:Zc7 (gs.take k)=(true,nm)) (h:Zcw nm x=false):ZbN gs=false:=by
 rw [ZbN,show (Zc7 gs).1=false from ZhL hx hs h,Bool.false_and]
theorem Zmq {gs:List DGrant} {b:Str} (h:Zc7 gs=(true,b)):ZbN gs=decide (gs.length≤4):=by rw [ZbN,h,Bool.true_and]
def DFolder.box (f:DFolder):DBox:=⟨f.next,f.mail⟩
def inbox:Str:=[105,110,98,111,120]
def Z2 (us:List DUser) (f:DFolder):Bool:=decide (0≤ZdO us f.owner) && Zal f.name && ZbN f.grants && Zbm f.box
def ZbW (us:List DUser) (b:Option DFolder) (f:DFolder):Bool:=Z2 us f && (match b with | none=>true | some y=>ZcU y f)
def Zdp (us:List DUser) (fs:List DFolder):Bool × Option DFolder:=scn (ZbW us) (fun _ f=>some f) none fs
def Zcf (us:List DUser) (fs:List DFolder):Bool:=(Zdp us fs).1 && decide (fs.length≤8)
theorem ZcJ {us:List DUser} {fs:List DFolder} {k:Nat} {x:DFolder} {b:Option DFolder} (hx:fs[k]? = some x) (hs:Zdp us (fs.take k)=(true,b)) (h:ZbW us b x=false):Zcf us fs=false:=by
 rw [Zcf,show (Zdp us fs).1=false from ZhL hx hs h,Bool.false_and]
theorem ZkB {us:List DUser} {fs:List DFolder} {b:Option DFolder} (h:Zdp us fs=(true,b)):Zcf us fs=decide (fs.length≤8):=by rw [Zcf,h,Bool.true_and]
def Zbg (fs:List DFolder) (u:Str):Nat:=(fs.map fun f=>if f.owner=u then Zah f.mail else 0).sum
theorem Zjv {fs:List DFolder} {u:Str} {k:Nat} {x:DFolder} (hx:fs[k]? = some x):Zbg (fs.take (k+1)) u=Zbg (fs.take k) u+if x.owner=u then Zah x.mail else 0:=by
 have:fs.take (k+1)=fs.take k ++ [x]:=by rw [List.take_add_one,hx];rfl
 simp [Zbg,this]
theorem Zp2 {fs:List DFolder} {u:Str} {k n:Nat} (h:n=Zbg (fs.take k) u) (hk:fs.length≤k):n=Zbg fs u:=by rwa [List.take_of_length_le hk] at h
def Zgt (us:List DUser) (ns:List Str):Bool:=ns.all fun n=>decide (0≤ZdO us n)
def ZaT (fs:List DFolder) (u:DUser):Bool:=decide (0≤ZaJ (inF u.name inbox) fs) && decide ((Zbg fs u.name:Int)≤u.quota)
def ZaG (us:List DUser) (x:DItem):Bool:=decide (0≤ZdO us x.fr) && Zgt us x.left
def Zz (h:DHost):Bool:=Zcm h.domain && Zar h.users && Zad h.queue && Zcf h.users h.folders && h.users.all (ZaT h.folders) && h.queue.items.all (ZaG h.users)
theorem Z5 {B:Kn} {q:Option Addr} {cp:Nat} {ms:List DMail} (h:SlK B q cp 3 ZS ms):Zah ms≤4000000000000:=by
 have h1 :∀m,m∈ms→m.text.length≤2000000:=fun m hm=>by
  obtain ⟨i,hi⟩:=List.mem_iff_getElem?.1 hm
  obtain ⟨b,o,row,_,h2,_⟩:=h.rows i m hi
  exact h2.2
 have h2 :∀l:List DMail,(∀m,m∈l→m.text.length≤2000000)→Zah l≤l.length*2000000:=by
  intro l
  induction l with
  | nil=>intro _;simp [Zah]
  | cons m l ih=>
   intro hl
   have:=ih fun y hy=>hl y (List.mem_cons_of_mem _ hy)
   have:=hl m (List.mem_cons_self ..)
   simp only [Zah,List.map_cons,List.sum_cons,List.length_cons] at *
   omega
 have:=h2 ms h1
 have:=h.len
 omega
theorem ZiK {h:DHost} {k:Nat} {u:DUser} (hu:h.users[k]? = some u) (hf:ZaT h.folders u=false):Zz h=false:=by
 rw [Zz,Zcl hu hf,Bool.and_false,Bool.false_and]
theorem ZiL {h:DHost} {k:Nat} {y:DItem} (hy:h.queue.items[k]? = some y) (hf:ZaG h.users y=false):Zz h=false:=by
 rw [Zz,Zcl hy hf,Bool.and_false]
theorem Zpb {h:DHost} (h1:Zcm h.domain=true) (h2:Zar h.users=true) (h3:Zad h.queue=true) (h4:Zcf h.users h.folders=true) (h5:h.users.all (ZaT h.folders)=true) (h6:h.queue.items.all (ZaG h.users)=true):Zz h=true:=by
 rw [Zz,h1,h2,h3,h4,h5,h6];rfl
theorem Zld {fs:List DFolder} {u:DUser} (h:ZaJ (inF u.name inbox) fs<0):ZaT fs u=false:=by
 rw [ZaT,decide_eq_false (by omega),Bool.false_and]
theorem Zlc {fs:List DFolder} {u:DUser} (h:u.quota<Zbg fs u.name):ZaT fs u=false:=by
 rw [ZaT,decide_eq_false (p:=(Zbg fs u.name:Int)≤u.quota) (by omega),Bool.and_false]
theorem Zlb {fs:List DFolder} {u:DUser} (h:0≤ZaJ (inF u.name inbox) fs) (h':(Zbg fs u.name:Int)≤u.quota):ZaT fs u=true:=by
 rw [ZaT,decide_eq_true h,decide_eq_true h'];rfl
theorem Zkt {us:List DUser} {x:DItem} (h:ZdO us x.fr<0):ZaG us x=false:=by rw [ZaG,decide_eq_false (by omega),Bool.false_and]
theorem Zks {us:List DUser} {x:DItem} (h:Zgt us x.left=false):ZaG us x=false:=by rw [ZaG,h,Bool.and_false]
theorem Zkr {us:List DUser} {x:DItem} (h:0≤ZdO us x.fr) (h':Zgt us x.left=true):ZaG us x=true:=by rw [ZaG,decide_eq_true h,h'];rfl
theorem Zfs :∀{a b c:Str},Op.bytesLess a b=true→Op.bytesLess b c=true→Op.bytesLess a c=true
 | [],[],_,h,_=>by simp [Op.bytesLess] at h
 | _ :: _,[],_,h,_=>by simp [Op.bytesLess] at h
 | _,_ :: _,[],_,h=>by simp [Op.bytesLess] at h
 | [],_ :: _,_ :: _,_,_=>by simp [Op.bytesLess]
 | a :: x,b :: y,c :: z,h,h'=>by
  simp only [Op.bytesLess,Bool.or_eq_true,decide_eq_true_eq,Bool.and_eq_true,beq_iff_eq] at h h' ⊢
  rcases h with h | ⟨rfl,h⟩
  ·rcases h' with h' | ⟨rfl,h'⟩
   ·exact .inl (UInt8.lt_trans h h')
   ·exact .inl h
  ·rcases h' with h' | ⟨rfl,h'⟩
   ·exact .inl h'
   ·exact .inr ⟨rfl,Zfs h h'⟩
def Zfb (gs:List DGrant):List (Str × Int):=gs.map fun g=>(g.user,g.rights)
theorem Zhu :∀(xs:List DGrant) (b0 b:Str),xs.foldl (fun s x=>(s.1 && Zcw s.2 x,x.user)) (true,b0)=(true,b)→(∀y,y∈xs→y.user=b∨Op.bytesLess y.user b=true)∧(b=b0∨Op.bytesLess b0 b=true)
 | [],b0,b,h=>by
  cases h;exact ⟨by simp,.inl rfl⟩
 | x :: xs,b0,b,h=>by
  simp only [List.foldl_cons,Bool.true_and] at h
  cases hp:Zcw b0 x with
  | false=>
   rw [hp] at h
   have:=Zcb (p:=Zcw) (nx:=fun _ g=>g.user) xs x.user
   rw [h] at this;cases this
  | true=>
   rw [hp] at h
   obtain ⟨h1,h2⟩:=Zhu xs x.user b h
   have hl:Op.bytesLess b0 x.user=true:=by
    simp only [Zcw,Bool.and_eq_true] at hp;exact hp.2
   refine ⟨fun y hy=>?_,.inr ?_⟩
   ·rcases List.mem_cons.1 hy with rfl | hy
    ·rcases h2 with h2 | h2
     ·exact .inl h2.symm
     ·exact .inr h2
    ·exact h1 y hy
   ·rcases h2 with rfl | h2
    ·exact hl
    ·exact Zfs hl h2
theorem ZsE {kvs:List (Str × Int)} {k:Str} {v:Int} (h:k ∉ kvs.map (·.1)):mput kvs k v=kvs ++ [(k,v)]:=by
 induction kvs with
 | nil=>rfl
 | cons p r ih=>
  simp only [List.map_cons,List.mem_cons,not_or] at h
  simp only [mput,if_neg h.1,ih h.2,List.cons_append]
theorem ZuN {gs:List DGrant} {k:Nat} {m:DGrant} {nm:Str} (hm:gs[k]? = some m) (hs:Zc7 (gs.take k)=(true,nm)) (hl:Op.bytesLess nm m.user=true):mput (Zfb (gs.take k)) m.user m.rights=Zfb (gs.take (k+1)):=by
 have h1:=(Zhu _ _ _ hs).1
 rw [ZsE]
 ·rw [Zfb,Zfb,List.take_add_one,hm];simp
 ·intro hc
  simp only [Zfb,List.map_map,List.mem_map,Function.comp] at hc
  obtain ⟨y,hy,e⟩:=hc
  rcases h1 y hy with h | h
  ·rw [← e,h,Zdi] at hl;cases hl
  ·rw [e] at h
   have:=Zfs hl h
   rw [Zdi] at this;cases this
def ZnG (gs:List DGrant) (B:Kn):Value→Kn→List Cells→Prop:=fun v B' Ls=>∃m l,v = .tuple #[.map m,.bool (ZbN gs)]∧Ls=[l]∧B'=B∧(ZbN gs=true→∃b,m=some b∧Zvu l b (Zfb gs))
theorem Zi3 {P:PJ} {S:Env} {B:Kn} {L:List Cells} {rs:List ResultVar} {gs:List DGrant} (e:Exit) (he:e = .ret∨e = .normal) (vs:List Value) (hr:Zcq P S B L rs vs) (h:ZbN gs=false) (hv:Zdd vs = .tuple #[.map none,.bool false]:=by rfl):ZgC P rs (ZnG gs B) e S [] B L:=
 Zvb e he vs hr ⟨none,[],by rw [hv,h],rfl,rfl,fun hc=>by rw [h] at hc;cases hc⟩
theorem Zva {P:PJ} {S:Env} {B:Kn} {L:List Cells} {rs:List ResultVar} {gs:List DGrant} (e:Exit) (he:e = .ret∨e = .normal) (vs:List Value) {b:Nat} {l:Cells} {r:List Cells} (hp:Za2 L [0]=some ([l],r)) (hr:Zcq P S B L rs vs) (h:ZbN gs=true) (hm:Zvu l b (Zfb gs)) (hv:Zdd vs = .tuple #[.map (some b),.bool true]:=by rfl):ZgC P rs (ZnG gs B) e S [] B L:=
 Zat e he vs [0] hp hr ⟨some b,l,by rw [hv,h],rfl,rfl,fun _=>⟨b,rfl,hm⟩⟩
def ZwU (f:DFolder) (ow nm:Str):Int:=if Lib.compareBytes f.owner ow≠0 then Lib.compareBytes f.owner ow else Lib.compareBytes f.name nm
theorem Zmb (f g:DFolder):0≤ZwU f g.owner g.name↔ZcU f g=false:=by
 have h1:=Znv f.owner g.owner
 have h2:=Znv f.name g.name
 unfold ZwU ZcU
 by_cases e:f.owner=g.owner
 ·have e0:=h1.2.2 e
  have e1:Op.bytesLess f.owner g.owner=false:=by rw [e];exact Zdi _
  rw [if_neg (fun h=>h e0),e1,decide_eq_true e,Bool.true_and,Bool.false_or,Bool.eq_false_iff,ne_eq,← h2.1];omega
 ·have e0:Lib.compareBytes f.owner g.owner≠0:=fun h=>e (h1.2.1 h)
  rw [if_pos e0,decide_eq_false e,Bool.false_and,Bool.or_false,Bool.eq_false_iff,ne_eq,← h1.1];omega
def ZfQ (fs:List DFolder) (u:Str):Int:=(fs.map fun f=>if f.owner=u then Zeg ⟨f.next,f.mail⟩ else 0).sum
theorem Zju {fs:List DFolder} {u:Str} {k:Nat} {x:DFolder} (hx:fs[k]? = some x):ZfQ (fs.take (k+1)) u=ZfQ (fs.take k) u+if x.owner=u then Zeg ⟨x.next,x.mail⟩ else 0:=by
 have:fs.take (k+1)=fs.take k ++ [x]:=by rw [List.take_add_one,hx];rfl
 simp [ZfQ,this]
theorem ZpZ {fs:List DFolder} {u:Str} {k:Nat} {n:Int} (h:n=ZfQ (fs.take k) u) (hk:fs.length≤k):n=ZfQ fs u:=by rwa [List.take_of_length_le hk] at h
theorem Zn6 :∀(xs:List DMail) (b0 b:Int),xs.foldl (fun s x=>(s.1 && ZbM s.2 x,x.uid)) (true,b0)=(true,b)→∀y,y∈xs→ZbC y=true
 | [],_,_,_,_,h=>by cases h
 | x :: xs,b0,b,h,y,hy=>by
  simp only [List.foldl_cons,Bool.true_and] at h
  cases hp:ZbM b0 x with
  | false=>
   rw [hp] at h
   have:=Zcb (p:=ZbM) (nx:=fun _ m=>m.uid) xs x.uid
   rw [h] at this;cases this
  | true=>
   rw [hp] at h
   rcases List.mem_cons.1 hy with rfl | hy
   ·simp only [ZbM,Bool.and_eq_true] at hp;exact hp.1
   ·exact Zn6 xs x.uid b h y hy
theorem ZdG {b:DBox} (h:Zbm b=true):(∀y,y∈b.mail→ZbC y=true)∧b.mail.length≤10:=by
 simp only [Zbm,Bool.and_eq_true,decide_eq_true_eq] at h
 exact ⟨Zn6 b.mail 0 (Zcj b.mail).2 (Prod.ext h.1.1 rfl),h.2⟩
theorem ZfV :∀l:List DMail,(∀m,m∈l→ZbC m=true)→Zah l≤l.length*20
 | [],_=>by simp [Zah]
 | m :: l,h=>by
  have h1:=ZfV l fun y hy=>h y (List.mem_cons_of_mem _ hy)
  have h2:=h m (List.mem_cons_self ..)
  simp only [ZbC,Bool.and_eq_true,decide_eq_true_eq] at h2
  simp only [Zah,List.map_cons,List.sum_cons,List.length_cons] at *
  omega
theorem Zj0 (b:DBox) : -1≤Zeg b∧Zeg b≤200:=by
 unfold Zeg
 split
 ·rename_i h
  obtain ⟨h1,h2⟩:=ZdG h
  have:=ZfV _ h1
  omega
 ·omega
theorem Zse (fs:List DFolder) (u:Str) : -1*fs.length≤ZfQ fs u∧ZfQ fs u≤fs.length*200:=by
 induction fs with
 | nil=>simp [ZfQ]
 | cons f fs ih=>
  have:=Zj0 ⟨f.next,f.mail⟩
  simp only [ZfQ,List.map_cons,List.sum_cons,List.length_cons] at *
  split <;> omega
def ZeO (x:DHost) (u:Str) (more:Int):Bool:=!(Za1 x.users u).2 || decide ((Za1 x.users u).1.quota<ZfQ x.folders u+more)
def ZcZ (x:DHost) (w:DUser):Bool:=decide (0≤ZaJ (inF w.name inbox) x.folders) && !ZeO x w.name 0
theorem Zlg {x:DHost} {w:DUser} (h:ZaJ (inF w.name inbox) x.folders<0):ZcZ x w=false:=by rw [ZcZ,decide_eq_false (by omega),Bool.false_and]
theorem Zlf {x:DHost} {w:DUser} (h:ZeO x w.name 0=true):ZcZ x w=false:=by rw [ZcZ,h];simp
theorem Zle {x:DHost} {w:DUser} (h:0≤ZaJ (inF w.name inbox) x.folders) (h':ZeO x w.name 0=false):ZcZ x w=true:=by rw [ZcZ,h',decide_eq_true h];rfl
def Zif (x:DHost):Bool:=x.users.all (ZcZ x)
def Zvw:Rel Bool:=fun _ row x=>row=[.bool x]
def Za3 (us:List DUser) (f:DFolder):Bool:=(Za1 us f.owner).2 && Zal f.name && ZbN f.grants && Zbm f.box
theorem ZhN (C i:Nat):(some (ptr (Addr.add ⟨C,0,none⟩ ((i:Int).toNat*1))):Option Value)=some (ptr ⟨C,i,none⟩):=by
 rw [Addr.add_off _ _ rfl];simp
def ZrS (x:DHost) (i:Nat):Value:=.bool (match x.folders[i]? with | some m=>Za3 x.users m | none=>false)
theorem ZnO {x:DHost} {i:Nat} {m:DFolder} (h:x.folders[i]? = some m):ZrS x i = .bool (Za3 x.users m):=by simp [ZrS,h]
theorem ZpW {B:Kn} {x:DHost} {C:Nat} {T:TypeId} (hm :∀p,p∈[(C,Obj.cells ((List.range x.folders.length).map (ZrS x)).toArray T (0,0))]→B.mem p.1=some p.2) (hl:x.folders.length≤2000000):SlK B (some ⟨C,0,none⟩) (x.folders.map (Za3 x.users)).length 1 Zvw (x.folders.map (Za3 x.users)):=by
 refine ⟨fun i y hy=>⟨C,0,[.bool y],rfl,rfl,fun j u hu=>?_⟩,by simp,by simpa using hl⟩
 have hj:j=0:=by
  cases j with
  | zero=>rfl
  | succ j=>simp at hu
 subst hj
 simp only [List.getElem?_cons_zero,Option.some.injEq] at hu
 subst hu
 rw [List.getElem?_map] at hy
 obtain ⟨m,hm',rfl⟩:=Option.map_eq_some_iff.1 hy
 have hi:i<x.folders.length:=(List.getElem?_eq_some_iff.1 hm').1
 refine ⟨rfl,_,T,(0,0),.inl (hm _ (List.mem_singleton.2 rfl)),?_⟩
 simp only [Nat.mul_one,Nat.zero_add,Nat.add_zero,List.getElem?_toArray,List.getElem?_map,List.getElem?_range hi,Option.map_some,ZnO hm']
theorem ZkT {us:List DUser} {fs:List DFolder} : (!decide (0≤ZaJ (fun y=>decide (false=y)) (fs.map (Za3 us))))=fs.all (Za3 us):=by
 by_cases h :∀f,f∈fs→Za3 us f=true
 ·rw [List.all_eq_true.2 h,Zfc (fun y hy=>by
   obtain ⟨f,hf,rfl⟩:=List.mem_map.1 hy
   simp [h f hf])]
  rfl
 ·have h2:fs.all (Za3 us)=false:=by
   rw [Bool.eq_false_iff,ne_eq,List.all_eq_true];exact h
  rw [h2]
  have h3 :∃k,(fs.map (Za3 us)).findIdx? (fun y=>decide (false=y))=some k:=by
   cases hk:(fs.map (Za3 us)).findIdx? (fun y=>decide (false=y)) with
   | some k=>exact ⟨k,rfl⟩
   | none=>
    exfalso;apply h
    intro f hf
    have:=List.findIdx?_eq_none_iff.1 hk (Za3 us f) (List.mem_map_of_mem hf)
    cases hq:Za3 us f with
    | true=>rfl
    | false=>rw [hq] at this;simp at this
  obtain ⟨k,hk⟩:=h3
  have e:ZaJ (fun y=>decide (false=y)) (fs.map (Za3 us))=(k:Int):=by unfold ZaJ;rw [hk]
  rw [e];simp
def Zhn:List DFolder→Bool
 | []=>true
 | [_]=>true
 | a :: b :: r=>ZcU a b && Zhn (b :: r)
def ZdC (x:DHost):Bool:=Zcm x.domain && Zar x.users && Zad x.queue && decide (x.folders.length≤8) && Zhn x.folders && (x.folders.all (Za3 x.users) && Zif x && x.queue.items.all (Zdk x.users))
def ZtD (fs:List DFolder) (k:Nat):Prop:=∀i a b,i<k→fs[i]? = some a→fs[i+1]? = some b→ZcU a b=true
theorem ZoS {fs:List DFolder} : ZtD fs 0:=fun i a b h=>by omega
theorem ZoT {fs:List DFolder} {k:Nat} {x y:DFolder} (h:ZtD fs k) (hx:fs[k]? = some x) (hy:fs[k+1]? = some y) (hl:ZcU x y=true):ZtD fs (k+1):=fun i a b hi ha hb=>by
 rcases Nat.lt_or_ge i k with h' | h'
 ·exact h i a b h' ha hb
 ·obtain rfl:i=k:=by omega
  rw [hx] at ha;rw [hy] at hb
  cases ha;cases hb;exact hl
theorem ZhO :∀(fs:List DFolder),Zhn fs=true↔∀i a b,fs[i]? = some a→fs[i+1]? = some b→ZcU a b=true
 | []=>by simp [Zhn]
 | [_]=>by simp [Zhn]
 | x :: y :: r=>by
  rw [Zhn,Bool.and_eq_true,ZhO (y :: r)]
  constructor
  ·rintro ⟨h1,h2⟩ i a b ha hb
   cases i with
   | zero=>simp at ha hb;rw [← ha,← hb];exact h1
   | succ i=>exact h2 i a b (by simpa using ha) (by simpa using hb)
  ·intro h
   exact ⟨h 0 x y rfl rfl,fun i a b ha hb=>h (i+1) a b (by simpa using ha) (by simpa using hb)⟩
theorem ZsA {fs:List DFolder} {k:Nat} {x y:DFolder} (hx:fs[k]? = some x) (hy:fs[k+1]? = some y) (hl:ZcU x y=false):Zhn fs=false:=by
 rw [Bool.eq_false_iff,ne_eq,ZhO]
 intro h
 have:=h k x y hx hy
 rw [hl] at this;cases this
theorem Zsz {fs:List DFolder} (h :∀i a b,i<fs.length - 1→fs[i]? = some a→fs[i+1]? = some b→ZcU a b=true):Zhn fs=true:=
 (ZhO fs).2 fun i a b ha hb=>h i a b (by have:=(List.getElem?_eq_some_iff.1 hb).1;omega) ha hb
theorem ZfY {α:Type} {p:Str→α→Bool} {f:α→Str} (hp :∀b x,p b x=true→Op.bytesLess b (f x)=true) :∀(xs:List α) (b0 b:Str),xs.foldl (fun s x=>(s.1 && p s.2 x,f x)) (true,b0)=(true,b)→(∀y,y∈xs→Op.bytesLess b0 (f y)=true)∧xs.Pairwise (fun x y=>Op.bytesLess (f x) (f y)=true)
 | [],_,_,_=>⟨by simp,.nil⟩
 | x :: xs,b0,b,h=>by
  simp only [List.foldl_cons,Bool.true_and] at h
  cases hq:p b0 x with
  | false=>
   rw [hq] at h
   have:=Zcb (p:=p) (nx:=fun _ g=>f g) xs (f x)
   rw [h] at this;cases this
  | true=>
   rw [hq] at h
   obtain ⟨h1,h2⟩:=ZfY hp xs (f x) b h
   refine ⟨fun y hy=>?_,.cons h1 h2⟩
   rcases List.mem_cons.1 hy with rfl | hy
   ·exact hp _ _ hq
   ·exact Zfs (hp _ _ hq) (h1 y hy)
theorem Zd8 {us:List DUser} (h:Zar us=true):us.Pairwise fun x y=>Op.bytesLess x.name y.name=true:=by
 simp only [Zar,Bool.and_eq_true] at h
 exact (ZfY (p:=Zdw) (f:=fun u=>u.name) (fun b x hq=>by simp only [Zdw,Bool.and_eq_true] at hq;exact hq.2) us [] (ZdT us).2 (Prod.ext h.1 rfl)).2
theorem Zcn {us:List DUser} {u:Str} : 0≤ZdO us u↔∃x,x∈us∧x.name=u:=by
 unfold ZdO
 cases h:us.findIdx? (fun x=>decide (x.name=u)) with
 | none=>
  have:=List.findIdx?_eq_none_iff.1 h
  simp only [decide_eq_false_iff_not] at this
  exact ⟨fun hc=>absurd hc (by simp only [];omega),fun ⟨x,hx,e⟩=>absurd e (this x hx)⟩
 | some i=>
  rw [List.findIdx?_eq_some_iff_getElem] at h
  obtain ⟨hi,h1,_⟩:=h
  exact ⟨fun _=>⟨us[i],List.getElem_mem hi,by simpa using h1⟩,fun _=>by simp only [];omega⟩
theorem Zrd {us:List DUser} {t:DUser→Bool} : (Zf6 t us).2=true↔∃x,x∈us∧t x=true:=by
 unfold Zf6
 cases h:us.find? t with
 | none=>simp only [Bool.false_eq_true,false_iff];rintro ⟨x,hx,e⟩;have:=List.find?_eq_none.1 h x hx;exact this e
 | some x=>simp only [true_iff];exact ⟨x,List.mem_of_find?_eq_some h,List.find?_some h⟩
theorem ZdU {us:List DUser} (h:Zar us=true) (n:Str):(Za1 us n).2=decide (0≤ZdO us n):=by
 rw [Za1,if_pos h,Bool.eq_iff_iff,Zrd,decide_eq_true_eq,Zcn];simp
theorem Zf5 :∀{us:List DUser},us.Pairwise (fun x y=>Op.bytesLess x.name y.name=true)→∀w,w∈us→us.find? (fun y=>decide (y.name=w.name))=some w
 | [],_,w,h=>by cases h
 | x :: us,hp,w,h=>by
  cases hp with
  | cons h1 h2=>
   rw [List.find?_cons]
   rcases List.mem_cons.1 h with rfl | h
   ·simp
   ·have hne:x.name≠w.name:=fun e=>by
     have:=h1 w h
     rw [e,Zdi] at this;cases this
    simp only [hne,decide_false]
    exact Zf5 h2 w h
theorem Zj5 {us:List DUser} (h:Zar us=true) {w:DUser} (hw:w∈us):Za1 us w.name=(w,true):=by
 rw [Za1,if_pos h,Zf6,Zf5 (Zd8 h) w hw]
theorem Zpl {us:List DUser} (h:Zar us=true) (f:DFolder):Za3 us f=Z2 us f:=by
 rw [Za3,Z2,ZdU h]
theorem ZeT {us:List DUser} :∀(fs:List DFolder) (b0:Option DFolder),(fs.foldl (fun s x=>(s.1 && ZbW us s.2 x,some x)) (true,b0)).1=(fs.all (Z2 us) && Zhn ((match b0 with | none=>[] | some y=>[y]) ++ fs))
 | [],none=>rfl
 | [],some y=>rfl
 | x :: fs,b0=>by
  simp only [List.foldl_cons,Bool.true_and]
  have hstep:(fs.foldl (fun (s:Bool × Option DFolder) x=>(s.1 && ZbW us s.2 x,some x)) (ZbW us b0 x,some x)).1=(ZbW us b0 x && (fs.all (Z2 us) && Zhn (x :: fs))):=by
   cases hq:ZbW us b0 x with
   | false=>rw [Bool.false_and];exact Zcb (p:=ZbW us) (nx:=fun _ f=>some f) fs (some x)
   | true=>rw [Bool.true_and];exact ZeT fs (some x)
  rw [hstep]
  cases b0 with
  | none=>
   simp only [ZbW,Bool.and_true,List.all_cons,List.nil_append]
   cases Z2 us x <;> simp
  | some y=>
   simp only [ZbW,List.all_cons,List.cons_append,List.nil_append,Zhn]
   cases Z2 us x <;> cases ZcU y x <;> simp
theorem ZdD {us:List DUser} {fs:List DFolder} : Zcf us fs=(fs.all (Z2 us) && Zhn fs && decide (fs.length≤8)):=by
 rw [Zcf,show (Zdp us fs).1=_ from ZeT fs none];rfl
theorem ZnP {us:List DUser} {u:Str} :∀{fs:List DFolder},fs.all (Z2 us)=true→ZfQ fs u=(Zbg fs u:Int)
 | [],_=>rfl
 | f :: fs,h=>by
  simp only [List.all_cons,Bool.and_eq_true] at h
  have ih:=ZnP (u:=u) h.2
  have hb:Zbm ⟨f.next,f.mail⟩=true:=by
   have:=h.1;simp only [Z2,Bool.and_eq_true] at this;exact this.2
  simp only [ZfQ,Zbg,List.map_cons,List.sum_cons] at ih ⊢
  rw [ih]
  by_cases he:f.owner=u
  ·simp [he,Zeg,hb]
  ·simp [he]
theorem ZmA {x:DHost} (hu:Zar x.users=true) (hf:x.folders.all (Z2 x.users)=true) {w:DUser} (hw:w∈x.users):ZcZ x w=ZaT x.folders w:=by
 rw [ZcZ,ZaT,ZeO,Zj5 hu hw,ZnP hf]
 simp only [Bool.not_true,Bool.false_or,Int.add_zero]
 congr 1
 rw [Bool.eq_iff_iff];simp
theorem Zm8 {us:List DUser} (h:Zar us=true) (y:DItem):Zdk us y=ZaG us y:=by
 rw [Zdk,ZaG,ZdU h,Zgt]
 simp only [ZdU h]
theorem ZrI {α:Type} {p q:α→Bool} {xs:List α} (h :∀x,x∈xs→p x=q x):xs.all p=xs.all q:=by
 rw [Bool.eq_iff_iff,List.all_eq_true,List.all_eq_true]
 exact ⟨fun a x hx=>h x hx ▸ a x hx,fun a x hx=>(h x hx).symm ▸ a x hx⟩
theorem Zpc (x:DHost):ZdC x=Zz x:=by
 cases hu:Zar x.users with
 | false=>simp [ZdC,Zz,hu]
 | true=>
  have e1:x.folders.all (Za3 x.users)=x.folders.all (Z2 x.users):=ZrI fun f _=>Zpl hu f
  have e2:x.queue.items.all (Zdk x.users)=x.queue.items.all (ZaG x.users):=ZrI fun y _=>Zm8 hu y
  rw [ZdC,Zz,hu,e1,e2,ZdD]
  cases hf:x.folders.all (Z2 x.users) with
  | false=>simp
  | true=>
   have e3:Zif x=x.users.all (ZaT x.folders):=ZrI fun w hw=>ZmA hu hf hw
   rw [e3]
   cases Zcm x.domain <;> cases Zad x.queue <;> cases Zhn x.folders <;> cases decide (x.folders.length≤8) <;> simp
end Go.BL
namespace Go.BL
open Go
theorem Zhq {x:DHost} (h:Zz x=true):Zar x.users=true:=by
 simp only [Zz,Bool.and_eq_true] at h;exact h.1.1.1.1.2
theorem Znf {x:DHost} (h:Zz x=true) (n:Str):(Za1 x.users n).2=decide (0≤ZdO x.users n):=ZdU (Zhq h) n
theorem Zta {us:List DUser} {n:Str} (h:0≤ZdO us n) {x:DUser} (hx:us[(ZdO us n).toNat]? = some x):Zf6 (fun y=>decide (y.name=n)) us=(x,true):=by
 unfold ZdO at h hx
 cases hf:us.findIdx? (fun x=>decide (x.name=n)) with
 | none=>rw [hf] at h;simp at h
 | some i=>
  rw [hf] at hx
  simp only [Int.toNat_natCast] at hx
  rw [List.findIdx?_eq_some_iff_getElem] at hf
  obtain ⟨hi,h1,h2⟩:=hf
  rw [List.getElem?_eq_getElem hi] at hx
  cases hx
  have:us.find? (fun y=>decide (y.name=n))=some us[i]:=by
   rw [List.find?_eq_some_iff_getElem]
   exact ⟨h1,i,hi,rfl,fun j hj=>by simpa using h2 j hj⟩
  rw [Zf6,this]
structure DSess where
 user:Str
 owner:Str
 name:Str
deriving DecidableEq
theorem ZqS (us:List DUser) (n:Str):ZdO us n<us.length∧ZdO us n ≥ -1:=by
 unfold ZdO
 cases hf:us.findIdx? (fun x=>decide (x.name=n)) with
 | none=>simp only [];omega
 | some i=>
  rw [List.findIdx?_eq_some_iff_getElem] at hf
  obtain ⟨hi,_⟩:=hf
  simp only [];omega
end Go.BL
namespace Go.BL
open Go
def Zkk (n:Str):DFolder:=⟨n,inbox,[],1,[]⟩
def Zqu (d:Str) (us:List DUser):DHost:=⟨d,us,us.map fun u=>Zkk u.name,⟨1,[]⟩⟩
def ZaU:DHost:=⟨[],[],[],⟨0,[]⟩⟩
def Zco (d:Str) (us:List DUser):DHost × Bool:=if Zcm d=true∧Zar us=true then (Zqu d us,true) else (ZaU,false)
theorem Zkc {α β:Type} {p:β→α→Bool} {nx:β→α→β} :∀(xs:List α) (b:β),(xs.foldl (fun (s:Bool × β) x=>(s.1 && p s.2 x,nx s.2 x)) (true,b)).1=true→∀x,x∈xs→∃b',p b' x=true
 | [],_,_,x,hx=>by cases hx
 | x :: xs,b,h,y,hy=>by
  simp only [List.foldl_cons,Bool.true_and] at h
  cases hq:p b x with
  | false=>
   rw [hq] at h
   have:=Zcb (p:=p) (nx:=nx) xs (nx b x)
   rw [this] at h;cases h
  | true=>
   rw [hq] at h
   rcases List.mem_cons.1 hy with rfl | hy
   ·exact ⟨b,hq⟩
   ·exact Zkc xs _ h y hy
theorem Zhh {us:List DUser} (h:Zar us=true) {u:DUser} (hu:u∈us):ZcB u=true:=by
 simp only [Zar,Bool.and_eq_true] at h
 obtain ⟨b,hb⟩:=Zkc (p:=Zdw) (nx:=fun _ u=>u.name) us [] h.1 u hu
 simp only [Zdw,Bool.and_eq_true] at hb;exact hb.1
theorem Zn1 :∀{us:List DUser},us.Pairwise (fun x y=>Op.bytesLess x.name y.name=true)→Zhn (us.map fun u=>Zkk u.name)=true
 | [],_=>rfl
 | [_],_=>rfl
 | a :: b :: r,h=>by
  cases h with
  | cons h1 h2=>
   have h3:=h1 b (List.mem_cons_self ..)
   show (ZcU (Zkk a.name) (Zkk b.name) && Zhn ((b :: r).map fun u=>Zkk u.name))=true
   rw [Zn1 h2,Bool.and_true,ZcU]
   simp only [Zkk,h3,Bool.true_or]
theorem Zp0 (us:List DUser) (n:Str):Zbg (us.map fun u=>Zkk u.name) n=0:=by
 induction us with
 | nil=>rfl
 | cons u us ih=>
  simp only [Zbg,List.map_cons,List.sum_cons] at ih ⊢
  rw [ih]
  simp [Zkk,Zah]
theorem ZuD {us:List DUser} {u:DUser} (h:u∈us):0≤ZaJ (inF u.name inbox) (us.map fun u=>Zkk u.name):=
 ZeK.2 ⟨Zkk u.name,List.mem_map.2 ⟨u,h,rfl⟩,by simp [inF,Zkk]⟩
theorem ZmX (d:Str) (us:List DUser):Zz (Zqu d us)=(Zcm d && Zar us):=by
 cases hu:Zar us with
 | false=>simp [Zz,Zqu,hu]
 | true=>
  have h1:Zcf us (us.map fun u=>Zkk u.name)=true:=by
   rw [ZdD,Zn1 (Zd8 hu)]
   have h2:(us.map fun u=>Zkk u.name).all (Z2 us)=true:=by
    rw [List.all_eq_true]
    intro f hf
    obtain ⟨u,hm,rfl⟩:=List.mem_map.1 hf
    have e1:Zal inbox=true:=by decide
    have e2:ZbN []=true:=by decide
    have e3:Zbm ⟨1,[]⟩=true:=by decide
    simp only [Z2,Zkk,DFolder.box,e1,e2,e3,Bool.and_true]
    exact decide_eq_true (Zcn.2 ⟨u,hm,rfl⟩)
   have h3:us.length≤4:=by simp only [Zar,Bool.and_eq_true,decide_eq_true_eq] at hu;exact hu.2.2
   rw [h2];simp;omega
  have h4:us.all (ZaT (us.map fun u=>Zkk u.name))=true:=by
   rw [List.all_eq_true]
   intro u hm
   have:=Zhh hu hm
   simp only [ZcB,Bool.and_eq_true,decide_eq_true_eq] at this
   simp only [ZaT,Zp0,Bool.and_eq_true,decide_eq_true_eq]
   exact ⟨ZuD hm,by omega⟩
  have h5:Zad ⟨1,[]⟩=true:=by decide
  simp only [Zz,Zqu,hu,h1,h4,h5,List.all_nil,Bool.and_true]
theorem ZiM {d:Str} {us:List DUser} (h:Zz (Zqu d us)=true):Zco d us=(Zqu d us,true):=by
 rw [ZmX,Bool.and_eq_true] at h;rw [Zco,if_pos h]
theorem Zpd {d:Str} {us:List DUser} (h:Zz (Zqu d us)=false):Zco d us=(ZaU,false):=by
 rw [ZmX] at h;rw [Zco,if_neg (by rw [← Bool.and_eq_true,h];exact Bool.false_ne_true)]
theorem Zdb {α:Type} (p:α→Bool) (xs:List α):ZaJ p xs<xs.length∧ZaJ p xs ≥ -1:=by
 unfold ZaJ
 cases hf:xs.findIdx? p with
 | none=>simp only [];omega
 | some i=>
  rw [List.findIdx?_eq_some_iff_getElem] at hf
  obtain ⟨hi,_⟩:=hf
  simp only [];omega
end Go.BL
namespace Go.BL
open Go
end Go.BL
namespace Go.BL
open Go
def ZbB (k:Nat):Int:=([1,2,4,8,16,32]:List Int).getD k 0
theorem ZrE {k:Nat} (h:k<6):(k=0∧ZbB k=1)∨(k=1∧ZbB k=2)∨(k=2∧ZbB k=4)∨(k=3∧ZbB k=8)∨(k=4∧ZbB k=16)∨(k=5∧ZbB k=32):=by
 have:k=0∨k=1∨k=2∨k=3∨k=4∨k=5:=by omega
 rcases this with rfl | rfl | rfl | rfl | rfl | rfl <;> simp [ZbB]
theorem ZkR {k:Nat} (h:k<6):0<ZbB k∧ZbB k≤32:=by rcases ZrE h with h | h | h | h | h | h <;> omega
theorem Zd5 {α:Type} {p:α→Bool} {xs:List α} {k:Nat} {x:α} (hx:xs[k]? = some x):(xs.take (k+1)).any p=((xs.take k).any p || p x):=by
 rw [Zaw hx,List.any_append];simp
theorem ZrH {α:Type} {p:α→Bool} {xs:List α} {k:Nat} {b:Bool} (h:b=(xs.take k).any p) (hk:xs.length≤k):b=xs.any p:=by rwa [List.take_of_length_le hk] at h
def onB (u:Str) (b:Int) (g:DGrant):Bool:=(decide (g.user=u) || decide (g.user=anyone)) && decide (Int.tmod (Int.tdiv g.rights b) 2=1)
def ZfM (gs:List DGrant) (u:Str):Nat→Int
 | 0=>0
 | k+1=>if gs.any (onB u (ZbB k))=true then ZfM gs u k+ZbB k else ZfM gs u k
theorem Zjd (gs:List DGrant) (u:Str) :∀k,k≤6→0≤ZfM gs u k∧ZfM gs u k≤100*k
 | 0,_=>by simp [ZfM]
 | k+1,h=>by
  have:=Zjd gs u k (by omega)
  have:=ZkR (k:=k) (by omega)
  simp only [ZfM]
  split <;> omega
def ZbJ (gs:List DGrant) (u:Str):Int:=ZfM gs u 6
def Zmd (f:DFolder) (u:Str) (r:Int):Bool:=decide (u=f.owner) || decide (Int.tmod (Int.tdiv (ZbJ f.grants u) r) 2=1)
def Zgz (us:List DUser) (fs:List DFolder) (u:Str) (k:Int) (r:Int):Int:=
 if ZdO us u<0∨k<0 then 1 else match fs[k.toNat]? with
  | none=>1
  | some f=>if Zmd f u 1=false then 1 else if Zmd f u r=false then 2 else 0
theorem ZkP {us:List DUser} {fs:List DFolder} {u:Str} {k r:Int} (h:ZdO us u<0∨k<0):Zgz us fs u k r=1:=by rw [Zgz,if_pos h]
theorem ZrA {us:List DUser} {fs:List DFolder} {u:Str} {k r:Int} {f:DFolder} (h : ¬ (ZdO us u<0∨k<0)) (hf:fs[k.toNat]? = some f):Zgz us fs u k r=if Zmd f u 1=false then 1 else if Zmd f u r=false then 2 else 0:=by
 rw [Zgz,if_neg h,hf]
theorem Zew {us:List DUser} {fs:List DFolder} {u:Str} {k r:Int} (h:Zgz us fs u k r=0):0≤ZdO us u∧0≤k∧∃f,fs[k.toNat]? = some f∧Zmd f u 1=true∧Zmd f u r=true:=by
 unfold Zgz at h
 split at h
 ·cases h
 ·split at h
  ·cases h
  ·rename_i f hf
   split at h
   ·cases h
   ·split at h
    ·cases h
    ·rename_i h1 h2 h3
     exact ⟨by omega,by omega,f,hf,by simpa using h2,by simpa using h3⟩
def Zg3 (b:DBox) (fl:Int) (t:Str):DBox × Bool:=if 10≤b.mail.length∨99<b.next then (b,false) else (⟨b.next+1,b.mail ++ [⟨b.next,fl,t⟩]⟩,true)
theorem Zmo {b:DBox} {fl:Int} {t:Str} (h:10≤b.mail.length∨99<b.next):Zg3 b fl t=(b,false):=by rw [Zg3,if_pos h]
theorem Zvr {b:DBox} {fl:Int} {t:Str} (h : ¬ (10≤b.mail.length∨99<b.next)):Zg3 b fl t=(⟨b.next+1,b.mail ++ [⟨b.next,fl,t⟩]⟩,true):=by rw [Zg3,if_neg h]
def DFolder.withBox (f:DFolder) (b:DBox):DFolder:=⟨f.owner,f.name,f.grants,b.next,b.mail⟩
def DHost.withFolders (x:DHost) (fs:List DFolder):DHost:=⟨x.domain,x.users,fs,x.queue⟩
def DHost.withQueue (x:DHost) (q:DQueue):DHost:=⟨x.domain,x.users,x.folders,q⟩
def Zeb (us:List DUser) (n:Str):Int:=match us[(ZdO us n).toNat]? with | some w=>w.quota | none=>0
def ZbL (x:DHost) (k:Nat) (fl:Int) (t:Str):DHost × Int:=
 match x.folders[k]? with
 | none=>(x,0)
 | some f=>if Zeb x.users f.owner<(Zbg x.folders f.owner:Int)+t.length then (x,3)
  else if (Zg3 f.box fl t).2=true then (x.withFolders (x.folders.set k (f.withBox (Zg3 f.box fl t).1)),0) else (x,4)
theorem ZmV {x:DHost} {k:Nat} {fl:Int} {t:Str} {f:DFolder} (hf:x.folders[k]? = some f) (h:Zeb x.users f.owner<(Zbg x.folders f.owner:Int)+t.length):ZbL x k fl t=(x,3):=by simp only [ZbL,hf,if_pos h]
theorem ZoP {x:DHost} {k:Nat} {fl:Int} {t:Str} {f:DFolder} (hf:x.folders[k]? = some f) (h : ¬ Zeb x.users f.owner<(Zbg x.folders f.owner:Int)+t.length) (h2:(Zg3 f.box fl t).2=false):ZbL x k fl t=(x,4):=by simp only [ZbL,hf,if_neg h,h2];rfl
theorem ZoQ {x:DHost} {k:Nat} {fl:Int} {t:Str} {f:DFolder} (hf:x.folders[k]? = some f) (h : ¬ Zeb x.users f.owner<(Zbg x.folders f.owner:Int)+t.length) (h2:(Zg3 f.box fl t).2=true):ZbL x k fl t=(x.withFolders (x.folders.set k (f.withBox (Zg3 f.box fl t).1)),0):=by simp only [ZbL,hf,if_neg h,h2,if_true]
def ZaW (n:Int):Bool:=decide (0≤n) && decide (n≤31)
def Zky (x:DHost) (by_ o n:Str) (fl:Int) (t:Str):DHost × Int:=
 if ¬ (Zz x=true∧ZaW fl=true∧t.length≤20) then (ZaU,5)
 else if Zgz x.users x.folders by_ (ZaJ (inF o n) x.folders) 8≠0 then (x,Zgz x.users x.folders by_ (ZaJ (inF o n) x.folders) 8)
 else ZbL x (ZaJ (inF o n) x.folders).toNat fl t
def Ze6 (o n:Str):DFolder:=⟨o,n,[],1,[]⟩
def ZgQ (fs:List DFolder) (f:DFolder):Nat:=(fs.takeWhile fun y=>ZcU y f).length
def ZhE (fs:List DFolder) (f:DFolder):List DFolder:=fs.take (ZgQ fs f) ++ [f] ++ fs.drop (ZgQ fs f)
def Zbl (x:DHost) (u n:Str):DHost × Int:=
 if ¬ (Zz x=true∧Zal n=true) then (ZaU,5)
 else if ZdO x.users u<0 then (x,1)
 else if 0≤ZaJ (inF u n) x.folders∨8≤x.folders.length then (x,4)
 else (x.withFolders (ZhE x.folders (Ze6 u n)),0)
def Zfk (u:Str) (r:Int) (s:Bool × List DGrant) (g:DGrant):Bool × List DGrant:=
 let s1:Bool × List DGrant:=if s.1=false∧Op.bytesLess g.user u=false then (true,s.2 ++ [⟨u,r⟩]) else s
 if g.user≠u then (s1.1,s1.2 ++ [g]) else s1
def ZeR (u:Str) (r:Int) (gs:List DGrant):Bool × List DGrant:=gs.foldl (Zfk u r) (decide (r=0),[])
theorem Zcy {u:Str} {r:Int} {gs:List DGrant} {k:Nat} {x:DGrant} (hx:gs[k]? = some x):ZeR u r (gs.take (k+1))=Zfk u r (ZeR u r (gs.take k)) x:=by
 rw [Zaw hx,ZeR,List.foldl_append];rfl
def ZgD (gs:List DGrant) (u:Str) (r:Int):List DGrant:=if (ZeR u r gs).1=true then (ZeR u r gs).2 else (ZeR u r gs).2 ++ [⟨u,r⟩]
def ZdW (r:Int):Bool:=decide (0≤r) && decide (r≤63)
def Zb5 (gs:List DGrant) (u:Str) (r:Int):List DGrant × Bool:=
 if ¬ (ZbN gs=true∧Zal u=true∧ZdW r=true) then ([],false)
 else if ZbN (ZgD gs u r)=true then (ZgD gs u r,true) else (gs,false)
def DFolder.withGrants (f:DFolder) (gs:List DGrant):DFolder:=⟨f.owner,f.name,gs,f.next,f.mail⟩
def Zfe (x:DHost) (k:Nat) (u:Str) (r:Int):DHost × Int:=
 match x.folders[k]? with
 | none=>(x,0)
 | some f=>if (Zb5 f.grants u r).2=true then (x.withFolders (x.folders.set k (f.withGrants (Zb5 f.grants u r).1)),0) else (x,4)
def Zb4 (x:DHost) (by_ o n u:Str) (r:Int):DHost × Int:=
 if ¬ (Zz x=true∧ZdW r=true) then (ZaU,5)
 else if Zgz x.users x.folders by_ (ZaJ (inF o n) x.folders) 32≠0 then (x,Zgz x.users x.folders by_ (ZaJ (inF o n) x.folders) 32)
 else if u≠anyone∧ZdO x.users u<0 then (x,1)
 else Zfe x (ZaJ (inF o n) x.folders).toNat u r
def Zbs (x:DHost) (l:DLetter):DHost × Int:=
 if ¬ (Zz x=true∧ZaM l=true) then (ZaU,5)
 else if ZdO x.users l.fr<0∨Zgt x.users l.to_=false then (x,1)
 else if (ZhZ x.queue l).2=true then (x.withQueue (ZhZ x.queue l).1,0) else (x,4)
def ZaV (x:DHost) (id:Int) (u:Str):DHost × Int:=
 if Zz x=false then (ZaU,5)
 else if (Zca x.queue id u).2.2=false then (x,1)
 else if (ZbL x (ZaJ (inF u inbox) x.folders).toNat 0 (Zca x.queue id u).2.1).2≠4 then
  ((ZbL x (ZaJ (inF u inbox) x.folders).toNat 0 (Zca x.queue id u).2.1).1.withQueue (Zca x.queue id u).1,(ZbL x (ZaJ (inF u inbox) x.folders).toNat 0 (Zca x.queue id u).2.1).2)
 else ZbL x (ZaJ (inF u inbox) x.folders).toNat 0 (Zca x.queue id u).2.1
def Zgn (s:DSpan):Bool:=(decide (0≤s.low) && decide (s.low≤99)) && (decide (0≤s.high) && decide (s.high≤99))
def ZeI (s:List DSpan):Bool:=s.all Zgn && (decide (1≤s.length) && decide (s.length≤6))
def Zd9 (last n:Int) (s:DSpan):Bool:=decide (min (if s.low=0 then last else s.low) (if s.high=0 then last else s.high)≤n) && decide (n≤max (if s.low=0 then last else s.low) (if s.high=0 then last else s.high))
def Zgo (s:List DSpan) (last n:Int):Bool:=s.any (Zd9 last n)
def Zc4 (s:List DSpan) (last:Int):Nat→List Int
 | 0=>[]
 | n+1=>if Zgo s last (n+1:Nat)=true then Zc4 s last n ++ [((n+1:Nat):Int)] else Zc4 s last n
def ZaD (s:List DSpan) (last:Int):List Int:=if ZeI s=true then Zc4 s (min last 99) (min last 99).toNat else []
def Zj1 (n:Int) (k:Nat):Int:=Int.tmod (Int.tdiv n (ZbB k)) 2
def Zfh (fl how ot:Int) (k:Nat):Bool:=(decide (how=1) && decide (0<Zj1 fl k+Zj1 ot k)) || (decide (how = -1) && decide (Zj1 fl k=1) && decide (Zj1 ot k=0)) || (decide (how=0) && decide (Zj1 ot k=1))
def Zja (fl how ot:Int):Nat→Int
 | 0=>0
 | k+1=>if Zfh fl how ot k=true then Zja fl how ot k+ZbB k else Zja fl how ot k
theorem Zoq (fl how ot:Int) :∀k,k≤5→0≤Zja fl how ot k∧Zja fl how ot k≤100*k
 | 0,_=>by simp [Zja]
 | k+1,h=>by
  have:=Zoq fl how ot k (by omega)
  have:=ZkR (k:=k) (by omega)
  simp only [Zja]
  split <;> omega
def chg (fl how ot:Int):Int:=Zja fl how ot 5
theorem Zt2 (fl how ot:Int):0≤chg fl how ot∧chg fl how ot≤31:=by
 unfold chg
 simp only [Zja,show ZbB 0=1 from rfl,show ZbB 1=2 from rfl,show ZbB 2=4 from rfl,show ZbB 3=8 from rfl,show ZbB 4=16 from rfl]
 split <;> split <;> split <;> split <;> split <;> omega
def Zqs (n:Nat) (b x:Int):Bool:=(decide (1≤x) && decide (x≤n)) && decide (b<x)
def Zd0 (n:Nat) (xs:List Int):Bool × Int:=scn (Zqs n) (fun _ x=>x) 0 xs
def Zel (n:Nat) (xs:List Int):Bool:=(Zd0 n xs).1
def ZgW (ms:List DMail) (how fl:Int) (acc:List DMail) (n:Int):List DMail:=
 match acc[(n - 1).toNat]?,ms[(n - 1).toNat]? with
 | some a,some m=>acc.set (n - 1).toNat ⟨a.uid,chg m.flags how fl,a.text⟩
 | _,_=>acc
def Zef (ms:List DMail) (how fl:Int) (ns:List Int):List DMail:=ns.foldl (ZgW ms how fl) ms
def Zkv (how:Int):Bool:=decide (-1≤how) && decide (how≤1)
def Zbj (b:DBox) (ns:List Int) (how fl:Int):DBox × Bool:=
 if Zbm b=true∧Zel b.mail.length ns=true∧Zkv how=true∧ZaW fl=true then (⟨b.next,Zef b.mail how fl ns⟩,true) else (⟨0,[]⟩,false)
def ZpD (m:DMail):Bool:=decide (Int.tmod (Int.tdiv m.flags 8) 2=1)
def ZcG (ms:List DMail):List DMail:=ms.filter fun m=>!ZpD m
def Zdl (s:Nat × List Int) (m:DMail):Nat × List Int:=if ZpD m=true then (s.1,s.2 ++ [((s.1+1:Nat):Int)]) else (s.1+1,s.2)
def Zkz (ms:List DMail):Nat × List Int:=ms.foldl Zdl (0,[])
def expunge (b:DBox):DBox × List Int:=if Zbm b=true then (⟨b.next,ZcG b.mail⟩,(Zkz b.mail).2) else (⟨0,[]⟩,[])
def atF (x:DHost) (s:DSess) (r:Int):Int × Int:=
 if Zgz x.users x.folders s.user (ZaJ (inF s.owner s.name) x.folders) 2≠0 then (ZaJ (inF s.owner s.name) x.folders,Zgz x.users x.folders s.user (ZaJ (inF s.owner s.name) x.folders) 2)
 else (ZaJ (inF s.owner s.name) x.folders,Zgz x.users x.folders s.user (ZaJ (inF s.owner s.name) x.folders) r)
def ZhF (x:DHost) (k:Nat):DBox:=match x.folders[k]? with | some f=>f.box | none=>⟨0,[]⟩
def ZjB (x:DHost) (k:Nat) (b:DBox):DHost:=match x.folders[k]? with | some f=>x.withFolders (x.folders.set k (f.withBox b)) | none=>x
def Zcd (x:DHost) (s:DSess) (set:List DSpan) (how fl:Int):DHost × Int:=
 if ¬ (Zz x=true∧ZeI set=true∧ZaW fl=true∧Zkv how=true) then (ZaU,5)
 else if (atF x s 4).2≠0 then (x,(atF x s 4).2)
 else (ZjB x (atF x s 4).1.toNat (Zbj (ZhF x (atF x s 4).1.toNat) (ZaD set (ZhF x (atF x s 4).1.toNat).mail.length) how fl).1,0)
def ZaN (x:DHost) (s:DSess):DHost × List Int × Int:=
 if Zz x=false then (ZaU,[],5)
 else if (atF x s 16).2≠0 then (x,[],(atF x s 16).2)
 else (ZjB x (atF x s 16).1.toNat (expunge (ZhF x (atF x s 16).1.toNat)).1,(expunge (ZhF x (atF x s 16).1.toNat)).2,0)
def ZbK (to:Nat) (s:DHost × Int) (m:DMail):DHost × Int:=if s.2=0 then ZbL s.1 to m.flags m.text else s
def Zi8 (x:DHost) (ms:List DMail) (to:Nat):DHost × Int:=ms.foldl (ZbK to) (x,0)
def Zdf (ms:List DMail) (n:Int):DMail:=match ms[(n - 1).toNat]? with | some m=>m | none=>⟨0,0,[]⟩
def ZeN (x:DHost) (s:DSess) (set:List DSpan) (o n:Str):DHost × Int:=
 if ¬ (Zz x=true∧ZeI set=true) then (ZaU,5)
 else if (atF x s 2).2≠0 then (x,(atF x s 2).2)
 else if Zgz x.users x.folders s.user (ZaJ (inF o n) x.folders) 8≠0 then (x,Zgz x.users x.folders s.user (ZaJ (inF o n) x.folders) 8)
 else
  let ms:=(ZaD set (ZhF x (atF x s 2).1.toNat).mail.length).map (Zdf (ZhF x (atF x s 2).1.toNat).mail)
  if (Zi8 x ms (ZaJ (inF o n) x.folders).toNat).2=0 then Zi8 x ms (ZaJ (inF o n) x.folders).toNat else (x,(Zi8 x ms (ZaJ (inF o n) x.folders).toNat).2)
structure DEvent where
 kind:Int
 by_:Str
 owner:Str
 name:Str
 to_:Str
 text:Str
 a:Int
 b:Int
deriving DecidableEq
def ZhU (x:DHost) (e:DEvent):DHost × Int:=
 if e.kind=1 then Zbl x e.by_ e.name
 else if e.kind=2 then Zb4 x e.by_ e.owner e.name e.to_ e.a
 else if e.kind=3 then Zky x e.by_ e.owner e.name e.a e.text
 else if e.kind=4 then Zbs x ⟨e.by_,[e.to_],e.text⟩
 else if e.kind=5 then ZaV x e.a e.to_
 else if e.kind=6 then Zcd x ⟨e.by_,e.owner,e.name⟩ [⟨e.a,e.a⟩] 1 e.b
 else if e.kind=7 then ((ZaN x ⟨e.by_,e.owner,e.name⟩).1,(ZaN x ⟨e.by_,e.owner,e.name⟩).2.2)
 else if e.kind=8 then ZeN x ⟨e.by_,e.owner,e.name⟩ [⟨e.a,e.a⟩] e.to_ inbox
 else (ZaU,5)
def hDo (x:DHost) (e:DEvent):DHost × Int:=if Zz x=false then (ZaU,5) else if (ZhU x e).2=5 then (x,5) else ZhU x e
end Go.BL
namespace Go.BL
open Go
theorem Za8 {x:DHost} : Zz x=true↔(Zcm x.domain=true∧Zar x.users=true∧Zad x.queue=true)∧((∀f,f∈x.folders→Z2 x.users f=true)∧Zhn x.folders=true∧x.folders.length≤8)∧(∀u,u∈x.users→ZaT x.folders u=true)∧(∀y,y∈x.queue.items→ZaG x.users y=true):=by
 simp only [Zz,ZdD,Bool.and_eq_true,decide_eq_true_eq,List.all_eq_true]
 constructor
 ·rintro ⟨⟨⟨⟨⟨h1,h2⟩,h3⟩,⟨h4,h5⟩,h6⟩,h7⟩,h8⟩
  exact ⟨⟨h1,h2,h3⟩,⟨h4,h5,h6⟩,h7,h8⟩
 ·rintro ⟨⟨h1,h2,h3⟩,⟨h4,h5,h6⟩,h7,h8⟩
  exact ⟨⟨⟨⟨⟨h1,h2⟩,h3⟩,⟨h4,h5⟩,h6⟩,h7⟩,h8⟩
theorem ZiS {α:Type} {fs:List α} {k i:Nat} {y g:α} (h:(fs.set k y)[i]? = some g):(i=k∧g=y∧k<fs.length)∨(i≠k∧fs[i]? = some g):=by
 have hi:=(List.getElem?_eq_some_iff.1 h).1
 rw [List.length_set] at hi
 rw [List.getElem?_set] at h
 split at h
 ·rename_i e
  subst e
  simp [hi] at h
  exact .inl ⟨rfl,h.symm,hi⟩
 ·rename_i e
  exact .inr ⟨fun e'=>e e'.symm,h⟩
theorem Zlh :∀{fs:List DFolder} {k:Nat} {f:DFolder} (f':DFolder) (u:Str),fs[k]? = some f→Zbg (fs.set k f') u+(if f.owner=u then Zah f.mail else 0)=Zbg fs u+(if f'.owner=u then Zah f'.mail else 0)
 | [],_,_,_,_,h=>by simp at h
 | g :: fs,0,f,f',u,h=>by
  simp only [List.getElem?_cons_zero,Option.some.injEq] at h
  subst h
  simp only [List.set_cons_zero,Zbg,List.map_cons,List.sum_cons]
  omega
 | g :: fs,k+1,f,f',u,h=>by
  have:=Zlh (fs:=fs) (k:=k) f' u (by simpa using h)
  simp only [Zbg] at this
  simp only [List.set_cons_succ,Zbg,List.map_cons,List.sum_cons]
  omega
theorem ZlH {a b a' b':DFolder} (h1:a.owner=a'.owner) (h2:a.name=a'.name) (h3:b.owner=b'.owner) (h4:b.name=b'.name):ZcU a b=ZcU a' b':=by simp only [ZcU,h1,h2,h3,h4]
theorem Zsy {fs:List DFolder} {k:Nat} {f f':DFolder} (h:Zhn fs=true) (hf:fs[k]? = some f) (ho:f'.owner=f.owner) (hn:f'.name=f.name):Zhn (fs.set k f')=true:=by
 rw [ZhO] at h ⊢
 intro i a b ha hb
 rcases ZiS ha with ⟨e1,e2,_⟩ | ⟨hi,ha'⟩
 ·rcases ZiS hb with ⟨e,_,_⟩ | ⟨_,hb'⟩
  ·omega
  ·rw [e2,ZlH ho hn rfl rfl];exact h i _ _ (by rw [e1];exact hf) hb'
 ·rcases ZiS hb with ⟨e,e2,_⟩ | ⟨_,hb'⟩
  ·rw [e2,ZlH rfl rfl ho hn];exact h i _ _ ha' (by rw [e];exact hf)
  ·exact h _ _ _ ha' hb'
theorem ZuS {fs:List DFolder} {k:Nat} {f f':DFolder} {o n:Str} (hf:fs[k]? = some f) (ho:f'.owner=f.owner) (hn:f'.name=f.name) (h:0≤ZaJ (inF o n) fs):0≤ZaJ (inF o n) (fs.set k f'):=by
 rw [ZeK] at h ⊢
 obtain ⟨y,hy,hp⟩:=h
 obtain ⟨i,hi⟩:=List.mem_iff_getElem?.1 hy
 by_cases e:i=k
 ·subst e
  rw [hf] at hi;cases hi
  refine ⟨f',List.mem_iff_getElem?.2 ⟨i,?_⟩,by simp only [inF,ho,hn] at hp ⊢;exact hp⟩
  have:=(List.getElem?_eq_some_iff.1 hf).1
  simp [List.getElem?_set,this]
 ·exact ⟨y,List.mem_iff_getElem?.2 ⟨i,by rw [List.getElem?_set,if_neg (fun e'=>e e'.symm)];exact hi⟩,hp⟩
theorem ZoO {us:List DUser} (h:Zar us=true) {w:DUser} (hw:w∈us):Zeb us w.name=w.quota:=by
 have h0:0≤ZdO us w.name:=Zcn.2 ⟨w,hw,rfl⟩
 have h1:=ZqS us w.name
 obtain ⟨v,hv⟩ :∃v,us[(ZdO us w.name).toNat]? = some v:=⟨_,List.getElem?_eq_getElem (by omega)⟩
 have h2:=Zta h0 hv
 rw [Zf6,Zf5 (Zd8 h) w hw] at h2
 cases h2
 simp only [Zeb,hv]
theorem Zsx {us:List DUser} {f:DFolder} (h:Z2 us f=true) :∃w,w∈us∧w.name=f.owner:=by
 simp only [Z2,Bool.and_eq_true,decide_eq_true_eq] at h
 exact Zcn.1 h.1.1.1
theorem ZgR {x:DHost} {k:Nat} {f f':DFolder} (h:Zz x=true) (hf:x.folders[k]? = some f) (ho:f'.owner=f.owner) (hn:f'.name=f.name) (hi:Z2 x.users f'=true)
  (hq:(Zbg x.folders f.owner:Int)+Zah f'.mail≤Zeb x.users f.owner+Zah f.mail∨Zah f'.mail≤Zah f.mail):Zz (x.withFolders (x.folders.set k f'))=true:=by
 rw [Za8] at h ⊢
 obtain ⟨⟨h1,h2,h3⟩,⟨h4,h5,h6⟩,h7,h8⟩:=h
 refine ⟨⟨h1,h2,h3⟩,⟨?_,Zsy h5 hf ho hn,by simpa [DHost.withFolders] using h6⟩,?_,h8⟩
 ·intro g hg
  obtain ⟨i,hg⟩:=List.mem_iff_getElem?.1 hg
  rcases ZiS hg with ⟨_,rfl,_⟩ | ⟨_,hg⟩
  ·exact hi
  ·exact h4 g (List.mem_of_getElem? hg)
 ·intro w hw
  have:=h7 w hw
  simp only [ZaT,Bool.and_eq_true,decide_eq_true_eq] at this ⊢
  refine ⟨ZuS hf ho hn this.1,?_⟩
  have hu:=Zlh f' w.name hf
  simp only [DHost.withFolders]
  by_cases e:f.owner=w.name
  ·rw [if_pos e,if_pos (ho.trans e)] at hu
   rw [e,ZoO h2 hw] at hq
   omega
  ·rw [if_neg e,if_neg (fun e'=>e (ho ▸ e'))] at hu
   omega
theorem Zn2 :∀{fs:List DFolder} {f:DFolder},Zhn fs=true→(∀g,g∈fs→¬ (g.owner=f.owner∧g.name=f.name))→Zhn (ZhE fs f)=true
 | [],f,_,_=>rfl
 | a :: r,f,h,hk=>by
  cases hl:ZcU a f with
  | true=>
   have e:ZhE (a :: r) f=a :: ZhE r f:=by simp [ZhE,ZgQ,hl]
   have ih:=Zn2 (fs:=r) (f:=f) (by cases r with | nil=>rfl | cons b r=>simp only [Zhn,Bool.and_eq_true] at h;exact h.2) (fun g hg=>hk g (List.mem_cons_of_mem _ hg))
   rw [e]
   cases r with
   | nil=>simp [ZhE,ZgQ,Zhn,hl]
   | cons b r=>
    simp only [Zhn,Bool.and_eq_true] at h
    cases hb:ZcU b f with
    | true=>
     have e2:ZhE (b :: r) f=b :: ZhE r f:=by simp [ZhE,ZgQ,hb]
     rw [e2] at ih ⊢
     simp only [Zhn,h.1,Bool.true_and];exact ih
    | false=>
     have e2:ZhE (b :: r) f=f :: b :: r:=by simp [ZhE,ZgQ,hb]
     rw [e2] at ih ⊢
     simp only [Zhn,hl,Bool.true_and] at ih ⊢;exact ih
  | false=>
   have e:ZhE (a :: r) f=f :: a :: r:=by simp [ZhE,ZgQ,hl]
   rw [e]
   have hne:=hk a (List.mem_cons_self ..)
   have:ZcU f a=true:=by
    unfold ZcU at hl ⊢
    rw [Zbr f.owner a.owner,Zbr f.name a.name]
    simp only [Bool.or_eq_false_iff,Bool.and_eq_false_iff,decide_eq_false_iff_not] at hl
    by_cases e:a.owner=f.owner
    ·have e2:a.name≠f.name:=fun e2=>hne ⟨e,e2⟩
     rcases hl.2 with h2 | h2
     ·exact absurd e h2
     ·simp [e,Zdi,h2,e2]
    ·simp [hl.1,e]
   simp only [Zhn,this,Bool.true_and];exact h
theorem ZqD {fs:List DFolder} {f g:DFolder} : g∈ZhE fs f↔g∈fs∨g=f:=by
 have e:fs=fs.take (ZgQ fs f) ++ fs.drop (ZgQ fs f):=(List.take_append_drop _ _).symm
 constructor
 ·intro h
  simp only [ZhE,List.mem_append,List.mem_singleton] at h
  rcases h with (h | h) | h
  ·exact .inl (List.mem_of_mem_take h)
  ·exact .inr h
  ·exact .inl (List.mem_of_mem_drop h)
 ·intro h
  simp only [ZhE,List.mem_append,List.mem_singleton]
  rcases h with h | h
  ·rw [e,List.mem_append] at h
   rcases h with h | h
   ·exact .inl (.inl h)
   ·exact .inr h
  ·exact .inl (.inr h)
theorem Zih (as bs:List DFolder) (u:Str):Zbg (as ++ bs) u=Zbg as u+Zbg bs u:=by simp [Zbg]
theorem Zp1 (fs:List DFolder) (f:DFolder) (u:Str):Zbg (ZhE fs f) u=Zbg fs u+(if f.owner=u then Zah f.mail else 0):=by
 have e:Zbg fs u=Zbg (fs.take (ZgQ fs f)) u+Zbg (fs.drop (ZgQ fs f)) u:=by rw [← Zih,List.take_append_drop]
 rw [ZhE,Zih,Zih,e]
 simp only [Zbg,List.map_cons,List.map_nil,List.sum_cons,List.sum_nil];omega
theorem ZuQ (fs:List DFolder) (f:DFolder):(ZhE fs f).length=fs.length+1:=by
 have:=congrArg List.length (List.take_append_drop (ZgQ fs f) fs)
 simp only [List.length_append] at this
 simp only [ZhE,List.length_append,List.length_cons,List.length_nil];omega
theorem Zkw {x:DHost} {u n:Str} (h:Zz x=true) (hn:Zal n=true) (hu : ¬ ZdO x.users u<0) (hk : ¬ (0≤ZaJ (inF u n) x.folders∨8≤x.folders.length)):Zz (x.withFolders (ZhE x.folders (Ze6 u n)))=true:=by
 rw [Za8] at h ⊢
 obtain ⟨⟨h1,h2,h3⟩,⟨h4,h5,h6⟩,h7,h8⟩:=h
 refine ⟨⟨h1,h2,h3⟩,⟨?_,Zn2 h5 ?_,by show (ZhE x.folders _).length≤8;rw [ZuQ];omega⟩,?_,h8⟩
 ·intro g hg
  rcases ZqD.1 hg with hg | rfl
  ·exact h4 g hg
  ·have e2:ZbN []=true:=by decide
   have e3:Zbm ⟨1,[]⟩=true:=by decide
   simp only [Z2,Ze6,DFolder.box,e2,e3,hn,Bool.and_true]
   exact decide_eq_true (by simp only [DHost.withFolders];omega)
 ·rintro g hg ⟨e1,e2⟩
  exact hk (.inl (ZeK.2 ⟨g,hg,by simp [inF,e1,e2,Ze6]⟩))
 ·intro w hw
  have:=h7 w hw
  simp only [ZaT,Bool.and_eq_true,decide_eq_true_eq] at this ⊢
  have e:Zbg (ZhE x.folders (Ze6 u n)) w.name=Zbg x.folders w.name:=by
   rw [Zp1];simp [Ze6,Zah]
  obtain ⟨g,hg,hp⟩:=ZeK.1 this.1
  refine ⟨ZeK.2 ⟨g,ZqD.2 (.inl hg),hp⟩,?_⟩
  show ((Zbg (ZhE x.folders (Ze6 u n)) w.name:Nat):Int)≤w.quota
  rw [e];exact this.2
theorem Zpk {x:DHost} {u n:Str} (h:Zz x=true):(Zbl x u n).2=5∨Zz (Zbl x u n).1=true:=by
 unfold Zbl
 split
 ·exact .inl rfl
 ·rename_i h1
  split
  ·exact .inr h
  ·rename_i h2
   split
   ·exact .inr h
   ·rename_i h3
    exact .inr (Zkw h (by simp only [h,true_and,Decidable.not_not] at h1;exact h1) h2 h3)
theorem ZlE {ms:List DMail} {b:Int} {m:DMail} (h:Zcj ms=(true,b)) (hm:ZbM b m=true):Zcj (ms ++ [m])=(true,m.uid):=by
 rw [Zcj,scn,List.foldl_append]
 have:ms.foldl (fun (s:Bool × Int) x=>(s.1 && ZbM s.2 x,x.uid)) (true,0)=(true,b):=h
 rw [this];simp [hm]
theorem Zfx {b:DBox} (h:Zbm b=true) :∃l,Zcj b.mail=(true,l)∧l+1≤b.next∧b.next≤100∧b.mail.length≤10:=by
 simp only [Zbm,Bool.and_eq_true,decide_eq_true_eq] at h
 exact ⟨(Zcj b.mail).2,Prod.ext h.1.1 rfl,h.1.2.1,h.1.2.2,h.2⟩
theorem Zkd :∀(xs:List DMail) (b0 b:Int),xs.foldl (fun (s:Bool × Int) x=>(s.1 && ZbM s.2 x,x.uid)) (true,b0)=(true,b)→b0≤b
 | [],b0,b,h=>by cases h;omega
 | x :: xs,b0,b,h=>by
  simp only [List.foldl_cons,Bool.true_and] at h
  cases hp:ZbM b0 x with
  | false=>
   rw [hp] at h
   have:=Zcb (p:=ZbM) (nx:=fun _ m=>m.uid) xs x.uid
   rw [h] at this;cases this
  | true=>
   rw [hp] at h
   have:=Zkd xs x.uid b h
   simp only [ZbM,Bool.and_eq_true,decide_eq_true_eq] at hp
   omega
theorem Zpz {b:DBox} {fl:Int} {t:Str} (h:Zbm b=true) (hf:ZaW fl=true) (ht:t.length≤20) (h2:(Zg3 b fl t).2=true):Zbm (Zg3 b fl t).1=true∧Zah (Zg3 b fl t).1.mail=Zah b.mail+t.length:=by
 obtain ⟨l,hs,hl,hn,hk⟩:=Zfx h
 have h0:=Zkd b.mail 0 l hs
 unfold Zg3 at h2 ⊢
 split at h2
 ·cases h2
 ·rename_i hc
  rw [if_neg hc]
  simp only [ZaW,Bool.and_eq_true,decide_eq_true_eq] at hf
  have hm:ZbM l ⟨b.next,fl,t⟩=true:=by
   simp only [ZbM,ZbC,Bool.and_eq_true,decide_eq_true_eq];omega
  refine ⟨?_,by simp [Zah]⟩
  rw [ZdH (ZlE hs hm)]
  simp only [Bool.and_eq_true,decide_eq_true_eq,List.length_append,List.length_cons,List.length_nil]
  omega
theorem Zhv {us:List DUser} {f:DFolder} {b:DBox} (h:Z2 us f=true) (hb:Zbm b=true):Z2 us (f.withBox b)=true:=by
 simp only [Z2,Bool.and_eq_true,decide_eq_true_eq] at h ⊢
 exact ⟨⟨⟨h.1.1.1,h.1.1.2⟩,h.1.2⟩,hb⟩
theorem Zbt {x:DHost} {k:Nat} {f:DFolder} (h:Zz x=true) (hf:x.folders[k]? = some f):Z2 x.users f=true:=(Za8.1 h).2.1.1 f (List.mem_of_getElem? hf)
theorem Zb3 {us:List DUser} {f:DFolder} (h:Z2 us f=true):Zbm f.box=true:=by simp only [Z2,Bool.and_eq_true] at h;exact h.2
theorem ZhM {x:DHost} {k:Nat} {fl:Int} {t:Str} (h:Zz x=true) (hf:ZaW fl=true) (ht:t.length≤20):Zz (ZbL x k fl t).1=true:=by
 unfold ZbL
 split
 ·exact h
 ·rename_i f hk
  split
  ·exact h
  ·rename_i hq
   split
   ·rename_i h2
    obtain ⟨h3,h4⟩:=Zpz (Zb3 (Zbt h hk)) hf ht h2
    refine ZgR h hk rfl rfl (Zhv (Zbt h hk) h3) (.inl ?_)
    show (Zbg x.folders f.owner:Int)+Zah (Zg3 f.box fl t).1.mail≤Zeb x.users f.owner+Zah f.mail
    rw [h4,show f.box.mail=f.mail from rfl];omega
   ·exact h
theorem ZR {x:DHost} {k:Nat} {fl:Int} {t:Str} : (ZbL x k fl t).1.users=x.users∧(ZbL x k fl t).1.queue=x.queue∧(ZbL x k fl t).1.domain=x.domain∧(ZbL x k fl t).1.folders.length=x.folders.length:=by
 unfold ZbL
 split
 ·exact ⟨rfl,rfl,rfl,rfl⟩
 ·split
  ·exact ⟨rfl,rfl,rfl,rfl⟩
  ·split
   ·exact ⟨rfl,rfl,rfl,by simp [DHost.withFolders]⟩
   ·exact ⟨rfl,rfl,rfl,rfl⟩
theorem ZuW {x:DHost} {b o n:Str} {fl:Int} {t:Str} (h:Zz x=true):(Zky x b o n fl t).2=5∨Zz (Zky x b o n fl t).1=true:=by
 unfold Zky
 split
 ·exact .inl rfl
 ·rename_i h1
  simp only [h,true_and,Decidable.not_not] at h1
  split
  ·exact .inr h
  ·exact .inr (ZhM h h1.1 h1.2)
theorem ZrL {gs:List DGrant} {u:Str} {r:Int} (h:(Zb5 gs u r).2=true):ZbN (Zb5 gs u r).1=true:=by
 unfold Zb5 at h ⊢
 split
 ·rename_i h1;rw [if_pos h1] at h;cases h
 ·rename_i h1
  rw [if_neg h1] at h
  split
  ·assumption
  ·rename_i h2;rw [if_neg h2] at h;cases h
theorem Zq2 {x:DHost} {b o n u:Str} {r:Int} (h:Zz x=true):(Zb4 x b o n u r).2=5∨Zz (Zb4 x b o n u r).1=true:=by
 unfold Zb4
 split
 ·exact .inl rfl
 ·split
  ·exact .inr h
  ·split
   ·exact .inr h
   ·right
    unfold Zfe
    split
    ·exact h
    ·rename_i f hk
     split
     ·rename_i h2
      refine ZgR h hk rfl rfl ?_ (.inr (Nat.le_refl _))
      have:=Zbt h hk
      simp only [Z2,Bool.and_eq_true,decide_eq_true_eq] at this ⊢
      exact ⟨⟨⟨this.1.1.1,this.1.1.2⟩,ZrL h2⟩,this.2⟩
     ·exact h
theorem Zhr {x:DHost} {q:DQueue} (h:Zz x=true) (hq:Zad q=true) (hi :∀y,y∈q.items→ZaG x.users y=true):Zz (x.withQueue q)=true:=by
 rw [Za8] at h ⊢
 exact ⟨⟨h.1.1,h.1.2.1,hq⟩,h.2.1,h.2.2.1,hi⟩
theorem ZhT {x:DHost} (h:Zz x=true):Zad x.queue=true:=(Za8.1 h).1.2.2
theorem Zpj {x:DHost} {l:DLetter} (h:Zz x=true):(Zbs x l).2=5∨Zz (Zbs x l).1=true:=by
 unfold Zbs
 split
 ·exact .inl rfl
 ·split
  ·exact .inr h
  ·rename_i h2
   split
   ·rename_i h3
    refine .inr (Zhr h (Zpy h3) fun y hy=>?_)
    rw [(Zmm h3).1] at hy
    simp only [List.mem_append,List.mem_singleton] at hy
    rcases hy with hy | rfl
    ·exact (Za8.1 h).2.2.2 y hy
    ·simp only [not_or,Bool.not_eq_false] at h2
     simp only [ZaG,h2.2,Bool.and_true]
     exact decide_eq_true (by omega)
   ·exact .inr h
theorem ZoC {id:Int} {u:Str} {xs:List DItem} {y:DItem} (h:y∈ZeW id u xs) :∃z,z∈xs∧y.fr=z.fr∧(∀n,n∈y.left→n∈z.left):=by
 simp only [ZeW,List.mem_filter,List.mem_map] at h
 obtain ⟨⟨z,hz,rfl⟩,_⟩:=h
 refine ⟨z,hz,?_,?_⟩
 ·unfold ZbI;split <;> rfl
 ·intro n hn
  unfold ZbI at hn
  split at hn
  ·exact (List.mem_filter.1 hn).1
  ·exact hn
theorem Zjx :∀(xs:List DItem) {id:Int} {u:Str} (s:Str × Bool),(xs.foldl (ZbY id u) s).2=true→s.2=true∨∃y,y∈xs∧u∈y.left
 | [],_,_,s,h=>.inl h
 | x :: xs,id,u,s,h=>by
  rcases Zjx xs (ZbY id u s x) h with h | ⟨y,hy,hu⟩
  ·unfold ZbY at h
   split at h
   ·rename_i hc;exact .inr ⟨x,List.mem_cons_self ..,hc.2⟩
   ·exact .inl h
  ·exact .inr ⟨y,List.mem_cons_of_mem _ hy,hu⟩
theorem Zpp {x:DHost} {id:Int} {u:Str} (h:Zz x=true) (hf:(Zca x.queue id u).2.2=true):0≤ZaJ (inF u inbox) x.folders:=by
 obtain ⟨_,_,h7,h8⟩:=Za8.1 h
 rcases Zjx x.queue.items (id:=id) (u:=u) ([],false) hf with h0 | ⟨y,hy,hu⟩
 ·cases h0
 ·have:=h8 y hy
  simp only [ZaG,Zgt,Bool.and_eq_true,List.all_eq_true,decide_eq_true_eq] at this
  obtain ⟨w,hw,rfl⟩:=Zcn.1 (this.2 u hu)
  have:=h7 w hw
  simp only [ZaT,Bool.and_eq_true,decide_eq_true_eq] at this
  exact this.1
theorem ZnQ :∀(xs:List DItem) {id:Int} {u:Str} (s:Str × Bool),s.1.length≤20→(∀y,y∈xs→ZcH y=true)→(xs.foldl (ZbY id u) s).1.length≤20
 | [],_,_,s,h,_=>h
 | x :: xs,id,u,s,h,ha=>by
  refine ZnQ xs (ZbY id u s x) ?_ fun y hy=>ha y (List.mem_cons_of_mem _ hy)
  unfold ZbY
  split
  ·have:=ha x (List.mem_cons_self ..)
   simp only [ZcH,ZaM,Bool.and_eq_true,decide_eq_true_eq] at this
   exact this.2
  ·exact h
theorem Zhz {x:DHost} {id:Int} {u:Str} (h:Zz x=true):(Zca x.queue id u).2.1.length≤20:=
 ZnQ x.queue.items ([],false) (by simp) fun y hy=>ZdX (ZhT h) hy
theorem Zni {x:DHost} {id:Int} {u:Str} (h:Zz x=true):(ZaV x id u).2=5∨Zz (ZaV x id u).1=true:=by
 right
 unfold ZaV
 rw [if_neg (show ¬ Zz x=false by simp [h])]
 split
 ·exact h
 ·rename_i hf
  have hp:Zz (ZbL x (ZaJ (inF u inbox) x.folders).toNat 0 (Zca x.queue id u).2.1).1=true:=ZhM h (by decide) (Zhz h)
  split
  ·have e:=ZR (x:=x) (k:=(ZaJ (inF u inbox) x.folders).toNat) (fl:=0) (t:=(Zca x.queue id u).2.1)
   have hq:Zc9 x.queue id u=Zca x.queue id u:=by rw [Zc9,if_pos (ZhT h)]
   refine Zhr hp ?_ fun y hy=>?_
   ·rw [← hq];exact ZoB (by rw [hq];simpa using hf)
   ·obtain ⟨z,hz,e1,e2⟩:=ZoC (show y∈ZeW id u x.queue.items from hy)
    have:=(Za8.1 h).2.2.2 z hz
    simp only [ZaG,Zgt,Bool.and_eq_true,List.all_eq_true,e.1,e1] at this ⊢
    exact ⟨this.1,fun n hn=>this.2 n (e2 n hn)⟩
  ·exact hp
theorem Zlr {x:DHost} {k:Nat} {b:DBox} (h:Zz x=true) (hb :∀f,x.folders[k]? = some f→Zbm b=true∧Zah b.mail≤Zah f.mail):Zz (ZjB x k b)=true:=by
 unfold ZjB
 split
 ·rename_i f hf
  exact ZgR h hf rfl rfl (Zhv (Zbt h hf) (hb f hf).1) (.inr (hb f hf).2)
 ·exact h
def Like (ms ms':List DMail):Prop:=ms'.length=ms.length∧∀(i:Nat) (a b:DMail),ms[i]? = some a→ms'[i]? = some b→b.uid=a.uid∧b.text=a.text∧(b.flags=a.flags∨(0≤b.flags∧b.flags≤31))
theorem Like.refl (ms:List DMail):Like ms ms:=⟨rfl,fun i a b h1 h2=>by rw [h1] at h2;cases h2;exact ⟨rfl,rfl,.inl rfl⟩⟩
theorem Like.set {ms acc:List DMail} {k:Nat} {a:DMail} {fl:Int} (h:Like ms acc) (ha:acc[k]? = some a) (hf:0≤fl∧fl≤31):Like ms (acc.set k ⟨a.uid,fl,a.text⟩):=by
 refine ⟨by rw [List.length_set];exact h.1,fun i c d hc hd=>?_⟩
 rcases ZiS hd with ⟨rfl,rfl,_⟩ | ⟨_,hd⟩
 ·have:=h.2 _ _ _ hc ha
  exact ⟨this.1,this.2.1,.inr hf⟩
 ·exact h.2 _ _ _ hc hd
theorem Zl2 {ms acc:List DMail} {how fl n:Int} (h:Like ms acc):Like ms (ZgW ms how fl acc n):=by
 unfold ZgW
 split
 ·rename_i a m ha hm;exact h.set ha (Zt2 _ _ _)
 ·exact h
theorem Zhy {ms:List DMail} {how fl:Int} :∀(ns:List Int) {acc:List DMail},Like ms acc→Like ms (ns.foldl (ZgW ms how fl) acc)
 | [],_,h=>h
 | n :: ns,_,h=>Zhy ns (Zl2 h)
theorem ZlG :∀{ms ms':List DMail} (b0 b:Int),Like ms ms'→ms.foldl (fun (s:Bool × Int) x=>(s.1 && ZbM s.2 x,x.uid)) (true,b0)=(true,b)→ms'.foldl (fun (s:Bool × Int) x=>(s.1 && ZbM s.2 x,x.uid)) (true,b0)=(true,b)∧Zah ms'=Zah ms
 | [],ms',b0,b,h,hs=>by
  have:ms'=[]:=List.length_eq_zero_iff.1 h.1
  subst this;exact ⟨hs,rfl⟩
 | x :: ms,[],b0,b,h,hs=>by cases h.1
 | x :: ms,y :: ms',b0,b,h,hs=>by
  obtain ⟨h1,h2⟩:=h
  obtain ⟨e1,e2,e3⟩:=h2 0 x y rfl rfl
  simp only [List.foldl_cons,Bool.true_and] at hs ⊢
  cases hp:ZbM b0 x with
  | false=>
   rw [hp] at hs
   have:=Zcb (p:=ZbM) (nx:=fun _ m=>m.uid) ms x.uid
   rw [hs] at this;cases this
  | true=>
   rw [hp] at hs
   have hq:ZbM b0 y=true:=by
    simp only [ZbM,ZbC,Bool.and_eq_true,decide_eq_true_eq] at hp ⊢
    rw [e1,e2]
    rcases e3 with e3 | e3
    ·rw [e3];exact hp
    ·omega
   rw [hq,e1]
   obtain ⟨h3,h4⟩:=ZlG (ms:=ms) (ms':=ms') x.uid b ⟨by simpa using h1,fun i a c ha hc=>h2 (i+1) a c (by simpa using ha) (by simpa using hc)⟩ hs
   refine ⟨h3,?_⟩
   simp only [Zah,List.map_cons,List.sum_cons,e2] at h4 ⊢
   omega
theorem ZsJ {b:DBox} {ms:List DMail} (h:Zbm b=true) (hl:Like b.mail ms):Zbm ⟨b.next,ms⟩=true∧Zah ms=Zah b.mail:=by
 obtain ⟨l,hs,h1,h2,h3⟩:=Zfx h
 obtain ⟨h4,h5⟩:=ZlG 0 l hl hs
 refine ⟨?_,h5⟩
 rw [ZdH (b:=⟨b.next,ms⟩) h4]
 simp only [Bool.and_eq_true,decide_eq_true_eq,hl.1];omega
theorem ZiF :∀(ms:List DMail) (b0 b1 b:Int),b1≤b0→ms.foldl (fun (s:Bool × Int) x=>(s.1 && ZbM s.2 x,x.uid)) (true,b0)=(true,b)→∃c,c≤b∧(ZcG ms).foldl (fun (s:Bool × Int) x=>(s.1 && ZbM s.2 x,x.uid)) (true,b1)=(true,c)∧Zah (ZcG ms)≤Zah ms
 | [],b0,b1,b,hb,h=>by cases h;exact ⟨b1,hb,rfl,Nat.le_refl _⟩
 | x :: ms,b0,b1,b,hb,h=>by
  simp only [List.foldl_cons,Bool.true_and] at h
  cases hp:ZbM b0 x with
  | false=>
   rw [hp] at h
   have:=Zcb (p:=ZbM) (nx:=fun _ m=>m.uid) ms x.uid
   rw [h] at this;cases this
  | true=>
   rw [hp] at h
   have hx:b0<x.uid:=by simp only [ZbM,Bool.and_eq_true,decide_eq_true_eq] at hp;exact hp.2
   cases hd:ZpD x with
   | true=>
    obtain ⟨c,h1,h2,h3⟩:=ZiF ms x.uid b1 b (by omega) h
    have e:ZcG (x :: ms)=ZcG ms:=by simp [ZcG,hd]
    rw [e]
    refine ⟨c,h1,h2,?_⟩
    simp only [Zah,List.map_cons,List.sum_cons] at h3 ⊢;omega
   | false=>
    obtain ⟨c,h1,h2,h3⟩:=ZiF ms x.uid x.uid b (by omega) h
    have e:ZcG (x :: ms)=x :: ZcG ms:=by simp [ZcG,hd]
    rw [e]
    have hq:ZbM b1 x=true:=by
     simp only [ZbM,Bool.and_eq_true,decide_eq_true_eq] at hp ⊢
     exact ⟨hp.1,by omega⟩
    refine ⟨c,h1,?_,?_⟩
    ·simp only [List.foldl_cons,Bool.true_and,hq];exact h2
    ·simp only [Zah,List.map_cons,List.sum_cons] at h3 ⊢;omega
theorem ZsR {b:DBox} (h:Zbm b=true):Zbm ⟨b.next,ZcG b.mail⟩=true∧Zah (ZcG b.mail)≤Zah b.mail:=by
 obtain ⟨l,hs,h1,h2,h3⟩:=Zfx h
 obtain ⟨c,h4,h5,h6⟩:=ZiF b.mail 0 0 l (by omega) hs
 refine ⟨?_,h6⟩
 have:(ZcG b.mail).length≤b.mail.length:=List.length_filter_le _ _
 rw [ZdH (b:=⟨b.next,ZcG b.mail⟩) h5]
 simp only [Bool.and_eq_true,decide_eq_true_eq];omega
theorem Zdr {x:DHost} {k:Nat} {f:DFolder} (h:x.folders[k]? = some f):ZhF x k=f.box:=by simp only [ZhF,h]
theorem ZhW {x:DHost} {s:DSess} {r:Int} (h:(atF x s r).2=0):(atF x s r).1=ZaJ (inF s.owner s.name) x.folders∧0≤(atF x s r).1∧0≤ZdO x.users s.user∧∃f,x.folders[(atF x s r).1.toNat]? = some f∧Zmd f s.user 1=true∧Zmd f s.user 2=true∧Zmd f s.user r=true:=by
 unfold atF at h ⊢
 split at h
 ·rename_i h1;exact absurd h h1
 ·rename_i h1
  rw [if_neg h1]
  obtain ⟨h2,h3,f,hf,h4,h5⟩:=Zew h
  obtain ⟨_,_,f',hf',_,h6⟩:=Zew (Decidable.not_not.1 h1)
  rw [hf] at hf';cases hf'
  exact ⟨rfl,h3,h2,f,hf,h4,h6,h5⟩
theorem Zq1 {x:DHost} {s:DSess} {set:List DSpan} {how fl:Int} (h:Zz x=true):(Zcd x s set how fl).2=5∨Zz (Zcd x s set how fl).1=true∨(Zel (ZhF x (atF x s 4).1.toNat).mail.length (ZaD set (ZhF x (atF x s 4).1.toNat).mail.length)=false):=by
 unfold Zcd
 split
 ·exact .inl rfl
 ·rename_i h1
  split
  ·exact .inr (.inl h)
  ·rename_i h2
   cases hn:Zel (ZhF x (atF x s 4).1.toNat).mail.length (ZaD set (ZhF x (atF x s 4).1.toNat).mail.length) with
   | false=>exact .inr (.inr rfl)
   | true=>
    refine .inr (.inl (Zlr h fun f hf=>?_))
    simp only [h,true_and,Decidable.not_not] at h1
    have hb:=Zb3 (Zbt h hf)
    rw [Zdr hf] at hn ⊢
    rw [Zbj,if_pos ⟨hb,hn,h1.2.2,h1.2.1⟩]
    obtain ⟨h4,h5⟩:=ZsJ hb (Zhy (how:=how) (fl:=fl) (ZaD set f.box.mail.length) (Like.refl f.box.mail))
    exact ⟨h4,Nat.le_of_eq h5⟩
theorem Znh {x:DHost} {s:DSess} (h:Zz x=true):(ZaN x s).2.2=5∨Zz (ZaN x s).1=true:=by
 unfold ZaN
 split
 ·exact .inl rfl
 ·split
  ·exact .inr h
  ·refine .inr (Zlr h fun f hf=>?_)
   have hb:=Zb3 (Zbt h hf)
   rw [Zdr hf,expunge,if_pos hb]
   exact ZsR hb
theorem ZgK (s:List DSpan) (last:Int) :∀(n:Nat) (y:Int),y∈Zc4 s last n→1≤y∧y≤n
 | 0,y,h=>by cases h
 | n+1,y,h=>by
  simp only [Zc4] at h
  split at h
  ·rw [List.mem_append,List.mem_singleton] at h
   rcases h with h | rfl
   ·have:=ZgK s last n y h;omega
   ·omega
  ·have:=ZgK s last n y h;omega
theorem ZlB {m:Nat} {xs:List Int} {b y:Int} (h:Zd0 m xs=(true,b)) (hy:Zqs m b y=true):Zd0 m (xs ++ [y])=(true,y):=by
 rw [Zd0,scn,List.foldl_append]
 have:xs.foldl (fun (s:Bool × Int) x=>(s.1 && Zqs m s.2 x,x)) (true,0)=(true,b):=h
 rw [this];simp [hy]
theorem Ziu (s:List DSpan) (last:Int) (m:Nat) :∀n,n≤m→∃b,Zd0 m (Zc4 s last n)=(true,b)∧b≤n
 | 0,_=>⟨0,rfl,by simp⟩
 | n+1,h=>by
  obtain ⟨b,h1,h2⟩:=Ziu s last m n (by omega)
  simp only [Zc4]
  split
  ·exact ⟨_,ZlB h1 (by simp only [Zqs,Bool.and_eq_true,decide_eq_true_eq];omega),by omega⟩
  ·exact ⟨b,h1,by omega⟩
theorem Zqr (s:List DSpan) (m:Nat):Zel m (ZaD s m)=true:=by
 unfold ZaD
 split
 ·obtain ⟨b,h,_⟩:=Ziu s (min (m:Int) 99) m (min (m:Int) 99).toNat (by omega)
  rw [Zel,h]
 ·rfl
theorem ZjI {s:List DSpan} {m:Nat} {y:Int} (h:y∈ZaD s m):1≤y∧y≤m:=by
 unfold ZaD at h
 split at h
 ·have:=ZgK _ _ _ _ h;omega
 ·cases h
theorem ZjG (s:List DSpan) (last:Int) :∀n,(Zc4 s last n).length≤n
 | 0=>by simp [Zc4]
 | n+1=>by
  have:=ZjG s last n
  simp only [Zc4]
  split
  ·simp;omega
  ·omega
theorem Znt {to:Nat} {s:DHost × Int} {m:DMail} (h:Zz s.1=true) (hm:ZbC m=true):Zz (ZbK to s m).1=true:=by
 unfold ZbK
 simp only [ZbC,Bool.and_eq_true,decide_eq_true_eq] at hm
 split
 ·exact ZhM h (by simp only [ZaW,Bool.and_eq_true,decide_eq_true_eq];exact hm.1.2) hm.2
 ·exact h
theorem Zi9 {to:Nat} :∀(ms:List DMail) (s:DHost × Int),Zz s.1=true→(∀m,m∈ms→ZbC m=true)→Zz (ms.foldl (ZbK to) s).1=true
 | [],_,h,_=>h
 | m :: ms,s,h,hm=>Zi9 ms _ (Znt h (hm m (List.mem_cons_self ..))) fun y hy=>hm y (List.mem_cons_of_mem _ hy)
theorem ZqG {b:DBox} (h:Zbm b=true) {y:Int} (hy:1≤y∧y≤b.mail.length):ZbC (Zdf b.mail y)=true:=by
 unfold Zdf
 have :∃m,b.mail[(y - 1).toNat]? = some m:=⟨_,List.getElem?_eq_getElem (by omega)⟩
 obtain ⟨m,hm⟩:=this
 simp only [hm]
 exact (ZdG h).1 m (List.mem_of_getElem? hm)
theorem Zs5 {x:DHost} {s:DSess} {set:List DSpan} {o n:Str} (h:Zz x=true):(ZeN x s set o n).2=5∨Zz (ZeN x s set o n).1=true:=by
 unfold ZeN
 split
 ·exact .inl rfl
 ·split
  ·exact .inr h
  ·rename_i h2
   split
   ·exact .inr h
   ·obtain ⟨_,_,_,f,hf,_⟩:=ZhW (Decidable.not_not.1 h2)
    have hb:=Zb3 (Zbt h hf)
    simp only []
    split
    ·refine .inr (Zi9 _ _ h fun m hm=>?_)
     obtain ⟨y,hy,rfl⟩:=List.mem_map.1 hm
     rw [Zdr hf] at hy ⊢
     exact ZqG hb (ZjI hy)
    ·exact .inr h
theorem Zu3 {x:DHost} {e:DEvent} (h:Zz x=true):(ZhU x e).2=5∨Zz (ZhU x e).1=true:=by
 unfold ZhU
 split
 ·exact Zpk h
 ·split
  ·exact Zq2 h
  ·split
   ·exact ZuW h
   ·split
    ·exact Zpj h
    ·split
     ·exact Zni h
     ·split
      ·rcases Zq1 (x:=x) (s:=⟨e.by_,e.owner,e.name⟩) (set:=[⟨e.a,e.a⟩]) (how:=1) (fl:=e.b) h with h | h | h
       ·exact .inl h
       ·exact .inr h
       ·rw [Zqr] at h;cases h
      ·split
       ·exact Znh h
       ·split
        ·exact Zs5 h
        ·exact .inl rfl
theorem Zws {x:DHost} {e:DEvent} (h:Zz x=true):Zz (hDo x e).1=true:=by
 unfold hDo
 rw [h]
 simp only [Bool.true_eq_false,if_false]
 split
 ·exact h
 ·rename_i h2
  rcases Zu3 (e:=e) h with h3 | h3
  ·exact absurd h3 h2
  ·exact h3
end Go.BL
namespace Go.BL
open Go
theorem Zst {k:Nat} {e:Int} (h:([1,2,4,8,16,32]:List Int)[k]? = some e):e=ZbB k:=by rw [ZbB,List.getD_eq_getElem?_getD,h];rfl
theorem Zqo {k:Nat} {e:Int} (h:([1,2,4,8,16]:List Int)[k]? = some e):e=ZbB k:=by
 have hk:=(List.getElem?_eq_some_iff.1 h).1
 simp only [List.length_cons,List.length_nil] at hk
 have:k=0∨k=1∨k=2∨k=3∨k=4:=by omega
 rcases this with rfl | rfl | rfl | rfl | rfl <;> simp at h <;> rw [← h] <;> rfl
theorem ZjF {a b:Int} (h0:0≤a) (h1:a≤1000000) (hb:0<b):IntKind.i64.wrap (Int.tdiv a b)=Int.tdiv a b:=
 ZaY (Int.le_trans (by decide) (Int.tdiv_nonneg h0 (by omega))) (Int.le_trans (Int.tdiv_le_self _ h0) (by omega))
theorem Zfl {gs:List DGrant} (h:ZbN gs=true) :∀y,y∈gs→0≤y.rights∧y.rights≤63:=by
 intro y hy
 simp only [ZbN,Bool.and_eq_true] at h
 obtain ⟨b,hb⟩:=Zkc (p:=Zcw) (nx:=fun _ g=>g.user) gs [] h.1 y hy
 simp only [Zcw,Bool.and_eq_true,decide_eq_true_eq] at hb;omega
def Zh1 (fs:List DFolder):Prop:=∀f,f∈fs→∀y,y∈f.grants→0≤y.rights∧y.rights≤63
theorem Zb0 {x:DHost} (h:Zz x=true):Zh1 x.folders:=fun f hf=>by
 have:=(Za8.1 h).2.1.1 f hf
 simp only [Z2,Bool.and_eq_true] at this
 exact Zfl this.1.2
theorem ZmO (gs:List DGrant) (u:Str):0≤ZbJ gs u∧ZbJ gs u≤600:=Zjd gs u 6 (Nat.le_refl _)
theorem ZpY :∀{fs:List DFolder} (us:List DUser) (u:Str),(∀f,f∈fs→Z2 us f=true)→Zbg fs u≤fs.length*200
 | [],_,_,_=>by simp [Zbg]
 | f :: fs,us,u,h=>by
  have ih:=ZpY us u fun g hg=>h g (List.mem_cons_of_mem _ hg)
  obtain ⟨h1,h2⟩:=ZdG (Zb3 (h f (List.mem_cons_self ..)))
  have h3:Zah f.mail≤f.mail.length*20:=ZfV _ h1
  have h4:f.mail.length≤10:=h2
  simp only [Zbg,List.map_cons,List.sum_cons,List.length_cons] at ih ⊢
  split <;> omega
theorem Znd {x:DHost} (h:Zz x=true) (u:Str):Zbg x.folders u≤1600:=by
 obtain ⟨_,⟨h4,_,h6⟩,_⟩:=Za8.1 h
 have:=ZpY x.users u h4
 omega
theorem Zdq {b:DBox} (h:Zbm b=true):1≤b.next∧b.next≤100∧b.mail.length≤10:=by
 obtain ⟨l,hs,h1,h2,h3⟩:=Zfx h
 have:=Zkd b.mail 0 l hs
 omega
structure GHC where
 q1:Option Addr
 c1:Nat
 q3:Option Addr
 c3:Nat
 b:Nat
theorem Zhi {α:Type} {p:α→Bool} :∀{fs:List α} {k:Nat},(∀y,y∈fs.take k→p y=true)→(fs.length≤k∨∃z,fs[k]? = some z∧p z=false)→k≤fs.length→(fs.takeWhile p).length=k
 | [],k,_,_,hk=>by simp at hk;subst hk;rfl
 | a :: fs,0,_,he,_=>by
  rcases he with he | ⟨z,hz,hp⟩
  ·simp at he
  ·simp at hz;subst hz;simp [hp]
 | a :: fs,k+1,ha,he,hk=>by
  have h1:p a=true:=ha a (by simp)
  have ih:=Zhi (fs:=fs) (k:=k) (fun y hy=>ha y (by simp [hy])) (by
   rcases he with he | ⟨z,hz,hp⟩
   ·exact .inl (by simpa using he)
   ·exact .inr ⟨z,by simpa using hz,hp⟩) (by simpa using hk)
  simp [h1,ih]
theorem Zcv {x:DHost} {u n:Str} {k:Nat} (h1:Zz x=true) (h2:Zal n=true) (h3 : ¬ ZdO x.users u<0) (h4 : ¬ 0≤ZaJ (inF u n) x.folders) (h5 : ¬ 8≤x.folders.length) (hk:k≤x.folders.length)
  (ha :∀y,y∈x.folders.take k→ZcU y (Ze6 u n)=true) (he:x.folders.length≤k∨∃z,x.folders[k]? = some z∧ZcU z (Ze6 u n)=false) :
  Zbl x u n=(x.withFolders (((x.folders.take k).drop 0 ++ [⟨u,n,[],1,[]⟩]) ++ (x.folders.take x.folders.length).drop k),0):=by
 rw [Zbl,if_neg (fun h=>h ⟨h1,h2⟩),if_neg h3,if_neg (fun h=>h.elim h4 h5),ZhE,show ZgQ x.folders (Ze6 u n)=k from Zhi ha he hk,List.drop_zero,List.take_length]
 rfl
theorem Zg4 {gs:List DGrant} {u:Str} {r:Int} (h : ¬ (ZbN gs=true∧Zal u=true∧ZdW r=true)):Zb5 gs u r=([],false):=by rw [Zb5,if_pos h]
theorem Zmp {gs:List DGrant} {u:Str} {r:Int} (h:ZbN gs=true∧Zal u=true∧ZdW r=true) (h2:ZbN (ZgD gs u r)=false):Zb5 gs u r=(gs,false):=by rw [Zb5,if_neg (fun a=>a h),if_neg (by rw [h2];exact Bool.false_ne_true)]
theorem Zj3 {gs:List DGrant} {u:Str} {r:Int} (h:ZbN gs=true∧Zal u=true∧ZdW r=true) (h2:ZbN (ZgD gs u r)=true):Zb5 gs u r=(ZgD gs u r,true):=by rw [Zb5,if_neg (fun a=>a h),if_pos h2]
theorem Zg5 {gs xs:List DGrant} {u:Str} {r:Int} (h:(true,xs)=ZeR u r gs):ZgD gs u r=xs:=by rw [ZgD,← h];rfl
theorem Zg6 {gs xs:List DGrant} {u:Str} {r:Int} (h:(false,xs)=ZeR u r gs):ZgD gs u r=xs ++ [⟨u,r⟩]:=by rw [ZgD,← h];rfl
theorem Zjh {gs:List DGrant} (h:ZbN gs=true):gs.length≤4:=by simp only [ZbN,Bool.and_eq_true,decide_eq_true_eq] at h;exact h.2
theorem ZjR {x:DHost} {k:Nat} {f:DFolder} {u:Str} {r:Int} (hf:x.folders[k]? = some f) (h:(Zb5 f.grants u r).2=false):Zfe x k u r=(x,4):=by simp only [Zfe,hf,h];rfl
theorem ZiR {x:DHost} {k:Nat} {f:DFolder} {u:Str} {r:Int} (hf:x.folders[k]? = some f) (h:(Zb5 f.grants u r).2=true):Zfe x k u r=(x.withFolders (x.folders.set k (f.withGrants (Zb5 f.grants u r).1)),0):=by simp only [Zfe,hf,h,if_true]
theorem ZjH {n:Nat} {xs:List Int} {k:Nat} {x b:Int} (hx:xs[k]? = some x) (hs:Zd0 n (xs.take k)=(true,b)) (h:Zqs n b x=false):Zel n xs=false:=ZhL hx hs h
theorem ZoX {n:Nat} {xs:List Int} {b:Int} (h:Zd0 n xs=(true,b)):Zel n xs=true:=by rw [Zel,h]
theorem ZoW {n:Nat} {xs:List Int} (h:Zel n xs=true) :∀y,y∈xs→1≤y∧y≤n:=by
 intro y hy
 obtain ⟨b,hb⟩:=Zkc (p:=Zqs n) (nx:=fun _ x=>x) xs 0 h y hy
 simp only [Zqs,Bool.and_eq_true,decide_eq_true_eq] at hb;omega
theorem Zl1 {ms:List DMail} {how fl:Int} {ns:List Int} {k:Nat} {y:Int} {a m:DMail} (hy:ns[k]? = some y) (ha:(Zef ms how fl (ns.take k))[(y - 1).toNat]? = some a) (hm:ms[(y - 1).toNat]? = some m) :
  Zef ms how fl (ns.take (k+1))=(Zef ms how fl (ns.take k)).set (y - 1).toNat ⟨a.uid,chg m.flags how fl,a.text⟩:=by
 have e:Zef ms how fl (ns.take (k+1))=ZgW ms how fl (Zef ms how fl (ns.take k)) y:=by rw [Zaw hy,Zef,List.foldl_append];rfl
 rw [e,ZgW,ha,hm]
theorem Zf8 {b:DBox} (h:Zbm b=true) {m:DMail} (hm:m∈b.mail):0≤m.flags∧m.flags≤31:=by
 have:=(ZdG h).1 m hm
 simp only [ZbC,Bool.and_eq_true,decide_eq_true_eq] at this;exact this.1.2
theorem ZsP {ms:List DMail} {k:Nat} {x:DMail} (hx:ms[k]? = some x) (h:ZpD x=false):ZcG (ms.take (k+1))=ZcG (ms.take k) ++ [x]:=by
 rw [Zaw hx,ZcG,List.filter_append];simp [ZcG,h]
theorem ZuO {ms:List DMail} {k:Nat} {x:DMail} (hx:ms[k]? = some x) (h:ZpD x=true):ZcG (ms.take (k+1))=ZcG (ms.take k):=by
 rw [Zaw hx,ZcG,List.filter_append];simp [ZcG,h]
theorem ZjS {ms:List DMail} {k:Nat} {x:DMail} (hx:ms[k]? = some x):Zkz (ms.take (k+1))=Zdl (Zkz (ms.take k)) x:=by
 rw [Zaw hx,Zkz,List.foldl_append];rfl
theorem Zq3 (ms:List DMail):(Zkz ms).1=(ZcG ms).length:=by
 have key :∀(ms:List DMail) (s:Nat × List Int),(ms.foldl Zdl s).1=s.1+(ZcG ms).length:=by
  intro ms
  induction ms with
  | nil=>intro s;rfl
  | cons m ms ih=>
   intro s
   rw [List.foldl_cons,ih,Zdl]
   cases hd:ZpD m with
   | true=>simp [ZcG,hd]
   | false=>simp [ZcG,hd];omega
 rw [Zkz,key];simp
theorem ZsQ (ms:List DMail) (k:Nat):(ZcG (ms.take k)).length≤k:=Nat.le_trans (List.length_filter_le _ _) (by rw [List.length_take];omega)
theorem ZoV {s:List DSpan} {last:Int} {n:Nat} (h:Zgo s last (n+1:Nat)=true):Zc4 s last (n+1)=Zc4 s last n ++ [((n+1:Nat):Int)]:=by simp only [Zc4,h,if_true]
theorem Zqq {s:List DSpan} {last:Int} {n:Nat} (h:Zgo s last (n+1:Nat)=false):Zc4 s last (n+1)=Zc4 s last n:=by simp only [Zc4,h];rfl
theorem Zio {x:DHost} {k:Nat} {b:DBox} {f:DFolder} (h:x.folders[k]? = some f):ZjB x k b=x.withFolders (x.folders.set k (f.withBox b)):=by simp only [ZjB,h]
theorem ZeQ {b:DBox} {ns:List Int} {how fl:Int} (h : ¬ (Zbm b=true∧Zel b.mail.length ns=true∧Zkv how=true∧ZaW fl=true)):Zbj b ns how fl=(⟨0,[]⟩,false):=by rw [Zbj,if_neg h]
theorem Zmf {b:DBox} {ns:List Int} {how fl:Int} (h:Zbm b=true∧Zel b.mail.length ns=true∧Zkv how=true∧ZaW fl=true):Zbj b ns how fl=(⟨b.next,Zef b.mail how fl ns⟩,true):=by rw [Zbj,if_pos h]
structure GEx where
 k:Nat
 m:Gh DMail
 n:Gh Int
structure GCp where
 k:Nat
 x:DHost
 c:Int
 q1:Option Addr
 c1:Nat
 q2:Option Addr
 c2:Nat
 q3:Option Addr
 c3:Nat
theorem Zry {ns:List Int} {ms:List DMail} {to k:Nat} {y:Int} {s:DHost × Int} (hy:ns[k]? = some y):((ns.take (k+1)).map (Zdf ms)).foldl (ZbK to) s=ZbK to (((ns.take k).map (Zdf ms)).foldl (ZbK to) s) (Zdf ms y):=by
 rw [Zaw hy,List.map_append,List.foldl_append];rfl
theorem Zg0 {to:Nat} :∀(ms:List DMail) (s:DHost × Int),s.2≠0→ms.foldl (ZbK to) s=s
 | [],_,_=>rfl
 | m :: ms,s,h=>by rw [List.foldl_cons,ZbK,if_neg h];exact Zg0 ms s h
theorem Zrx {ns:List Int} {ms:List DMail} {to k:Nat} {s:DHost × Int} {y:DHost} {c:Int} (h:(y,c)=((ns.take k).map (Zdf ms)).foldl (ZbK to) s) (hc : ¬ c=0):(y,c)=(ns.map (Zdf ms)).foldl (ZbK to) s:=by
 have e:ns=ns.take k ++ ns.drop k:=(List.take_append_drop k ns).symm
 conv=>rhs;rw [e,List.map_append,List.foldl_append,← h,Zg0 _ _ hc]
theorem ZlW {x:DHost} {s:DSess} {set:List DSpan} {o n:Str} {f:DFolder} {y:DHost} {c:Int} (h : ¬ ¬ (Zz x=true∧ZeI set=true)) (ha:(atF x s 2).2=0) (hf:x.folders[(atF x s 2).1.toNat]? = some f)
  (hr:(y,c)=((ZaD set f.mail.length).map (Zdf f.mail)).foldl (ZbK (ZaJ (inF o n) x.folders).toNat) (x,Zgz x.users x.folders s.user (ZaJ (inF o n) x.folders) 8)):ZeN x s set o n=if c=0 then (y,0) else (x,c):=by
 rw [ZeN,if_neg h,if_neg (fun h=>h ha),Zdr hf]
 by_cases h8:Zgz x.users x.folders s.user (ZaJ (inF o n) x.folders) 8=0
 ·rw [if_neg (fun h=>h h8)]
  rw [h8] at hr
  have e:Zi8 x ((ZaD set f.mail.length).map (Zdf f.mail)) (ZaJ (inF o n) x.folders).toNat=(y,c):=hr.symm
  show (if (Zi8 x ((ZaD set f.mail.length).map (Zdf f.mail)) (ZaJ (inF o n) x.folders).toNat).2=0 then Zi8 x ((ZaD set f.mail.length).map (Zdf f.mail)) (ZaJ (inF o n) x.folders).toNat else (x,(Zi8 x ((ZaD set f.mail.length).map (Zdf f.mail)) (ZaJ (inF o n) x.folders).toNat).2))=_
  rw [e]
  by_cases hc:c=0
  ·simp only [hc,if_true]
  ·simp only [hc,if_false]
 ·rw [if_pos h8]
  rw [Zg0 _ _ h8] at hr
  cases hr
  rw [if_neg h8]
theorem ZoY (s:List DSpan) (m:Nat):(ZaD s m).length≤m:=by
 unfold ZaD
 split
 ·have:=ZjG s (min (m:Int) 99) (min (m:Int) 99).toNat
  omega
 ·simp
theorem Zfy (gs:List DGrant) (u:Str) (r:Int):(Zb5 gs u r).1.length≤gs.length+4:=by
 unfold Zb5
 split
 ·simp
 ·split
  ·rename_i h;have:=Zjh h;simp only [];omega
  ·simp only [];omega
theorem Zty (b:DBox) (fl:Int) (t:Str):(Zg3 b fl t).1.mail.length≤b.mail.length+1:=by
 unfold Zg3;split <;> simp
theorem Znp (b:DBox):(expunge b).1.mail.length≤b.mail.length∧(expunge b).2.length≤b.mail.length:=by
 unfold expunge
 split
 ·have key :∀(ms:List DMail) (s:Nat × List Int),(ms.foldl Zdl s).2.length≤s.2.length+ms.length:=by
   intro ms
   induction ms with
   | nil=>intro s;simp
   | cons m ms ih=>
    intro s
    rw [List.foldl_cons]
    cases hd:ZpD m with
    | true=>
     have:=ih (s.1,s.2 ++ [((s.1+1:Nat):Int)])
     rw [Zdl,if_pos hd]
     simp only [List.length_append,List.length_cons,List.length_nil] at this ⊢;omega
    | false=>
     have:=ih (s.1+1,s.2)
     rw [Zdl,if_neg (by simp [hd])]
     simp only [List.length_cons] at this ⊢;omega
  have:=key b.mail (0,[])
  exact ⟨List.length_filter_le _ _,by simpa [Zkz] using this⟩
 ·simp
def ZM (b:DBox) (fl:Int) (t:Str):DBox × Bool:=if Zbm b=true∧ZaW fl=true∧t.length≤20 then Zg3 b fl t else (⟨0,[]⟩,false)
theorem Zfi {b:DBox} {fl:Int} {t:Str} (h : ¬ (Zbm b=true∧ZaW fl=true∧t.length≤20)):ZM b fl t=(⟨0,[]⟩,false):=by rw [ZM,if_neg h]
theorem ZkQ {b:DBox} {fl:Int} {t:Str} (h:Zbm b=true∧ZaW fl=true∧t.length≤20):ZM b fl t=Zg3 b fl t:=by rw [ZM,if_pos h]
theorem Zd4 (b:DBox) (fl:Int) (t:Str):0≤(ZM b fl t).1.next∧(ZM b fl t).1.next≤101∧(ZM b fl t).1.mail.length≤11:=by
 unfold ZM
 split
 ·rename_i h
  have:=Zdq h.1
  unfold Zg3
  split
  ·simp only [];omega
  ·simp;omega
 ·simp
theorem ZB (b:DBox):0≤(expunge b).1.next∧(expunge b).1.next≤101∧(expunge b).1.mail.length≤10:=by
 unfold expunge
 split
 ·rename_i h
  have:=Zdq h
  have:=List.length_filter_le (fun m=>!ZpD m) b.mail
  simp only [ZcG];omega
 ·simp
theorem Zgw {us:List DUser} {f:DFolder} (h:Z2 us f=true):f.grants.length≤4:=by
 simp only [Z2,Bool.and_eq_true] at h;exact Zjh h.1.2
theorem Zne {x:DHost} (h:Zz x=true) :∀y,y∈x.queue.items→0<y.left.length:=fun y hy=>by
 have:=ZdX (ZhT h) hy
 simp only [ZcH,ZaM,Bool.and_eq_true,decide_eq_true_eq] at this
 exact this.1.2
theorem Zpa {x:DHost} (h:Zz x=true):0<x.folders.length∧0<x.users.length:=by
 obtain ⟨⟨_,h2,_⟩,_,h7,_⟩:=Za8.1 h
 simp only [Zar,Bool.and_eq_true,decide_eq_true_eq] at h2
 have hu:0<x.users.length:=by omega
 refine ⟨?_,hu⟩
 have:=h7 _ (List.getElem_mem hu)
 simp only [ZaT,Bool.and_eq_true,decide_eq_true_eq] at this
 obtain ⟨f,hf,_⟩:=ZeK.1 this.1
 exact List.length_pos_of_mem hf
def ZfL (a b:Int):List DUser:=[⟨[97,109,121],[97,49],60⟩,⟨[98,111,98],[98,50],20+a⟩,⟨[99,121,100],[99,51],100+b⟩]
theorem Zrt {a b:Int} (h1:0≤a) (h2:a<60) (h3:0≤b) (h4:b<100):Zco [104,111,115,116,46,111,114,103] (ZfL a b)=(Zqu [104,111,115,116,46,111,114,103] (ZfL a b),true)∧Zz (Zqu [104,111,115,116,46,111,114,103] (ZfL a b))=true:=by
 have hd:Zcm [104,111,115,116,46,111,114,103]=true:=by decide
 have hu:Zar (ZfL a b)=true:=by
  have e1:Zdw [] ⟨[97,109,121],[97,49],60⟩=true:=by decide
  have e2:Zdw [97,109,121] ⟨[98,111,98],[98,50],20+a⟩=true:=by
   have:(decide (0≤20+a) && decide (20+a≤200))=true:=by simp;omega
   simp only [Zdw,ZcB,this,Bool.and_true];rfl
  have e3:Zdw [98,111,98] ⟨[99,121,100],[99,51],100+b⟩=true:=by
   have:(decide (0≤100+b) && decide (100+b≤200))=true:=by simp;omega
   simp only [Zdw,ZcB,this,Bool.and_true];rfl
  simp [Zar,ZdT,scn,ZfL,e1,e2,e3]
 have:=ZmX [104,111,115,116,46,111,114,103] (ZfL a b)
 rw [hd,hu] at this
 exact ⟨ZiM this,this⟩
structure GHo where
 k:Nat
 p:Nat
 x:DHost
 q1:Option Addr
 c1:Nat
 q2:Option Addr
 c2:Nat
 q3:Option Addr
 c3:Nat
structure GBo where
 k:Nat
 p:Nat
 l:Cells
 a:Option Addr
 c:Nat
 x:DBox
structure GAc where
 k:Nat
 p:Nat
 l:Cells
 a:Option Addr
 c:Nat
 xs:List DGrant
end Go.BL
namespace Go.BL
open Go
def ZkV (gs:List DGrant) (o u:Str):Int:=
 if ¬ (ZbN gs=true∧Zal o=true∧Zal u=true) then -1 else if u=o then 63 else orI ((mget (Zfb gs) u).getD 0) ((mget (Zfb gs) anyone).getD 0)
theorem ZkU {gs:List DGrant} {o u:Str} (h : ¬ (ZbN gs=true∧Zal o=true∧Zal u=true)):ZkV gs o u = -1:=by rw [ZkV,if_pos h]
theorem ZtA {gs:List DGrant} {o u:Str} (h1:ZbN gs=true) (h2:Zal o=true) (h3:Zal u=true):ZkV gs o u=if u=o then 63 else orI ((mget (Zfb gs) u).getD 0) ((mget (Zfb gs) anyone).getD 0):=by rw [ZkV,if_neg (fun h=>h ⟨h1,h2,h3⟩)]
def ZqF (us:List DUser) (f:DFolder) (u:Str) (r:Int):Bool:=(Za1 us u).2 && (decide (0≤ZkV f.grants f.owner u) && !decide (Zw0 (ZkV f.grants f.owner u) r=0))
theorem ZpA {gs:List DGrant} (h:ZbN gs=true):gs.Pairwise fun x y=>Op.bytesLess x.user y.user=true:=by
 simp only [ZbN,Bool.and_eq_true] at h
 exact (ZfY (p:=Zcw) (f:=fun u=>u.user) (fun b x hq=>by simp only [Zcw,Bool.and_eq_true] at hq;exact hq.2) gs [] (Zc7 gs).2 (Prod.ext h.1 rfl)).2
def Zje (r b:Int):Bool:=decide (Int.tmod (Int.tdiv r b) 2=1)
theorem Zkn (u:Str) (b:Int) (h0:Zje 0 b=false) :∀{gs:List DGrant},gs.Pairwise (fun x y=>Op.bytesLess x.user y.user=true)→(gs.any fun g=>decide (g.user=u) && Zje g.rights b)=Zje ((mget (Zfb gs) u).getD 0) b
 | [],_=>by simp [Zfb,mget,h0]
 | g :: gs,hp=>by
  obtain ⟨h1,h2⟩:=List.pairwise_cons.1 hp
  have ih:=Zkn u b h0 h2
  simp only [Zfb,List.map_cons,mget,List.any_cons] at ih ⊢
  by_cases hu:u=g.user
  ·subst hu
   have hn:(gs.any fun x=>decide (x.user=g.user) && Zje x.rights b)=false:=by
    rw [List.any_eq_false]
    intro x hx hc
    simp only [Bool.and_eq_true,decide_eq_true_eq] at hc
    have:=h1 x hx
    rw [hc.1,Zdi] at this;cases this
   simp [hn]
  ·rw [if_neg hu,decide_eq_false (Ne.symm hu),← ih];simp
theorem ZmY (u:Str) :∀{gs:List DGrant},(∀y,y∈gs→0≤y.rights∧y.rights≤63)→0≤(mget (Zfb gs) u).getD 0∧(mget (Zfb gs) u).getD 0≤63
 | [],_=>by simp [Zfb,mget]
 | g :: gs,h=>by
  have ih:=ZmY u (gs:=gs) fun y hy=>h y (List.mem_cons_of_mem _ hy)
  simp only [Zfb,List.map_cons,mget] at ih ⊢
  by_cases hu:u=g.user
  ·rw [if_pos hu];exact h g (List.mem_cons_self ..)
  ·rw [if_neg hu];exact ih
theorem Zwk :∀a,a<64→∀b,b<64→0≤orI (a:Nat) (b:Nat)∧orI (a:Nat) (b:Nat)≤63∧(∀k,k<6→(!decide (Zw0 (orI (a:Nat) (b:Nat)) (ZbB k)=0))=(Zje (a:Nat) (ZbB k) || Zje (b:Nat) (ZbB k)))∧(!decide (Int.tmod (orI (a:Nat) (b:Nat)) 2=0))=(Zje (a:Nat) 1 || Zje (b:Nat) 1)∧(!decide (Int.tmod (Int.tdiv (orI (a:Nat) (b:Nat)) 2) 2=0))=(Zje (a:Nat) 2 || Zje (b:Nat) 2):=by
 decide +kernel
theorem Zuz :∀k,k<6→(!decide (Zw0 63 (ZbB k)=0))=true:=by decide +kernel
def ZzB (b0 b1 b2 b3 b4 b5:Bool):Int:=
 let s0:Int:=if b0=true then 0+ZbB 0 else 0
 let s1:=if b1=true then s0+ZbB 1 else s0
 let s2:=if b2=true then s1+ZbB 2 else s1
 let s3:=if b3=true then s2+ZbB 3 else s2
 let s4:=if b4=true then s3+ZbB 4 else s3
 if b5=true then s4+ZbB 5 else s4
theorem Ztq :∀b0 b1 b2 b3 b4 b5:Bool,∀k,k<6→Zje (ZzB b0 b1 b2 b3 b4 b5) (ZbB k)=[b0,b1,b2,b3,b4,b5].getD k false:=by decide +kernel
theorem ZoM {gs:List DGrant} {u:Str} {k:Nat} (hk:k<6):Zje (ZbJ gs u) (ZbB k)=gs.any (onB u (ZbB k)):=by
 have e:ZbJ gs u=ZzB (gs.any (onB u (ZbB 0))) (gs.any (onB u (ZbB 1))) (gs.any (onB u (ZbB 2))) (gs.any (onB u (ZbB 3))) (gs.any (onB u (ZbB 4))) (gs.any (onB u (ZbB 5))):=rfl
 rw [e,Ztq _ _ _ _ _ _ k hk]
 have:k=0∨k=1∨k=2∨k=3∨k=4∨k=5:=by omega
 rcases this with rfl | rfl | rfl | rfl | rfl | rfl <;> rfl
theorem ZuB {gs:List DGrant} {u:Str} {b:Int} : gs.any (onB u b)=((gs.any fun g=>decide (g.user=u) && Zje g.rights b) || (gs.any fun g=>decide (g.user=anyone) && Zje g.rights b)):=by
 induction gs with
 | nil=>rfl
 | cons g gs ih=>
  simp only [List.any_cons,ih,onB,Zje]
  cases decide (g.user=u) <;> cases decide (g.user=anyone) <;> cases decide (Int.tmod (Int.tdiv g.rights b) 2=1) <;> simp
theorem ZnI {k:Nat} (hk:k<6):Zje 0 (ZbB k)=false:=by
 have:k=0∨k=1∨k=2∨k=3∨k=4∨k=5:=by omega
 rcases this with rfl | rfl | rfl | rfl | rfl | rfl <;> rfl
theorem Zqk {gs:List DGrant} {u:Str} (h:ZbN gs=true) {k:Nat} (hk:k<6):(!decide (Zw0 (orI ((mget (Zfb gs) u).getD 0) ((mget (Zfb gs) anyone).getD 0)) (ZbB k)=0))=Zje (ZbJ gs u) (ZbB k)∧0≤orI ((mget (Zfb gs) u).getD 0) ((mget (Zfb gs) anyone).getD 0)∧orI ((mget (Zfb gs) u).getD 0) ((mget (Zfb gs) anyone).getD 0)≤63∧(!decide (Int.tmod (orI ((mget (Zfb gs) u).getD 0) ((mget (Zfb gs) anyone).getD 0)) 2=0))=Zje (ZbJ gs u) 1∧(!decide (Int.tmod (Int.tdiv (orI ((mget (Zfb gs) u).getD 0) ((mget (Zfb gs) anyone).getD 0)) 2) 2=0))=Zje (ZbJ gs u) 2:=by
 obtain ⟨a0,a1⟩:=ZmY u (Zfl h)
 obtain ⟨b0,b1⟩:=ZmY anyone (Zfl h)
 have hs:=ZpA h
 have e1 :∀k,k<6→Zje (ZbJ gs u) (ZbB k)=(Zje ((mget (Zfb gs) u).getD 0) (ZbB k) || Zje ((mget (Zfb gs) anyone).getD 0) (ZbB k)):=fun k hk=>by
  rw [ZoM hk,ZuB,Zkn u _ (ZnI hk) hs,Zkn anyone _ (ZnI hk) hs]
 generalize (mget (Zfb gs) u).getD 0=a at *
 generalize (mget (Zfb gs) anyone).getD 0=b at *
 obtain ⟨n,rfl⟩:=Int.eq_ofNat_of_zero_le a0
 obtain ⟨m,rfl⟩:=Int.eq_ofNat_of_zero_le b0
 obtain ⟨t1,t2,t3,t4,t5⟩:=Zwk n (by omega) m (by omega)
 have h0:=e1 0 (by omega)
 exact ⟨by rw [t3 k hk,e1 k hk],t1,t2,by rw [t4];exact h0.symm,by rw [t5];exact (e1 1 (by omega)).symm⟩
theorem Zla {x:DHost} {u:Str} (h:Zz x=true) (hu:0≤ZdO x.users u):Zal u=true:=by
 obtain ⟨w,hw,rfl⟩:=Zcn.1 hu
 have:=Zhh (Zhq h) hw
 simp only [ZcB,Bool.and_eq_true] at this
 exact this.1.1.1
theorem Ztz {x:DHost} {f:DFolder} {u:Str} (h:Zz x=true) (hf:f∈x.folders) (hu:0≤ZdO x.users u):ZkV f.grants f.owner u=if u=f.owner then 63 else orI ((mget (Zfb f.grants) u).getD 0) ((mget (Zfb f.grants) anyone).getD 0):=by
 have hi:=(Za8.1 h).2.1.1 f hf
 simp only [Z2,Bool.and_eq_true,decide_eq_true_eq] at hi
 rw [ZkV,if_neg (fun hc=>hc ⟨hi.1.2,Zla h hi.1.1.1,Zla h hu⟩)]
theorem Zw4 {x:DHost} {f:DFolder} (h:Zz x=true) (hf:f∈x.folders):ZbN f.grants=true:=by
 have hi:=(Za8.1 h).2.1.1 f hf
 simp only [Z2,Bool.and_eq_true] at hi
 exact hi.1.2
theorem ZqE {x:DHost} {f:DFolder} {u:Str} {k:Nat} (h:Zz x=true) (hf:f∈x.folders) (hk:k<6):ZqF x.users f u (ZbB k)=(decide (0≤ZdO x.users u) && Zmd f u (ZbB k)):=by
 rw [ZqF,Znf h]
 by_cases hu:0≤ZdO x.users u
 ·rw [Ztz h hf hu,Zmd]
  obtain ⟨r1,r2,r3,r4,r5⟩:=Zqk (gs:=f.grants) (u:=u) (Zw4 h hf) hk
  by_cases ho:u=f.owner
  ·rw [if_pos ho,decide_eq_true ho,Zuz k hk];simp
  ·rw [if_neg ho,decide_eq_false ho,r1,decide_eq_true r2];simp [Zje]
 ·simp [hu]
end Go.BL
namespace Go.BL
open Go
end Go.BL
namespace Go.BL
open Go
end Go.BL
namespace Go.BL
open Go
def Zd3 (us:List DUser) (fs:List DFolder) (u o n:Str) (r:Int):Nat:=
 if ZaJ (inF o n) fs<0 then 1 else match fs[(ZaJ (inF o n) fs).toNat]? with
  | none=>1
  | some f=>if ZqF us f u 1=false then 1 else if ZqF us f u r=false then 2 else 0
theorem Zrz {us:List DUser} {fs:List DFolder} {u o n:Str} {r:Int} (h:ZaJ (inF o n) fs<0):Zd3 us fs u o n r=1:=by rw [Zd3,if_pos h]
theorem ZkO {us:List DUser} {fs:List DFolder} {u o n:Str} {r:Int} {f:DFolder} (h : ¬ ZaJ (inF o n) fs<0) (hf:fs[(ZaJ (inF o n) fs).toNat]? = some f):Zd3 us fs u o n r=if ZqF us f u 1=false then 1 else if ZqF us f u r=false then 2 else 0:=by
 rw [Zd3,if_neg h,hf]
theorem Znw (us:List DUser) (fs:List DFolder) (u o n:Str) (r:Int):Zd3 us fs u o n r<3:=by
 unfold Zd3
 split
 ·omega
 ·split
  ·omega
  ·split
   ·omega
   ·split <;> omega
theorem Zvn {x:DHost} {u o n:Str} {k:Nat} (h:Zz x=true) (hk:k<6):((Zd3 x.users x.folders u o n (ZbB k):Nat):Int)=Zgz x.users x.folders u (ZaJ (inF o n) x.folders) (ZbB k):=by
 by_cases h0:ZaJ (inF o n) x.folders<0
 ·rw [Zrz h0,ZkP (.inr h0)];rfl
 ·have hl:=Zdb (inF o n) x.folders
  obtain ⟨f,hf⟩:=Zey (xs:=x.folders) (i:=ZaJ (inF o n) x.folders) (by omega) (by omega)
  have hm:=List.mem_of_getElem? hf
  rw [ZkO h0 hf]
  have e1:ZqF x.users f u 1=(decide (0≤ZdO x.users u) && Zmd f u 1):=ZqE (k:=0) h hm (by omega)
  rw [e1,ZqE h hm hk]
  by_cases hu:ZdO x.users u<0
  ·rw [ZkP (.inl hu),decide_eq_false (by omega)];rfl
  ·rw [ZrA (by omega) hf,decide_eq_true (by omega)]
   cases Zmd f u 1 <;> cases Zmd f u (ZbB k) <;> rfl
def Zls (x:DHost) (s:DSess) (o n:Str):DSess × Int:=
 if Zz x=true then (if Zgz x.users x.folders s.user (ZaJ (inF o n) x.folders) 2=0 then (⟨s.user,o,n⟩,0) else (s,Zgz x.users x.folders s.user (ZaJ (inF o n) x.folders) 2)) else (⟨[],[],[]⟩,5)
theorem Zkb {x:DHost} {s:DSess} {o n:Str} (h:Zz x=false):Zls x s o n=(⟨[],[],[]⟩,5):=by rw [Zls,if_neg (by rw [h];exact Bool.false_ne_true)]
theorem ZmM {x:DHost} {s:DSess} {o n:Str} (h:Zz x=true) (hc:Zgz x.users x.folders s.user (ZaJ (inF o n) x.folders) 2≠0):Zls x s o n=(s,Zgz x.users x.folders s.user (ZaJ (inF o n) x.folders) 2):=by rw [Zls,if_pos h,if_neg hc]
theorem Zka {x:DHost} {s:DSess} {o n:Str} (h:Zz x=true) (hc:Zgz x.users x.folders s.user (ZaJ (inF o n) x.folders) 2=0):Zls x s o n=(⟨s.user,o,n⟩,0):=by rw [Zls,if_pos h,if_pos hc]
theorem Zop {x:DHost} {u o n:Str} (h:Zz x=true):((Zd3 x.users x.folders u o n 2:Nat):Int)=Zgz x.users x.folders u (ZaJ (inF o n) x.folders) 2:=Zvn (k:=1) h (by omega)
end Go.BL
namespace Go.BL
open Go
end Go.BL
namespace Go.BL
open Go
end Go.BL
namespace Go.BL
open Go
end Go.BL
namespace Go.BL
open Go
end Go.BL
namespace Go.BL
open Go
end Go.BL
namespace Go.BL
open Go
end Go.BL
namespace Go.BL
open Go
end Go.BL
namespace Go.BL
open Go
end Go.BL
namespace Go.BL
open Go
def usN (x:DHost) (u o n:Str) (r:Int) (k:Nat):Nat:=if Zd3 x.users x.folders u o n 2=0 then (if Zd3 x.users x.folders u o n r=0 then k else Zd3 x.users x.folders u o n r) else Zd3 x.users x.folders u o n 2
def usX {α:Type} (x:DHost) (u o n:Str) (r:Int) (A B:α):α:=if Zd3 x.users x.folders u o n 2=0∧Zd3 x.users x.folders u o n r=0 then A else B
theorem Zv4 {x:DHost} {u o n:Str} {r:Int} {k:Nat} (hk:k<5):usN x u o n r k<5:=by
 unfold usN
 have h2:=Znw x.users x.folders u o n 2
 have hr:=Znw x.users x.folders u o n r
 split <;> (try split) <;> omega
theorem ZfD {x:DHost} {u o n:Str} {r:Int} (h:Zd3 x.users x.folders u o n 2≠0) (k:Nat):usN x u o n r k=Zd3 x.users x.folders u o n 2∧∀{α:Type} (A B:α),usX x u o n r A B=B:=⟨by rw [usN,if_neg h],fun A B=>by rw [usX,if_neg (fun hh=>h hh.1)]⟩
theorem Zv3 {x:DHost} {u o n:Str} {r:Int} (h2:Zd3 x.users x.folders u o n 2=0) (h:Zd3 x.users x.folders u o n r≠0) (k:Nat):usN x u o n r k=Zd3 x.users x.folders u o n r∧∀{α:Type} (A B:α),usX x u o n r A B=B:=⟨by rw [usN,if_pos h2,if_neg h],fun A B=>by rw [usX,if_neg (fun hh=>h hh.2)]⟩
theorem Zv2 {x:DHost} {u o n:Str} {r:Int} (h2:Zd3 x.users x.folders u o n 2=0) (h:Zd3 x.users x.folders u o n r=0) (k:Nat):usN x u o n r k=k∧∀{α:Type} (A B:α),usX x u o n r A B=A:=⟨by rw [usN,if_pos h2,if_pos h],fun A B=>by rw [usX,if_pos ⟨h2,h⟩]⟩
theorem Zsm {x:DHost} {s:DSess} {o n:Str} (h0:(Zls x s o n).2≠0) (h5:(Zls x s o n).2≠5):Zz x=true∧Zd3 x.users x.folders s.user o n 2≠0∧Zls x s o n=(s,((Zd3 x.users x.folders s.user o n 2:Nat):Int)):=by
 cases hx:Zz x with
 | false=>rw [Zkb hx] at h5;exact absurd rfl h5
 | true=>
  have e:=Zop (u:=s.user) (o:=o) (n:=n) hx
  by_cases hc:Zgz x.users x.folders s.user (ZaJ (inF o n) x.folders) 2=0
  ·rw [Zka hx hc] at h0;exact absurd rfl h0
  ·exact ⟨rfl,by omega,by rw [ZmM hx hc,e]⟩
end Go.BL
namespace Go.BL
open Go
end Go.BL
namespace Go.BL
section
variable {P:PJ} {n:Nat} {ops:Array Oper} {i:Nat} {K:Zas} {S:Env} {D:List Deferred} {B:Kn} {L:List Cells}
variable {dst:Option Tmp} {ty:TypeId} {pos:String} {after:Array Edge} {g:Option (Nat × Bool)}
end
end Go.BL
