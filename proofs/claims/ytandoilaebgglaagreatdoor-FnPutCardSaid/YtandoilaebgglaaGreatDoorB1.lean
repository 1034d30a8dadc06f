/-
  THE WALK'S LOGIC: owned cells and known cells, goroutines started and awaited, calls, loops, data, and plain laws on lists: no program in sight.
-/
import Derived.Test.YtandoilaebgglaaGreatDoorB0
set_option linter.unusedVariables false
set_option linter.unusedSimpArgs false
set_option linter.unusedSectionVars false
namespace Go.BL
open Go.Conc (G)
def Za7 (Tg Tm:TypeId):ZjD DFolder:=fun row x ins=>∃q c q' c' i1 i2,row=[str x.owner,str x.name,.slice q x.grants.length c,.int .i64 x.next,.slice q' x.mail.length c']∧ins=i1 ++ i2∧ZZ Kn.none i1 q c Tg 2 ZU x.grants∧ZZ Kn.none i2 q' c' Tm 3 ZM x.mail∧
 x.owner.length≤2000000∧x.name.length≤2000000∧x.grants.length≤2000000∧x.mail.length≤2000000
theorem Za7.known {Tg Tm:TypeId} {B:Kn} {row:List Value} {x:DFolder} {ins:Cells} (h:Za7 Tg Tm row x ins) (hm :∀q,q∈ins→B.mem q.1=some q.2):Ze B row x:=by
 obtain ⟨q,c,q',c',i1,i2,h1,rfl,h2,h3,h4,h5,h6,h7⟩:=h
 exact ⟨q,c,q',c',h1,⟨h2.rowsF ZU.any fun p hp=>hm p (List.mem_append.2 (.inl hp)),h2.cap,h6⟩,⟨h3.rowsF ZM.any fun p hp=>hm p (List.mem_append.2 (.inr hp)),h3.cap,h7⟩,h4,h5⟩
theorem All3.zeros {α:Type} {R:ZjD α} {row:List Value} {d:α} (h:R row d []) :∀m,All3 R (List.replicate m row) (List.replicate m d) []
 | 0=>.nil
 | m+1=>by rw [List.replicate_succ,List.replicate_succ];exact All3.cons (ins:=[]) h (All3.zeros h m)
theorem ZcO.zeros {α:Type} {b:Nat} {T:TypeId} {R:ZjD α} {zs:List Value} {d:α} {m c w:Nat} (hw:zs.length=w) (hR:R zs d []) (hmc:m≤c):ZcO (Zas b (zrow zs c) T) (some ⟨b,0,Option.none⟩) c T w R (List.replicate m d):=by
 refine ⟨List.replicate m zs,_,[],All3.zeros hR m,fun r hr=>by rw [(List.mem_replicate.1 hr).2];exact hw,by rw [List.append_nil],?_,.inr ⟨b,_,rfl,by rw [Zcy,hw],?_,rfl,by rw [List.length_replicate];exact hmc⟩⟩
 ·rw [List.length_replicate]
  exact (Zcy (z:=zs) (c:=m)).trans (by rw [hw])
 ·rw [List.length_replicate]
  have e:zrow zs c=zrow zs m ++ zrow zs (c - m):=by
   simp only [zrow,← List.flatten_append,List.replicate_append_replicate]
   rw [show m+(c - m)=c from by omega]
  rw [e,List.take_append_of_le_length (by rw [Zcy,hw];exact Nat.le_refl _),List.take_of_length_le (by rw [Zcy,hw];exact Nat.le_refl _)]
  rfl
section
variable {P:PJ} {n:Nat} {ops:Array Oper} {i:Nat} {K:Zbk} {S:Env} {D:List Deferred} {B:Kn} {L:List Cells} {Q:Exit→Zao}
variable {dst:Option Tmp} {ty:TypeId} {pos:String} {after:Array Edge} {g:Option (Nat × Bool)}
theorem ZuK {o:Oper} {L':List Cells} {K':Zbk} (hp:L.flatten.Perm L'.flatten) (h:opX P n ops i o K' S D B L') (hk :∀v D' B' L₁,B.le B'→K' v D' B' L₁→∃L₂ gl,L₁.flatten.Perm (L₂.flatten ++ gl)∧K v D' B' L₂):opX P n ops i o K S D B L:=⟨h.1,fun C todo k T ho hn hT hA=>
 C.X.perm (hp.append_right _) (h.2 C todo k T ho hn hT fun v D' B' L₁ hle hK=>by
  obtain ⟨L₂,gl,hp2,hK2⟩:=hk v D' B' L₁ hle hK
  refine C.X.drop (r:=L₂.flatten ++ C.F) (gl:=gl) ((hp2.append_right _).trans ?_) (hA v D' B' L₂ hle hK2)
  rw [List.append_assoc,List.append_assoc]
  exact List.Perm.append_left _ List.perm_append_comm)⟩
end
section
variable {P:PJ} {n:Nat} {ops:Array Oper} {i:Nat} {K:Zbk} {S:Env} {D:List Deferred} {B BV:Kn} {L:List Cells}
variable {dst:Option Tmp} {ty:TypeId} {pos:String} {after:Array Edge} {g:Option (Nat × Bool)}
end
theorem Zu.borrowL {P:PJ} {f:FuncId} {args:List Value} {B:Kn} {ls Ls:List Cells} {Post:Value→Kn→List Cells→Prop}
  (h:(∀p,p∈ls.flatten→(B.add ls.flatten).mem p.1=some p.2)→Zu P f args (B.add ls.flatten) Ls Post) :
  Zu P f args B (ls ++ Ls) (fun v B' Ls'=>∃B₂ Ls₂,Ls'=ls ++ Ls₂∧B'=B₂.minus ls.flatten∧(B.add ls.flatten).le B₂∧(∀p,p∈ls.flatten→(B.add ls.flatten).mem p.1=some p.2)∧(B.add ls.flatten).minus ls.flatten=B∧Post v B₂ Ls₂):=fun X kind c cs F hk hA=>by
 have key:=Zu.borrow (l:=ls.flatten) (Ls:=Ls) h X kind c cs F hk fun v B' Ls' hle ⟨B₂,Ls₂,h1,h2,h3,h4,h5,h6⟩=>by
  have:=hA v B' (ls ++ Ls₂) hle ⟨B₂,Ls₂,rfl,h2,h3,h4,h5,h6⟩
  subst h1
  rw [List.flatten_cons]
  rwa [List.flatten_append] at this
 rw [List.flatten_cons] at key
 rwa [List.flatten_append]
section
variable {P:PJ} {C:Cx P} {k:List Item} {n:Nat} {ops:Array Oper} {i:Nat} {S:Env} {D:List Deferred} {B BV:Kn} {L:List Cells} {Q:Exit→Zao}
variable {α:Type} {xs:List α} {l:Cells} {p:Option Addr} {cp:Nat} {T:TypeId} {w:Nat}
theorem Zt4 {R:ZjD α} {R':Rel α} {o:Oper} {K:Zao} (j:Nat) (hj:L[j]? = some l) (hv:ZcO l p cp T w R xs) (hR :∀{B:Kn} {row:List Value} {x:α} {ins:Cells},R row x ins→(∀q,q∈ins→B.mem q.1=some q.2)→R' B row x) (hM:Mono R') (hl:xs.length≤2000000)
  (h :∀B',B.le B'→SlK B' p cp w R' xs→opW P n ops i o K S D B' (L.set j [])):opW P n ops i o K S D B L:=fun C todo k T ho hn hT hA'=>by
 obtain ⟨r,h1,h2⟩:=Zac C.F [] hj
 exact C.X.publish rfl h1 fun B' hle hm=>C.X.perm (by simpa using h2.symm) (h B' hle (hv.known (fun _ _ _ a b=>hR a b) hM hm hl) C todo k T ho hn hT fun S' D' B'' L' T' hle' hq=>hA' S' D' B'' L' T' (hle.trans hle') hq)
end
end Go.BL
namespace Go.BL
open Go.ChangeShapes Go.WideShapes Go.ChangeAt Go.RowKit
section
variable {H:Type} (enc:TypeId × Value→H) (P:Program) (W:World)
end
section
variable {H:Type} {enc:TypeId × Value→H} {P:Program} {W:World}
end
end Go.BL
namespace Go.BL
section
variable {P:PJ} {n:Nat} {ops:Array Oper} {i:Nat} {K:Zbk} {S:Env} {D:List Deferred} {B:Kn} {L:List Cells}
variable {dst:Option Tmp} {ty:TypeId} {pos:String} {after:Array Edge} {g:Option (Nat × Bool)}
end
end Go.BL
namespace Go.BL
theorem All3.at {α:Type} {R:ZjD α} {rows:List (List Value)} {xs:List α} {s:Cells} (h:All3 R rows xs s) :∀{i:Nat} {x:α},xs[i]? = some x→∃row li lr,rows[i]? = some row∧R row x li∧s.Perm (li ++ lr)∧∀x' li',R row x' li'→∃s',All3 R rows (xs.set i x') s'∧s'.Perm (li' ++ lr):=by
 induction h with
 | nil=>intro i x hx;simp at hx
 | @cons row0 x0 ins0 rest rows xs h1 h2 ih=>
  intro i x hx
  cases i with
  | zero=>
   simp only [List.getElem?_cons_zero,Option.some.injEq] at hx
   subst hx
   exact ⟨row0,ins0,rest,rfl,h1,.refl _,fun x' li' hr=>⟨li' ++ rest,.cons hr h2,.refl _⟩⟩
  | succ i=>
   obtain ⟨row,li,lr,e1,e2,e3,e4⟩:=ih (by simpa using hx)
   refine ⟨row,li,ins0 ++ lr,by simpa using e1,e2,?_,fun x' li' hr=>?_⟩
   ·exact (List.Perm.append_left ins0 e3).trans (by rw [← List.append_assoc,← List.append_assoc];exact List.Perm.append_right lr List.perm_append_comm)
   ·obtain ⟨s',f1,f2⟩:=e4 x' li' hr
    exact ⟨ins0 ++ s',.cons h1 f1,(List.Perm.append_left ins0 f2).trans (by rw [← List.append_assoc,← List.append_assoc];exact List.Perm.append_right lr List.perm_append_comm)⟩
theorem ZcO.open1 {α:Type} {l:Cells} {p:Option Addr} {c:Nat} {T:TypeId} {w:Nat} {R:ZjD α} {xs:List α} (h:ZcO l p c T w R xs) {i:Nat} {x:α} (hx:xs[i]? = some x) :
∃b arr row li lr,p=some ⟨b,0,none⟩∧R row x li∧row.length=w∧l.Perm (li ++ (Zas b arr T ++ lr))∧(∀(j:Nat) (u:Value),row[j]? = some u→arr[i*w+j]? = some u)∧
∀x' li',R row x' li'→ZcO (li' ++ (Zas b arr T ++ lr)) p c T w R (xs.set i x'):=by
 obtain ⟨rows,blk,ins,h1,h2,h3,hvl⟩:=h
 have hlt:=(List.getElem?_eq_some_iff.1 hx).1
 obtain ⟨hl0,⟨_,h0,_,_⟩ | ⟨b,arr,rfl,ha,ht,rfl,hm⟩⟩:=hvl
 ·omega
 ·obtain ⟨row,li,lr,e1,e2,e3,e4⟩:=h1.at hx
  refine ⟨b,arr,row,li,lr,rfl,e2,h2 row (List.mem_of_getElem? e1),?_,fun j u hj=>?_,fun x' li' hr=>?_⟩
  ·refine h3.trans ((List.Perm.append_left _ e3).trans ?_)
   rw [← List.append_assoc,← List.append_assoc];exact List.Perm.append_right lr List.perm_append_comm
  ·have hu:=Zgf h2 e1 hj
   rw [← ht,List.getElem?_take] at hu
   split at hu
   ·exact hu
   ·cases hu
  ·obtain ⟨s',f1,f2⟩:=e4 x' li' hr
   refine ⟨rows,Zas b arr T,s',f1,h2,?_,by rw [List.length_set];exact hl0,.inr ⟨b,arr,rfl,ha,by rw [List.length_set];exact ht,rfl,by rw [List.length_set];exact hm⟩⟩
   refine List.Perm.trans ?_ (List.Perm.append_left _ f2.symm)
   rw [← List.append_assoc,← List.append_assoc];exact List.Perm.append_right lr List.perm_append_comm
section
variable {P:PJ} {n:Nat} {Q:Exit→Zao} {S:Env} {D:List Deferred} {B:Kn} {L:List Cells} {c:Code}
theorem ZtU {L':List Cells} (hp:L.flatten.Perm L'.flatten) (h:wpS P n c Q S D B L'):wpS P n c Q S D B L:=fun C k T hn hT hA=>by
 refine C.X.drop (r:=L'.flatten ++ C.F) (gl:=[]) ?_ (h C k T hn hT hA)
 rw [List.append_nil];exact hp.append_right C.F
theorem Zqc {a b:Cells} (j m:Nat) (hj:L[j]? = some a) (hm:L[m]? = some b) (hne:j≠m) (h:wpS P n c Q S D B ((L.set j (b ++ a)).set m [])):wpS P n c Q S D B L:=by
 refine ZtU ?_ h
 obtain ⟨r,h1,h2⟩:=Zac [] (b ++ a) hj
 have hm':(L.set j (b ++ a))[m]? = some b:=by rw [List.getElem?_set_ne hne];exact hm
 obtain ⟨r2,h3,h4⟩:=Zac [] [] hm'
 rw [List.append_nil] at h1 h2 h3 h4
 rw [List.nil_append] at h4
 have h5:(b ++ (a ++ r)).Perm (b ++ r2):=by rw [← List.append_assoc];exact h2.symm.trans h3
 exact h1.trans (((List.perm_append_left_iff b).1 h5).trans h4.symm)
end
end Go.BL
namespace Go.BL
section
variable {P:PJ} {n:Nat} {ops:Array Oper} {i:Nat} {K:Zbk} {S:Env} {D:List Deferred} {B:Kn} {L:List Cells}
variable {dst:Option Tmp} {ty:TypeId} {pos:String} {after:Array Edge} {g:Option (Nat × Bool)}
end
end Go.BL
namespace Go.BL
open Go.Conc (G)
section
variable {P:PJ} {n:Nat} {ops:Array Oper} {i:Nat} {K:Zbk} {S:Env} {D:List Deferred} {B:Kn} {L:List Cells}
variable {dst:Option Tmp} {ty:TypeId} {pos:String} {after:Array Edge} {g:Option (Nat × Bool)}
theorem Zus {α:Type} {R:ZjD α} {xs:List α} (z:α) {t u e:TypeId} {x y:Operand} {sz by_ m c c2:Nat} {p q:Option Addr} {row:List Value} {l:Cells} {inss r:List Cells} (j:Nat) (ks:List Nat) (hpk:Za0 L (j :: ks)=some (l :: inss,r)) (hnd:Ze7 (j :: ks)=true) (hv:ZcO l p c e sz R xs) (hm:m=xs.length) (hg:Zm ops S g=some true) (hd:ZB n dst=true)
  (he:ZcK P t e sz by_=true) (hu:(match P.underlying u with | some (.slice _)=>true | _=>false)=true) (hx:ev S x=some (.slice p m c)) (hy:ev S y=some (.slice q 1 c2)) (hs:ZaN B L.flatten q row) (hone:row.all ZhS=true) (hrl:row.length=sz) (ins0:Cells) (hi0:inss.flatten=ins0) (hr:R row z ins0) (hb1:(xs.length+1)*by_≤140737488355328)
  (h :∀l' p' c',ZcO l' p' c' e sz R (xs ++ [z])→K (.slice p' (xs ++ [z]).length c') D B (Zda r (j :: ks) (l' :: inss.map fun _=>[]))):opX P n ops i ⟨dst,.call ⟨.builtin .append,#[x,y],#[t,u]⟩,ty,pos,after,g⟩ K S D B L:=by
 subst hm
 subst hi0
 obtain ⟨rows,blk,inn,h1,h2,h3,h4⟩:=hv
 have hpp:=ZaE (j :: ks) L (l :: inss) r hpk
 have p1:L.flatten.Perm (blk ++ (inn ++ (inss.flatten ++ r.flatten))):=by
  refine hpp.trans ?_
  simp only [List.flatten_cons,List.append_assoc]
  refine (h3.append_right _).trans ?_
  rw [List.append_assoc]
 refine Zoj (L':=[blk,inn ++ (inss.flatten ++ r.flatten)]) (K':=fun v D' B' L₁=>∃blk' p' c',L₁=[blk',inn ++ (inss.flatten ++ r.flatten)]∧v = .slice p' (xs.length+1) c'∧D'=D∧B'=B∧Zh6 blk' p' (xs.length+1) c' e sz (rows.flatten ++ row)) ?_ ?_ ?_
 ·simpa using p1
 ·refine ZeE 0 rfl h4 hg hd he hu hx hy ?_ (by rw [hrl,Nat.one_mul]) hone hb1 fun l' p' c' hv'=>⟨l',p',c',rfl,rfl,rfl,rfl,hv'⟩
  cases q with
  | none=>exact hs
  | some a=>
   intro jj v hjj
   exact (hs jj v hjj).perm (by simpa using p1)
 ·rintro v D' B' L₁ hle ⟨blk',p',c',rfl,rfl,rfl,rfl,hv'⟩
  have hnew:ZcO (blk' ++ (inn ++ inss.flatten)) p' c' e sz R (xs ++ [z]):=⟨rows ++ [row],blk',inn ++ inss.flatten,h1.snoc hr,fun r' hr'=>by
   rcases List.mem_append.1 hr' with hr' | hr'
   ·exact h2 r' hr'
   ·rw [List.mem_singleton.1 hr'];exact hrl,.refl _,by rw [List.length_append,List.flatten_append];simpa using hv'⟩
  refine ⟨_,?_,by have:=h _ _ _ hnew;rwa [List.length_append] at this⟩
  have hq:=ZcS ((blk' ++ (inn ++ inss.flatten)) :: inss.map fun _=>[]) r (j :: ks) (ZcU hnd) (fun jj hj=>ZcT (j :: ks) L (l :: inss) r hpk jj (.inr hj))
  have hnil:((inss.map fun _=>([]:Cells))).flatten=[]:=by
   clear hpk hpp h hnew hs h3 p1 hq
   induction inss with
   | nil=>rfl
   | cons a as ih=>simp
  rw [List.flatten_cons,hnil,List.append_nil] at hq
  refine List.Perm.trans ?_ hq
  simp only [List.flatten_cons,List.flatten_nil,List.append_nil,List.append_assoc]
  exact .refl _
theorem ZaH.borrowL {f:FuncId} {args:List Value} {ls:List Cells} {v:Value} (h:(∀p,p∈ls.flatten→(B.add ls.flatten).mem p.1=some p.2)→ZaH P f args (B.add ls.flatten) v):Zu P f args B ls (fun v' B' Ls=>v'=v∧B'=B∧Ls=ls):=by
 have:=(Zu.borrowL (P:=P) (Ls:=[]) h).mono (Post':=fun v' B' Ls=>v'=v∧B'=B∧Ls=ls) fun v' B' Ls' _ ⟨B₂,Ls₂,a1,a2,_,_,a3,a4,a5,a6⟩=>by subst a5;subst a6;exact ⟨a4,a2.trans a3,by rw [a1,List.append_nil]⟩
 rwa [List.append_nil] at this
theorem Zib {f:FuncId} {xs:List Operand} {vs:List Value} {ats:Array TypeId} {v:Value} {ls r:List Cells} (js:List Nat) (hp:Za0 L js=some (ls,r)) (hput:Zda r js ls=L) (hn:Ze7 js=true) (hg:Zm ops S g=some true) (hd:ZB n dst=true) (he:enters P f=true) (ha:evs S xs=some vs)
  (hc:Zu P f vs B ls (fun v' B' Ls=>v'=v∧B'=B∧Ls=ls)) (h:K v D B L):opX P n ops i ⟨dst,.call ⟨.value (.func f),xs.toArray,ats⟩,ty,pos,after,g⟩ K S D B L:=
 ZaA js hp hn hg hd he ha hc fun v' B' Ls' hle ⟨h1,h2,h3⟩=>by subst h1;subst h2;subst h3;rw [hput];exact h
end
theorem Zq3 {B:Kn} {ls:List Cells} {l:Cells} (hm :∀p,p∈ls.flatten→B.mem p.1=some p.2) (k:Nat) (hk:ls[k]? = some l) :∀q,q∈l→B.mem q.1=some q.2:=fun q hq=>hm q (List.mem_flatten.2 ⟨l,List.mem_of_getElem? hk,hq⟩)
theorem ZZ.lendK {α:Type} {B BV:Kn} {l:Cells} {ls:List Cells} {p:Option Addr} {c:Nat} {T:TypeId} {w:Nat} {R:Rel α} {xs:List α} (h:ZZ BV l p c T w R xs) (hR:Zsi R) (k:Nat) (hk:ls[k]? = some l) (hm :∀q,q∈ls.flatten→(B.add ls.flatten).mem q.1=some q.2) (hl:xs.length≤2000000):SlK (B.add ls.flatten) p c w R xs:=⟨h.rowsF hR (Zq3 hm k hk),h.cap,hl⟩
theorem ZcO.lendK {α:Type} {B:Kn} {l:Cells} {ls:List Cells} {p:Option Addr} {c:Nat} {T:TypeId} {w:Nat} {R:ZjD α} {R':Rel α} {xs:List α} (h:ZcO l p c T w R xs) (hR :∀{B:Kn} {row:List Value} {x:α} {ins:Cells},R row x ins→(∀q,q∈ins→B.mem q.1=some q.2)→R' B row x) (hM:Mono R') (k:Nat) (hk:ls[k]? = some l) (hm :∀q,q∈ls.flatten→(B.add ls.flatten).mem q.1=some q.2) (hl:xs.length≤2000000):SlK (B.add ls.flatten) p c w R' xs:=h.known (fun _ _ _ a b=>hR a b) hM (Zq3 hm k hk) hl
theorem Zx2 {l a b lr:Cells} (h:l.Perm (a ++ b ++ lr)):l.Perm (lr ++ ([a,b]:List Cells).flatten):=by
 simpa using h.trans List.perm_append_comm
theorem Zwd {P:PJ} {n:Nat} {Q:Exit→Zao} {S:Env} {D:List Deferred} {B:Kn} {L:List Cells} {c:Code} (es:List Cells) (he:es.flatten=[]) (h:wpS P n c Q S D B (L ++ es)):wpS P n c Q S D B L:=
 ZtU (by rw [List.flatten_append,he,List.append_nil]) h
end Go.BL
namespace Go.BL
open Go.Conc (G)
def errv (tE:TypeId) (a:Nat→Addr):Nat→Value
 | 0=>.nilIface
 | k+1=>.iface tE (.pointer (some (a k)))
structure ErrsB (tE:TypeId) (gs:List Nat) (B:Kn) (a:Nat→Addr):Prop where
 row :∀k,k<4→ZaQ B (gs.getD k 0) 0 [.iface tE (.pointer (some (a k)))]
 cell :∀k,k<4→∃cs T,B.mem (a k).block=some (.cells cs T (0,0))
 ne :∀i j,i<4→j<4→i≠j→a i≠a j
theorem ErrsB.mono {tE:TypeId} {gs:List Nat} {B B':Kn} {a:Nat→Addr} (h:ErrsB tE gs B a) (hle:B.le B'):ErrsB tE gs B' a:=
 ⟨fun k hk=>(h.row k hk).mono hle,fun k hk=>let ⟨cs,T,e⟩:=h.cell k hk;⟨cs,T,hle _ _ e⟩,h.ne⟩
section
variable {P:Program}
theorem Ztf {a:Addr} {B:Kn} {L:Cells} {Q:Bool→Kn→Cells→Prop} (q:Q true B L):hb P (sameAddr a a) Q B L:=by
 have e:sameAddr a a=pure true:=by simp [sameAddr]
 rw [e];exact q
theorem Zht {x:Addr} {cx:Array Value} {tx:TypeId} {B:Kn} {L:Cells} {Q:Bool→Kn→Cells→Prop} (hx:Zkx B L x.block (.cells cx tx (0,0))) (q:Q false B L):hb P (stringish x) Q B L:=by
 unfold stringish
 rw [Zk]
 refine ⟨_,hx,?_⟩
 simp only [Zb2,Zr,ZbB,Nat.not_lt_zero,decide_false,Bool.and_false,Bool.false_eq_true,if_false]
 rw [Zk]
 refine ⟨_,hx,?_⟩
 simp only [ZkE,Zr,ZbB]
 refine ⟨_,hx,?_⟩
 simp only [Zb2,Nat.not_lt_zero,decide_false,Bool.and_false]
 exact q
theorem Zmg {x:Addr} {cx:Array Value} {tx:TypeId} {B:Kn} {L:Cells} {Q:Unit→Kn→Cells→Prop} (hx:Zkx B L x.block (.cells cx tx (0,0))) (q:Q () B L):hb P (noView x) Q B L:=by
 unfold noView viewAt
 simp only [Zk]
 refine ⟨_,hx,?_⟩
 simp only [ZkE,Option.isSome_some,if_true,Zr,ZbB]
 exact q
theorem Ztg {a b:Addr} {ca cb:Array Value} {ta tb:TypeId} {B:Kn} {L:Cells} {Q:Bool→Kn→Cells→Prop} (hne:a≠b) (ha:Zkx B L a.block (.cells ca ta (0,0))) (hb':Zkx B L b.block (.cells cb tb (0,0))) (q:Q false B L):hb P (sameAddr a b) Q B L:=by
 unfold sameAddr
 by_cases h:a.block=b.block
 ·have e1:(a.block == b.block)=true:=by simpa using h
  have e2:(a == b)=false:=by simpa using hne
  simp only [e1,if_true,e2];exact q
 ·have e1:(a.block == b.block)=false:=by simpa using h
  simp only [e1,Bool.false_eq_true,if_false,Zk]
  refine ⟨_,ha,?_⟩
  have f1:Zb2 a.off (.cells ca ta (0,0))=false:=by simp [Zb2]
  simp only [f1,Zr,ZbB,Bool.false_eq_true,if_false,Bool.false_and,Zk]
  refine ⟨_,hb',?_⟩
  simp only [Zr,ZbB,Zk]
  refine Zmg ha ?_
  rw [Zk]
  refine Zmg hb' ?_
  unfold mayBeOne
  simp only [Zk]
  refine Zht ha ?_
  rw [Zk]
  refine Zht hb' ?_
  simp only [Zk]
  refine ⟨_,ha,?_⟩
  simp only [Zr,ZbB,Zk]
  refine ⟨_,hb',?_⟩
  simp only [Bool.false_and,Bool.or_false,Bool.false_eq_true,if_false,Zr,ZbB]
  exact q
theorem ZwH {tI tE te:TypeId} {ms:Array (String × TypeId)} {i:TypeInfo} {d:Nat} {x y:Addr} {B:Kn} {L:Cells} {Q:Bool→Kn→Cells→Prop} (hi:P.underlying tI=some (.interface ms)) (hp:P.underlying tE=some (.pointer te)) (hinfo:P.info? tE=some i) (hc:i.comparable=true) (hs:Z8 P te=some (d+1))
  (h:hb P (sameAddr x y) Q B L):hb P (Op.equal tI (.iface tE (.pointer (some x))) (.iface tE (.pointer (some y)))) Q B L:=by
 show hb P (Op.equalIn (9999+1) tI _ _) Q B L
 rw [Op.equalIn,Zk,Zs hi]
 simp only [ne_eq,not_true_eq_false,if_false,Zk,ZbU hinfo,hc,Bool.not_true,Bool.false_eq_true]
 show hb P (Op.equalIn (9998+1) tE _ _) Q B L
 rw [Op.equalIn,Zk,Zs hp]
 simp only [Zk,Za3 hs,ne_eq,Nat.add_eq_zero_iff,Nat.one_ne_zero,and_false,not_false_eq_true,if_true]
 exact h
theorem ZrC {tE:TypeId} {gs:List Nat} {B:Kn} {a:Nat→Addr} (h:ErrsB tE gs B a) {k:Nat} (hk:k<4) (L:Cells) :∃cs T,Zkx B L (a k).block (.cells cs T (0,0)):=
 let ⟨cs,T,e⟩:=h.cell k hk;⟨cs,T,.inl e⟩
theorem ZwI {tI tE te:TypeId} {ms:Array (String × TypeId)} {i:TypeInfo} {d:Nat} {c k:Nat} {gs:List Nat} {a:Nat→Addr} {B:Kn} {L:Cells} {Q:Bool→Kn→Cells→Prop} (hE:ErrsB tE gs B a) (hcb:c<5) (hkb:k<4) (hi:P.underlying tI=some (.interface ms)) (hp:P.underlying tE=some (.pointer te)) (hinfo:P.info? tE=some i) (hc:i.comparable=true) (hs:Z8 P te=some (d+1))
  (h:Q (decide (c=k+1)) B L):hb P (Op.equal tI (errv tE a c) (errv tE a (k+1))) Q B L:=by
 cases c with
 | zero=>
  show hb P (Op.equalIn (9999+1) tI .nilIface _) Q B L
  rw [Op.equalIn,Zk,Zs hi]
  simp only [errv,Zr]
  simpa using h
 | succ c=>
  refine ZwH hi hp hinfo hc hs ?_
  by_cases e:c=k
  ·subst e
   exact Ztf (by simpa using h)
  ·obtain ⟨cs,T,h1⟩:=ZrC hE (k:=c) (by omega) L
   obtain ⟨cs',T',h2⟩:=ZrC hE hkb L
   exact Ztg (hE.ne c k (by omega) hkb e) h1 h2 (by simpa [e] using h)
end
section
variable {P:PJ} {n:Nat} {ops:Array Oper} {i:Nat} {K:Zbk} {S:Env} {D:List Deferred} {B:Kn} {L:List Cells}
variable {dst:Option Tmp} {ty:TypeId} {pos:String} {after:Array Edge} {g:Option (Nat × Bool)}
theorem ZnY {t u:TypeId} {x:Operand} {tE:TypeId} {a:Nat→Addr} {c:Nat} {ms:Array (String × TypeId)} (hg:Zm ops S g=some true) (hd:ZB n dst=true) (hu:P.underlying t=some (.interface ms)) (hx:ev S x=some (errv tE a c)) (h:K (.bool (decide (c=0))) D B L):opX P n ops i ⟨dst,.binOp .eql t x (.const .nilIface) u,ty,pos,after,g⟩ K S D B L:=
 ZS hg hd (fun ρ hρ Q F q=>by
  have e0:ρ (.const .nilIface) = .nilIface:=hρ (.const .nilIface) _ rfl
  simp only [execOp,hρ x _ hx,e0,Zk]
  cases c with
  | zero=>
   simp only [errv,eqGuard,binOp,Bool.not_true,Bool.false_eq_true,if_false,Bool.or_true,if_true,Zr,Zk]
   show hb P (Op.equalIn (9999+1) t .nilIface .nilIface) _ B _
   rw [Op.equalIn,Zk,Zs hu]
   simp only [Zr]
   simpa using q
  | succ c=>
   simp only [errv,eqGuard,binOp,Bool.not_true,Bool.false_eq_true,if_false,Bool.or_true,if_true,Zr,Zk]
   show hb P (Op.equalIn (9999+1) t (.iface tE _) .nilIface) _ B _
   rw [Op.equalIn,Zk,Zs hu]
   simp only [Zr]
   simpa using q) h
theorem Zv4 {t u:TypeId} {x:Operand} {tE:TypeId} {a:Nat→Addr} {c:Nat} {ms:Array (String × TypeId)} (hg:Zm ops S g=some true) (hd:ZB n dst=true) (hu:P.underlying t=some (.interface ms)) (hx:ev S x=some (errv tE a c)) (h:K (.bool (decide (c≠0))) D B L):opX P n ops i ⟨dst,.binOp .neq t x (.const .nilIface) u,ty,pos,after,g⟩ K S D B L:=
 ZS hg hd (fun ρ hρ Q F q=>by
  have e0:ρ (.const .nilIface) = .nilIface:=hρ (.const .nilIface) _ rfl
  simp only [execOp,hρ x _ hx,e0,Zk]
  cases c with
  | zero=>
   simp only [errv,eqGuard,binOp,Bool.not_true,Bool.false_eq_true,if_false,Bool.or_true,if_true,Zr,Zk]
   show hb P (Op.equalIn (9999+1) t .nilIface .nilIface) _ B _
   rw [Op.equalIn,Zk,Zs hu]
   simp only [Zr]
   simpa using q
  | succ c=>
   simp only [errv,eqGuard,binOp,Bool.not_true,Bool.false_eq_true,if_false,Bool.or_true,if_true,Zr,Zk]
   show hb P (Op.equalIn (9999+1) t (.iface tE _) .nilIface) _ B _
   rw [Op.equalIn,Zk,Zs hu]
   simp only [Zr]
   simpa using q) h
theorem Zqb {t u:TypeId} {x y:Operand} {tE te:TypeId} {gs:List Nat} {a:Nat→Addr} {c k:Nat} {ms:Array (String × TypeId)} (hE:ErrsB tE gs B a) (hcb:c<5) (hkb:k<4) (hg:Zm ops S g=some true) (hd:ZB n dst=true) (hu:P.underlying t=some (.interface ms)) (hp:P.underlying tE=some (.pointer te)) (hinf:(P.info? tE).map (·.comparable)=some true) (hs:Z8 P te=some 1)
  (hx:ev S x=some (errv tE a c)) (hy:ev S y=some (errv tE a (k+1))) (h:K (.bool (decide (c=k+1))) D B L):opX P n ops i ⟨dst,.binOp .eql t x y u,ty,pos,after,g⟩ K S D B L:=
 ZS hg hd (fun ρ hρ Q F q=>by
  obtain ⟨inf,hinfo,hc⟩:=Option.map_eq_some_iff.1 hinf
  have hpl:Zg3 (errv tE a c) (errv tE a (k+1))=true:=by cases c <;> rfl
  simp only [execOp,hρ x _ hx,hρ y _ hy,Zk,Zf3 hpl,ZmD (.inl hpl)]
  exact ZwI hE hcb hkb hu hp hinfo hc hs q) h
theorem Zid {x:Operand} {xt t asserted:TypeId} {v:Value} {want:Array (String × TypeId)} (hg:Zm ops S g=some true) (hd:ZB n dst=true) (hu:P.underlying asserted=some (.interface want)) (hl:(P.info? t).map (fun i=>(lacking want i.methods).isEmpty)=some false) (hz:Zaw P asserted=some .nilIface)
  (hx:ev S x=some (.iface t v)) (h:K (.tuple #[.nilIface,.bool false]) D B L):opX P n ops i ⟨dst,.typeAssert x xt asserted true,ty,pos,after,g⟩ K S D B L:=
 ZS hg hd (fun ρ hρ Q F q=>by
  obtain ⟨j,hj,hm⟩:=Option.map_eq_some_iff.1 hl
  obtain ⟨m,hm⟩:=missingMethod_some (want:=want) (got:=j.methods) (fun e=>by rw [e] at hm;cases hm)
  simp only [execOp,Instr.typeAssert,hρ x _ hx,Zk,Zs hu,ZbU hj,hm,if_true,ZbT hz,Zr]
  exact q) h
theorem Zwc {f:FuncId} {fn:Func} {ext:Array Value→Sem Value} {x:Operand} {ats:Array TypeId} {v r:Value} (hg:Zm ops S g=some true) (hd:ZB n dst=true) (hf:P.funcs[f]? = some fn) (hname:(fn.name == "runtime.NumGoroutine")=false) (hb0:fn.body.isNone=true) (hn:Extern.findNext fn=none) (he:Extern.find fn=some ext)
  (hx:ev S x=some v) (hr :∀(Q:Value→Kn→Cells→Prop) B L,hb P (ext #[v]) Q B L=Q r B L) (h:K r D B L):opX P n ops i ⟨dst,.call ⟨.value (.func f),#[x],ats⟩,ty,pos,after,g⟩ K S D B L:=
 Zel hg hd fun ρ hρ F=>by
  have e0:ρ (.func f) = .func (.func f) #[] #[]:=hρ (.func f) _ rfl
  simp only [execOp,resolve,e0,Deferred.ofValue,Zk,Zr,invoke,List.map_toArray,List.map_cons,List.map_nil,hρ x _ hx]
  have e:(#[] ++ #[v]:Array Value) ++ #[] = #[v]:=by simp
  rw [e]
  simp only [callFunc,Zk,ZbI,hf,hname,Bool.false_eq_true,if_false,hb0,if_true,hn,he]
  refine ⟨rfl,?_⟩
  simp only [ZbB,Zr,Zk,hr]
  exact ⟨L,.of (.refl _),h⟩
theorem Zv9 {f:FuncId} {fn:Func} {ext:Array Value→Sem Value} {x:Operand} {t:TypeId} {name:String} {ats:Array TypeId} {v u r:Value} (hg:Zm ops S g=some true) (hd:ZB n dst=true) (hf:P.funcs[f]? = some fn) (hname:(fn.name == "runtime.NumGoroutine")=false) (hb0:fn.body.isNone=true) (hn:Extern.findNext fn=none) (he:Extern.find fn=some ext)
  (hx:ev S x=some (.iface t v)) (hm :∀(k:Nat) (Q:FuncId × Value→Kn→Cells→Prop) B L,hb P (method (k+1) t v name) Q B L=Q (f,u) B L) (hr :∀(Q:Value→Kn→Cells→Prop) B L,hb P (ext #[u]) Q B L=Q r B L) (h:K r D B L):opX P n ops i ⟨dst,.call ⟨.invoke x name,#[],ats⟩,ty,pos,after,g⟩ K S D B L:=
 Zel hg hd fun ρ hρ F=>by
  have e1:(#[Value.iface t v] ++ #[])[0]? = some (.iface t v):=by simp
  have e2:(#[Value.iface t v] ++ #[]).extract 1 (#[Value.iface t v] ++ #[]).size = #[]:=by apply Array.ext';simp
  have e3 : #[u] ++ #[] = #[u]:=by simp
  simp only [execOp,resolve,hρ x _ hx,Zk,Zr,invoke,List.map_toArray,List.map_nil,e1,e2,callMethod,ZbI]
  have hpos:0<Made.depth:=by decide
  obtain ⟨d,hd'⟩ :∃d,P.types.size+Made.depth=d+1:=⟨P.types.size+Made.depth - 1,by omega⟩
  rw [hd',hm]
  simp only [e3,callFunc,Zk,ZbI,hf,hname,Bool.false_eq_true,if_false,hb0,if_true,hn,he]
  refine ⟨rfl,?_⟩
  simp only [ZbB,Zr,Zk,hr]
  exact ⟨L,.of (.refl _),h⟩
end
end Go.BL
namespace Go.BL
open Go.ChangeShapes Go.WideShapes Go.ChangeAt Go.RowKit Go.Conc
section
variable {H:Type} {enc:TypeId × Value→H} {P:Program}
theorem ZoP {t:TypeId} {ms:Array (String × TypeId)} (hu:P.underlying t=some (.interface ms)) {W W':World} {sp sp':Nat→Bool} {fuel:Nat} {cs:List Value} : DataW.trod enc P W 0 sp true fuel t cs=DataW.trod enc P W' 0 sp' true fuel t cs:=by
 cases fuel with
 | zero=>simp [DataW.trod]
 | succ n=>
  cases cs with
  | nil=>simp [DataW.trod,hu]
  | cons x xs=>
   cases xs with
   | nil=>cases x <;> simp [DataW.trod,hu]
   | cons y ys=>cases x <;> simp [DataW.trod,hu]
theorem Zsp {W W':World} (hk:Kept W W') {n:String} {g:Nat} {cs:Array Value} (hg:P.globalNamed n=some g) (hlt:g<W.heap.size) (h:W.var? P n=some cs):W'.var? P n=some cs:=by
 simp only [World.var?,hg,Option.bind_some] at h ⊢
 rw [hk.1 g hlt];exact h
theorem ZlM {W W':World} (hk:Kept W W') {sp sp':Nat→Bool} :∀{ns:List String} {gs:List (DataW H)} {ps:List MemPlace},(∀n,n∈ns→∀g t,P.globalNamed n=some g→(P.globals[g]?).map (·.type)=some t→∃ms,P.underlying t=some (.interface ms))→
  DataW.TrodVars enc P W sp ns gs ps→(∀n,n∈ns→∀g,P.globalNamed n=some g→g<W.heap.size)→DataW.TrodVars enc P W' sp' ns gs ps
 | [],[],_,_,h,_=>h
 | n :: ns,d :: ds,ps,ht,⟨g,t,cs,fuel,p,q,hg,hty,hv,hd,hr,e⟩,hlt=>by
  obtain ⟨ms,hu⟩:=ht n (List.mem_cons_self ..) g t hg hty
  exact ⟨g,t,cs,fuel,p,q,hg,hty,Zsp hk hg (hlt n (List.mem_cons_self ..) g hg) hv,(ZoP hu).trans hd,
   ZlM hk (fun n hn=>ht n (List.mem_cons_of_mem _ hn)) hr (fun n hn=>hlt n (List.mem_cons_of_mem _ hn)),e⟩
 | [],_ :: _,_,_,h,_=>h.elim
 | _ :: _,[],_,_,h,_=>h.elim
theorem Zqe {W:World} {sp:Nat→Bool} :∀{ns:List String} {gs:List (DataW H)} {ps:List MemPlace},DataW.TrodVars enc P W sp ns gs ps→∀n,n∈ns→∀g,P.globalNamed n=some g→g<W.heap.size
 | [],_,_,_,n,hn,_,_=>by cases hn
 | m :: ns,d :: ds,ps,⟨g,t,cs,fuel,p,q,hg,hty,hv,hd,hr,e⟩,n,hn,g',hg'=>by
  rcases List.mem_cons.1 hn with rfl | hn
  ·obtain rfl:=Option.some.inj (hg.symm.trans hg')
   simp only [World.var?,hg,Option.bind_some] at hv
   rcases Nat.lt_or_ge g W.heap.size with h | h
   ·exact h
   ·rw [Array.getElem?_eq_none h] at hv;cases hv
  ·exact Zqe hr n hn g' hg'
 | _ :: _,[],_,h,_,_,_,_=>h.elim
theorem Zn2 {W:World} {sp:Nat→Bool} :∀{ns:List String} {gs:List (DataW H)} {ps:List MemPlace},DataW.TrodVars enc P W sp ns gs ps→gs.length=ns.length
 | [],[],_,_=>rfl
 | n :: ns,d :: ds,ps,⟨g,t,cs,fuel,p,q,hg,hty,hv,hd,hr,e⟩=>by rw [List.length_cons,List.length_cons,Zn2 hr]
 | [],_ :: _,_,h=>h.elim
 | _ :: _,[],_,h=>h.elim
theorem Zl3 {f:Func} {s:ChangeSpec} {apart fresh handsOn again:Bool} {W W':World} {args:Array Value} {ds gs:List (DataW H)} {before:List MemPlace} {tb:TypeId}
  (hl:laidOutB P=true) (hts:(f.params.toList.all fun t=>P.readableRec t && decide (t<P.types.size))=true) (hres:f.resultTypes.toList=[tb]) (hb:P.underlying tb=some .bool)
  (hvars :∀n,n∈s.vars→∀g t,P.globalNamed n=some g→(P.globals[g]?).map (·.type)=some t→∃ms,P.underlying t=some (.interface ms))
  (hW:DataW.Whole enc P f.params.toList s.vars apart W args.toList ds gs before) (hfn :∀ds' gs',gs'.length=s.vars.length→ds'.length=f.params.toList.length→s.fn H (ds' ++ gs') = { results:=[.lit (.bool true)],args:=ds',vars:=gs' })
  (hk:Kept W W'):s.post enc P f apart fresh handsOn again W args (.bool true) W':=by
 have hlt:=hW.lt
 have hW':=hW
 obtain ⟨p,q,hA0,hV,rfl,hfz,hnd⟩:=hW
 have hlen:=(trodAll_length hA0).2
 have hvl:gs.length=s.vars.length:=Zn2 hV
 have hf2:=hfn ds gs hvl hlen
 have hr2:f.resultTypes = #[tb]:=by apply Array.ext';rw [hres]
 refine post_of_same (pa:=p) (pv:=q) hW' (fun b sp hd=>?_) (fun sp hsp=>?_) (fun sp hsp=>?_) rfl (hk.2.frame _) hk.2.2.1 ?_
 ·rw [hf2,hr2]
  exact trodAll_cons_mk (shut_bool hb _) trodAll_mk0
 ·rw [hf2]
  exact Zoc hl hk hts hA0 (fun x hx=>hlt x (List.mem_append_left _ hx)) (fun x hx=>hsp x (List.mem_append_left _ hx))
 ·rw [hf2]
  exact ZlM hk hvars hV (Zqe hV)
 ·intro j t r h1 h2
  rw [hr2] at h1 h2
  cases j with
  | zero=>
   simp only [List.getElem?_toArray,List.getElem?_cons_zero,Option.some.injEq] at h1
   simp [Value.resultList] at h2
   subst h1;subst h2
   exact okWide_bool_mk hb _
  | succ j=>simp at h1
theorem Zie {ns:List String} (h:(ns.all fun n=>match P.globalNamed n with | some g=>(match (P.globals[g]?).map (·.type) with | some t=>(match P.underlying t with | some (.interface _)=>true | _=>false) | none=>true) | none=>true)=true) :
∀n,n∈ns→∀g t,P.globalNamed n=some g→(P.globals[g]?).map (·.type)=some t→∃ms,P.underlying t=some (.interface ms):=fun n hn g t hg ht=>by
 have h1:=List.all_eq_true.1 h n hn
 simp only [hg,ht] at h1
 split at h1
 ·exact ⟨_,by assumption⟩
 ·cases h1
theorem Zn6 {ts:Array TypeId} (h:(ts.toList.all fun t=>!P.wantsStandIn t)=true) {j:Nat} {t:TypeId} (ht:ts[j]? = some t):P.wantsStandIn t=false:=by
 have:=List.all_eq_true.1 h t (by
  rw [← Array.getElem?_toList] at ht
  exact List.mem_of_getElem? ht)
 simpa using this
theorem Zho {a:Assume} {C:Checked} {os:Os} {f:FuncId} {fn:Func} {s:ChangeSpec} {conds:List PathCond} {apart fresh handsOn again:Bool} {laid:List (String × DataW Unit)}
  (own:ownKnob C.prog.godebug=none) (started:os.Started) (hfn:C.prog.funcs[f]? = some fn)
  (witness :∃(w:World) (tape:Tape) (i:Input),w.os=os∧(w.forCall tape i).Shaped C.prog∧i.vars=[]∧Input.okWide C.prog (w.forCall tape i) .any w.heap.size f i∧
   ((s.pre enc C.prog fn conds apart (w.forCall tape i).memory i.args∧laidMetH C.prog laid (w.forCall tape i).memory)∧sizedMet enc C.prog fn (OpenSpec.ofChange s) apart (w.forCall tape i).memory i.args)∧a.holds C.prog (lone (Frame.enter C.prog f i.args .normal) [] (w.forCall tape i)))
  (runs :∀(W:World) (base:Nat) (args:Array Value) (ds gs:List (DataW H)) (before:List MemPlace),
   (∀(j:Nat) t v,fn.params[j]? = some t→args[j]? = some v→Value.okWide C.prog W .any base t v)→
   DataW.Whole enc C.prog fn.params.toList s.vars apart W args.toList ds gs before→
   (DataW.weightsEach C.prog (fn.params.toList ++ s.plain.varTypes C.prog) (ds ++ gs)).all (·≤reachBytes)=true→
   laidMetH C.prog laid W→
∃M last o w' t',runNT C.prog (M+1) (solo (G (Frame.enter C.prog f args .normal) []) W) #[]=(.ended o w',t')∧runN C.prog M (solo (G (Frame.enter C.prog f args .normal) []) W) = .next last∧
    step C.prog last = .ended o w'∧Conc.Good C.prog (fun v W'=>s.post enc C.prog fn apart fresh handsOn again W args v W') last o w' t') :
  ReturnsInLeavingWide a C os f .any (fun w args=>(s.pre enc C.prog fn conds apart w args∧laidMetH C.prog laid w)∧sizedMet enc C.prog fn (OpenSpec.ofChange s) apart w args) (s.post enc C.prog fn apart fresh handsOn again):=by
 refine returnsInLeavingWide_of_good own started witness ?_
 intro w tape i _ _ _ hok hpre hholds
 obtain ⟨_,_,_,fn',hfn',_,_,_,_,hval⟩:=hok
 have e:fn'=fn:=Option.some.inj (hfn'.symm.trans hfn)
 subst e
 obtain ⟨⟨⟨ds,gs,before,hw,hc⟩,hL⟩,hz⟩:=hpre
 have hw':=DataW.Whole.of_heap (w':=w.forCall tape i) (by rfl) hw
 have hL':=hL.of_heap (w':=w.forCall tape i) (by rfl)
 obtain ⟨M,last,o,w',t',h1,h2,h3,h4⟩:=runs (w.forCall tape i) w.heap.size i.args ds gs before hval hw' (hz.weights hw) hL'
 exact ⟨M,last,o,w',t',h1,h2,h3,h4.mono fun v hp=>ChangeSpec.post_blind hp⟩
theorem Zms {n0 n1 n2 n3 nm:String} {x0 x1 x2 x3:List UInt8} {r:List (String × DataW Unit)} {W:World} {k0 k1 k2 k3:Nat} {ti tp te ts:TypeId} {ms:Array (String × TypeId)} {f:Field}
  (h:laidMet P ((n0,.iface nm (.ptr (.agg [.lit (.string x0)]))) :: (n1,.iface nm (.ptr (.agg [.lit (.string x1)]))) :: (n2,.iface nm (.ptr (.agg [.lit (.string x2)]))) :: (n3,.iface nm (.ptr (.agg [.lit (.string x3)]))) :: r) W)
  (hg0:P.globalNamed n0=some k0) (hg1:P.globalNamed n1=some k1) (hg2:P.globalNamed n2=some k2) (hg3:P.globalNamed n3=some k3) (hy0:(P.globals[k0]?).map (·.type)=some ti) (hy1:(P.globals[k1]?).map (·.type)=some ti) (hy2:(P.globals[k2]?).map (·.type)=some ti) (hy3:(P.globals[k3]?).map (·.type)=some ti)
  (hi:P.underlying ti=some (.interface ms)) (hrow :∀u,P.typeName? 3 u=some nm→u=tp)
  (hp:P.underlying tp=some (.pointer te)) (he:P.underlying te=some (.struct #[f])) (hft:f.type=ts) (hfo:f.offset=0) (hs:P.underlying ts=some .string) (hc:P.cellsOf te=1) (hcs:P.cellsOf ts=1) :
∃a:Nat→Addr,ErrsB tp [k0,k1,k2,k3] (Zlf W) a:=by
 obtain ⟨ps,⟨g0,t0,cs0,f0,p0,q0,hg0',ht0',hv0,hd0,⟨g1,t1,cs1,f1,p1,q1,hg1',ht1',hv1,hd1,⟨g2,t2,cs2,f2,p2,q2,hg2',ht2',hv2,hd2,⟨g3,t3,cs3,f3,p3,q3,hg3',ht3',hv3,hd3,_,e3⟩,e2⟩,e1⟩,e0⟩,hnd,hrows⟩:=h
 obtain rfl:=Option.some.inj (hg0.symm.trans hg0')
 obtain rfl:=Option.some.inj (hg1.symm.trans hg1')
 obtain rfl:=Option.some.inj (hg2.symm.trans hg2')
 obtain rfl:=Option.some.inj (hg3.symm.trans hg3')
 obtain rfl:=Option.some.inj (hy0.symm.trans ht0')
 obtain rfl:=Option.some.inj (hy1.symm.trans ht1')
 obtain rfl:=Option.some.inj (hy2.symm.trans ht2')
 obtain rfl:=Option.some.inj (hy3.symm.trans ht3')
 subst e3
 subst e2
 subst e1
 subst e0
 obtain ⟨l0⟩:=cs0
 obtain ⟨l1⟩:=cs1
 obtain ⟨l2⟩:=cs2
 obtain ⟨l3⟩:=cs3
 have ok0 :∀u v,l0=[.iface u v]→Value.okWide P W .any 0 u v:=fun u v e=>by
  subst e
  exact (hrows k0 0 (by simp [MemPlace.row])).2 u v (by simpa using World.var?_cell hg0' hv0 0)
 have ok1 :∀u v,l1=[.iface u v]→Value.okWide P W .any 0 u v:=fun u v e=>by
  subst e
  exact (hrows k1 0 (by simp [MemPlace.row])).2 u v (by simpa using World.var?_cell hg1' hv1 0)
 have ok2 :∀u v,l2=[.iface u v]→Value.okWide P W .any 0 u v:=fun u v e=>by
  subst e
  exact (hrows k2 0 (by simp [MemPlace.row])).2 u v (by simpa using World.var?_cell hg2' hv2 0)
 have ok3 :∀u v,l3=[.iface u v]→Value.okWide P W .any 0 u v:=fun u v e=>by
  subst e
  exact (hrows k3 0 (by simp [MemPlace.row])).2 u v (by simpa using World.var?_cell hg3' hv3 0)
 obtain ⟨a0,s0,rfl,hc0,hs0,hz0,rfl⟩:=errorString_of_trod hi hrow hp he hft hfo hs hc hcs hd0 ok0
 obtain ⟨a1,s1,rfl,hc1,hs1,hz1,rfl⟩:=errorString_of_trod hi hrow hp he hft hfo hs hc hcs hd1 ok1
 obtain ⟨a2,s2,rfl,hc2,hs2,hz2,rfl⟩:=errorString_of_trod hi hrow hp he hft hfo hs hc hcs hd2 ok2
 obtain ⟨a3,s3,rfl,hc3,hs3,hz3,rfl⟩:=errorString_of_trod hi hrow hp he hft hfo hs hc hcs hd3 ok3
 have b0:=(hrows a0.block a0.off (by simp [MemPlace.row])).1
 have b1:=(hrows a1.block a1.off (by simp [MemPlace.row])).1
 have b2:=(hrows a2.block a2.off (by simp [MemPlace.row])).1
 have b3:=(hrows a3.block a3.off (by simp [MemPlace.row])).1
 have row :∀(g:Nat) (v:Value) (n:String),P.globalNamed n=some g→W.var? P n=some #[v]→ZaQ (Zlf W) g 0 [v]:=fun g v n hg hv L j u hj=>by
  cases j with
  | zero=>
   simp only [List.getElem?_cons_zero,Option.some.injEq] at hj
   subst hj
   have:=Zjt (by simpa using World.var?_cell hg hv 0:W.cell? ⟨g,0,none⟩=some v)
   obtain ⟨h1,cs,T,fr,h2,h3⟩:=this
   exact ⟨h1,cs,T,fr,h2.elim .inl (fun h=>by cases h),h3⟩
  | succ j=>simp at hj
 refine ⟨fun k=>if k=0 then a0 else if k=1 then a1 else if k=2 then a2 else a3,fun k hk=>?_,fun k hk=>?_,fun i j hi' hj' hne=>?_⟩
 ·match k,hk with
  | 0,_=>exact row k0 _ _ hg0 hv0
  | 1,_=>exact row k1 _ _ hg1 hv1
  | 2,_=>exact row k2 _ _ hg2 hv2
  | 3,_=>exact row k3 _ _ hg3 hv3
 ·match k,hk with
  | 0,_=>exact b0
  | 1,_=>exact b1
  | 2,_=>exact b2
  | 3,_=>exact b3
 ·have h01:a0≠a1:=by rintro rfl;simp [MemPlace.row] at hnd
  have h02:a0≠a2:=by rintro rfl;simp [MemPlace.row] at hnd
  have h03:a0≠a3:=by rintro rfl;simp [MemPlace.row] at hnd
  have h12:a1≠a2:=by rintro rfl;simp [MemPlace.row] at hnd
  have h13:a1≠a3:=by rintro rfl;simp [MemPlace.row] at hnd
  have h23:a2≠a3:=by rintro rfl;simp [MemPlace.row] at hnd
  match i,j,hi',hj',hne with
  | 0,1,_,_,_=>exact h01
  | 0,2,_,_,_=>exact h02
  | 0,3,_,_,_=>exact h03
  | 1,0,_,_,_=>exact h01.symm
  | 1,2,_,_,_=>exact h12
  | 1,3,_,_,_=>exact h13
  | 2,0,_,_,_=>exact h02.symm
  | 2,1,_,_,_=>exact h12.symm
  | 2,3,_,_,_=>exact h23
  | 3,0,_,_,_=>exact h03.symm
  | 3,1,_,_,_=>exact h13.symm
  | 3,2,_,_,_=>exact h23.symm
  | 0,0,_,_,h=>exact (h rfl).elim
  | 1,1,_,_,h=>exact (h rfl).elim
  | 2,2,_,_,h=>exact (h rfl).elim
  | 3,3,_,_,h=>exact (h rfl).elim
end
theorem Zmx (Lk:Looks) {p:Pinned} {s:OpenSpec} {c:OpenClaim} (kinds:List LaidKind) (tests:Bool) (har:Bool × String) (lk:Bool)
  (hc:c.holds p s) (hw:c.wfByText s=true) (htie:c.laidByTextAt Lk p kinds tests)
  (hst:c.start = .entering) (hnb:c.noBlocks=false∧c.again=false) (hm:p.checked.prog.mainIs=some (har.1,har.2.toList)) (hn:(!har.1 && har.2.isEmpty && !lk)=false)
  (hl :∀f fn,p.checked.prog.funcNamed c.func=some f→p.checked.prog.funcs[f]? = some fn→lk=p.checked.prog.looks []∧∀(j:Nat) t,fn.params[j]? = some t→p.checked.prog.wantsStandIn t=false)
  (hg:true=c.goesBy p.checked.prog) :
  Claim7.holds p (.plain s) { stood:={ row:=c,standIns:=[],harness:=har,looks:=lk },kinds:=[],alts:=[],goes:=true,laidByText:=true,laidKinds:=kinds,laidTests:=tests,laidLooks:=Lk }:=by
 have h6 :∀r:OpenClaim,Claim7.isSixth { stood:={ row:=r,standIns:=[],harness:=har,looks:=lk },kinds:=[] } = false:=fun r=>by simpa [Claim7.isSixth] using hn
 refine ⟨Claim7.tied_new_at Lk kinds tests (Claim7.new_of_sixth hc har lk hst hnb hm (h6 c) hl) hw,(fun D hD=>by cases hD),htie,(fun h=>by cases h),hg⟩
end Go.BL
namespace Go.BL
open Go.Conc (G)
section
variable {P:PJ} {n:Nat} {ops:Array Oper} {i:Nat} {K:Zbk} {S:Env} {D:List Deferred} {B:Kn} {L:List Cells}
variable {dst:Option Tmp} {ty:TypeId} {pos:String} {after:Array Edge} {g:Option (Nat × Bool)}
theorem Zur {f:FuncId} {x:Operand} {cap:Array Value} {xs:List Operand} {vs:List Value} {ats:Array TypeId} {Post:Value→Kn→List Cells→Prop} (js:List Nat) {ss r:List Cells} (hp:Za0 L js=some (ss,r)) (hn:Ze7 js=true) (hg:Zm ops S g=some true) (hd:ZB n dst=true) (he:enters P f=true) (hx:ev S x=some (.func (.func f) #[] cap)) (ha:evs S xs=some vs) (hc:Zu P f (vs ++ cap.toList) B ss Post)
  (h :∀v B' Ls',B.le B'→Post v B' Ls'→K v D B' (Zda r js Ls')):opX P n ops i ⟨dst,.call ⟨.value x,xs.toArray,ats⟩,ty,pos,after,g⟩ K S D B L:=
 Zem (o:=⟨dst,.call ⟨.value x,xs.toArray,ats⟩,ty,pos,after,g⟩) (vs:=vs ++ cap.toList) hg (fun ρ hρ Q F q=>by
   have:=ZeN (P:=P) (B:=B) (L:=L) (dst:=dst) (ty:=ty) (pos:=pos) (after:=after) (g:=g) (x:=x) (first:=#[]) (cap:=cap) (ats:=ats) he hx ha ρ hρ Q F
   exact this (by simpa using q)) hd (Ls:=ss) (Lk:=r) (ZaE js L ss r hp) hc
  fun v' B' Ls' hle hq=>⟨Zda r js Ls',ZcS Ls' r js (ZcU hn) (fun j hj=>ZcT js L ss r hp j (.inr hj)),h v' B' Ls' hle hq⟩
theorem All3.turn {α:Type} {R:ZjD α} {rows:List (List Value)} {xs:List α} {s:Cells} (h:All3 R rows xs s) {z x:α} {ex:Cells} (f:List Value→List Value) (hf :∀row li,R row x li→∃li' gl,R (f row) z li'∧(li ++ ex).Perm (li' ++ gl)) :∀{k:Nat},xs[k]? = some x→∃row s' gl,rows[k]? = some row∧All3 R (rows.set k (f row)) (xs.set k z) s'∧(s ++ ex).Perm (s' ++ gl):=by
 induction h with
 | nil=>intro k hx;simp at hx
 | @cons row0 x0 ins0 rest rows xs h1 h2 ih=>
  intro k hx
  cases k with
  | zero=>
   simp only [List.getElem?_cons_zero,Option.some.injEq] at hx
   subst hx
   obtain ⟨li',gl,e1,e2⟩:=hf _ _ h1
   refine ⟨row0,li' ++ rest,gl,rfl,.cons e1 h2,?_⟩
   have e3:(ins0 ++ rest ++ ex).Perm ((ins0 ++ ex) ++ rest):=by
    rw [List.append_assoc,List.append_assoc];exact List.Perm.append_left _ List.perm_append_comm
   refine e3.trans ((e2.append_right rest).trans ?_)
   rw [List.append_assoc,List.append_assoc];exact List.Perm.append_left _ List.perm_append_comm
  | succ k=>
   obtain ⟨row,s',gl,e1,e2,e3⟩:=ih (k:=k) (by simpa using hx)
   refine ⟨row,ins0 ++ s',gl,by simpa using e1,.cons h1 e2,?_⟩
   rw [List.append_assoc,List.append_assoc]
   exact List.Perm.append_left ins0 e3
theorem Zv1 {α:Type} {R:ZjD α} {xs:List α} {x0:α} (z:α) {t T:TypeId} {x y:Operand} {v:Value} {us:List Value} {sz k c b:Nat} (off:Nat) {l:Cells} {p:Option Addr} {inss r:List Cells} (j:Nat) (ks:List Nat) (hpk:Za0 L (j :: ks)=some (l :: inss,r)) (hnd:Ze7 (j :: ks)=true) (hv:ZcO l p c T sz R xs) (hp:p=some ⟨b,0,Option.none⟩) (hx0:xs[k]? = some x0) (hg:Zm ops S g=some true) (hd:ZB n dst=true) (hsz:Z8 P t=some us.length)
  (hx:ev S x=some (ptr ⟨b,k*sz+off,Option.none⟩)) (hy:ev S y=some v) (hvc:v.cells=us.toArray) (ho:us.all ZhS=true) (hoff:off+us.length≤sz) (hr :∀row li,R row x0 li→∃li' gl,R (ZaV row off us) z li'∧(li ++ inss.flatten).Perm (li' ++ gl))
  (h :∀l',ZcO l' p c T sz R (xs.set k z)→K undef D B (Zda r (j :: ks) (l' :: inss.map fun _=>[]))):opX P n ops i ⟨dst,.store t x y,ty,pos,after,g⟩ K S D B L:=by
 subst hp
 obtain ⟨rows,blk,ins,h1,h2,h3,hl1,⟨hc,_⟩ | ⟨b',arr,e,ha,ht,rfl,hmc⟩⟩:=hv
 ·cases hc
 ·cases e
  have hk:=(List.getElem?_eq_some_iff.1 hx0).1
  obtain ⟨row,s',gl,hrow,a1,a2⟩:=h1.turn (fun row=>ZaV row off us) hr hx0
  have hw:row.length=sz:=h2 row (List.mem_of_getElem? hrow)
  have hsz1:(k+1)*sz≤xs.length*sz:=Nat.mul_le_mul_right sz hk
  have hcs:xs.length*sz≤c*sz:=Nat.mul_le_mul_right sz hmc
  rw [Nat.succ_mul] at hsz1
  have hb1:k*sz+off+us.length≤arr.length:=by omega
  have hpp:=ZaE (j :: ks) L (l :: inss) r hpk
  refine ZuK (L':=[Zas b arr T ++ ins,inss.flatten ++ r.flatten]) (K':=fun u D' B' L₁=>u=undef∧D'=D∧B'=B∧L₁=[Zas b (ZaV arr (k*sz+off) us) T ++ ins,inss.flatten ++ r.flatten]) ?_ ?_ ?_
  ·refine hpp.trans ?_
   simp only [List.flatten_cons,List.flatten_nil,List.append_nil,List.append_assoc]
   refine (h3.append_right _).trans ?_
   rw [List.append_assoc]
  ·exact ZI us 0 (ZaV arr (k*sz+off) us) hg hd hsz hx hy hvc ho (T:=T) (r:=ins) rfl rfl (by rw [Nat.ble_eq];exact hb1) rfl ⟨rfl,rfl,rfl,rfl⟩
  ·rintro u D' B' L₁ hle ⟨rfl,rfl,rfl,rfl⟩
   have hnew:ZcO (Zas b (ZaV arr (k*sz+off) us) T ++ s') (some ⟨b,0,Option.none⟩) c T sz R (xs.set k z):=by
    have hsl:(ZaV row off us).length=sz:=by rw [ZaD];exact hw
    have hwide:wide sz (rows.set k (ZaV row off us)):=fun r' hr'=>by
     rcases List.mem_or_eq_of_mem_set hr' with hr' | rfl
     ·exact h2 r' hr'
     ·exact hsl
    refine ⟨rows.set k (ZaV row off us),_,s',a1,hwide,.refl _,?_,.inr ⟨b,_,rfl,by rw [ZaD];exact ha,?_,rfl,by rw [List.length_set];exact hmc⟩⟩
    ·rw [Zei hwide,List.length_set,List.length_set,h1.len]
    ·rw [List.length_set]
     have e:=ZgN (us:=us) (off:=off) h2 hrow hoff
     rw [Zit _ _ _ _ (by omega) (by omega),ht,e]
   refine ⟨_,gl,?_,h _ hnew⟩
   have hq:=ZcS ((Zas b (ZaV arr (k*sz+off) us) T ++ s') :: inss.map fun _=>[]) r (j :: ks) (ZcU hnd) (fun jj hj=>ZcT (j :: ks) L (l :: inss) r hpk jj (.inr hj))
   have hnil:((inss.map fun _=>([]:Cells))).flatten=[]:=by
    clear hpk hpp hr h a2 hq
    induction inss with
    | nil=>rfl
    | cons a as ih=>simp
   rw [List.flatten_cons,hnil,List.append_nil] at hq
   refine List.Perm.trans ?_ (hq.append_right gl)
   simp only [List.flatten_cons,List.flatten_nil,List.append_nil]
   have e1:(Zas b (ZaV arr (k*sz+off) us) T ++ ins ++ (inss.flatten ++ r.flatten)).Perm (Zas b (ZaV arr (k*sz+off) us) T ++ ((ins ++ inss.flatten) ++ r.flatten)):=by simp only [List.append_assoc];exact .refl _
   refine (e1.trans (List.Perm.append_left _ (a2.append_right _))).trans ?_
   exact ZwB fun f g h0 ha hc=>by simp only [ha];omega
end
theorem ZzB {B:Kn} {ls:List Cells} {b:Nat} {row:List Value} {T:TypeId} (k:Nat) (hk:ls[k]? = some (Zas b row T)) (hm :∀q,q∈ls.flatten→(B.add ls.flatten).mem q.1=some q.2):ZaQ (B.add ls.flatten) b 0 row:=Zbr (Zq3 hm k hk)
end Go.BL
namespace Go.BL
open Go.Conc (G)
@[reducible] def ZhD (x:DMail) (v:Value):List Value:=[.int .i64 x.uid,.int .i64 x.flags,str x.text,v]
def ZhI (Tn:TypeId):Value→List DMail→Cells→Prop
 | v,[],s=>v = .pointer none∧s=[]
 | v,x :: xs,s=>∃b nx rest,v=ptr ⟨b,0,none⟩∧s.Perm (Zas b (ZhD x nx) Tn ++ rest)∧x.text.length≤2000000∧ZhI Tn nx xs rest
theorem ZhI.ptr {Tn:TypeId} {v:Value} {xs:List DMail} {s:Cells} (h:ZhI Tn v xs s) :∃p,v = .pointer p:=by
 cases xs with
 | nil=>exact ⟨none,h.1⟩
 | cons x xs=>obtain ⟨b,nx,rest,rfl,_⟩:=h;exact ⟨_,rfl⟩
theorem ZhI.more {Tn:TypeId} {p:Option Addr} {xs:List DMail} {s:Cells} (h:ZhI Tn (.pointer p) xs s) (hp:p.isNone=false) :∃y ys b np rest,p=some ⟨b,0,none⟩∧xs=y :: ys∧s.Perm (Zas b (ZhD y (.pointer np)) Tn ++ [rest].flatten)∧y.text.length≤2000000∧ZhI Tn (.pointer np) ys rest:=by
 cases xs with
 | nil=>obtain ⟨h1,_⟩:=h;cases h1;cases hp
 | cons x xs=>
  obtain ⟨b,nx,rest,h1,h2,h3,h4⟩:=h
  obtain ⟨np,rfl⟩:=h4.ptr
  cases h1
  exact ⟨x,xs,b,np,rest,rfl,rfl,by simpa using h2,h3,h4⟩
theorem ZhI.done {Tn:TypeId} {p:Option Addr} {xs:List DMail} {s:Cells} (h:ZhI Tn (.pointer p) xs s) (hp:p.isNone=true):xs=[]:=by
 cases xs with
 | nil=>rfl
 | cons x xs=>obtain ⟨b,nx,rest,h1,_⟩:=h;cases h1;cases hp
def Zlj (Tn:TypeId) (v0:Value) (bl:Nat) (x:DMail) (rest:Cells) (pre:List DMail):Prop:=
∀v xs s,ZhI Tn v xs s→∃s0,ZhI Tn v0 (pre ++ xs) s0∧(Zas bl (ZhD x v) Tn ++ (rest ++ s)).Perm s0
theorem Zlj.init {Tn:TypeId} {b:Nat} {x:DMail} (hx:x.text.length≤2000000):Zlj Tn (Go.BL.ptr ⟨b,0,none⟩) b x [] [x]:=fun v xs s h=>
 ⟨Zas b (ZhD x v) Tn ++ s,⟨b,v,s,rfl,.refl _,hx,h⟩,by simp⟩
theorem Zlj.step {Tn:TypeId} {v0:Value} {bl b:Nat} {x y:DMail} {rest:Cells} {pre:List DMail} (h:Zlj Tn v0 bl x rest pre) (hy:y.text.length≤2000000) :
  Zlj Tn v0 b y (rest ++ Zas bl (ZhD x (Go.BL.ptr ⟨b,0,none⟩)) Tn) (pre ++ [y]):=fun v xs s hs=>by
 obtain ⟨s0,h1,h2⟩:=h (Go.BL.ptr ⟨b,0,none⟩) (y :: xs) (Zas b (ZhD y v) Tn ++ s) ⟨b,v,s,rfl,.refl _,hy,hs⟩
 refine ⟨s0,by simpa using h1,?_⟩
 refine List.Perm.trans ?_ h2
 exact ZwB fun f g h0 ha hc=>by simp only [ha];omega
def MLst (TL Tn:TypeId) (b:Nat) (xs:List DMail) (s:Cells):Prop:=
 (xs=[]∧s.Perm (Zas b [.pointer none,.pointer none,.int .i64 0] TL))∨
∃v0 bl x rest,s.Perm (Zas b [v0,ptr ⟨bl,0,none⟩,.int .i64 xs.length] TL ++ [Zas bl (ZhD x (.pointer none)) Tn,rest].flatten)∧Zlj Tn v0 bl x rest xs
theorem MLst.nil {TL Tn:TypeId} {b:Nat} : MLst TL Tn b [] (Zas b [.pointer none,.pointer none,.int .i64 0] TL):=.inl ⟨rfl,.refl _⟩
theorem MLst.chain {TL Tn:TypeId} {b:Nat} {xs:List DMail} {s:Cells} (h:MLst TL Tn b xs s) :∃p vl s0,s.Perm (Zas b [.pointer p,vl,.int .i64 xs.length] TL ++ [s0].flatten)∧ZhI Tn (.pointer p) xs s0:=by
 rcases h with ⟨rfl,hp⟩ | ⟨v0,bl,x,rest,hp,hh⟩
 ·exact ⟨none,.pointer none,[],by simpa using hp,rfl,rfl⟩
 ·obtain ⟨s0,h1,h2⟩:=hh (.pointer none) [] [] ⟨rfl,rfl⟩
  rw [List.append_nil] at h1
  obtain ⟨p,rfl⟩:=h1.ptr
  refine ⟨p,_,s0,hp.trans (List.Perm.append_left _ ?_),h1⟩
  simpa using h2
end Go.BL
namespace Go.BL
section
variable {P:PJ} {n:Nat} {ops:Array Oper} {i:Nat} {K:Zbk} {S:Env} {D:List Deferred} {B:Kn} {L:List Cells}
variable {dst:Option Tmp} {ty:TypeId} {pos:String} {after:Array Edge} {g:Option (Nat × Bool)}
theorem ZnV {x y:Operand} {ats:Array TypeId} {a b:Int} {k k':IntKind} (hg:Zm ops S g=some true) (hd:ZB n dst=true) (hx:ev S x=some (.int k a)) (hy:ev S y=some (.int k' b)) (h:K (.int k (max a b)) D B L):opX P n ops i ⟨dst,.call ⟨.builtin .max,#[x,y],ats⟩,ty,pos,after,g⟩ K S D B L:=
 ZS hg hd (fun ρ hρ Q F q=>by
  have e:(if b > a then b else a)=max a b:=by rw [Int.max_def];split <;> split <;> omega
  simp only [execOp,resolve,Zk,Zr,invoke,builtin,Builtin.max_,List.map_toArray,List.map_cons,List.map_nil,hρ x _ hx,hρ y _ hy,List.foldlM_cons,List.foldlM_nil,Builtin.max2,e]
  exact q) h
theorem ZjR {x y:Operand} {ats:Array TypeId} {a b:Int} {k k':IntKind} (hg:Zm ops S g=some true) (hd:ZB n dst=true) (hx:ev S x=some (.int k a)) (hy:ev S y=some (.int k' b)) (h:K (.int k (min a b)) D B L):opX P n ops i ⟨dst,.call ⟨.builtin .min,#[x,y],ats⟩,ty,pos,after,g⟩ K S D B L:=
 ZS hg hd (fun ρ hρ Q F q=>by
  have e:(if b<a then b else a)=min a b:=by rw [Int.min_def];split <;> split <;> omega
  simp only [execOp,resolve,Zk,Zr,invoke,builtin,Builtin.min_,List.map_toArray,List.map_cons,List.map_nil,hρ x _ hx,hρ y _ hy,List.foldlM_cons,List.foldlM_nil,Builtin.min2,e]
  exact q) h
end
end Go.BL
namespace Go.BL
section
variable {P:PJ} {n:Nat} {ops:Array Oper} {i:Nat} {K:Zbk} {S:Env} {D:List Deferred} {B:Kn} {L:List Cells}
variable {dst:Option Tmp} {ty:TypeId} {pos:String} {after:Array Edge} {g:Option (Nat × Bool)}
variable {α:Type} {R:Rel α} {xs:List α}
theorem ZaN.own {B:Kn} {L:List Cells} {l:Cells} {p:Option Addr} {m c sz:Nat} {T:TypeId} {vs:List Value} (h:Zh6 l p m c T sz vs) (j:Nat) (hj:L[j]? = some l):ZaN B L.flatten p vs:=by
 obtain ⟨h1,⟨rfl,rfl,rfl,rfl⟩ | ⟨b,arr,rfl,h2,h3,rfl,h4⟩⟩:=h
 ·exact List.eq_nil_of_length_eq_zero (by simpa using h1)
 ·intro k v hk
  have hv':arr[k]? = some v:=by
   rw [← h3,List.getElem?_take] at hk
   split at hk
   ·exact hk
   ·cases hk
  exact ZaN.box (B:=B) j hj k v hv'
theorem Zwf {t u e:TypeId} {x y:Operand} {sz by_ m c:Nat} {p:Option Addr} {l:Cells} (j:Nat) (hj:L[j]? = some l) (hv:ZZ B l p c e sz R xs) (hm:m=xs.length) (hg:Zm ops S g=some true) (hd:ZB n dst=true)
  (he:ZcK P t e sz by_=true) (hu:(match P.underlying u with | some (.slice _)=>true | _=>false)=true) (hx:ev S x=some (.slice p m c)) (hy:ev S y=some (.slice p m c)) (hone :∀row y,R B row y→row.all ZhS=true∧row.length=sz) (hb1:(xs.length+xs.length)*by_≤140737488355328)
  (h :∀l' p' c',ZZ B l' p' c' e sz R (xs ++ xs)→K (.slice p' (xs ++ xs).length c') D B (L.set j l')):opX P n ops i ⟨dst,.call ⟨.builtin .append,#[x,y],#[t,u]⟩,ty,pos,after,g⟩ K S D B L:=by
 obtain ⟨rows,h1,h2,h3⟩:=id hv
 have ho:rows.flatten.all ZhS=true:=by
  clear h2 h3 hb1 h hv hm
  induction h1 with
  | nil=>rfl
  | cons a b ih=>rw [List.flatten_cons,List.all_append,(hone _ _ a).1,ih];rfl
 exact Zn1 j hj hv hm hg hd he hu hx hy hm (ZaN.own h3 j hj) ho h2 h1 hb1 h
end
end Go.BL
namespace Go.BL
theorem ZgI {P:PJ} {n:Nat} {Q:Exit→Zao} {S:Env} {D:List Deferred} {B:Kn} {L:List Cells} {c:Code} (L':List Cells) (hl:L=L') (h:wpS P n c Q S D B L'):wpS P n c Q S D B L:=by subst hl;exact h
theorem sQ:(∀(p:Prop) [Decidable p],(decide p=true)=p)∧(∀(p:Prop) [Decidable p],(decide p=false) = ¬p)∧(∀b:Bool,((!b)=true)=(b=false))∧(∀b:Bool,((!b)=false)=(b=true))∧(∀(p:Prop) [Decidable p],(decide (¬p)) = !decide p)∧(∀(p:Prop) [Decidable p],(¬¬p)=p)∧(∀a b:Int,(¬a<b)=(b≤a))∧(∀a b:Int,(¬a≤b)=(b<a)):=
 ⟨fun p _=>by simp,fun p _=>by simp,by simp,by simp,fun p _=>by simp,fun p _=>by simp,by simp,by simp⟩
end Go.BL
namespace Go.BL
def orI (a b:Int):Int:=IntKind.i64.wrap (BitVec.ofInt 64 a ||| BitVec.ofInt 64 b).toNat
def ZvT (a b:Int):Int:=IntKind.i64.wrap (BitVec.ofInt 64 a &&& BitVec.ofInt 64 b).toNat
section
variable {P:PJ} {n:Nat} {ops:Array Oper} {i:Nat} {K:Zbk} {S:Env} {D:List Deferred} {B:Kn} {L:List Cells}
variable {dst:Option Tmp} {ty:TypeId} {pos:String} {after:Array Edge} {g:Option (Nat × Bool)}
theorem ZnW {t kt et:TypeId} {x y:Operand} {b:Nat} {l:Cells} {kvs:KV} {k:List UInt8} (j:Nat) (hj:L[j]? = some l) (hl:ZvL l b kvs) (hg:Zm ops S g=some true) (hd:ZB n dst=true) (hu:P.underlying t=some (.map kt et)) (hk:P.underlying kt=some .string)
  (hz:Zaw P et=some (.int .i64 0)) (hx:ev S x=some (.map (some b))) (hy:ev S y=some (str k)) (h:K (.int .i64 ((mget kvs k).getD 0)) D B L):opX P n ops i ⟨dst,.lookup t x y false,ty,pos,after,g⟩ K S D B L:=
 Zel hg hd fun ρ hρ F=>by
  obtain ⟨es,clock,rfl,ok⟩:=hl
  have hin:(b,Obj.map es clock)∈L.flatten ++ F:=by
   rw [((Zac F [] hj).choose_spec.1).mem_iff];simp
  simp only [execOp,Instr.lookup,hρ x _ hx,hρ y _ hy,Zk,Zs hu]
  refine ⟨_,.inr hin,rfl,rfl,?_⟩
  simp only [ZbB,Zk,Zr]
  refine Zi0 hk ?_
  rw [Zk]
  refine Zke hk ok.ent ?_
  cases hm:mlook kvs k 0 with
  | none=>
   obtain ⟨_,_,_,m4⟩:=ZgU hm
   simp only [ZbT hz,Zr,Zk,Zrh,Bool.false_eq_true,if_false]
   rw [m4] at h
   exact ⟨L,.of (List.Perm.refl _),h⟩
  | some p=>
   obtain ⟨jj,u⟩:=p
   obtain ⟨m,w,rfl,rfl,m3,m4,_,m6⟩:=ZgT hm
   simp only [Zr,Zk,Bool.false_eq_true,if_false]
   rw [m6] at h
   exact ⟨L,.of (List.Perm.refl _),h⟩
section
variable {t u:TypeId} {x y:Operand} {a b r:Int}
theorem ZxE (hg:Zm ops S g=some true) (hd:ZB n dst=true) (hx:ev S x=some (.int .i64 a)) (hy:ev S y=some (.int .i64 b)) (h:K (.int .i64 (orI a b)) D B L):opX P n ops i ⟨dst,.binOp .or t x y u,ty,pos,after,g⟩ K S D B L:=
 ZS hg hd (fun ρ hρ Q F q=>by
  simp only [execOp,hρ x _ hx,hρ y _ hy,Zk,Zam,binOp,ne_eq,not_true_eq_false,if_false,Op.intBits,Zr];exact q) h
theorem Zwh (hg:Zm ops S g=some true) (hd:ZB n dst=true) (hx:ev S x=some (.int .i64 a)) (hy:ev S y=some (.int .i64 b)) (h:K (.int .i64 (ZvT a b)) D B L):opX P n ops i ⟨dst,.binOp .and t x y u,ty,pos,after,g⟩ K S D B L:=
 ZS hg hd (fun ρ hρ Q F q=>by
  simp only [execOp,hρ x _ hx,hρ y _ hy,Zk,Zam,binOp,ne_eq,not_true_eq_false,if_false,Op.intBits,Zr];exact q) h
end
end
end Go.BL
namespace Go.BL
theorem om {p:Prop} (h:p:=by first | omega | (simp;done) | (simp;omega)):p:=h
theorem om2 {p:Prop} (h:p:=by first | assumption | omega | (simp;done) | (simp;omega)):p:=h
theorem oz {p:Prop} (h:p:=by omega):p:=h
theorem kr {p:Prop} (h:p:=by kernel_rfl):p:=h
theorem so {p:Prop} (h:p:=by simp only [];omega):p:=h
theorem so2 {p:Prop} (h:p:=by first | omega | (simp only [];omega)):p:=h
theorem oa {p:Prop} (h:p:=by first | assumption | omega):p:=h
theorem oy {p:Prop} (h:p:=by assumption):p:=h
theorem om3 {p:Prop} (h:p:=by first | omega | decide | (simp;done) | (simp;omega)):p:=h
theorem ob {p:Prop} (h:p:=by first | assumption | omega | (simp only [];omega) | (simp only [];assumption) | (simp;done) | (simp;omega)):p:=h
theorem ol {p:Prop} (h:p:=by first | rfl | (simp only [List.length_set];rfl)):p:=h
theorem t1 {α0:Sort _} {a0:α0} : a0=a0∧True:=⟨rfl,trivial⟩
theorem t2 {α0 α1:Sort _} {a0:α0} {a1:α1} : a0=a0∧a1=a1∧True:=⟨rfl,rfl,trivial⟩
theorem t3 {α0 α1 α2:Sort _} {a0:α0} {a1:α1} {a2:α2} : a0=a0∧a1=a1∧a2=a2∧True:=⟨rfl,rfl,rfl,trivial⟩
theorem t4 {α0 α1 α2 α3:Sort _} {a0:α0} {a1:α1} {a2:α2} {a3:α3} : a0=a0∧a1=a1∧a2=a2∧a3=a3∧True:=⟨rfl,rfl,rfl,rfl,trivial⟩
theorem t5 {α0 α1 α2 α3 α4:Sort _} {a0:α0} {a1:α1} {a2:α2} {a3:α3} {a4:α4} : a0=a0∧a1=a1∧a2=a2∧a3=a3∧a4=a4∧True:=⟨rfl,rfl,rfl,rfl,rfl,trivial⟩
theorem t6 {α0 α1 α2 α3 α4 α5:Sort _} {a0:α0} {a1:α1} {a2:α2} {a3:α3} {a4:α4} {a5:α5} : a0=a0∧a1=a1∧a2=a2∧a3=a3∧a4=a4∧a5=a5∧True:=⟨rfl,rfl,rfl,rfl,rfl,rfl,trivial⟩
theorem t7 {α0 α1 α2 α3 α4 α5 α6:Sort _} {a0:α0} {a1:α1} {a2:α2} {a3:α3} {a4:α4} {a5:α5} {a6:α6} : a0=a0∧a1=a1∧a2=a2∧a3=a3∧a4=a4∧a5=a5∧a6=a6∧True:=⟨rfl,rfl,rfl,rfl,rfl,rfl,rfl,trivial⟩
theorem t8 {α0 α1 α2 α3 α4 α5 α6 α7:Sort _} {a0:α0} {a1:α1} {a2:α2} {a3:α3} {a4:α4} {a5:α5} {a6:α6} {a7:α7} : a0=a0∧a1=a1∧a2=a2∧a3=a3∧a4=a4∧a5=a5∧a6=a6∧a7=a7∧True:=⟨rfl,rfl,rfl,rfl,rfl,rfl,rfl,rfl,trivial⟩
theorem t9 {α0 α1 α2 α3 α4 α5 α6 α7 α8:Sort _} {a0:α0} {a1:α1} {a2:α2} {a3:α3} {a4:α4} {a5:α5} {a6:α6} {a7:α7} {a8:α8} : a0=a0∧a1=a1∧a2=a2∧a3=a3∧a4=a4∧a5=a5∧a6=a6∧a7=a7∧a8=a8∧True:=⟨rfl,rfl,rfl,rfl,rfl,rfl,rfl,rfl,rfl,trivial⟩
theorem t10 {α0 α1 α2 α3 α4 α5 α6 α7 α8 α9:Sort _} {a0:α0} {a1:α1} {a2:α2} {a3:α3} {a4:α4} {a5:α5} {a6:α6} {a7:α7} {a8:α8} {a9:α9} : a0=a0∧a1=a1∧a2=a2∧a3=a3∧a4=a4∧a5=a5∧a6=a6∧a7=a7∧a8=a8∧a9=a9∧True:=⟨rfl,rfl,rfl,rfl,rfl,rfl,rfl,rfl,rfl,rfl,trivial⟩
theorem t11 {α0 α1 α2 α3 α4 α5 α6 α7 α8 α9 α10:Sort _} {a0:α0} {a1:α1} {a2:α2} {a3:α3} {a4:α4} {a5:α5} {a6:α6} {a7:α7} {a8:α8} {a9:α9} {a10:α10} : a0=a0∧a1=a1∧a2=a2∧a3=a3∧a4=a4∧a5=a5∧a6=a6∧a7=a7∧a8=a8∧a9=a9∧a10=a10∧True:=⟨rfl,rfl,rfl,rfl,rfl,rfl,rfl,rfl,rfl,rfl,rfl,trivial⟩
theorem t12 {α0 α1 α2 α3 α4 α5 α6 α7 α8 α9 α10 α11:Sort _} {a0:α0} {a1:α1} {a2:α2} {a3:α3} {a4:α4} {a5:α5} {a6:α6} {a7:α7} {a8:α8} {a9:α9} {a10:α10} {a11:α11} : a0=a0∧a1=a1∧a2=a2∧a3=a3∧a4=a4∧a5=a5∧a6=a6∧a7=a7∧a8=a8∧a9=a9∧a10=a10∧a11=a11∧True:=⟨rfl,rfl,rfl,rfl,rfl,rfl,rfl,rfl,rfl,rfl,rfl,rfl,trivial⟩
theorem t17 {α0 α1 α2 α3 α4 α5 α6 α7 α8 α9 α10 α11 α12 α13 α14 α15 α16:Sort _} {a0:α0} {a1:α1} {a2:α2} {a3:α3} {a4:α4} {a5:α5} {a6:α6} {a7:α7} {a8:α8} {a9:α9} {a10:α10} {a11:α11} {a12:α12} {a13:α13} {a14:α14} {a15:α15} {a16:α16} : a0=a0∧a1=a1∧a2=a2∧a3=a3∧a4=a4∧a5=a5∧a6=a6∧a7=a7∧a8=a8∧a9=a9∧a10=a10∧a11=a11∧a12=a12∧a13=a13∧a14=a14∧a15=a15∧a16=a16∧True:=⟨rfl,rfl,rfl,rfl,rfl,rfl,rfl,rfl,rfl,rfl,rfl,rfl,rfl,rfl,rfl,rfl,rfl,trivial⟩
section
variable {P:PJ} {n:Nat} {ops:Array Oper} {i:Nat} {K:Zao} {S:Env} {D:List Deferred} {B:Kn} {L:List Cells}
variable {dst:Option Tmp} {ty:TypeId} {pos:String} {after:Array Edge} {g:Option (Nat × Bool)} {t u:TypeId} {x y:Operand}
theorem xM {x:Operand} {v:Value} (hg:Zm ops S g=some true:=by exact rfl) (hd:ZB n dst=true:=by exact rfl) (hx:ev S x=some v:=by exact rfl) (h:K (ZbS S dst v) D B L):opW P n ops i ⟨dst,.move x,ty,pos,after,g⟩ K S D B L:=Zp (Zp7 hg hd hx h)
theorem xA {x:Operand} {v:Value} (hg:Zm ops S g=some true:=by exact rfl) (hd:ZB n dst=true:=by exact rfl) (hx:ev S x=some v:=by exact rfl) (h:K (ZbS S dst v) D B L):opW P n ops i ⟨dst,.assign x,ty,pos,after,g⟩ K S D B L:=Zp (Zn0 hg hd hx h)
theorem xP  {dst:Option Tmp} {op:Op} {t:TypeId} {pos:String} {after:Array Edge} {g:Option (Nat × Bool)}   (hg:Zm ops S g=some false:=by exact rfl) (hd:ZB n dst=true:=by exact rfl) (h:K (ZbS S dst undef) D B L):opW P n ops i ⟨dst,op,t,pos,after,g⟩ K S D B L:=Zp (ZtV  hg hd h)
theorem xT  {c:Operand} {a:Operand} {b:Operand} {v:Value}   (hg:Zm ops S g=some true:=by exact rfl) (hd:ZB n dst=true:=by exact rfl) (hc:ev S c=some (.bool true):=by exact rfl) (hx:ev S a=some v:=by exact rfl) (h:K (ZbS S dst v) D B L):opW P n ops i ⟨dst,.pick c a b,ty,pos,after,g⟩ K S D B L:=Zp (Zp4  hg hd hc hx h)
theorem xF  {c:Operand} {a:Operand} {b:Operand} {v:Value}   (hg:Zm ops S g=some true:=by exact rfl) (hd:ZB n dst=true:=by exact rfl) (hc:ev S c=some (.bool false):=by exact rfl) (hx:ev S b=some v:=by exact rfl) (h:K (ZbS S dst v) D B L):opW P n ops i ⟨dst,.pick c a b,ty,pos,after,g⟩ K S D B L:=Zp (Zp5  hg hd hc hx h)
theorem xE  {x:Operand} {ix:Nat} {vs:List Value} {v:Value}   (hg:Zm ops S g=some true:=by exact rfl) (hd:ZB n dst=true:=by exact rfl) (hx:ev S x=some (.tuple vs.toArray):=by exact rfl) (hi:vs[ix]? = some v:=by exact rfl) (h:K (ZbS S dst v) D B L):opW P n ops i ⟨dst,.extract x ix,ty,pos,after,g⟩ K S D B L:=Zp (Zic  hg hd hx hi h)
theorem xN  {x:Operand} {b:Bool} {t:TypeId}   (hg:Zm ops S g=some true:=by exact rfl) (hd:ZB n dst=true:=by exact rfl) (hx:ev S x=some (.bool b):=by exact rfl) (h:K (ZbS S dst (.bool (!b))) D B L):opW P n ops i ⟨dst,.unOp .not t x,ty,pos,after,g⟩ K S D B L:=Zp (Zv3  hg hd hx h)
theorem xW  {s:TypeId} {x:Operand} {fi:Nat} {off:Nat} {a:Addr}  (hf:ZP P s fi=some off) (hg:Zm ops S g=some true:=by exact rfl) (hd:ZB n dst=true:=by exact rfl) (hx:ev S x=some (ptr a):=by exact rfl) (h:K (ZbS S dst (ptr (a.add off))) D B L):opW P n ops i ⟨dst,.fieldAddr s x fi,ty,pos,after,g⟩ K S D B L:=Zp (ZeC  hg hd hf hx h)
theorem xD  {k:IntKind} {a b r:Int}   (hg:Zm ops S g=some true:=by exact rfl) (hd:ZB n dst=true:=by exact rfl) (hx:ev S x=some (.int k a):=by exact rfl) (hy:ev S y=some (.int k b):=by exact rfl) (hr:k.wrap (a+b)=r:=by first | exact ZaR (by first | omega | (simp;done) | (simp;omega)) (by first | omega | (simp;done) | (simp;omega)) | exact rfl) (h:K (ZbS S dst (.int k r)) D B L):opW P n ops i ⟨dst,.binOp .add t x y u,ty,pos,after,g⟩ K S D B L:=Zp (ZeY  hg hd hx hy hr h)
theorem xU  {k:IntKind} {a b r:Int}   (hg:Zm ops S g=some true:=by exact rfl) (hd:ZB n dst=true:=by exact rfl) (hx:ev S x=some (.int k a):=by exact rfl) (hy:ev S y=some (.int k b):=by exact rfl) (hr:k.wrap (a - b)=r:=by first | exact ZaR (by first | omega | (simp;done) | (simp;omega)) (by first | omega | (simp;done) | (simp;omega)) | exact rfl) (h:K (ZbS S dst (.int k r)) D B L):opW P n ops i ⟨dst,.binOp .sub t x y u,ty,pos,after,g⟩ K S D B L:=Zp (ZjF  hg hd hx hy hr h)
theorem xY  {k:IntKind} {a b r:Int}   (hg:Zm ops S g=some true:=by exact rfl) (hd:ZB n dst=true:=by exact rfl) (hx:ev S x=some (.int k a):=by exact rfl) (hy:ev S y=some (.int k b):=by exact rfl) (hr:k.wrap (a*b)=r:=by first | exact ZaR (by first | omega | (simp;done) | (simp;omega)) (by first | omega | (simp;done) | (simp;omega)) | exact rfl) (h:K (ZbS S dst (.int k r)) D B L):opW P n ops i ⟨dst,.binOp .mul t x y u,ty,pos,after,g⟩ K S D B L:=Zp (Zlo  hg hd hx hy hr h)
theorem Zaa  {k:IntKind} {a b:Int}   (hg:Zm ops S g=some true:=by exact rfl) (hd:ZB n dst=true:=by exact rfl) (hx:ev S x=some (.int k a):=by exact rfl) (hy:ev S y=some (.int k b):=by exact rfl) (h:K (ZbS S dst (.bool (decide (a<b)))) D B L):opW P n ops i ⟨dst,.binOp .lss t x y u,ty,pos,after,g⟩ K S D B L:=Zp (Zv6  hg hd hx hy h)
theorem ZcP  {k:IntKind} {a b:Int}   (hg:Zm ops S g=some true:=by exact rfl) (hd:ZB n dst=true:=by exact rfl) (hx:ev S x=some (.int k a):=by exact rfl) (hy:ev S y=some (.int k b):=by exact rfl) (h:K (ZbS S dst (.bool (decide (a≤b)))) D B L):opW P n ops i ⟨dst,.binOp .leq t x y u,ty,pos,after,g⟩ K S D B L:=Zp (Zv7  hg hd hx hy h)
theorem Zbw  {k:IntKind} {a b:Int}   (hg:Zm ops S g=some true:=by exact rfl) (hd:ZB n dst=true:=by exact rfl) (hx:ev S x=some (.int k a):=by exact rfl) (hy:ev S y=some (.int k b):=by exact rfl) (h:K (ZbS S dst (.bool (decide (b<a)))) D B L):opW P n ops i ⟨dst,.binOp .gtr t x y u,ty,pos,after,g⟩ K S D B L:=Zp (Zwa  hg hd hx hy h)
theorem Zd9  {k:IntKind} {a b:Int}   (hg:Zm ops S g=some true:=by exact rfl) (hd:ZB n dst=true:=by exact rfl) (hx:ev S x=some (.int k a):=by exact rfl) (hy:ev S y=some (.int k b):=by exact rfl) (h:K (ZbS S dst (.bool (decide (b≤a)))) D B L):opW P n ops i ⟨dst,.binOp .geq t x y u,ty,pos,after,g⟩ K S D B L:=Zp (Zwb  hg hd hx hy h)
theorem ZF  {k:IntKind} {a b:Int}   (hg:Zm ops S g=some true:=by exact rfl) (hd:ZB n dst=true:=by exact rfl) (hx:ev S x=some (.int k a):=by exact rfl) (hy:ev S y=some (.int k b):=by exact rfl) (h:K (ZbS S dst (.bool (decide (a=b)))) D B L):opW P n ops i ⟨dst,.binOp .eql t x y u,ty,pos,after,g⟩ K S D B L:=Zp (Zt3  hg hd hx hy h)
theorem ZbC  {k:IntKind} {a b:Int}   (hg:Zm ops S g=some true:=by exact rfl) (hd:ZB n dst=true:=by exact rfl) (hx:ev S x=some (.int k a):=by exact rfl) (hy:ev S y=some (.int k b):=by exact rfl) (h:K (ZbS S dst (.bool (decide (a≠b)))) D B L):opW P n ops i ⟨dst,.binOp .neq t x y u,ty,pos,after,g⟩ K S D B L:=Zp (ZtY  hg hd hx hy h)
theorem Zdk  {a b:List UInt8}   (hg:Zm ops S g=some true:=by exact rfl) (hd:ZB n dst=true:=by exact rfl) (hx:ev S x=some (str a):=by exact rfl) (hy:ev S y=some (str b):=by exact rfl) (h:K (ZbS S dst (.bool (decide (a=b)))) D B L):opW P n ops i ⟨dst,.binOp .eql t x y u,ty,pos,after,g⟩ K S D B L:=Zp (Zt2  hg hd hx hy h)
theorem ZfD  {a b:List UInt8}   (hg:Zm ops S g=some true:=by exact rfl) (hd:ZB n dst=true:=by exact rfl) (hx:ev S x=some (str a):=by exact rfl) (hy:ev S y=some (str b):=by exact rfl) (h:K (ZbS S dst (.bool (decide (a≠b)))) D B L):opW P n ops i ⟨dst,.binOp .neq t x y u,ty,pos,after,g⟩ K S D B L:=Zp (ZtX  hg hd hx hy h)
theorem ZtS  {a b:List UInt8}   (hg:Zm ops S g=some true:=by exact rfl) (hd:ZB n dst=true:=by exact rfl) (hx:ev S x=some (str a):=by exact rfl) (hy:ev S y=some (str b):=by exact rfl) (h:K (ZbS S dst (.bool (Op.bytesLess a b))) D B L):opW P n ops i ⟨dst,.binOp .lss t x y u,ty,pos,after,g⟩ K S D B L:=Zp (Zv5  hg hd hx hy h)
theorem ZvY  {a b:List UInt8}   (hg:Zm ops S g=some true:=by exact rfl) (hd:ZB n dst=true:=by exact rfl) (hx:ev S x=some (str a):=by exact rfl) (hy:ev S y=some (str b):=by exact rfl) (h:K (ZbS S dst (.bool (!Op.bytesLess a b))) D B L):opW P n ops i ⟨dst,.binOp .geq t x y u,ty,pos,after,g⟩ K S D B L:=Zp (Zqa  hg hd hx hy h)
theorem xV  {x:Operand} {t:TypeId} {e:TypeId} {p:Option Addr} {len:Nat} {cap:Nat}  (hu:P.underlying t=some (.slice e)) (hg:Zm ops S g=some true:=by exact rfl) (hd:ZB n dst=true:=by exact rfl) (hx:ev S x=some (.slice p len cap):=by exact rfl) (h:K (ZbS S dst (.int .i64 len)) D B L):opW P n ops i ⟨dst,.call ⟨.builtin .len,#[x],#[t]⟩,ty,pos,after,g⟩ K S D B L:=Zp (Zt1  hg hd hu hx h)
theorem xVs  {x:Operand} {t:TypeId} {l:List UInt8}  (hu:P.underlying t=some .string) (hg:Zm ops S g=some true:=by exact rfl) (hd:ZB n dst=true:=by exact rfl) (hx:ev S x=some (str l):=by exact rfl) (h:K (ZbS S dst (.int .i64 l.length)) D B L):opW P n ops i ⟨dst,.call ⟨.builtin .len,#[x],#[t]⟩,ty,pos,after,g⟩ K S D B L:=Zp (ZnX  hg hd hu hx h)
theorem xNc  {x:Operand} {a:Addr}   (hg:Zm ops S g=some true:=by exact rfl) (hd:ZB n dst=true:=by exact rfl) (hx:ev S x=some (.pointer (some a)):=by exact rfl) (h:K (ZbS S dst (.pointer (some a))) D B L):opW P n ops i ⟨dst,.nilCheck x,ty,pos,after,g⟩ K S D B L:=Zp (ZjQ  hg hd hx h)
theorem x1  {t:TypeId} {x:Operand} {a:Addr} {v:Value} {l:List Value} {T:TypeId} {fr:Nat × Nat} {r:Cells}  (hl:lk P t=some none) (j:Nat) (hg:Zm ops S g=some true:=by exact rfl) (hd:ZB n dst=true:=by exact rfl) (hx:ev S x=some (ptr a):=by exact rfl) (hj:L[j]? = some ((a.block,.cells l.toArray T fr) :: r):=by exact rfl) (hs:a.spot=none:=by exact rfl) (hv:l[a.off]? = some v:=by exact rfl) (h:K (ZbS S dst v) D B L):opW P n ops i ⟨dst,.load t x,ty,pos,after,g⟩ K S D B L:=Zp (Zh  hg hd hl hx (atL j hj hs hv) h)
theorem xL  {t:TypeId} {x:Operand} {a:Addr} {l:List Value} {T:TypeId} {fr:Nat × Nat} {r:Cells}  (vs:List Value) (hl:lk P t=some (some vs.length)) (j:Nat) (hg:Zm ops S g=some true:=by exact rfl) (hd:ZB n dst=true:=by exact rfl) (hx:ev S x=some (ptr a):=by exact rfl) (hj:L[j]? = some ((a.block,.cells l.toArray T fr) :: r):=by exact rfl) (hs:a.spot=none:=by exact rfl) (hv:(l.drop a.off).take vs.length=vs:=by exact rfl) (h:K (ZbS S dst (.agg vs.toArray)) D B L):opW P n ops i ⟨dst,.load t x,ty,pos,after,g⟩ K S D B L:=Zp (Z1  vs hg hd hl hx (Z9 j hj hs hv) h)
theorem y1  {t:TypeId} {x:Operand} {a:Addr} {v:Value} {b o:Nat} {row:List Value}  (hl:lk P t=some none) (hc:ZaQ B b o row) (off:Nat) (hg:Zm ops S g=some true:=by exact rfl) (hd:ZB n dst=true:=by exact rfl) (hx:ev S x=some (ptr a):=by exact rfl) (ha:a=⟨b,o+off,none⟩:=by exact rfl) (hv:row[off]? = some v:=by exact rfl) (h:K (ZbS S dst v) D B L):opW P n ops i ⟨dst,.load t x,ty,pos,after,g⟩ K S D B L:=Zp (Zh  hg hd hl hx (by subst ha;exact hc _ off _ hv) h)
theorem yL  {t:TypeId} {x:Operand} {a:Addr} {b o:Nat} {row:List Value}  (vs:List Value) (hl:lk P t=some (some vs.length)) (hc:ZaQ B b o row) (off:Nat) (hg:Zm ops S g=some true:=by exact rfl) (hd:ZB n dst=true:=by exact rfl) (hx:ev S x=some (ptr a):=by exact rfl) (ha:a=⟨b,o+off,none⟩:=by exact rfl) (hv:(row.drop off).take vs.length=vs:=by exact rfl) (h:K (ZbS S dst (.agg vs.toArray)) D B L):opW P n ops i ⟨dst,.load t x,ty,pos,after,g⟩ K S D B L:=Zp (Z1  vs hg hd hl hx (Ziv hc off ha hv) h)
theorem xS  {t:TypeId} {x:Operand} {y:Operand} {a:Addr} {v:Value} {l:List Value} {T:TypeId} {r:Cells}  (vs:List Value) (j:Nat) (l':List Value) (hsz:Z8 P t=some vs.length) (hg:Zm ops S g=some true:=by exact rfl) (hd:ZB n dst=true:=by exact rfl) (hx:ev S x=some (ptr a):=by exact rfl) (hy:ev S y=some v:=by exact rfl) (hv:v.cells=vs.toArray:=by exact rfl) (ho:vs.all ZhS=true:=by exact rfl) (hj:L[j]? = some ((a.block,.cells l.toArray T (0,0)) :: r):=by exact rfl) (hs:a.spot=none:=by exact rfl) (hlen:Nat.ble (a.off+vs.length) l.length=true:=by exact rfl) (hl':ZaV l a.off vs=l':=by exact rfl) (h:K (ZbS S dst undef) D B (L.set j ((a.block,.cells l'.toArray T (0,0)) :: r))):opW P n ops i ⟨dst,.store t x y,ty,pos,after,g⟩ K S D B L:=Zp (ZI  vs j l' hg hd hsz hx hy hv ho hj hs hlen hl' h)
theorem xB  {t:TypeId} {z:Value} {pl:List (Nat × Nat)} {vs:List Value} (parts:List (Nat × Operand)) (zl l':List Value) (hpl:ZaX P t=some pl) (hz:Zaw P t=some z) (hg:Zm ops S g=some true:=by exact rfl) (hd:ZB n dst=true:=by exact rfl) (hzl:z.cells.toList=zl:=by exact rfl) (ha:evs S (parts.map (·.2))=some vs:=by exact rfl) (hf:ZjM (fun i=>pl[i]?) zl ((parts.map (·.1)).zip vs)=some l':=by exact rfl) (h:K (ZbS S dst (.agg l'.toArray)) D B L):opW P n ops i ⟨dst,.build t parts.toArray,ty,pos,after,g⟩ K S D B L:=Zp (Zaz (parts:=parts) zl l' hg hd hpl hz hzl ha hf h)
theorem xAl  {t:TypeId} {z:Value} (l:List Value) (hz:Zaw P t=some z) (hg:Zm ops S g=some true:=by exact rfl) (hd:ZB n dst=true:=by exact rfl) (hl:z.cells=l.toArray:=by exact rfl) (h :∀b,K (ZbS S dst (ptr ⟨b,0,none⟩)) D B (L ++ [Zas b l t])):opW P n ops i ⟨dst,.alloc t,ty,pos,after,g⟩ K S D B L:=Zp (Zal (l:=l) hg hd hz hl h)
theorem xBx  {t:TypeId} {x:Operand} {v:Value} (l:List Value)  (hg:Zm ops S g=some true:=by exact rfl) (hd:ZB n dst=true:=by exact rfl) (hx:ev S x=some v:=by exact rfl) (hl:v.cells=l.toArray:=by exact rfl) (h :∀b,K (ZbS S dst (ptr ⟨b,0,none⟩)) D B (L ++ [Zas b l t])):opW P n ops i ⟨dst,.box t x,ty,pos,after,g⟩ K S D B L:=Zp (Zwe (l:=l) hg hd hx hl h)
theorem xIx  {t:TypeId} {e:TypeId} {x:Operand} {y:Operand} {k:IntKind} {b:Nat} {o:Nat} {len:Nat} {cap:Nat} {sz:Nat} {ix:Int}  (hu:P.underlying t=some (.slice e)) (hsz:Z8 P e=some sz) (hg:Zm ops S g=some true:=by exact rfl) (hd:ZB n dst=true:=by exact rfl) (hx:ev S x=some (.slice (some ⟨b,o,none⟩) len cap):=by exact rfl) (hy:ev S y=some (.int k ix):=by exact rfl) (h0:0≤ix:=by first | omega | (simp;done) | (simp;omega)) (h1:ix<len:=by first | omega | (simp;done) | (simp;omega)) (h:K (ZbS S dst (ptr ⟨b,o+ix.toNat*sz,none⟩)) D B L):opW P n ops i ⟨dst,.indexAddr t x y,ty,pos,after,g⟩ K S D B L:=Zp (Zv8  hg hd hu hsz hx hy h0 h1 h)
theorem xIp  {t:TypeId} {e:TypeId} {x:Operand} {y:Operand} {k:IntKind} {p:Option Addr} {b:Nat} {len:Nat} {cap:Nat} {sz:Nat} {ix:Int}  (hp:p=some ⟨b,0,none⟩) (hu:P.underlying t=some (.slice e)) (hsz:Z8 P e=some sz) (hg:Zm ops S g=some true:=by exact rfl) (hd:ZB n dst=true:=by exact rfl) (hx:ev S x=some (.slice p len cap):=by exact rfl) (hy:ev S y=some (.int k ix):=by exact rfl) (h0:0≤ix:=by first | omega | (simp;done) | (simp;omega)) (h1:ix<len:=by first | omega | (simp;done) | (simp;omega)) (h:K (ZbS S dst (ptr ⟨b,ix.toNat*sz,none⟩)) D B L):opW P n ops i ⟨dst,.indexAddr t x y,ty,pos,after,g⟩ K S D B L:=Zp (ZfN  hp hg hd hu hsz hx hy h0 h1 h)
theorem xX  {f:FuncId} {xs:List Operand} {vs:List Value} {ats:Array TypeId} {Q:Value→Cells→Prop} {s:Cells}  (j:Nat) (hj:L[j]? = some s) (he:enters P f=true) (ha:evs S xs=some vs) (hc:Ex1 P f vs B s Q) (hg:Zm ops S g=some true:=by exact rfl) (hd:ZB n dst=true:=by exact rfl) (h :∀v s',Q v s'→K (ZbS S dst v) D B (L.set j s')):opW P n ops i ⟨dst,.call ⟨.value (.func f),xs.toArray,ats⟩,ty,pos,after,g⟩ K S D B L:=Zp (Zcm  j hj hg hd he ha hc h)
theorem xR  {f:FuncId} {xs:List Operand} {vs:List Value} {ats:Array TypeId} {v:Value}  (he:enters P f=true) (ha:evs S xs=some vs) (hc:ZaH P f vs B v) (hg:Zm ops S g=some true:=by exact rfl) (hd:ZB n dst=true:=by exact rfl) (h:K (ZbS S dst v) D B L):opW P n ops i ⟨dst,.call ⟨.value (.func f),xs.toArray,ats⟩,ty,pos,after,g⟩ K S D B L:=Zp (Za2  hg hd he ha hc h)
theorem xC  {f:FuncId} {xs:List Operand} {vs:List Value} {ats:Array TypeId} {Post:Value→Kn→List Cells→Prop}  (he:enters P f=true) (ha:evs S xs=some vs) (hc:Zu P f vs B [] Post) (hg:Zm ops S g=some true:=by exact rfl) (hd:ZB n dst=true:=by exact rfl) (h :∀v B' Ls',B.le B'→Post v B' Ls'→K (ZbS S dst v) D B' (L ++ Ls')):opW P n ops i ⟨dst,.call ⟨.value (.func f),xs.toArray,ats⟩,ty,pos,after,g⟩ K S D B L:=Zp (Zbh  hg hd he ha hc h)
theorem xQ  {f:FuncId} {xs:List Operand} {vs:List Value} {ats:Array TypeId} {Post:Value→Kn→Prop}  (he:enters P f=true) (ha:evs S xs=some vs) (hc:Zu P f vs B [] (fun v B' Ls=>Ls=[]∧Post v B')) (hg:Zm ops S g=some true:=by exact rfl) (hd:ZB n dst=true:=by exact rfl) (h :∀v B',B.le B'→Post v B'→K (ZbS S dst v) D B' L):opW P n ops i ⟨dst,.call ⟨.value (.func f),xs.toArray,ats⟩,ty,pos,after,g⟩ K S D B L:=Zp (ZeD  hg hd he ha hc h)
theorem xK  {f:FuncId} {xs:List Operand} {vs:List Value} {ats:Array TypeId} {Post:Value→Kn→List Cells→Prop} {ss:List Cells} {r:List Cells}  (js:List Nat) (hp:Za0 L js=some (ss,r)) (he:enters P f=true) (ha:evs S xs=some vs) (hc:Zu P f vs B ss Post) (hn:Ze7 js=true:=by exact rfl) (hg:Zm ops S g=some true:=by exact rfl) (hd:ZB n dst=true:=by exact rfl) (h :∀v B' Ls',B.le B'→Post v B' Ls'→K (ZbS S dst v) D B' (Zda r js Ls')):opW P n ops i ⟨dst,.call ⟨.value (.func f),xs.toArray,ats⟩,ty,pos,after,g⟩ K S D B L:=Zp (ZaA  js hp hn hg hd he ha hc h)
theorem xBs  {t:TypeId} {e:TypeId} {len:Nat} {sz:Nat} {z:Value} {vs:List Value} (parts:List (Nat × Operand)) (l':List Value) (hu:P.underlying t=some (.slice e)) (hsz:Z8 P e=some sz) (hz:Zaw P e=some z) (hg:Zm ops S g=some true:=by exact rfl) (hd:ZB n dst=true:=by exact rfl) (hbig:Nat.ble (len*sz) 1024=true:=by exact rfl) (hidx:parts.map (·.1)=List.range len:=by exact rfl) (ha:evs S (parts.map (·.2))=some vs:=by exact rfl) (hall:vs.all (fun v=>Nat.beq v.cells.toList.length sz)=true:=by exact rfl) (hl':(vs.map fun v=>v.cells.toList).flatten=l':=by exact rfl) (h :∀b,K (ZbS S dst (.slice (some ⟨b,0,none⟩) len len)) D B (L ++ [Zas b l' e])):opW P n ops i ⟨dst,.buildSlice t len parts.toArray,ty,pos,after,g⟩ K S D B L:=Zp (Zt (parts:=parts) l' hg hd hu hsz hz hbig hidx ha hall hl' h)
end
section
variable {P:PJ} {n:Nat} {ops:Array Oper} {K:Zao} {S:Env} {D:List Deferred} {B:Kn} {L:List Cells}
variable {dst:Option Tmp} {ty:TypeId} {pos:String} {after:Array Edge} {g:Option (Nat × Bool)} {t u:TypeId} {x y:Operand}
theorem aT {C:Cx P} {k':List Item} {I:Kn→List Cells→Prop} {ℓ:List Nat} (i:Nat) {o:Oper} {v:Value} (hi:ops[i]? = some o) (hq:quiet P n ops I i o v (sel (o.looksAt ops) S)) (hr:(Za8 ops ℓ).contains i=true:=by kernel_rfl) (hd:ZB n o.dst=true:=by exact rfl) (hp:Zkc o=false:=by rfl) (h:ZbR C k' n ops I (i :: ℓ) K (ZbS S o.dst v) D B L):ZbR C k' n ops I ℓ K S D B L:=ZtH i hi hr hd hq h hp
theorem r4 {α β γ δ:Type} {a:α} {b:β} {c:γ} {d:δ} : a=a∧b=b∧c=c∧d=d:=⟨rfl,rfl,rfl,rfl⟩
variable {C:Cx P} {k':List Item} {I:Kn→List Cells→Prop} {ℓ:List Nat}
theorem aM  {x:Operand} {v:Value} (i:Nat) (hii:ops[i]? = some ⟨dst,.move x,ty,pos,after,g⟩)  (hrr:(Za8 ops ℓ).contains i=true:=by kernel_rfl) (hdd:ZB n dst=true:=by exact rfl) (hg:Zm ops (sel ((⟨dst,.move x,ty,pos,after,g⟩:Oper).looksAt ops) S) g=some true:=by exact rfl) (hd:ZB n dst=true:=by exact rfl) (hx:ev (sel ((⟨dst,.move x,ty,pos,after,g⟩:Oper).looksAt ops) S) x=some v:=by exact rfl) (h:ZbR C k' n ops I (i :: ℓ) K (ZbS S dst v) D B L):ZbR C k' n ops I ℓ K S D B L:=Zau i hii hrr hdd (fun _ _ _=>Zp7 hg hd hx ⟨rfl,rfl,rfl,rfl⟩) h
theorem aA  {x:Operand} {v:Value} (i:Nat) (hii:ops[i]? = some ⟨dst,.assign x,ty,pos,after,g⟩)  (hrr:(Za8 ops ℓ).contains i=true:=by kernel_rfl) (hdd:ZB n dst=true:=by exact rfl) (hg:Zm ops (sel ((⟨dst,.assign x,ty,pos,after,g⟩:Oper).looksAt ops) S) g=some true:=by exact rfl) (hd:ZB n dst=true:=by exact rfl) (hx:ev (sel ((⟨dst,.assign x,ty,pos,after,g⟩:Oper).looksAt ops) S) x=some v:=by exact rfl) (h:ZbR C k' n ops I (i :: ℓ) K (ZbS S dst v) D B L):ZbR C k' n ops I ℓ K S D B L:=Zau i hii hrr hdd (fun _ _ _=>Zn0 hg hd hx ⟨rfl,rfl,rfl,rfl⟩) h
theorem aZ  {dst:Option Tmp} {op:Op} {t:TypeId} {pos:String} {after:Array Edge} {g:Option (Nat × Bool)} (i:Nat) (hii:ops[i]? = some ⟨dst,op,t,pos,after,g⟩)  (hrr:(Za8 ops ℓ).contains i=true:=by kernel_rfl) (hdd:ZB n dst=true:=by exact rfl) (hg:Zm ops (sel ((⟨dst,op,t,pos,after,g⟩:Oper).looksAt ops) S) g=some false:=by exact rfl) (hd:ZB n dst=true:=by exact rfl) (h:ZbR C k' n ops I (i :: ℓ) K (ZbS S dst undef) D B L):ZbR C k' n ops I ℓ K S D B L:=Zau i hii hrr hdd (fun _ _ _=>ZtV hg hd ⟨rfl,rfl,rfl,rfl⟩) h
theorem aPT  {c:Operand} {a:Operand} {b:Operand} {v:Value} (i:Nat) (hii:ops[i]? = some ⟨dst,.pick c a b,ty,pos,after,g⟩)  (hrr:(Za8 ops ℓ).contains i=true:=by kernel_rfl) (hdd:ZB n dst=true:=by exact rfl) (hg:Zm ops (sel ((⟨dst,.pick c a b,ty,pos,after,g⟩:Oper).looksAt ops) S) g=some true:=by exact rfl) (hd:ZB n dst=true:=by exact rfl) (hc:ev (sel ((⟨dst,.pick c a b,ty,pos,after,g⟩:Oper).looksAt ops) S) c=some (.bool true):=by exact rfl) (hx:ev (sel ((⟨dst,.pick c a b,ty,pos,after,g⟩:Oper).looksAt ops) S) a=some v:=by exact rfl) (h:ZbR C k' n ops I (i :: ℓ) K (ZbS S dst v) D B L):ZbR C k' n ops I ℓ K S D B L:=Zau i hii hrr hdd (fun _ _ _=>Zp4 hg hd hc hx ⟨rfl,rfl,rfl,rfl⟩) h
theorem aPF  {c:Operand} {a:Operand} {b:Operand} {v:Value} (i:Nat) (hii:ops[i]? = some ⟨dst,.pick c a b,ty,pos,after,g⟩)  (hrr:(Za8 ops ℓ).contains i=true:=by kernel_rfl) (hdd:ZB n dst=true:=by exact rfl) (hg:Zm ops (sel ((⟨dst,.pick c a b,ty,pos,after,g⟩:Oper).looksAt ops) S) g=some true:=by exact rfl) (hd:ZB n dst=true:=by exact rfl) (hc:ev (sel ((⟨dst,.pick c a b,ty,pos,after,g⟩:Oper).looksAt ops) S) c=some (.bool false):=by exact rfl) (hx:ev (sel ((⟨dst,.pick c a b,ty,pos,after,g⟩:Oper).looksAt ops) S) b=some v:=by exact rfl) (h:ZbR C k' n ops I (i :: ℓ) K (ZbS S dst v) D B L):ZbR C k' n ops I ℓ K S D B L:=Zau i hii hrr hdd (fun _ _ _=>Zp5 hg hd hc hx ⟨rfl,rfl,rfl,rfl⟩) h
theorem aE  {x:Operand} {ix:Nat} {vs:List Value} {v:Value} (i:Nat) (hii:ops[i]? = some ⟨dst,.extract x ix,ty,pos,after,g⟩)  (hrr:(Za8 ops ℓ).contains i=true:=by kernel_rfl) (hdd:ZB n dst=true:=by exact rfl) (hg:Zm ops (sel ((⟨dst,.extract x ix,ty,pos,after,g⟩:Oper).looksAt ops) S) g=some true:=by exact rfl) (hd:ZB n dst=true:=by exact rfl) (hx:ev (sel ((⟨dst,.extract x ix,ty,pos,after,g⟩:Oper).looksAt ops) S) x=some (.tuple vs.toArray):=by exact rfl) (hi:vs[ix]? = some v:=by exact rfl) (h:ZbR C k' n ops I (i :: ℓ) K (ZbS S dst v) D B L):ZbR C k' n ops I ℓ K S D B L:=Zau i hii hrr hdd (fun _ _ _=>Zic hg hd hx hi ⟨rfl,rfl,rfl,rfl⟩) h
theorem aW  {s:TypeId} {x:Operand} {fi:Nat} {off:Nat} {a:Addr} (i:Nat) (hii:ops[i]? = some ⟨dst,.fieldAddr s x fi,ty,pos,after,g⟩) (hf:ZP P s fi=some off) (hrr:(Za8 ops ℓ).contains i=true:=by kernel_rfl) (hdd:ZB n dst=true:=by exact rfl) (hg:Zm ops (sel ((⟨dst,.fieldAddr s x fi,ty,pos,after,g⟩:Oper).looksAt ops) S) g=some true:=by exact rfl) (hd:ZB n dst=true:=by exact rfl) (hx:ev (sel ((⟨dst,.fieldAddr s x fi,ty,pos,after,g⟩:Oper).looksAt ops) S) x=some (ptr a):=by exact rfl) (h:ZbR C k' n ops I (i :: ℓ) K (ZbS S dst (ptr (a.add off))) D B L):ZbR C k' n ops I ℓ K S D B L:=Zau i hii hrr hdd (fun _ _ _=>ZeC hg hd hf hx ⟨rfl,rfl,rfl,rfl⟩) h
theorem aN  {x:Operand} {b:Bool} {t:TypeId} (i:Nat) (hii:ops[i]? = some ⟨dst,.unOp .not t x,ty,pos,after,g⟩)  (hrr:(Za8 ops ℓ).contains i=true:=by kernel_rfl) (hdd:ZB n dst=true:=by exact rfl) (hg:Zm ops (sel ((⟨dst,.unOp .not t x,ty,pos,after,g⟩:Oper).looksAt ops) S) g=some true:=by exact rfl) (hd:ZB n dst=true:=by exact rfl) (hx:ev (sel ((⟨dst,.unOp .not t x,ty,pos,after,g⟩:Oper).looksAt ops) S) x=some (.bool b):=by exact rfl) (h:ZbR C k' n ops I (i :: ℓ) K (ZbS S dst (.bool (!b))) D B L):ZbR C k' n ops I ℓ K S D B L:=Zau i hii hrr hdd (fun _ _ _=>Zv3 hg hd hx ⟨rfl,rfl,rfl,rfl⟩) h
theorem aNc  {x:Operand} {a:Addr} (i:Nat) (hii:ops[i]? = some ⟨dst,.nilCheck x,ty,pos,after,g⟩)  (hrr:(Za8 ops ℓ).contains i=true:=by kernel_rfl) (hdd:ZB n dst=true:=by exact rfl) (hg:Zm ops (sel ((⟨dst,.nilCheck x,ty,pos,after,g⟩:Oper).looksAt ops) S) g=some true:=by exact rfl) (hd:ZB n dst=true:=by exact rfl) (hx:ev (sel ((⟨dst,.nilCheck x,ty,pos,after,g⟩:Oper).looksAt ops) S) x=some (.pointer (some a)):=by exact rfl) (h:ZbR C k' n ops I (i :: ℓ) K (ZbS S dst (.pointer (some a))) D B L):ZbR C k' n ops I ℓ K S D B L:=Zau i hii hrr hdd (fun _ _ _=>ZjQ hg hd hx ⟨rfl,rfl,rfl,rfl⟩) h
theorem aV  {x:Operand} {t:TypeId} {e:TypeId} {p:Option Addr} {len:Nat} {cap:Nat} (i:Nat) (hii:ops[i]? = some ⟨dst,.call ⟨.builtin .len,#[x],#[t]⟩,ty,pos,after,g⟩) (hu:P.underlying t=some (.slice e)) (hrr:(Za8 ops ℓ).contains i=true:=by kernel_rfl) (hdd:ZB n dst=true:=by exact rfl) (hg:Zm ops (sel ((⟨dst,.call ⟨.builtin .len,#[x],#[t]⟩,ty,pos,after,g⟩:Oper).looksAt ops) S) g=some true:=by exact rfl) (hd:ZB n dst=true:=by exact rfl) (hx:ev (sel ((⟨dst,.call ⟨.builtin .len,#[x],#[t]⟩,ty,pos,after,g⟩:Oper).looksAt ops) S) x=some (.slice p len cap):=by exact rfl) (h:ZbR C k' n ops I (i :: ℓ) K (ZbS S dst (.int .i64 len)) D B L):ZbR C k' n ops I ℓ K S D B L:=Zau i hii hrr hdd (fun _ _ _=>Zt1 hg hd hu hx ⟨rfl,rfl,rfl,rfl⟩) h
theorem Zr9  {k:IntKind} {a b:Int} (i:Nat) (hii:ops[i]? = some ⟨dst,.binOp .lss t x y u,ty,pos,after,g⟩)  (hrr:(Za8 ops ℓ).contains i=true:=by kernel_rfl) (hdd:ZB n dst=true:=by exact rfl) (hg:Zm ops (sel ((⟨dst,.binOp .lss t x y u,ty,pos,after,g⟩:Oper).looksAt ops) S) g=some true:=by exact rfl) (hd:ZB n dst=true:=by exact rfl) (hx:ev (sel ((⟨dst,.binOp .lss t x y u,ty,pos,after,g⟩:Oper).looksAt ops) S) x=some (.int k a):=by exact rfl) (hy:ev (sel ((⟨dst,.binOp .lss t x y u,ty,pos,after,g⟩:Oper).looksAt ops) S) y=some (.int k b):=by exact rfl) (h:ZbR C k' n ops I (i :: ℓ) K (ZbS S dst (.bool (decide (a<b)))) D B L):ZbR C k' n ops I ℓ K S D B L:=Zau i hii hrr hdd (fun _ _ _=>Zv6 hg hd hx hy ⟨rfl,rfl,rfl,rfl⟩) h
theorem ZtO  {k:IntKind} {a b:Int} (i:Nat) (hii:ops[i]? = some ⟨dst,.binOp .leq t x y u,ty,pos,after,g⟩)  (hrr:(Za8 ops ℓ).contains i=true:=by kernel_rfl) (hdd:ZB n dst=true:=by exact rfl) (hg:Zm ops (sel ((⟨dst,.binOp .leq t x y u,ty,pos,after,g⟩:Oper).looksAt ops) S) g=some true:=by exact rfl) (hd:ZB n dst=true:=by exact rfl) (hx:ev (sel ((⟨dst,.binOp .leq t x y u,ty,pos,after,g⟩:Oper).looksAt ops) S) x=some (.int k a):=by exact rfl) (hy:ev (sel ((⟨dst,.binOp .leq t x y u,ty,pos,after,g⟩:Oper).looksAt ops) S) y=some (.int k b):=by exact rfl) (h:ZbR C k' n ops I (i :: ℓ) K (ZbS S dst (.bool (decide (a≤b)))) D B L):ZbR C k' n ops I ℓ K S D B L:=Zau i hii hrr hdd (fun _ _ _=>Zv7 hg hd hx hy ⟨rfl,rfl,rfl,rfl⟩) h
theorem ZnR  {k:IntKind} {a b:Int} (i:Nat) (hii:ops[i]? = some ⟨dst,.binOp .gtr t x y u,ty,pos,after,g⟩)  (hrr:(Za8 ops ℓ).contains i=true:=by kernel_rfl) (hdd:ZB n dst=true:=by exact rfl) (hg:Zm ops (sel ((⟨dst,.binOp .gtr t x y u,ty,pos,after,g⟩:Oper).looksAt ops) S) g=some true:=by exact rfl) (hd:ZB n dst=true:=by exact rfl) (hx:ev (sel ((⟨dst,.binOp .gtr t x y u,ty,pos,after,g⟩:Oper).looksAt ops) S) x=some (.int k a):=by exact rfl) (hy:ev (sel ((⟨dst,.binOp .gtr t x y u,ty,pos,after,g⟩:Oper).looksAt ops) S) y=some (.int k b):=by exact rfl) (h:ZbR C k' n ops I (i :: ℓ) K (ZbS S dst (.bool (decide (b<a)))) D B L):ZbR C k' n ops I ℓ K S D B L:=Zau i hii hrr hdd (fun _ _ _=>Zwa hg hd hx hy ⟨rfl,rfl,rfl,rfl⟩) h
theorem Zxi  {k:IntKind} {a b:Int} (i:Nat) (hii:ops[i]? = some ⟨dst,.binOp .geq t x y u,ty,pos,after,g⟩)  (hrr:(Za8 ops ℓ).contains i=true:=by kernel_rfl) (hdd:ZB n dst=true:=by exact rfl) (hg:Zm ops (sel ((⟨dst,.binOp .geq t x y u,ty,pos,after,g⟩:Oper).looksAt ops) S) g=some true:=by exact rfl) (hd:ZB n dst=true:=by exact rfl) (hx:ev (sel ((⟨dst,.binOp .geq t x y u,ty,pos,after,g⟩:Oper).looksAt ops) S) x=some (.int k a):=by exact rfl) (hy:ev (sel ((⟨dst,.binOp .geq t x y u,ty,pos,after,g⟩:Oper).looksAt ops) S) y=some (.int k b):=by exact rfl) (h:ZbR C k' n ops I (i :: ℓ) K (ZbS S dst (.bool (decide (b≤a)))) D B L):ZbR C k' n ops I ℓ K S D B L:=Zau i hii hrr hdd (fun _ _ _=>Zwb hg hd hx hy ⟨rfl,rfl,rfl,rfl⟩) h
theorem Zsb  {k:IntKind} {a b:Int} (i:Nat) (hii:ops[i]? = some ⟨dst,.binOp .eql t x y u,ty,pos,after,g⟩)  (hrr:(Za8 ops ℓ).contains i=true:=by kernel_rfl) (hdd:ZB n dst=true:=by exact rfl) (hg:Zm ops (sel ((⟨dst,.binOp .eql t x y u,ty,pos,after,g⟩:Oper).looksAt ops) S) g=some true:=by exact rfl) (hd:ZB n dst=true:=by exact rfl) (hx:ev (sel ((⟨dst,.binOp .eql t x y u,ty,pos,after,g⟩:Oper).looksAt ops) S) x=some (.int k a):=by exact rfl) (hy:ev (sel ((⟨dst,.binOp .eql t x y u,ty,pos,after,g⟩:Oper).looksAt ops) S) y=some (.int k b):=by exact rfl) (h:ZbR C k' n ops I (i :: ℓ) K (ZbS S dst (.bool (decide (a=b)))) D B L):ZbR C k' n ops I ℓ K S D B L:=Zau i hii hrr hdd (fun _ _ _=>Zt3 hg hd hx hy ⟨rfl,rfl,rfl,rfl⟩) h
theorem Zxh  {k:IntKind} {a b:Int} (i:Nat) (hii:ops[i]? = some ⟨dst,.binOp .neq t x y u,ty,pos,after,g⟩)  (hrr:(Za8 ops ℓ).contains i=true:=by kernel_rfl) (hdd:ZB n dst=true:=by exact rfl) (hg:Zm ops (sel ((⟨dst,.binOp .neq t x y u,ty,pos,after,g⟩:Oper).looksAt ops) S) g=some true:=by exact rfl) (hd:ZB n dst=true:=by exact rfl) (hx:ev (sel ((⟨dst,.binOp .neq t x y u,ty,pos,after,g⟩:Oper).looksAt ops) S) x=some (.int k a):=by exact rfl) (hy:ev (sel ((⟨dst,.binOp .neq t x y u,ty,pos,after,g⟩:Oper).looksAt ops) S) y=some (.int k b):=by exact rfl) (h:ZbR C k' n ops I (i :: ℓ) K (ZbS S dst (.bool (decide (a≠b)))) D B L):ZbR C k' n ops I ℓ K S D B L:=Zau i hii hrr hdd (fun _ _ _=>ZtY hg hd hx hy ⟨rfl,rfl,rfl,rfl⟩) h
theorem Zsa  {a b:List UInt8} (i:Nat) (hii:ops[i]? = some ⟨dst,.binOp .eql t x y u,ty,pos,after,g⟩)  (hrr:(Za8 ops ℓ).contains i=true:=by kernel_rfl) (hdd:ZB n dst=true:=by exact rfl) (hg:Zm ops (sel ((⟨dst,.binOp .eql t x y u,ty,pos,after,g⟩:Oper).looksAt ops) S) g=some true:=by exact rfl) (hd:ZB n dst=true:=by exact rfl) (hx:ev (sel ((⟨dst,.binOp .eql t x y u,ty,pos,after,g⟩:Oper).looksAt ops) S) x=some (str a):=by exact rfl) (hy:ev (sel ((⟨dst,.binOp .eql t x y u,ty,pos,after,g⟩:Oper).looksAt ops) S) y=some (str b):=by exact rfl) (h:ZbR C k' n ops I (i :: ℓ) K (ZbS S dst (.bool (decide (a=b)))) D B L):ZbR C k' n ops I ℓ K S D B L:=Zau i hii hrr hdd (fun _ _ _=>Zt2 hg hd hx hy ⟨rfl,rfl,rfl,rfl⟩) h
theorem Zxg  {a b:List UInt8} (i:Nat) (hii:ops[i]? = some ⟨dst,.binOp .neq t x y u,ty,pos,after,g⟩)  (hrr:(Za8 ops ℓ).contains i=true:=by kernel_rfl) (hdd:ZB n dst=true:=by exact rfl) (hg:Zm ops (sel ((⟨dst,.binOp .neq t x y u,ty,pos,after,g⟩:Oper).looksAt ops) S) g=some true:=by exact rfl) (hd:ZB n dst=true:=by exact rfl) (hx:ev (sel ((⟨dst,.binOp .neq t x y u,ty,pos,after,g⟩:Oper).looksAt ops) S) x=some (str a):=by exact rfl) (hy:ev (sel ((⟨dst,.binOp .neq t x y u,ty,pos,after,g⟩:Oper).looksAt ops) S) y=some (str b):=by exact rfl) (h:ZbR C k' n ops I (i :: ℓ) K (ZbS S dst (.bool (decide (a≠b)))) D B L):ZbR C k' n ops I ℓ K S D B L:=Zau i hii hrr hdd (fun _ _ _=>ZtX hg hd hx hy ⟨rfl,rfl,rfl,rfl⟩) h
theorem aD  {k:IntKind} {a b r:Int} (i:Nat) (hii:ops[i]? = some ⟨dst,.binOp .add t x y u,ty,pos,after,g⟩)  (hrr:(Za8 ops ℓ).contains i=true:=by kernel_rfl) (hdd:ZB n dst=true:=by exact rfl) (hg:Zm ops (sel ((⟨dst,.binOp .add t x y u,ty,pos,after,g⟩:Oper).looksAt ops) S) g=some true:=by exact rfl) (hd:ZB n dst=true:=by exact rfl) (hx:ev (sel ((⟨dst,.binOp .add t x y u,ty,pos,after,g⟩:Oper).looksAt ops) S) x=some (.int k a):=by exact rfl) (hy:ev (sel ((⟨dst,.binOp .add t x y u,ty,pos,after,g⟩:Oper).looksAt ops) S) y=some (.int k b):=by exact rfl) (hr:k.wrap (a+b)=r:=by first | exact ZaR (by first | omega | (simp;done) | (simp;omega)) (by first | omega | (simp;done) | (simp;omega)) | exact rfl) (h:ZbR C k' n ops I (i :: ℓ) K (ZbS S dst (.int k r)) D B L):ZbR C k' n ops I ℓ K S D B L:=Zau i hii hrr hdd (fun _ _ _=>ZeY hg hd hx hy hr ⟨rfl,rfl,rfl,rfl⟩) h
theorem aU  {k:IntKind} {a b r:Int} (i:Nat) (hii:ops[i]? = some ⟨dst,.binOp .sub t x y u,ty,pos,after,g⟩)  (hrr:(Za8 ops ℓ).contains i=true:=by kernel_rfl) (hdd:ZB n dst=true:=by exact rfl) (hg:Zm ops (sel ((⟨dst,.binOp .sub t x y u,ty,pos,after,g⟩:Oper).looksAt ops) S) g=some true:=by exact rfl) (hd:ZB n dst=true:=by exact rfl) (hx:ev (sel ((⟨dst,.binOp .sub t x y u,ty,pos,after,g⟩:Oper).looksAt ops) S) x=some (.int k a):=by exact rfl) (hy:ev (sel ((⟨dst,.binOp .sub t x y u,ty,pos,after,g⟩:Oper).looksAt ops) S) y=some (.int k b):=by exact rfl) (hr:k.wrap (a - b)=r:=by first | exact ZaR (by first | omega | (simp;done) | (simp;omega)) (by first | omega | (simp;done) | (simp;omega)) | exact rfl) (h:ZbR C k' n ops I (i :: ℓ) K (ZbS S dst (.int k r)) D B L):ZbR C k' n ops I ℓ K S D B L:=Zau i hii hrr hdd (fun _ _ _=>ZjF hg hd hx hy hr ⟨rfl,rfl,rfl,rfl⟩) h
theorem aIx  {t:TypeId} {e:TypeId} {x:Operand} {y:Operand} {k:IntKind} {b:Nat} {o:Nat} {len:Nat} {cap:Nat} {sz:Nat} {ix:Int} (i:Nat) (hii:ops[i]? = some ⟨dst,.indexAddr t x y,ty,pos,after,g⟩) (hu:P.underlying t=some (.slice e)) (hsz:Z8 P e=some sz) (hrr:(Za8 ops ℓ).contains i=true:=by kernel_rfl) (hdd:ZB n dst=true:=by exact rfl) (hg:Zm ops (sel ((⟨dst,.indexAddr t x y,ty,pos,after,g⟩:Oper).looksAt ops) S) g=some true:=by exact rfl) (hd:ZB n dst=true:=by exact rfl) (hx:ev (sel ((⟨dst,.indexAddr t x y,ty,pos,after,g⟩:Oper).looksAt ops) S) x=some (.slice (some ⟨b,o,none⟩) len cap):=by exact rfl) (hy:ev (sel ((⟨dst,.indexAddr t x y,ty,pos,after,g⟩:Oper).looksAt ops) S) y=some (.int k ix):=by exact rfl) (h0:0≤ix:=by first | omega | (simp;done) | (simp;omega)) (h1:ix<len:=by first | omega | (simp;done) | (simp;omega)) (h:ZbR C k' n ops I (i :: ℓ) K (ZbS S dst (ptr ⟨b,o+ix.toNat*sz,none⟩)) D B L):ZbR C k' n ops I ℓ K S D B L:=Zau i hii hrr hdd (fun _ _ _=>Zv8 hg hd hu hsz hx hy h0 h1 ⟨rfl,rfl,rfl,rfl⟩) h
end
section
variable {P:PJ} {n:Nat} {Q:Exit→Zao} {S:Env} {D:List Deferred} {B:Kn} {L:List Cells}
theorem tL1 {c:Code} {x0:Cells} (h:wpS P n c Q S D B [x0]):wpS P n c Q S D B [x0]:=h
theorem tL2 {c:Code} {x0 x1:Cells} (h:wpS P n c Q S D B [x0,x1]):wpS P n c Q S D B [x0,x1]:=h
theorem tL3 {c:Code} {x0 x1 x2:Cells} (h:wpS P n c Q S D B [x0,x1,x2]):wpS P n c Q S D B [x0,x1,x2]:=h
theorem tL4 {c:Code} {x0 x1 x2 x3:Cells} (h:wpS P n c Q S D B [x0,x1,x2,x3]):wpS P n c Q S D B [x0,x1,x2,x3]:=h
theorem tL5 {c:Code} {x0 x1 x2 x3 x4:Cells} (h:wpS P n c Q S D B [x0,x1,x2,x3,x4]):wpS P n c Q S D B [x0,x1,x2,x3,x4]:=h
theorem tL6 {c:Code} {x0 x1 x2 x3 x4 x5:Cells} (h:wpS P n c Q S D B [x0,x1,x2,x3,x4,x5]):wpS P n c Q S D B [x0,x1,x2,x3,x4,x5]:=h
theorem tL7 {c:Code} {x0 x1 x2 x3 x4 x5 x6:Cells} (h:wpS P n c Q S D B [x0,x1,x2,x3,x4,x5,x6]):wpS P n c Q S D B [x0,x1,x2,x3,x4,x5,x6]:=h
theorem tL8 {c:Code} {x0 x1 x2 x3 x4 x5 x6 x7:Cells} (h:wpS P n c Q S D B [x0,x1,x2,x3,x4,x5,x6,x7]):wpS P n c Q S D B [x0,x1,x2,x3,x4,x5,x6,x7]:=h
theorem tL9 {c:Code} {x0 x1 x2 x3 x4 x5 x6 x7 x8:Cells} (h:wpS P n c Q S D B [x0,x1,x2,x3,x4,x5,x6,x7,x8]):wpS P n c Q S D B [x0,x1,x2,x3,x4,x5,x6,x7,x8]:=h
theorem ZxO {c:Code} {x0 x1 x2 x3 x4 x5 x6 x7 x8 x9:Cells} (h:wpS P n c Q S D B [x0,x1,x2,x3,x4,x5,x6,x7,x8,x9]):wpS P n c Q S D B [x0,x1,x2,x3,x4,x5,x6,x7,x8,x9]:=h
theorem wSk {K:Zao} (h:K S D B L):wpS P n .skip (thn K Q) S D B L:=ZK (Zj h)
theorem eR {rs:List ResultVar} {Post:Value→Kn→List Cells→Prop} {v:Value} (hr:Zc8 P S B L rs [v]) (hp:Post v B []):ZfC P rs Post .ret S [] B L:=ZrG .ret (.inl rfl) [v] hr hp
theorem eN {rs:List ResultVar} {Post:Value→Kn→List Cells→Prop} {v:Value} (js:List Nat) {ss r:List Cells} (hp:Za0 L js=some (ss,r)) (hr:Zc8 P S B L rs [v]) (hq:Post v B ss):ZfC P rs Post .ret S [] B L:=Zav .ret (.inl rfl) [v] js hp hr hq
theorem e1 {rs:List ResultVar} {Post:Value→Kn→List Cells→Prop} {v:Value} (j:Nat) {s:Cells} (hj:L[j]? = some s) (hr:Zc8 P S B L rs [v]) (hp:Post v B [s]):ZfC P rs Post .ret S [] B L:=ZoA .ret (.inl rfl) [v] j hj hr hp
end
theorem mT {α:Type} {R:Rel α} (h:Mono R:=by first | exact Zv.mono | exact Ze.mono | exact Zy.mono | exact ZM.mono | exact ZU.mono | exact Zjz.mono | exact ZbJ.mono | exact Zb9.mono):Mono R:=h
theorem up1 {B B':Kn} {α1:Type} {q1:Option Addr} {c1 w1:Nat} {R1:Rel α1} {x1:List α1} (hle:B.le B') (h1:SlK B q1 c1 w1 R1 x1) (g1:Mono R1:=by exact mT):SlK B' q1 c1 w1 R1 x1:=h1.mono g1 hle
theorem up2 {B B':Kn} {α1:Type} {q1:Option Addr} {c1 w1:Nat} {R1:Rel α1} {x1:List α1} {α2:Type} {q2:Option Addr} {c2 w2:Nat} {R2:Rel α2} {x2:List α2} (hle:B.le B') (h1:SlK B q1 c1 w1 R1 x1) (h2:SlK B q2 c2 w2 R2 x2) (g1:Mono R1:=by exact mT) (g2:Mono R2:=by exact mT):SlK B' q1 c1 w1 R1 x1∧SlK B' q2 c2 w2 R2 x2:=⟨h1.mono g1 hle,h2.mono g2 hle⟩
theorem up3 {B B':Kn} {α1:Type} {q1:Option Addr} {c1 w1:Nat} {R1:Rel α1} {x1:List α1} {α2:Type} {q2:Option Addr} {c2 w2:Nat} {R2:Rel α2} {x2:List α2} {α3:Type} {q3:Option Addr} {c3 w3:Nat} {R3:Rel α3} {x3:List α3} (hle:B.le B') (h1:SlK B q1 c1 w1 R1 x1) (h2:SlK B q2 c2 w2 R2 x2) (h3:SlK B q3 c3 w3 R3 x3) (g1:Mono R1:=by exact mT) (g2:Mono R2:=by exact mT) (g3:Mono R3:=by exact mT):SlK B' q1 c1 w1 R1 x1∧SlK B' q2 c2 w2 R2 x2∧SlK B' q3 c3 w3 R3 x3:=⟨h1.mono g1 hle,h2.mono g2 hle,h3.mono g3 hle⟩
theorem up4 {B B':Kn} {α1:Type} {q1:Option Addr} {c1 w1:Nat} {R1:Rel α1} {x1:List α1} {α2:Type} {q2:Option Addr} {c2 w2:Nat} {R2:Rel α2} {x2:List α2} {α3:Type} {q3:Option Addr} {c3 w3:Nat} {R3:Rel α3} {x3:List α3} {α4:Type} {q4:Option Addr} {c4 w4:Nat} {R4:Rel α4} {x4:List α4} (hle:B.le B') (h1:SlK B q1 c1 w1 R1 x1) (h2:SlK B q2 c2 w2 R2 x2) (h3:SlK B q3 c3 w3 R3 x3) (h4:SlK B q4 c4 w4 R4 x4) (g1:Mono R1:=by exact mT) (g2:Mono R2:=by exact mT) (g3:Mono R3:=by exact mT) (g4:Mono R4:=by exact mT):SlK B' q1 c1 w1 R1 x1∧SlK B' q2 c2 w2 R2 x2∧SlK B' q3 c3 w3 R3 x3∧SlK B' q4 c4 w4 R4 x4:=⟨h1.mono g1 hle,h2.mono g2 hle,h3.mono g3 hle,h4.mono g4 hle⟩
theorem up5 {B B':Kn} {α1:Type} {q1:Option Addr} {c1 w1:Nat} {R1:Rel α1} {x1:List α1} {α2:Type} {q2:Option Addr} {c2 w2:Nat} {R2:Rel α2} {x2:List α2} {α3:Type} {q3:Option Addr} {c3 w3:Nat} {R3:Rel α3} {x3:List α3} {α4:Type} {q4:Option Addr} {c4 w4:Nat} {R4:Rel α4} {x4:List α4} {α5:Type} {q5:Option Addr} {c5 w5:Nat} {R5:Rel α5} {x5:List α5} (hle:B.le B') (h1:SlK B q1 c1 w1 R1 x1) (h2:SlK B q2 c2 w2 R2 x2) (h3:SlK B q3 c3 w3 R3 x3) (h4:SlK B q4 c4 w4 R4 x4) (h5:SlK B q5 c5 w5 R5 x5) (g1:Mono R1:=by exact mT) (g2:Mono R2:=by exact mT) (g3:Mono R3:=by exact mT) (g4:Mono R4:=by exact mT) (g5:Mono R5:=by exact mT):SlK B' q1 c1 w1 R1 x1∧SlK B' q2 c2 w2 R2 x2∧SlK B' q3 c3 w3 R3 x3∧SlK B' q4 c4 w4 R4 x4∧SlK B' q5 c5 w5 R5 x5:=⟨h1.mono g1 hle,h2.mono g2 hle,h3.mono g3 hle,h4.mono g4 hle,h5.mono g5 hle⟩
theorem up6 {B B':Kn} {α1:Type} {q1:Option Addr} {c1 w1:Nat} {R1:Rel α1} {x1:List α1} {α2:Type} {q2:Option Addr} {c2 w2:Nat} {R2:Rel α2} {x2:List α2} {α3:Type} {q3:Option Addr} {c3 w3:Nat} {R3:Rel α3} {x3:List α3} {α4:Type} {q4:Option Addr} {c4 w4:Nat} {R4:Rel α4} {x4:List α4} {α5:Type} {q5:Option Addr} {c5 w5:Nat} {R5:Rel α5} {x5:List α5} {α6:Type} {q6:Option Addr} {c6 w6:Nat} {R6:Rel α6} {x6:List α6} (hle:B.le B') (h1:SlK B q1 c1 w1 R1 x1) (h2:SlK B q2 c2 w2 R2 x2) (h3:SlK B q3 c3 w3 R3 x3) (h4:SlK B q4 c4 w4 R4 x4) (h5:SlK B q5 c5 w5 R5 x5) (h6:SlK B q6 c6 w6 R6 x6) (g1:Mono R1:=by exact mT) (g2:Mono R2:=by exact mT) (g3:Mono R3:=by exact mT) (g4:Mono R4:=by exact mT) (g5:Mono R5:=by exact mT) (g6:Mono R6:=by exact mT):SlK B' q1 c1 w1 R1 x1∧SlK B' q2 c2 w2 R2 x2∧SlK B' q3 c3 w3 R3 x3∧SlK B' q4 c4 w4 R4 x4∧SlK B' q5 c5 w5 R5 x5∧SlK B' q6 c6 w6 R6 x6:=⟨h1.mono g1 hle,h2.mono g2 hle,h3.mono g3 hle,h4.mono g4 hle,h5.mono g5 hle,h6.mono g6 hle⟩
theorem cB {P:PJ} {f:FuncId} {fn:Func} {code:Code} {rs:List ResultVar} (n:Nat) (hf:P.funcs[f]? = some fn) (hb:fn.body=some code:=by exact rfl) (hn:fn.ntmps=n:=by exact rfl) (hrs:fn.results.toList=rs:=by exact rfl) {args:List Value} (ha:args.length≤n:=by exact Nat.le_of_ble_eq_true rfl) {B:Kn} {Ls:List Cells} {Post:Value→Kn→List Cells→Prop} (h:wpS P n code (ZfC P rs Post) (Zdn args 0) [] B Ls):Zu P f args B Ls Post:=ZeM n hf hb hn hrs ha h
end Go.BL
namespace Go.BL
open Go
def ZbK (c:UInt8):Bool:=(decide (97≤c.toNat) && decide (c.toNat≤122)) || (decide (48≤c.toNat) && decide (c.toNat≤57))
def Zah (l:List UInt8):Bool:=l.all ZbK && decide (1≤l.length) && decide (l.length≤8)
theorem ZtI {l:List UInt8} {k:Nat} {c:UInt8} (hc:l[k]? = some c) (h:ZbK c=false):l.all ZbK=false:=by
 rw [Bool.eq_false_iff];intro ha
 have:=List.all_eq_true.1 ha c (List.mem_of_getElem? hc)
 rw [h] at this;cases this
theorem ZoH {l:List UInt8} {k:Nat} {c:UInt8} (hc:l[k]? = some c) (h:ZbK c=true) (ha:(l.take k).all ZbK=true):(l.take (k+1)).all ZbK=true:=by
 rw [List.take_add_one,hc];simp only [Option.toList_some,List.all_append,ha,List.all_cons,h,List.all_nil];rfl
def word (l:List UInt8) (i:Nat):List UInt8:=(l.drop i).takeWhile ZbK
def ZdT (w:List UInt8):Bool:=decide (1≤w.length) && decide (w.length≤8)
theorem Zqw {o:Option UInt8} {f:UInt8→Bool} (h:(match o with | some c=>f c | none=>false)=true) :∃c,o=some c∧f c=true:=by
 cases o with
 | none=>cases h
 | some c=>exact ⟨c,rfl,h⟩
theorem Zcc {α:Type} {l:List α} {k:Nat} {c:α} (h:l[k]? = some c):k<l.length:=(List.getElem?_eq_some_iff.1 h).1
theorem Zgj {p:UInt8→Bool} :∀{m:List UInt8} {k:Nat},(m.take k).all p=true→(∀c,m[k]? = some c→p c=false)→m.takeWhile p=m.take k
 | [],k,_,_=>by simp
 | c :: m,0,_,h=>by simp [List.takeWhile,h c rfl]
 | c :: m,k+1,ha,h=>by
  simp only [List.take_succ_cons,List.all_cons,Bool.and_eq_true] at ha
  simp only [List.takeWhile,ha.1,List.take_succ_cons]
  rw [Zgj ha.2 (fun c hc=>h c (by simpa using hc))]
theorem Zsk {l:List UInt8} {i k:Nat} (ha:((l.drop i).take k).all ZbK=true) (h :∀c,l[i+k]? = some c→ZbK c=false):word l i=(l.drop i).take k:=
 Zgj ha (fun c hc=>h c (by simpa using hc))
theorem ZfG {l:List UInt8} {i k:Nat} : (l.take (i+k)).drop i=(l.drop i).take k:=by
 rw [List.drop_take,Nat.add_sub_cancel_left]
theorem ZjU {a b c d:Value} (h:a=c) (h':b=d):Value.tuple #[a,b]=Value.tuple #[c,d]:=by rw [h,h']
def more:Nat→List UInt8→Nat→Bool × Nat
 | 0,_,i=>(true,i)
 | n+1,l,i=>if l[i]? = some 46 then (if ZdT (word l (i+1))=true then more n l (i+1+(word l (i+1)).length) else (false,i+1+(word l (i+1)).length)) else (true,i)
def dom (l:List UInt8) (i:Nat):Bool × Nat:=if ZdT (word l i)=true then more 2 l (i+(word l i).length) else (false,i+(word l i).length)
def Zjn (l:List UInt8) (i:Nat):List UInt8:=if (dom l i).1=true then (l.take (dom l i).2).drop i else []
def ZnH (l:List UInt8) (i:Nat):Bool:=(dom l i).1 && decide ((dom l i).2 - i≤20)
theorem ZnG {l:List UInt8} {i:Nat} (h:ZdT (word l i)=false):dom l i=(false,i+(word l i).length):=by simp [dom,h]
theorem Ztw {l:List UInt8} {i:Nat} (h:ZdT (word l i)=true):dom l i=more 2 l (i+(word l i).length):=by simp [dom,h]
theorem Zh8 {l:List UInt8} {i:Nat} (h:i≤l.length):i+(word l i).length≤l.length:=by
 have:=List.IsPrefix.length_le (List.takeWhile_prefix ZbK (l:=l.drop i))
 rw [List.length_drop] at this
 unfold word;omega
theorem ZiD {l:List UInt8} {n j:Nat} (h : ¬ l[j]? = some 46):more n l j=(true,j):=by
 cases n with
 | zero=>rfl
 | succ n=>rw [more,if_neg h]
theorem ZsR {l:List UInt8} {n j:Nat} (hn:1≤n) (h:l[j]? = some 46) (hw:ZdT (word l (j+1))=false):more n l j=(false,j+1+(word l (j+1)).length):=by
 cases n with
 | zero=>omega
 | succ n=>rw [more,if_pos h,if_neg (by simp [hw])]
theorem ZqX {l:List UInt8} {n j:Nat} (hn:1≤n) (h:l[j]? = some 46) (hw:ZdT (word l (j+1))=true):more n l j=more (n - 1) l (j+1+(word l (j+1)).length):=by
 cases n with
 | zero=>omega
 | succ n=>rw [more,if_pos h,if_pos hw];rfl
theorem ZeF {p:UInt8→Bool} :∀l:List UInt8,(l.takeWhile p).length=l.length↔l.all p=true
 | []=>by simp
 | c :: l=>by
  have h:=ZeF (p:=p) l
  cases hc:p c with
  | true=>simp [List.takeWhile,hc] at h ⊢;exact h
  | false=>simp [List.takeWhile,hc]
theorem ZdE {l:List UInt8} : Zah l=(ZdT (word l 0) && decide ((word l 0).length=l.length)):=by
 have h:=ZeF (p:=ZbK) l
 have e:word l 0=l.takeWhile ZbK:=by simp [word]
 rw [Bool.eq_iff_iff]
 simp only [Zah,ZdT,e,Bool.and_eq_true,decide_eq_true_eq]
 constructor
 ·rintro ⟨⟨h1,h2⟩,h3⟩
  have:=h.2 h1
  omega
 ·rintro ⟨⟨h1,h2⟩,h3⟩
  exact ⟨⟨h.1 h3,by omega⟩,by omega⟩
theorem ZqW {l:List UInt8} :∀(n j:Nat),j≤l.length→(more n l j).2≤l.length
 | 0,j,h=>h
 | n+1,j,h=>by
  rw [more]
  split
  ·rename_i e
   have:=Zcc e
   have h2:=Zh8 (l:=l) (i:=j+1) (by omega)
   split
   ·exact ZqW n _ h2
   ·exact h2
  ·exact h
theorem Zw5 {l:List UInt8} {i:Nat} (h:i≤l.length):(dom l i).2≤l.length:=by
 unfold dom
 have h2:=Zh8 h
 split
 ·exact ZqW 2 _ h2
 ·exact h2
def glue (a:List UInt8):List (List UInt8)→List (List UInt8)
 | []=>[a]
 | p :: ps=>(a ++ p) :: ps
def cut (x:UInt8):List UInt8→List (List UInt8)
 | []=>[[]]
 | c :: r=>if c=x then [] :: cut x r else glue [c] (cut x r)
theorem ZoF (x:UInt8) :∀l,cut x l≠[]
 | []=>by simp [cut]
 | c :: r=>by
  rw [cut]
  split
  ·simp
  ·cases cut x r <;> simp [glue]
theorem Zou {m:List (List UInt8)} (h:m≠[]):glue [] m=m:=by
 cases m with
 | nil=>exact absurd rfl h
 | cons p ps=>rfl
theorem Zrp (a b:List UInt8) (m:List (List UInt8)):glue a (glue b m)=glue (a ++ b) m:=by
 cases m <;> simp [glue]
structure CutSt where
 i:Nat
 f:Nat
 m:Nat
 ps:List (List UInt8)
 q:Option Addr
 cp:Nat
 s:Cells
theorem ZxI {a b:UInt8} (h:(a.toNat:Int)=b.toNat):a=b:=UInt8.toNat_inj.1 (by exact_mod_cast h)
theorem ZvE {l:List UInt8} {x c:UInt8} {i:Nat} (h:l[i]? = some c) (e:c=x):cut x (l.drop i)=[] :: cut x (l.drop (i+1)):=by
 obtain ⟨hlt,he⟩:=List.getElem?_eq_some_iff.1 h
 rw [List.drop_eq_getElem_cons hlt,he,cut,if_pos e]
theorem Zty {l:List UInt8} {x c:UInt8} {i:Nat} (h:l[i]? = some c) (e:c≠x):cut x (l.drop i)=glue [c] (cut x (l.drop (i+1))):=by
 obtain ⟨hlt,he⟩:=List.getElem?_eq_some_iff.1 h
 rw [List.drop_eq_getElem_cons hlt,he,cut,if_neg e]
theorem ZxH {a b:UInt8} (h : ¬ (a.toNat:Int)=b.toNat):a≠b:=fun e=>h (by rw [e])
theorem Zqn {l:List UInt8} {c:UInt8} {i f:Nat} (h:l[i]? = some c) (hf:f≤i):(l.take i).drop f ++ [c]=(l.take (i+1)).drop f:=by
 have hlt:=Zcc h
 rw [List.take_add_one,h]
 simp only [Option.toList_some]
 rw [List.drop_append_of_le_length (by rw [List.length_take];omega)]
theorem Ztm (a:List UInt8) (m:List (List UInt8)):glue a ([] :: m)=a :: m:=by simp [glue]
def Zcn (l:List UInt8):Bool:=(cut 46 l).all Zah && decide ((cut 46 l).length≤3) && decide (l.length≤20)
theorem Ztl {a:List UInt8} {m:List (List UInt8)} {n:Nat} (h :∀p,p∈m→p.length≤n) :∀p,p∈glue a m→p.length≤a.length+n:=by
 cases m with
 | nil=>intro p hp;simp [glue] at hp;subst hp;omega
 | cons q qs=>
  intro p hp
  simp only [glue,List.mem_cons] at hp
  rcases hp with rfl | hp
  ·rw [List.length_append];have:=h q (List.mem_cons_self ..);omega
  ·have:=h p (List.mem_cons_of_mem _ hp);omega
theorem ZnI (x:UInt8) :∀(l p:List UInt8),p∈cut x l→p.length≤l.length
 | [],p,h=>by simp [cut] at h;subst h;simp
 | c :: r,p,h=>by
  rw [cut] at h
  split at h
  ·rcases List.mem_cons.1 h with rfl | h
   ·simp
   ·have:=ZnI x r p h;simp;omega
  ·have:=Ztl (ZnI x r) p h;simp at this ⊢;omega
theorem ZmH {l:List (List UInt8)} {k:Nat} {c:List UInt8} (hc:l[k]? = some c) (h:Zah c=false):l.all Zah=false:=by
 rw [Bool.eq_false_iff];intro ha
 have:=List.all_eq_true.1 ha c (List.mem_of_getElem? hc)
 rw [h] at this;cases this
theorem Zjw {l:List (List UInt8)} {k:Nat} {c:List UInt8} (hc:l[k]? = some c) (h:Zah c=true) (ha:(l.take k).all Zah=true):(l.take (k+1)).all Zah=true:=by
 rw [List.take_add_one,hc];simp only [Option.toList_some,List.all_append,ha,List.all_cons,h,List.all_nil];rfl
theorem Zmv (x:UInt8) :∀l:List UInt8,(cut x l).length≤l.length+1
 | []=>by simp [cut]
 | c :: r=>by
  have h:=Zmv x r
  rw [cut]
  split
  ·simp;omega
  ·cases hq:cut x r with
   | nil=>exact absurd hq (ZoF x r)
   | cons p ps=>rw [hq] at h;simp [glue] at h ⊢;omega
end Go.BL
namespace Go.BL
open Go
theorem Zk9 {x:UInt8} :∀{l:List UInt8},x ∉ l→cut x l=[l]
 | [],_=>rfl
 | c :: r,h=>by
  rw [cut,if_neg (fun e=>h (by rw [e];exact List.mem_cons_self ..)),Zk9 (fun hm=>h (List.mem_cons_of_mem _ hm))]
  rfl
theorem Zjo {x:UInt8} {b:List UInt8} :∀{a:List UInt8},x ∉ a→cut x (a ++ x :: b)=a :: cut x b
 | [],_=>by simp [cut]
 | c :: r,h=>by
  rw [List.cons_append,cut,if_neg (fun e=>h (by rw [e];exact List.mem_cons_self ..)),Zjo (fun hm=>h (List.mem_cons_of_mem _ hm))]
  rfl
theorem ZfR {x:UInt8} :∀{l:List UInt8},x∈l→∃a b,l=a ++ x :: b∧x ∉ a
 | c :: r,h=>by
  by_cases e:c=x
  ·exact ⟨[],r,by simp [e],by simp⟩
  ·have hr:x∈r:=(List.mem_cons.1 h).resolve_left (Ne.symm e)
   obtain ⟨a,b,h1,h2⟩:=ZfR hr
   exact ⟨c :: a,b,by simp [h1],by simp [Ne.symm e,h2]⟩
theorem ZjN (l:List UInt8) (i j:Nat):word l (i+j)=word (l.drop i) j:=by
 unfold word;rw [List.drop_drop]
theorem Zj8 (l:List UInt8) (i:Nat) :∀n j,more n l (i+j)=((more n (l.drop i) j).1,i+(more n (l.drop i) j).2)
 | 0,j=>rfl
 | n+1,j=>by
  simp only [more,List.getElem?_drop]
  rw [show i+j+1=i+(j+1) from by omega,ZjN]
  split
  ·split
   ·rw [show i+(j+1)+(word (l.drop i) (j+1)).length=i+(j+1+(word (l.drop i) (j+1)).length) from by omega,Zj8 l i n]
   ·simp only [Prod.mk.injEq,true_and];omega
  ·rfl
theorem Zsl {l:List UInt8} (h:l.all ZbK=true):word l 0=l:=by
 have:=(ZeF (p:=ZbK) l).2 h
 have h2:=List.takeWhile_prefix ZbK (l:=l)
 simp only [word,List.drop_zero]
 exact List.IsPrefix.eq_of_length h2 this
theorem Zhe {a b:List UInt8} {x:UInt8} (hx:ZbK x=false) (h:a.all ZbK=true):word (a ++ x :: b) 0=a:=by
 simp only [word,List.drop_zero]
 induction a with
 | nil=>simp [List.takeWhile,hx]
 | cons c a ih=>
  simp only [List.all_cons,Bool.and_eq_true] at h
  simp only [List.cons_append,List.takeWhile,h.1,ih h.2]
theorem Zhd {a:List UInt8} (b:List UInt8) (h:a.all ZbK=false):(word (a ++ b) 0).length<a.length∧word (a ++ b) 0=word a 0:=by
 simp only [word,List.drop_zero]
 induction a with
 | nil=>simp at h
 | cons c a ih=>
  cases hc:ZbK c with
  | false=>simp [List.takeWhile,hc]
  | true=>
   have h':a.all ZbK=false:=by simpa [hc] using h
   have:=ih h'
   simp only [List.cons_append,List.takeWhile,hc,List.length_cons]
   exact ⟨by omega,by rw [this.2]⟩
theorem Zu7 {a:List UInt8} (b:List UInt8) {k:Nat} (h:k<a.length):(a ++ b)[k]? = a[k]?:=List.getElem?_append_left h
theorem Zi3 {x:UInt8} {a:List UInt8} (h:x ∉ a) (k:Nat):a[k]?≠some x:=fun e=>h (List.mem_of_getElem? e)
theorem ZqR :∀(n:Nat) (b:List UInt8),(ZdT (word b 0)=true∧more n b (word b 0).length=(true,b.length))↔((cut 46 b).all Zah=true∧(cut 46 b).length≤n+1):=by
 intro n
 induction n with
 | zero=>
  intro b
  by_cases hd:(46:UInt8)∈b
  ·obtain ⟨a,r,rfl,ha⟩:=ZfR hd
   rw [Zjo ha]
   have hlen:(word (a ++ 46 :: r) 0).length≤a.length:=by
    cases hna:a.all ZbK with
    | true=>rw [Zhe (by decide) hna];exact Nat.le_refl _
    | false=>exact Nat.le_of_lt (Zhd _ hna).1
   constructor
   ·rintro ⟨_,h2⟩
    simp only [more,Prod.mk.injEq,true_and] at h2
    rw [List.length_append,List.length_cons] at h2
    omega
   ·rintro ⟨_,h2⟩
    have:=ZoF 46 r
    simp only [List.length_cons] at h2
    exact absurd (List.eq_nil_of_length_eq_zero (by omega)) this
  ·rw [Zk9 hd]
   simp only [more,List.all_cons,List.all_nil,Bool.and_true,List.length_cons,List.length_nil,Nat.zero_add,Nat.le_refl,and_true,Prod.mk.injEq,true_and,ZdE,Bool.and_eq_true,decide_eq_true_eq]
 | succ n ih=>
  intro b
  by_cases hd:(46:UInt8)∈b
  ·obtain ⟨a,r,rfl,ha⟩:=ZfR hd
   rw [Zjo ha]
   cases hna:a.all ZbK with
   | true=>
    rw [Zhe (by decide) hna]
    have hg:(a ++ 46 :: r)[a.length]? = some 46:=by simp
    have hdr:(a ++ 46 :: r).drop (a.length+1)=r:=by rw [List.drop_append];simp
    have hw:word (a ++ 46 :: r) (a.length+1)=word r 0:=by
     have:=ZjN (a ++ 46 :: r) (a.length+1) 0
     rw [Nat.add_zero,hdr] at this;exact this
    have hm:more n (a ++ 46 :: r) (a.length+1+(word r 0).length)=((more n r (word r 0).length).1,a.length+1+(more n r (word r 0).length).2):=by
     rw [Zj8,hdr]
    simp only [more,hg,if_true,hw,hm,List.all_cons,Bool.and_eq_true,List.length_cons]
    have hna':Zah a=ZdT a:=by rw [ZdE,Zsl hna];simp
    have hi:=ih r
    constructor
    ·rintro ⟨h1,h2⟩
     split at h2
     ·rename_i h3
      simp only [Prod.mk.injEq,List.length_append,List.length_cons] at h2
      have:=hi.1 ⟨h3,by ext1;exact h2.1;simp only [];omega⟩
      exact ⟨⟨by rw [hna'];exact h1,this.1⟩,by omega⟩
     ·simp at h2
    ·rintro ⟨⟨h1,h2⟩,h3⟩
     obtain ⟨h4,h5⟩:=hi.2 ⟨h2,by omega⟩
     refine ⟨by rw [← hna'];exact h1,?_⟩
     rw [if_pos h4,h5]
     simp;omega
   | false=>
    obtain ⟨h1,h2⟩:=Zhd (46 :: r) hna
    have hne:Zah a=false:=by simp [Zah,hna]
    constructor
    ·rintro ⟨_,h3⟩
     rw [ZiD (by rw [Zu7 _ h1];exact Zi3 ha _)] at h3
     simp only [Prod.mk.injEq,true_and,List.length_append,List.length_cons] at h3
     omega
    ·rintro ⟨h3,_⟩
     simp [hne] at h3
  ·rw [Zk9 hd]
   rw [ZiD (Zi3 hd _)]
   simp only [List.all_cons,List.all_nil,Bool.and_true,List.length_cons,List.length_nil,Prod.mk.injEq,true_and,ZdE,Bool.and_eq_true,decide_eq_true_eq]
   constructor
   ·rintro ⟨h1,h2⟩;exact ⟨⟨h1,h2⟩,by omega⟩
   ·rintro ⟨⟨h1,h2⟩,_⟩;exact ⟨h1,h2⟩
theorem Zmt (b:List UInt8):((dom b 0).1=true∧(dom b 0).2≤20∧(dom b 0).2=b.length)↔Zcn b=true:=by
 have h:=ZqR 2 b
 simp only [Zcn,Bool.and_eq_true,decide_eq_true_eq]
 constructor
 ·rintro ⟨h1,h2,h3⟩
  cases hw:ZdT (word b 0) with
  | false=>simp [dom,hw] at h1
  | true=>
   simp only [dom,hw,if_true,Nat.zero_add] at h1 h2 h3
   have:=h.1 ⟨hw,by ext1;exact h1;exact h3⟩
   exact ⟨⟨this.1,this.2⟩,by omega⟩
 ·rintro ⟨⟨h1,h2⟩,h3⟩
  obtain ⟨h4,h5⟩:=h.2 ⟨h1,h2⟩
  simp only [dom,h4,if_true,Nat.zero_add,h5]
  exact ⟨trivial,h3,trivial⟩
end Go.BL
namespace Go.BL
open Go
theorem Zbq {α:Type} {p:α→Prop} {l:List α} {k:Nat} {x:α} (hx:l[k]? = some x) (h :∀y,y∈l.take k→p y) (hp:p x) :∀y,y∈l.take (k+1)→p y:=by
 intro y hy
 rw [List.take_add_one,hx] at hy
 simp only [Option.toList_some,List.mem_append,List.mem_singleton] at hy
 rcases hy with hy | rfl
 ·exact h y hy
 ·exact hp
def Zde (us:List DUser) (u:Str):Int:=match us.findIdx? (fun x=>decide (x.name=u)) with | some i=>i | none=>-1
theorem Zs7 {us:List DUser} {u:Str} {k:Nat} {x:DUser} (hx:us[k]? = some x) (he:x.name=u) (h :∀y,y∈us.take k→y.name≠u):Zde us u=k:=by
 have:us.findIdx? (fun x=>decide (x.name=u))=some k:=by
  rw [List.findIdx?_eq_some_iff_getElem]
  obtain ⟨hk,rfl⟩:=List.getElem?_eq_some_iff.1 hx
  refine ⟨hk,by simpa using he,fun j hj=>?_⟩
  have:=h us[j] (by rw [List.mem_take_iff_getElem];exact ⟨j,by omega,rfl⟩)
  simpa using this
 rw [Zde,this]
theorem Zq8 {us:List DUser} {u:Str} (h :∀y,y∈us→y.name≠u):Zde us u = -1:=by
 have:us.findIdx? (fun x=>decide (x.name=u))=none:=by
  rw [List.findIdx?_eq_none_iff]
  intro x hx
  simpa using h x hx
 rw [Zde,this]
theorem Zcq {α:Type} {as bs:List α} {k:Nat} {x y:α} (hx:as[k]? = some x) (hy:bs[k]? = some y) (e:x=y) (h:as.take k=bs.take k):as.take (k+1)=bs.take (k+1):=by
 rw [List.take_add_one,List.take_add_one,hx,hy,e,h]
theorem Zji {α:Type} {as bs:List α} {inst:Decidable (as=bs)} (h : ¬ (as.length:Int)=bs.length):false=decide (as=bs):=by
 symm;rw [decide_eq_false_iff_not];intro e;exact h (by rw [e])
theorem ZgB {α:Type} {as bs:List α} {inst:Decidable (as=bs)} {k:Nat} {x y:α} (hx:as[k]? = some x) (hy:bs[k]? = some y) (e : ¬ x=y):false=decide (as=bs):=by
 symm;rw [decide_eq_false_iff_not];intro h;rw [h,hy] at hx;exact e (Option.some.inj hx).symm
theorem eqT {α:Type} {as bs:List α} {inst:Decidable (as=bs)} {k:Nat} (hl:as.length=bs.length) (hk:k=as.length) (h:as.take k=bs.take k):true=decide (as=bs):=by
 symm;rw [decide_eq_true_eq]
 rw [List.take_of_length_le (by omega),List.take_of_length_le (by omega)] at h;exact h
theorem ZzI {α:Type} {as:List α} {x:α} {inst:Decidable (x∈as)} (h :∀y,y∈as→y≠x):false=decide (x∈as):=by
 symm;rw [decide_eq_false_iff_not];intro hx;exact h x hx rfl
theorem ZzH {α:Type} {as:List α} {x y:α} {inst:Decidable (x∈as)} {k:Nat} (hy:as[k]? = some y) (e:y=x):true=decide (x∈as):=by
 symm;rw [decide_eq_true_eq];subst e;exact List.mem_of_getElem? hy
theorem ZbL {α:Type} {p:α→Prop} {l:List α} {k:Nat} (hk : ¬ (k:Int)<l.length) (h :∀y,y∈l.take k→p y) :∀y,y∈l→p y:=by
 rwa [List.take_of_length_le (by omega)] at h
theorem Zk8 {α:Type} {l:List α} {k:Nat} {x:α} (h:l[k]? = some x):l.drop k=x :: l.drop (k+1):=by
 obtain ⟨hlt,he⟩:=List.getElem?_eq_some_iff.1 h
 rw [List.drop_eq_getElem_cons hlt,he]
theorem ZrM {α:Type} {l:List α} {k:Nat} (h : ¬ (k:Int)<l.length):l.drop k=[]:=List.drop_eq_nil_of_le (by omega)
def ZcV (l:List Str):Bool:=l.all Zah && decide l.Nodup && decide (l.length≤3)
def ZaS (x:DLetter):Bool:=Zah x.fr && ZcV x.to_ && decide (0<x.to_.length) && decide (x.text.length≤20)
def ZcF (x:DItem):Bool:=ZaS ⟨x.fr,x.left,x.text⟩
def Zc7:Int→List DItem→Option Int
 | last,[]=>some last
 | last,x :: r=>if (last+1≤x.id∧x.id≤99)∧ZcF x=true then Zc7 x.id r else none
def Zad (q:DQueue):Bool:=match Zc7 0 q.items with
 | some last=>decide (last+1≤q.next) && decide (q.next≤100) && decide (q.items.length≤6)
 | none=>false
theorem ZqQ {α:Type} {l:List α} {k:Nat} {x:α} (hx:l[k]? = some x) (h:(l.take k).Nodup) (hn : ¬ x∈l.take k):(l.take (k+1)).Nodup:=by
 rw [List.take_add_one,hx]
 simp only [Option.toList_some]
 rw [List.nodup_append]
 exact ⟨h,by simp,fun a ha b hb=>by rw [List.mem_singleton.1 hb];exact fun e=>hn (e ▸ ha)⟩
theorem ZuP {α:Type} {l:List α} {k:Nat} {x:α} (hx:l[k]? = some x) (h:x∈l.take k) : ¬ l.Nodup:=by
 intro hn
 have e:l=l.take k ++ l.drop k:=(List.take_append_drop k l).symm
 rw [e,Zk8 hx,List.nodup_append] at hn
 exact hn.2.2 x h x (List.mem_cons_self ..) rfl
theorem Zhr {l:List Str} {k:Nat} {x:Str} (hx:l[k]? = some x) (h:Zah x=false):false=ZcV l:=by
 simp [ZcV,ZmH hx h]
theorem Zhq {l:List Str} {k:Nat} {x:Str} (hx:l[k]? = some x) (h:x∈l.take k):false=ZcV l:=by
 simp [ZcV,ZuP hx h]
theorem ZiC {l:List Str} {k:Nat} (hk : ¬ (k:Int)<l.length) (ha:(l.take k).all Zah=true) (hn:(l.take k).Nodup):decide ((l.length:Int)≤3)=ZcV l:=by
 rw [List.take_of_length_le (by omega)] at ha hn
 rw [Bool.eq_iff_iff];simp only [ZcV,ha,decide_eq_true hn,Bool.true_and,decide_eq_true_eq];omega
def ZaB {α:Type} (p:α→Bool) (xs:List α):Int:=match xs.findIdx? p with | some i=>i | none=>-1
theorem ZhW {α:Type} {p:α→Bool} {xs:List α} {k:Nat} {x:α} (hx:xs[k]? = some x) (he:p x=true) (h :∀y,y∈xs.take k→p y=false):ZaB p xs=k:=by
 have:xs.findIdx? p=some k:=by
  rw [List.findIdx?_eq_some_iff_getElem]
  obtain ⟨hk,rfl⟩:=List.getElem?_eq_some_iff.1 hx
  refine ⟨hk,he,fun j hj=>?_⟩
  have:=h xs[j] (by rw [List.mem_take_iff_getElem];exact ⟨j,by omega,rfl⟩)
  simpa using this
 rw [ZaB,this]
theorem Zfd {α:Type} {p:α→Bool} {xs:List α} (h :∀y,y∈xs→p y=false):ZaB p xs = -1:=by
 have:xs.findIdx? p=none:=by
  rw [List.findIdx?_eq_none_iff]
  intro x hx
  simpa using h x hx
 rw [ZaB,this]
theorem Zd2 {α:Type} {p:α→Bool} {xs:List α} : (0≤ZaB p xs)↔∃x,x∈xs∧p x=true:=by
 cases h:xs.findIdx? p with
 | none=>
  rw [List.findIdx?_eq_none_iff] at h
  simp only [ZaB,List.findIdx?_eq_none_iff.2 h]
  refine ⟨fun e=>absurd e (by omega),fun ⟨x,hx,hp⟩=>?_⟩
  rw [h x hx] at hp;cases hp
 | some i=>
  simp only [ZaB,h]
  rw [List.findIdx?_eq_some_iff_getElem] at h
  obtain ⟨hi,hp,_⟩:=h
  exact ⟨fun _=>⟨_,List.getElem_mem hi,hp⟩,fun _=>by omega⟩
def Zx6 (xs:List Str) (v:Str):Int:=ZaB (fun x=>decide (x=v)) xs
theorem Zs8 {xs:List Str} {v:Str} : (0≤Zx6 xs v)↔v∈xs:=by
 rw [Zx6,Zd2];simp
theorem Zof {q:DQueue} (h:Zc7 0 q.items=none):false=Zad q:=by simp [Zad,h]
theorem Zoe {q:DQueue} {last:Int} (h:Zc7 0 q.items=some last):(decide (last+1≤q.next) && decide (q.next≤100) && decide (q.items.length≤6))=Zad q:=by simp [Zad,h]
theorem Zqz {q:DQueue} {k:Nat} {last:Int} {x:DItem} (hs:Zc7 0 q.items=Zc7 last (q.items.drop k)) (hx:q.items[k]? = some x):Zc7 0 q.items=if (last+1≤x.id∧x.id≤99)∧ZcF x=true then Zc7 x.id (q.items.drop (k+1)) else none:=by
 rw [hs,Zk8 hx,Zc7]
theorem ZhN {a b:DQueue} {k:Nat} {x y:DItem} (hx:a.items[k]? = some x) (hy:b.items[k]? = some y) (e : ¬ x=y):false=decide (a=b):=by
 symm;rw [decide_eq_false_iff_not];rintro rfl;rw [hx] at hy;exact e (Option.some.inj hy)
def rep (l:Str) (n:Nat):Str:=(List.replicate n l).flatten
theorem ZkK (l:Str) (n:Nat):(rep l n).length=n*l.length:=by simp [rep]
theorem Zfa (x:DLetter):ZaS x=(Zah x.fr && (decide (1≤x.to_.length) && ZcV x.to_) && decide ((x.text.length:Int)≤20)):=by
 rw [Bool.eq_iff_iff];simp only [ZaS,Bool.and_eq_true,decide_eq_true_eq]
 constructor
 ·rintro ⟨⟨⟨a,b⟩,c⟩,d⟩;exact ⟨⟨a,by omega,b⟩,by omega⟩
 ·rintro ⟨⟨a,c,b⟩,d⟩;exact ⟨⟨⟨a,b⟩,by omega⟩,by omega⟩
theorem Zak.mono {B B':Kn} {q:Option Addr} {m:Nat} (h:Zak B q m) (hle:B.le B'):Zak B' q m:=fun j hj=>by
 obtain ⟨a,c,h1,h2,h3⟩:=h j hj
 exact ⟨a,c,h1,h2,h3.mono hle⟩
theorem ZuD (l:Str) (n:Nat) (h:n % 2=1):rep l n=l ++ rep (l ++ l) (n / 2):=by
 obtain ⟨k,rfl⟩ :∃k,n=2*k+1:=⟨n / 2,by omega⟩
 have e:(2*k+1) / 2=k:=by omega
 rw [e]
 clear h e
 induction k with
 | zero=>simp [rep]
 | succ k ih=>
  rw [show 2*(k+1)+1=(2*k+1)+1+1 from by omega]
  simp only [rep,List.replicate_succ,List.flatten_cons] at ih ⊢
  rw [ih];simp
theorem Zsz (l:Str) (n:Nat) (h:n % 2=0):rep l n=rep (l ++ l) (n / 2):=by
 obtain ⟨k,rfl⟩ :∃k,n=2*k:=⟨n / 2,by omega⟩
 have e:2*k / 2=k:=by omega
 rw [e]
 clear h e
 induction k with
 | zero=>simp [rep]
 | succ k ih=>
  rw [show 2*(k+1)=(2*k)+1+1 from by omega]
  simp only [rep,List.replicate_succ,List.flatten_cons] at ih ⊢
  rw [ih];simp
structure Gh (α:Type) where
 k:Nat
 p:Nat
 l:Cells
 a:Option Addr
 c:Nat
 xs:List α
theorem Zat {α:Type} {l:List α} {k:Nat} {x:α} (hx:l[k]? = some x):l.take (k+1)=l.take k ++ [x]:=by
 rw [List.take_add_one,hx];rfl
def Zh5 (q:DQueue) (x:DLetter):DQueue × Bool:=
 if Zad q=true∧ZaS x=true then
  (if 6≤q.items.length∨99<q.next then (q,false) else (⟨q.next+1,q.items ++ [⟨q.next,x.fr,x.text,x.to_⟩]⟩,true))
 else (⟨0,[]⟩,false)
theorem Zr6 {q:DQueue} {x:DLetter} (h:Zad q=false):Zh5 q x=(⟨0,[]⟩,false):=by simp [Zh5,h]
theorem Zr5 {q:DQueue} {x:DLetter} (h:ZaS x=false):Zh5 q x=(⟨0,[]⟩,false):=by simp [Zh5,h]
theorem ZmK {q:DQueue} {x:DLetter} (h:Zad q=true) (h':ZaS x=true) (hf:6≤q.items.length∨99<q.next):Zh5 q x=(q,false):=by rw [Zh5,if_pos ⟨h,h'⟩,if_pos hf]
theorem ZvJ {q:DQueue} {x:DLetter} (h:Zad q=true) (h':ZaS x=true) (h1 : ¬ 6≤q.items.length) (h2 : ¬ 99<q.next):Zh5 q x=(⟨q.next+1,q.items ++ [⟨q.next,x.fr,x.text,x.to_⟩]⟩,true):=by
 rw [Zh5,if_pos ⟨h,h'⟩,if_neg (by omega)]
theorem ZqA :∀{xs:List DItem} {l r:Int},Zc7 l xs=some r→l≤r
 | [],l,r,h=>by simp only [Zc7,Option.some.injEq] at h;omega
 | x :: xs,l,r,h=>by
  rw [Zc7] at h
  split at h
  ·rename_i e;have:=ZqA h;omega
  ·cases h
theorem Zc9 {q:DQueue} (h:Zad q=true):1≤q.next∧q.next≤100∧q.items.length≤6:=by
 unfold Zad at h
 split at h
 ·rename_i last e
  have:=ZqA e
  simp only [Bool.and_eq_true,decide_eq_true_eq] at h
  omega
 ·cases h
structure Gh2 (α β:Type) where
 k:Nat
 p:Nat
 l:Cells
 a:Option Addr
 c:Nat
 xs:List α
 e:β
def without (xs:List Str) (u:Str):List Str:=xs.filter fun x=>decide (x≠u)
theorem Zln {xs:List Str} {u:Str} {k:Nat} {x:Str} (hx:xs[k]? = some x) (h : ¬ x=u):without (xs.take (k+1)) u=without (xs.take k) u ++ [x]:=by
 rw [Zat hx,without,without,List.filter_append];simp [h]
theorem Zlm {xs:List Str} {u:Str} {k:Nat} {x:Str} (hx:xs[k]? = some x) (h:x=u):without (xs.take (k+1)) u=without (xs.take k) u:=by
 rw [Zat hx,without,without,List.filter_append];simp [h]
theorem Zh9 (xs:List Str) (u:Str):(without xs u).length≤xs.length:=List.length_filter_le _ _
def ZbM (id:Int) (u:Str) (x:DItem):DItem:=if x.id=id∧u∈x.left then ⟨x.id,x.fr,x.text,without x.left u⟩ else x
def ZeU (id:Int) (u:Str) (xs:List DItem):List DItem:=(xs.map (ZbM id u)).filter fun x=>decide (0<x.left.length)
def ZbY (id:Int) (u:Str) (s:Str × Bool) (x:DItem):Str × Bool:=if x.id=id∧u∈x.left then (x.text,true) else s
def ZfQ (id:Int) (u:Str) (xs:List DItem):Str × Bool:=xs.foldl (ZbY id u) ([],false)
theorem ZeZ {id:Int} {u:Str} {x:DItem} (h:x.id=id) (h':u∈x.left):ZbM id u x=⟨x.id,x.fr,x.text,without x.left u⟩:=by rw [ZbM,if_pos ⟨h,h'⟩]
theorem Zhl {id:Int} {u:Str} {x:DItem} (h : ¬ x.id=id):ZbM id u x=x:=by rw [ZbM,if_neg (fun e=>h e.1)]
theorem Zhk {id:Int} {u:Str} {x:DItem} (h : ¬ u∈x.left):ZbM id u x=x:=by rw [ZbM,if_neg (fun e=>h e.2)]
theorem Zim {id:Int} {u:Str} {xs:List DItem} {k:Nat} {x y:DItem} (hx:xs[k]? = some x) (e:ZbM id u x=y) (h:0<y.left.length):ZeU id u (xs.take (k+1))=ZeU id u (xs.take k) ++ [y]:=by
 rw [Zat hx,ZeU,ZeU,List.map_append,List.filter_append];simp [e,h]
theorem ZgK {id:Int} {u:Str} {xs:List DItem} {k:Nat} {x y:DItem} (hx:xs[k]? = some x) (e:ZbM id u x=y) (h : ¬ 0<y.left.length):ZeU id u (xs.take (k+1))=ZeU id u (xs.take k):=by
 rw [Zat hx,ZeU,ZeU,List.map_append,List.filter_append];simp [e,show y.left.length=0 by omega]
theorem ZlE {id:Int} {u:Str} {xs:List DItem} {k:Nat} {x:DItem} (hx:xs[k]? = some x) (h:x.id=id) (h':u∈x.left):ZfQ id u (xs.take (k+1))=(x.text,true):=by
 rw [Zat hx,ZfQ,List.foldl_append];simp [ZbY,h,h']
theorem ZlD {id:Int} {u:Str} {xs:List DItem} {k:Nat} {x:DItem} (hx:xs[k]? = some x) (h : ¬ x.id=id):ZfQ id u (xs.take (k+1))=ZfQ id u (xs.take k):=by
 rw [Zat hx,ZfQ,List.foldl_append];simp [ZbY,h,ZfQ]
theorem ZlC {id:Int} {u:Str} {xs:List DItem} {k:Nat} {x:DItem} (hx:xs[k]? = some x) (h : ¬ u∈x.left):ZfQ id u (xs.take (k+1))=ZfQ id u (xs.take k):=by
 rw [Zat hx,ZfQ,List.foldl_append];simp [ZbY,h,ZfQ]
theorem Zil (id:Int) (u:Str) (xs:List DItem):(ZeU id u xs).length≤xs.length:=by
 unfold ZeU;exact Nat.le_trans (List.length_filter_le _ _) (by simp)
def Zca (q:DQueue) (id:Int) (u:Str):DQueue × Str × Bool:=(⟨q.next,ZeU id u q.items⟩,(ZfQ id u q.items).1,(ZfQ id u q.items).2)
def Zdi (q:DQueue) (id:Int) (u:Str):DQueue × Str × Bool:=if Zad q=true then Zca q id u else (⟨0,[]⟩,[],false)
structure GQ where
 k:Nat
 p:Nat
 l:Cells
 a:Option Addr
 c:Nat
 q:DQueue
structure GM where
 b:Nat
 p:Nat
 l:Cells
 a:Option Addr
 c:Nat
 q:DQueue
 f:Bool
theorem Zh4 (q:DQueue) (x:DLetter):(Zh5 q x).1.items.length≤q.items.length+1:=by
 unfold Zh5
 split
 ·split
  ·exact Nat.le_succ _
  ·simp
 ·exact Nat.zero_le _
theorem ZlR (q:DQueue) (id:Int) (u:Str):(Zdi q id u).1.items.length≤q.items.length:=by
 unfold Zdi
 split
 ·exact Zil _ _ _
 ·exact Nat.zero_le _
theorem ZrL {α:Type} {xs:List α} {j:Nat} {y:α} (h:xs[j]? = some y):xs.drop j=y :: xs.drop (j+1):=by
 obtain ⟨hj,rfl⟩:=List.getElem?_eq_some_iff.1 h
 exact List.drop_eq_getElem_cons hj
structure QOf where
 p:Option Addr
 ys:List DItem
 xs:List DItem
 l:Cells
 q:Option Addr
 c:Nat
 cells:Cells
theorem ZZ.slice0 {α:Type} {B:Kn} {l:Cells} {p:Option Addr} {c:Nat} {T:TypeId} {w sz:Nat} {R:Rel α} {xs:List α} (h:ZZ B l p c T w R xs):(if c=0 then p else p.map (fun a=>a.add (0*sz)))=p:=by
 obtain ⟨rows,_,_,_,⟨rfl,_,rfl,_⟩ | ⟨b,arr,rfl,_,_,_,_⟩⟩:=h
 ·rfl
 ·split
  ·rfl
  ·rw [Nat.zero_mul];simp [Addr.add_off]
theorem ZgP {q:DQueue} (h : ¬ (q.items.length≤6∧1≤q.next∧q.next≤100)):false=Zad q:=by
 symm;rw [Bool.eq_false_iff];intro hq
 have:=Zc9 hq
 omega
end Go.BL
namespace Go.BL
open Go
def hat (xs:List Int) (k:Nat):Int:=xs.getD k 0
def swp (xs:List Int) (i j:Nat):List Int:=(xs.set i (hat xs j)).set j (hat xs i)
def ZdO (xs:List Int):Prop:=∀k,0<k→k<xs.length→hat xs ((k - 1) / 2)≤hat xs k
def Zgb (xs:List Int) (j:Nat):Prop:=(∀k,0<k→k<xs.length→k≠j→hat xs ((k - 1) / 2)≤hat xs k)∧(∀k,0<k→k<xs.length→(k - 1) / 2=j→0<j→hat xs ((j - 1) / 2)≤hat xs k)
theorem Zu6 {xs:List Int} {k:Nat} {a:Int} (h:xs[k]? = some a):hat xs k=a:=by simp [hat,List.getD,h]
theorem Zbe {xs:List Int} {k:Nat} (h:k<xs.length):xs[k]? = some (hat xs k):=by simp [hat,List.getD,List.getElem?_eq_getElem h]
theorem ZdC (xs:List Int) (i j:Nat):(swp xs i j).length=xs.length:=by simp [swp]
theorem Zfe {xs:List Int} {i j:Nat} (hi:i<xs.length) (hj:j<xs.length) (k:Nat):hat (swp xs i j) k=if k=j then hat xs i else if k=i then hat xs j else hat xs k:=by
 simp only [hat,swp,List.getD,List.getElem?_set]
 by_cases h1:k=j
 ·subst h1;simp [hj]
 ·have h1' : ¬j=k:=fun h=>h1 h.symm
  by_cases h2:k=i
  ·subst h2;simp [hi,h1,h1']
  ·have h2' : ¬i=k:=fun h=>h2 h.symm
   simp [h1,h1',h2,h2']
theorem Zgl {xs:List Int} {i j:Nat} (hi:i<xs.length) (hj:j<xs.length):(swp xs i j).Perm xs:=by
 rw [List.perm_iff_count]
 intro a
 unfold swp
 rw [List.count_set (by simpa using hj),List.count_set hi]
 have e1:(xs.set i (hat xs j))[j]'(by simpa using hj)=hat xs j:=by
  rw [List.getElem_set];split
  ·rfl
  ·simp [hat,List.getD,List.getElem?_eq_getElem hj]
 have e2:xs[i]=hat xs i:=by simp [hat,List.getD,List.getElem?_eq_getElem hi]
 rw [e1,e2]
 have hp :∀v,(v == a)=true→v∈xs→0<List.count a xs:=fun v hv hm=>by
  rw [beq_iff_eq] at hv;subst hv;exact List.count_pos_iff.2 hm
 have hm1:hat xs i∈xs:=by rw [← e2];exact List.getElem_mem _
 by_cases h1:(hat xs i == a)=true <;> by_cases h2:(hat xs j == a)=true <;> simp [h1,h2] <;> (try have:=hp _ h1 hm1;omega)
theorem Zut {xs:List Int} (h:Zgb xs 0):ZdO xs:=fun k h0 hk=>h.1 k h0 hk (by omega)
theorem Zuv {xs:List Int} {j:Nat} (h:Zgb xs j) (hj:hat xs ((j - 1) / 2)≤hat xs j):ZdO xs:=fun k h0 hk=>by
 by_cases e:k=j
 ·subst e;exact hj
 ·exact h.1 k h0 hk e
theorem Zuu {xs:List Int} {j:Nat} (h0:0<j) (hj:j<xs.length) (h:Zgb xs j) (hlt:hat xs j<hat xs ((j - 1) / 2)):Zgb (swp xs ((j - 1) / 2) j) ((j - 1) / 2):=by
 have hi:(j - 1) / 2<xs.length:=by omega
 have H:=fun k=>Zfe hi hj k
 generalize hii:(j - 1) / 2=i at *
 refine ⟨fun k hk0 hk hne=>?_,fun k hk0 hk hpar hi0=>?_⟩
 ·rw [ZdC] at hk
  rw [H,H]
  by_cases e1:k=j
  ·subst e1
   rw [hii];rw [if_neg (by omega),if_pos rfl,if_pos rfl];omega
  ·rw [if_neg e1,if_neg hne]
   by_cases e2:(k - 1) / 2=j
   ·rw [if_pos e2];have:=h.2 k hk0 hk e2 h0;rw [hii] at this;exact this
   ·rw [if_neg e2]
    by_cases e3:(k - 1) / 2=i
    ·rw [if_pos e3];have:=h.1 k hk0 hk e1;rw [e3] at this;omega
    ·rw [if_neg e3];exact h.1 k hk0 hk e1
 ·rw [ZdC] at hk
  rw [H,H]
  have hpi:(i - 1) / 2≠i:=by omega
  have hpj:(i - 1) / 2≠j:=by omega
  rw [if_neg hpj,if_neg hpi]
  have hii2:=h.1 i hi0 hi (by omega)
  by_cases e1:k=j
  ·rw [if_pos e1];exact hii2
  ·rw [if_neg e1,if_neg (by omega)]
   have:=h.1 k hk0 hk e1;rw [hpar] at this;omega
theorem Ztc {xs:List Int} (h:ZdO xs) :∀k,k<xs.length→hat xs 0≤hat xs k:=fun k=>by
 induction k using Nat.strongRecOn with
 | ind k ih=>
  intro hk
  by_cases h0:k=0
  ·subst h0;exact Int.le_refl _
  ·have h1:=ih ((k - 1) / 2) (by omega) (by omega)
   have h2:=h k (by omega) hk
   omega
def ZtQ (xs:List Int) (n:Nat):Prop:=∀k,0<k→k<n→hat xs ((k - 1) / 2)≤hat xs k
def Zfo (xs:List Int) (n i:Nat):Prop:=(∀k,0<k→k<n→(k - 1) / 2≠i→hat xs ((k - 1) / 2)≤hat xs k)∧(∀k,0<k→k<n→(k - 1) / 2=i→0<i→hat xs ((i - 1) / 2)≤hat xs k)
theorem ZrO {xs:List Int} {n i:Nat} (h:Zfo xs n i) (hl:n≤2*i+1):ZtQ xs n:=fun k h0 hk=>h.1 k h0 hk (by omega)
theorem Zjm {xs:List Int} {n i:Nat} (h:Zfo xs n i) (hc :∀k,0<k→k<n→(k - 1) / 2=i→hat xs i≤hat xs k):ZtQ xs n:=fun k h0 hk=>by
 by_cases e:(k - 1) / 2=i
 ·rw [e];exact hc k h0 hk e
 ·exact h.1 k h0 hk e
theorem Zjl {xs:List Int} {n i j:Nat} (hn:n≤xs.length) (hj0:0<j) (hj:j<n) (hpj:(j - 1) / 2=i) (h:Zfo xs n i) (hmin :∀k,0<k→k<n→(k - 1) / 2=i→hat xs j≤hat xs k) (hlt:hat xs j<hat xs i):Zfo (swp xs i j) n j:=by
 have hi:i<xs.length:=by omega
 have hij:i≠j:=by omega
 have H:=fun k=>Zfe hi (show j<xs.length by omega) k
 refine ⟨fun k hk0 hk hne=>?_,fun k hk0 hk hpar _=>?_⟩
 ·rw [H,H,if_neg hne]
  by_cases e1:k=j
  ·subst e1;rw [if_pos hpj,if_pos rfl];omega
  ·rw [if_neg e1]
   by_cases e2:(k - 1) / 2=i
   ·rw [if_pos e2,if_neg (by omega)];exact hmin k hk0 hk e2
   ·rw [if_neg e2]
    by_cases e3:k=i
    ·rw [if_pos e3];subst e3;exact h.2 j hj0 hj hpj hk0
    ·rw [if_neg e3];exact h.1 k hk0 hk e2
 ·rw [H,H,hpj,if_neg hij,if_pos rfl,if_neg (by omega),if_neg (by omega)]
  have:=h.1 k hk0 hk (by omega)
  rwa [hpar] at this
theorem ZxJ (k:Nat):Int.tdiv ((k:Int) - 1) 2=(((k - 1) / 2:Nat):Int):=by
 cases k with
 | zero=>rfl
 | succ k=>rw [show ((k+1:Nat):Int) - 1=(k:Int) from by omega,Int.tdiv_eq_ediv_of_nonneg (by omega)];simp
theorem Zrj {xs:List Int} {z:Int} {k:Nat} (h:k<xs.length):hat (xs ++ [z]) k=hat xs k:=by
 simp [hat,List.getD,List.getElem?_append_left h]
theorem ZsD {xs:List Int} {z:Int} (h:ZdO xs):Zgb (xs ++ [z]) xs.length:=by
 refine ⟨fun k h0 hk hne=>?_,fun k h0 hk hp _=>?_⟩
 ·rw [List.length_append,List.length_singleton] at hk
  rw [Zrj (by omega),Zrj (by omega)]
  exact h k h0 (by omega)
 ·rw [List.length_append,List.length_singleton] at hk
  omega
theorem ZuG {xs:List Int} (h:ZdO xs) (h0:0<xs.length):Zfo (swp xs 0 (xs.length - 1)) (xs.length - 1) 0:=by
 refine ⟨fun k hk0 hk hne=>?_,fun k hk0 hk hpar hh=>absurd hh (by omega)⟩
 rw [Zfe h0 (by omega),Zfe h0 (by omega),if_neg (by omega),if_neg (by omega),if_neg (by omega),if_neg (by omega)]
 exact h k hk0 (by omega)
theorem Zsu {xs:List Int} (h0:0<xs.length):hat (swp xs 0 (xs.length - 1)) (xs.length - 1)=hat xs 0:=by rw [Zfe h0 (by omega),if_pos rfl]
theorem Zot {xs:List Int} {n k:Nat} (h:k<n):hat (xs.take n) k=hat xs k:=by simp [hat,List.getD,List.getElem?_take,h]
theorem Zpz {ys:List Int} {n:Nat} (h:ZtQ ys n) (hn:n≤ys.length):ZdO (ys.take n):=fun k h0 hk=>by
 rw [List.length_take] at hk
 rw [Zot (by omega),Zot (by omega)]
 exact h k h0 (by omega)
theorem ZsG {xs ys:List Int} (h0:0<ys.length) (hp:ys.Perm xs) {z:Int} (hz:hat ys (ys.length - 1)=z):(z :: ys.take (ys.length - 1)).Perm xs:=by
 refine List.Perm.trans ?_ hp
 have e:ys=ys.take (ys.length - 1) ++ [z]:=by
  have h1:=Zat (Zbe (xs:=ys) (k:=ys.length - 1) (by omega))
  rw [show ys.length - 1+1=ys.length from by omega,List.take_length] at h1
  rw [hz] at h1;exact h1
 have h2:(z :: ys.take (ys.length - 1)).Perm (ys.take (ys.length - 1) ++ [z]):=(List.perm_append_singleton z _).symm
 rwa [← e] at h2
theorem Ztb:ZdO []:=fun k h0 hk=>by simp at hk
def asc:Int→Int→List Int→Bool
 | _,_,[]=>true
 | b,l,x :: r=>decide (b<x) && decide (x≤l) && asc x l r
theorem ZnO :∀{r:List Int} {b l z:Int},asc b l r=true→z∈r→b<z
 | [],_,_,_,_,hz=>by cases hz
 | x :: r,b,l,z,h,hz=>by
  simp only [asc,Bool.and_eq_true,decide_eq_true_eq] at h
  rcases List.mem_cons.1 hz with rfl | hz
  ·exact h.1.1
  ·have:=ZnO h.2 hz;omega
theorem Zu5 {xs:List Int} {k:Nat} (h:k<xs.length):hat xs k∈xs:=List.mem_of_getElem? (Zbe h)
theorem ZtG {b l x:Int} {r ys:List Int} (hp:ys.Perm (x :: r)) (hh:ZdO ys) (hne:hat ys 0≠x):false=asc b l (x :: r):=by
 symm;rw [Bool.eq_false_iff]
 intro h
 have h0:0<ys.length:=by rw [hp.length_eq];simp
 have hm:=hp.mem_iff.1 (Zu5 h0)
 simp only [asc,Bool.and_eq_true,decide_eq_true_eq] at h
 rcases List.mem_cons.1 hm with e | hm
 ·exact hne e
 ·have h1:=ZnO h.2 hm
  obtain ⟨k,hk⟩:=List.mem_iff_getElem?.1 (hp.mem_iff.2 (List.mem_cons_self (a:=x) (l:=r)))
  have h2:=Ztc hh k (List.getElem?_eq_some_iff.1 hk).1
  rw [Zu6 hk] at h2
  omega
theorem ZtF {b l x:Int} {r:List Int} (h:x≤b):false=asc b l (x :: r):=by simp [asc,show ¬ b<x from by omega]
theorem ZtE {b l x:Int} {r:List Int} (h:l<x):false=asc b l (x :: r):=by simp [asc,show ¬ x≤l from by omega]
theorem Zxb {b l x:Int} {r:List Int} (h : ¬ x≤b) (h2 : ¬ l<x):asc b l (x :: r)=asc x l r:=by simp [asc,show b<x from by omega,show x≤l from by omega]
theorem Zoa :∀{xs:List DItem} {b:Int} {l:Int},l≤99→(match Zc7 b xs with | some r=>decide (r≤l) | none=>false)=(decide (b≤l) && xs.all ZcF && asc b l (xs.map (·.id)))
 | [],b,l,_=>by simp [Zc7,asc]
 | x :: xs,b,l,hl=>by
  have ih:=Zoa (xs:=xs) (b:=x.id) hl
  rw [Zc7,List.map_cons,List.all_cons,asc]
  by_cases h1:b+1≤x.id
  ·by_cases h2:ZcF x=true
   ·by_cases h3:x.id≤99
    ·rw [if_pos ⟨⟨h1,h3⟩,h2⟩,ih,h2]
     by_cases h4:x.id≤l
     ·simp [h4,show b≤l from by omega,show b<x.id from by omega]
     ·simp [h4]
    ·rw [if_neg (fun h=>h3 h.1.2)]
     simp [show ¬ x.id≤l from by omega]
   ·rw [if_neg (fun h=>h2 h.2)]
    simp [h2]
  ·rw [if_neg (fun h=>h1 h.1.1)]
   simp [show ¬ b<x.id from by omega]
theorem ZcR (q:DQueue):Zad q=(decide (q.items.length≤6) && decide (1≤q.next) && decide (q.next≤100) && q.items.all ZcF && asc 0 (q.next - 1) (q.items.map (·.id))):=by
 by_cases h:q.next≤100
 ·have:=Zoa (xs:=q.items) (b:=0) (l:=q.next - 1) (by omega)
  unfold Zad
  cases hs:Zc7 0 q.items with
  | none=>
   rw [hs] at this
   simp only at this
   rw [Bool.eq_iff_iff]
   simp only [Bool.and_eq_true,decide_eq_true_eq,Bool.false_eq_true,false_iff]
   rintro ⟨⟨⟨⟨_,h1⟩,_⟩,h2⟩,h3⟩
   rw [h2,h3] at this
   simp at this;omega
  | some r=>
   rw [hs] at this
   simp only at this
   rw [Bool.eq_iff_iff] at this ⊢
   simp only [Bool.and_eq_true,decide_eq_true_eq] at this ⊢
   constructor
   ·rintro ⟨⟨h1,h2⟩,h3⟩
    obtain ⟨⟨a,b⟩,c⟩:=this.1 (by omega)
    exact ⟨⟨⟨⟨h3,by omega⟩,h⟩,b⟩,c⟩
   ·rintro ⟨⟨⟨⟨h1,h2⟩,h3⟩,h4⟩,h5⟩
    have:=this.2 ⟨⟨by omega,h4⟩,h5⟩
    omega
 ·unfold Zad
  cases Zc7 0 q.items <;> simp [h]
theorem Zxd {α:Type} {p:α→Bool} {l:List α} {k:Nat} {x:α} (hx:l[k]? = some x) (h:p x=false):l.all p=false:=by
 rw [Bool.eq_false_iff];intro hp
 rw [List.all_eq_true] at hp
 have:=hp x (List.mem_of_getElem? hx)
 rw [h] at this;cases this
theorem Zxc {α:Type} {p:α→Bool} {l:List α} {k:Nat} {x:α} (hx:l[k]? = some x) (h:p x=true) (ha:(l.take k).all p=true):(l.take (k+1)).all p=true:=by
 rw [Zat hx,List.all_append,ha];simp [h]
theorem Zm9 {q:DQueue} {k:Nat} {x:DItem} (hx:q.items[k]? = some x) (h:ZcF x=false):false=Zad q:=by
 rw [ZcR,Zxd hx h];simp
theorem Zm8 {q:DQueue} {k:Nat} (hk : ¬ (k:Int)<q.items.length) (ha:(q.items.take k).all ZcF=true) (h6:q.items.length≤6) (h1:1≤q.next) (h2:q.next≤100):asc 0 (q.next - 1) (q.items.map (·.id))=Zad q:=by
 rw [List.take_of_length_le (by omega)] at ha
 rw [ZcR,ha];simp [h6,h1,h2]
theorem ZmJ {q:DQueue} {x:DLetter} (h:(Zh5 q x).2=true):(Zh5 q x).1=⟨q.next+1,q.items ++ [⟨q.next,x.fr,x.text,x.to_⟩]⟩∧Zad q=true∧ZaS x=true∧q.items.length<6∧q.next≤99:=by
 unfold Zh5 at h ⊢
 by_cases h1:Zad q=true∧ZaS x=true
 ·rw [if_pos h1] at h ⊢
  by_cases h2:6≤q.items.length∨99<q.next
  ·rw [if_pos h2] at h;cases h
  ·rw [if_neg h2];exact ⟨rfl,h1.1,h1.2,by omega,by omega⟩
 ·rw [if_neg h1] at h;cases h
theorem Zob :∀{xs:List DItem} {b r:Int} {y:DItem},Zc7 b xs=some r→r+1≤y.id→y.id≤99→ZcF y=true→Zc7 b (xs ++ [y])=some y.id
 | [],b,r,y,h,h1,h2,h3=>by
  simp only [Zc7,Option.some.injEq] at h;subst h
  simp only [List.nil_append,Zc7,if_pos (And.intro (And.intro h1 h2) h3)]
 | x :: xs,b,r,y,h,h1,h2,h3=>by
  rw [Zc7] at h
  split at h
  ·rename_i hc
   rw [List.cons_append,Zc7,if_pos hc];exact Zob h h1 h2 h3
  ·cases h
theorem ZpS {q:DQueue} {x:DLetter} (h:(Zh5 q x).2=true):Zad (Zh5 q x).1=true:=by
 obtain ⟨he,hq,hx,h6,h9⟩:=ZmJ h
 rw [he]
 unfold Zad at hq ⊢
 split at hq
 ·rename_i last hs
  simp only [Bool.and_eq_true,decide_eq_true_eq] at hq
  have:=Zob (y:=⟨q.next,x.fr,x.text,x.to_⟩) hs (by simp only [];omega) h9 hx
  rw [this]
  simp only [Bool.and_eq_true,decide_eq_true_eq,List.length_append,List.length_singleton]
  omega
 ·cases hq
theorem Zug :∀{ids:List Int} {b l:Int},asc b l ids=true→ids.Nodup
 | [],_,_,_=>by simp
 | x :: r,b,l,h=>by
  simp only [asc,Bool.and_eq_true,decide_eq_true_eq] at h
  rw [List.nodup_cons]
  exact ⟨fun hm=>by have:=ZnO h.2 hm;omega,Zug h.2⟩
theorem Zm7 {q:DQueue} (h:Zad q=true):(q.items.map (·.id)).Nodup:=by
 rw [ZcR] at h
 simp only [Bool.and_eq_true] at h
 exact Zug h.2
theorem ZdZ {q:DQueue} (h:Zad q=true) {x:DItem} (hx:x∈q.items):ZcF x=true:=by
 rw [ZcR] at h
 simp only [Bool.and_eq_true] at h
 exact List.all_eq_true.1 h.1.2 x hx
theorem ZiN {x:DItem} (h:ZcF x=true):0<x.left.length∧x.left.Nodup:=by
 simp only [ZcF,ZaS,ZcV,Bool.and_eq_true,decide_eq_true_eq] at h
 exact ⟨h.1.2,h.1.1.2.1.2⟩
theorem ZlB {id:Int} {u:Str} {x:DItem} (h : ¬ (x.id=id∧u∈x.left)):ZbM id u x=x:=by rw [ZbM,if_neg h]
theorem Zgk {id:Int} {u:Str} :∀{xs:List DItem} {s:Str × Bool},(∀x,x∈xs→¬ (x.id=id∧u∈x.left))→xs.foldl (ZbY id u) s=s
 | [],_,_=>rfl
 | x :: xs,s,h=>by
  rw [List.foldl_cons,ZbY,if_neg (h x (List.mem_cons_self ..))]
  exact Zgk fun y hy=>h y (List.mem_cons_of_mem _ hy)
theorem Zik {id:Int} {u:Str} {xs:List DItem} (h :∀x,x∈xs→¬ (x.id=id∧u∈x.left)) (hl :∀x,x∈xs→0<x.left.length):ZeU id u xs=xs:=by
 have e:xs.map (ZbM id u)=xs:=by
  conv=>rhs;rw [← List.map_id xs]
  exact List.map_congr_left fun x hx=>ZlB (h x hx)
 rw [ZeU,e]
 exact List.filter_eq_self.2 fun x hx=>by simpa using hl x hx
theorem Zsr {q:DQueue} {id:Int} {u:Str} (hq:Zad q=true) (h :∀x,x∈q.items→¬ (x.id=id∧u∈x.left)):Zdi q id u=(q,[],false):=by
 rw [Zdi,if_pos hq,Zca,Zik h (fun x hx=>(ZiN (ZdZ hq hx)).1),ZfQ,Zgk h]
theorem Zra {q:DQueue} (hq:Zad q=true) {pre ys:List DItem} {y:DItem} (hs:pre ++ y :: ys=q.items):(∀x,x∈pre→x.id≠y.id)∧∀x,x∈ys→x.id≠y.id:=by
 have h:=Zm7 hq
 rw [← hs,List.map_append,List.map_cons,List.nodup_append] at h
 obtain ⟨_,h2,h3⟩:=h
 rw [List.nodup_cons] at h2
 refine ⟨fun x hx=>h3 _ (List.mem_map.2 ⟨x,hx,rfl⟩) _ (List.mem_cons_self ..),fun x hx e=>h2.1 (List.mem_map.2 ⟨x,hx,e⟩)⟩
theorem ZmV {q:DQueue} (hq:Zad q=true) {pre ys:List DItem} {y:DItem} (hs:pre ++ y :: ys=q.items) {u:Str} (hu:u∈y.left) :
  Zdi q y.id u=(⟨q.next,pre ++ (if 0<(without y.left u).length then ⟨y.id,y.fr,y.text,without y.left u⟩ :: ys else ys)⟩,y.text,true):=by
 obtain ⟨h1,h2⟩:=Zra hq hs
 have hl :∀x,x∈q.items→0<x.left.length:=fun x hx=>(ZiN (ZdZ hq hx)).1
 have n1 :∀x,x∈pre→¬ (x.id=y.id∧u∈x.left):=fun x hx e=>h1 x hx e.1
 have n2 :∀x,x∈ys→¬ (x.id=y.id∧u∈x.left):=fun x hx e=>h2 x hx e.1
 have l1:=Zik n1 (fun x hx=>hl x (by rw [← hs];exact List.mem_append_left _ hx))
 have l2:=Zik n2 (fun x hx=>hl x (by rw [← hs];exact List.mem_append_right _ (List.mem_cons_of_mem _ hx)))
 rw [Zdi,if_pos hq,Zca,← hs]
 unfold ZeU at l1 l2 ⊢
 unfold ZfQ
 rw [List.foldl_append,Zgk n1,List.foldl_cons,Zgk n2,ZbY,if_pos ⟨rfl,hu⟩,List.map_append,List.map_cons,List.filter_append,l1,ZeZ rfl hu,List.filter_cons,l2]
 simp only [decide_eq_true_eq]
theorem Zqm {q:DQueue} {id:Int} {u:Str} (h:(Zdi q id u).2.2=true):Zad q=true∧∃pre y ys,pre ++ y :: ys=q.items∧y.id=id∧u∈y.left∧
  Zdi q id u=(⟨q.next,pre ++ (if 0<(without y.left u).length then ⟨y.id,y.fr,y.text,without y.left u⟩ :: ys else ys)⟩,y.text,true):=by
 have hq:Zad q=true:=by
  cases hq:Zad q with
  | true=>rfl
  | false=>simp [Zdi,hq] at h
 refine ⟨hq,?_⟩
 by_cases hx :∀x,x∈q.items→¬ (x.id=id∧u∈x.left)
 ·rw [Zsr hq hx] at h;cases h
 ·simp only [Classical.not_forall,Classical.not_not] at hx
  obtain ⟨y,hy,hi,hu⟩:=hx
  obtain ⟨pre,ys,hs⟩:=List.append_of_mem hy
  exact ⟨pre,y,ys,hs.symm,hi,hu,by rw [← hi];exact ZmV hq hs.symm hu⟩
theorem ZtD :∀{ids:List Int} {b b' l:Int},b'≤b→asc b l ids=true→asc b' l ids=true
 | [],_,_,_,_,_=>rfl
 | x :: r,b,b',l,hb,h=>by
  simp only [asc,Bool.and_eq_true,decide_eq_true_eq] at h ⊢
  exact ⟨⟨by omega,h.1.2⟩,h.2⟩
theorem Zr1 :∀{a c:List Int} {b l x:Int},asc b l (a ++ x :: c)=true→asc b l (a ++ c)=true
 | [],c,b,l,x,h=>by
  simp only [List.nil_append,asc,Bool.and_eq_true,decide_eq_true_eq] at h ⊢
  exact ZtD (by omega) h.2
 | y :: a,c,b,l,x,h=>by
  simp only [List.cons_append,asc,Bool.and_eq_true,decide_eq_true_eq] at h ⊢
  exact ⟨h.1,Zr1 h.2⟩
theorem ZjH {y:DItem} {u:Str} (h:ZcF y=true) (h0:0<(without y.left u).length):ZcF ⟨y.id,y.fr,y.text,without y.left u⟩=true:=by
 simp only [ZcF,ZaS,ZcV,Bool.and_eq_true,decide_eq_true_eq,List.all_eq_true] at h ⊢
 obtain ⟨⟨⟨h1,⟨h2,h3⟩,h4⟩,h5⟩,h6⟩:=h
 have:=Zh9 y.left u
 exact ⟨⟨⟨h1,⟨fun x hx=>h2 x (List.mem_filter.1 hx).1,h3.filter _⟩,by omega⟩,h0⟩,h6⟩
theorem ZoQ {q:DQueue} {id:Int} {u:Str} (h:(Zdi q id u).2.2=true):Zad (Zdi q id u).1=true:=by
 obtain ⟨hq,pre,y,ys,hs,hi,hu,he⟩:=Zqm h
 rw [he]
 have hq':=hq
 rw [ZcR,← hs] at hq'
 rw [ZcR]
 simp only [Bool.and_eq_true,decide_eq_true_eq,List.length_append,List.length_cons,List.all_append,List.all_cons,List.map_append,List.map_cons] at hq' ⊢
 obtain ⟨⟨⟨⟨h6,h1⟩,h2⟩,h3,h4,h5⟩,ha⟩:=hq'
 by_cases h0:0<(without y.left u).length
 ·rw [if_pos h0]
  simp only [List.length_cons,List.all_cons,List.map_cons,Bool.and_eq_true]
  exact ⟨⟨⟨⟨by omega,h1⟩,h2⟩,h3,ZjH h4 h0,h5⟩,ha⟩
 ·rw [if_neg h0]
  exact ⟨⟨⟨⟨by omega,h1⟩,h2⟩,h3,h5⟩,Zr1 ha⟩
end Go.BL
namespace Go.BL
open Go
def ZbE (m:DMail):Bool:=(decide (1≤m.uid) && decide (m.uid≤99)) && (decide (0≤m.flags) && decide (m.flags≤31)) && decide (m.text.length≤20)
def scn {α β:Type} (p:β→α→Bool) (nx:β→α→β) (b0:β) (xs:List α):Bool × β:=xs.foldl (fun s x=>(s.1 && p s.2 x,nx s.2 x)) (true,b0)
theorem Ze3 {α β:Type} {p:β→α→Bool} {nx:β→α→β} {b0:β} {xs:List α} : scn p nx b0 (xs.take 0)=(true,b0):=by simp [scn]
theorem Zn8 {α β:Type} {p:β→α→Bool} {nx:β→α→β} {b0:β} {xs:List α} {k:Nat} {x:α} (hx:xs[k]? = some x):scn p nx b0 (xs.take (k+1))=((scn p nx b0 (xs.take k)).1 && p (scn p nx b0 (xs.take k)).2 x,nx (scn p nx b0 (xs.take k)).2 x):=by
 have:xs.take (k+1)=xs.take k ++ [x]:=by rw [List.take_add_one,hx];rfl
 rw [this,scn,List.foldl_append];rfl
theorem Zcb {α β:Type} {p:β→α→Bool} {nx:β→α→β} :∀(xs:List α) (b:β),(xs.foldl (fun (s:Bool × β) x=>(s.1 && p s.2 x,nx s.2 x)) (false,b)).1=false
 | [],_=>rfl
 | x :: xs,b=>by simp only [List.foldl_cons,Bool.false_and];exact Zcb xs _
theorem ZuA {α β:Type} {p:β→α→Bool} {nx:β→α→β} {b0:β} {xs:List α} {k:Nat} (h:(scn p nx b0 (xs.take k)).1=false):(scn p nx b0 xs).1=false:=by
 have e:xs=xs.take k ++ xs.drop k:=(List.take_append_drop k xs).symm
 have:scn p nx b0 xs=(xs.drop k).foldl (fun s x=>(s.1 && p s.2 x,nx s.2 x)) (scn p nx b0 (xs.take k)):=by
  conv=>lhs;rw [e,scn,List.foldl_append]
  rfl
 rw [this]
 rcases hs:scn p nx b0 (xs.take k) with ⟨b,c⟩
 rw [hs] at h
 simp only at h
 subst h
 exact Zcb _ _
theorem ZfW {α β:Type} {p:β→α→Bool} {nx:β→α→β} {b0:β} {xs:List α} {k:Nat} {x:α} (hx:xs[k]? = some x) (h:p (scn p nx b0 (xs.take k)).2 x=false):(scn p nx b0 xs).1=false:=
 ZuA (k:=k+1) (by rw [Zn8 hx,h,Bool.and_false])
theorem Zci {α β:Type} {p:β→α→Bool} {nx:β→α→β} {b0 b:β} {xs:List α} {k:Nat} {x:α} (hx:xs[k]? = some x) (hs:scn p nx b0 (xs.take k)=(true,b)) (h:p b x=true):scn p nx b0 (xs.take (k+1))=(true,nx b x):=by
 rw [Zn8 hx,hs];simp [h]
theorem Zec {α β:Type} {p:β→α→Bool} {nx:β→α→β} {b0 b:β} {xs:List α} {k:Nat} (hs:scn p nx b0 (xs.take k)=(true,b)) (hk:xs.length≤k):scn p nx b0 xs=(true,b):=by
 rwa [List.take_of_length_le hk] at hs
def ZbP (b:Int) (m:DMail):Bool:=ZbE m && decide (b<m.uid)
def Zcj (ms:List DMail):Bool × Int:=scn ZbP (fun _ m=>m.uid) 0 ms
def Zbf (b:DBox):Bool:=(Zcj b.mail).1 && (decide ((Zcj b.mail).2+1≤b.next) && decide (b.next≤100)) && decide (b.mail.length≤10)
def Zag (ms:List DMail):Nat:=(ms.map (·.text.length)).sum
theorem Ziq {ms:List DMail} {k:Nat} {x:DMail} (hx:ms[k]? = some x):Zag (ms.take (k+1))=Zag (ms.take k)+x.text.length:=by
 have:ms.take (k+1)=ms.take k ++ [x]:=by rw [List.take_add_one,hx];rfl
 simp [Zag,this]
theorem ZgD {b:DBox} (h:(Zcj b.mail).1=false):Zbf b=false:=by simp [Zbf,h]
theorem ZdL {b:DBox} {l:Int} (h:Zcj b.mail=(true,l)):Zbf b=((decide (l+1≤b.next) && decide (b.next≤100)) && decide (b.mail.length≤10)):=by simp [Zbf,h]
theorem Zj9 {m:DMail} (h:ZbE m=true):0≤m.uid∧m.uid≤99:=by
 simp only [ZbE,Bool.and_eq_true,decide_eq_true_eq] at h;omega
theorem ZjX {ms:List DMail} {k n:Nat} (h:n=Zag (ms.take k)) (hk:ms.length≤k):n=Zag ms:=by rwa [List.take_of_length_le hk] at h
def Zeg (b:DBox):Int:=if Zbf b then (Zag b.mail:Int) else -1
def anyone:Str:=[97,110,121,111,110,101]
def Zcz (u:DUser):Bool:=Zah u.name && decide (u.name≠anyone) && Zah u.pass && (decide (0≤u.quota) && decide (u.quota≤200))
theorem Zbs :∀(a b:Str),Op.bytesLess a b = !(Op.bytesLess b a || decide (b=a))
 | [],[]=>by simp [Op.bytesLess]
 | [],_ :: _=>by simp [Op.bytesLess]
 | _ :: _,[]=>by simp [Op.bytesLess]
 | a :: x,b :: y=>by
  have ih:=Zbs x y
  simp only [Op.bytesLess,ih]
  rcases UInt8.lt_or_lt_of_ne (a:=a) (b:=b) with h
  by_cases e:a=b
  ·subst e
   have : ¬ a<a:=UInt8.lt_irrefl a
   simp [this,ih]
  ·rcases h e with h | h
   ·have h2 : ¬ b<a:=UInt8.lt_asymm h
    simp [h,h2,e,Ne.symm e]
   ·have h2 : ¬ a<b:=UInt8.lt_asymm h
    simp [h,h2,e]
def ZdB (b:Str) (u:DUser):Bool:=Zcz u && Op.bytesLess b u.name
def ZdV (us:List DUser):Bool × Str:=scn ZdB (fun _ u=>u.name) [] us
def Zap (us:List DUser):Bool:=(ZdV us).1 && (decide (1≤us.length) && decide (us.length≤4))
theorem ZfP {us:List DUser} (h:(ZdV us).1=false):Zap us=false:=by simp [Zap,h]
theorem Zif {us:List DUser} {b:Str} (h:ZdV us=(true,b)):Zap us=(decide (1≤us.length) && decide (us.length≤4)):=by simp [Zap,h]
def ZqO:DUser:=⟨[],[],0⟩
def Zf6 (t:DUser→Bool) (us:List DUser):DUser × Bool:=match us.find? t with | some x=>(x,true) | none=>(ZqO,false)
theorem Zmp {α:Type} {t:α→Bool} {xs:List α} (h :∀y,y∈xs→t y=false):xs.find? t=none:=List.find?_eq_none.2 fun y hy=>by simp [h y hy]
theorem Zto {α:Type} {t:α→Bool} {xs:List α} {k:Nat} {x:α} (hx:xs[k]? = some x) (ht:t x=true) (h :∀y,y∈xs.take k→t y=false):xs.find? t=some x:=by
 have hlt:=(List.getElem?_eq_some_iff.1 hx).1
 have e:xs=xs.take k ++ (x :: xs.drop (k+1)):=by
  rw [← (List.getElem?_eq_some_iff.1 hx).2,← List.drop_eq_getElem_cons hlt,List.take_append_drop]
 rw [e,List.find?_append,Zmp h];simp [ht]
theorem ZrA {t:DUser→Bool} {us:List DUser} {k:Nat} {x:DUser} (hx:us[k]? = some x) (ht:t x=true) (h :∀y,y∈us.take k→t y=false):Zf6 t us=(x,true):=by simp [Zf6,Zto hx ht h]
theorem ZpI {t:DUser→Bool} {us:List DUser} (h :∀y,y∈us→t y=false):Zf6 t us=(ZqO,false):=by simp [Zf6,Zmp h]
theorem ZkJ {B:Kn} {b:Nat} {T:TypeId} {vs:List Value} (h :∀p,p∈Zas b vs T→B.mem p.1=some p.2):ZaQ B b 0 vs:=fun L j u hu=>
 ⟨rfl,vs.toArray,T,(0,0),.inl (h (b,.cells vs.toArray T) (List.mem_singleton.2 rfl)),by simpa using hu⟩
def Za5 (us:List DUser) (n:Str):DUser × Bool:=if Zap us then Zf6 (fun y=>decide (y.name=n)) us else (ZqO,false)
def inF (o n:Str) (f:DFolder):Bool:=decide (f.owner=o) && decide (f.name=n)
def Zdr (us:List DUser) (x:DItem):Bool:=(Za5 us x.fr).2 && x.left.all fun n=>(Za5 us n).2
theorem Zc6 {α:Type} {p:α→Bool} {xs:List α} {k:Nat} {x:α} (hx:xs[k]? = some x) (h:p x=false):xs.all p=false:=by
 rw [List.all_eq_false];exact ⟨x,List.mem_of_getElem? hx,by simp [h]⟩
theorem ZeP {α:Type} {p:α→Bool} {xs:List α} (h :∀y,y∈xs→p y=true):xs.all p=true:=List.all_eq_true.2 h
def Zb0 (a b:DFolder):Bool:=Op.bytesLess a.owner b.owner || (decide (a.owner=b.owner) && Op.bytesLess a.name b.name)
theorem Zc4 (a:Str):Op.bytesLess a a=false:=by
 have:=Zbs a a
 cases h:Op.bytesLess a a with
 | false=>rfl
 | true=>rw [h] at this;simp at this
end Go.BL
namespace Go.BL
open Go
inductive Prev {α β:Type} (f:α→β) (z:β) (xs:List α):Nat→β→Prop
 | zero:Prev f z xs 0 z
 | succ {k:Nat} {x:α} : xs[k]? = some x→Prev f z xs (k+1) (f x)
theorem Prev.at {α β:Type} {f:α→β} {z:β} {xs:List α} {k:Nat} {b:β} {y:α} (h:Prev f z xs k b) (hy:xs[((k:Int) - 1).toNat]? = some y) (hk:0<(k:Int)):b=f y:=by
 cases h with
 | zero=>omega
 | succ hx=>
  rename_i k x
  rw [show (((k+1:Nat):Int) - 1).toNat=k from by omega,hx] at hy
  cases hy;rfl
theorem Prev.at0 {α β:Type} {f:α→β} {z:β} {xs:List α} {k:Nat} {b:β} (h:Prev f z xs k b) (hk:(k:Int)≤0):b=z:=by
 cases h with
 | zero=>rfl
 | succ hx=>omega
theorem ZhM {α β:Type} {p:β→α→Bool} {nx:β→α→β} {b0 b:β} {xs:List α} {k:Nat} {x:α} (hx:xs[k]? = some x) (hs:scn p nx b0 (xs.take k)=(true,b)) (h:p b x=false):(scn p nx b0 xs).1=false:=
 ZfW hx (by rw [congrArg Prod.snd hs];exact h)
theorem ZdA {us:List DUser} {k:Nat} {x:DUser} {nm:Str} (hx:us[k]? = some x) (hs:ZdV (us.take k)=(true,nm)) (h:ZdB nm x=false):Zap us=false:=
 ZfP (ZhM hx hs h)
theorem Zol {s:Str} (h:0<s.length):Op.bytesLess [] s=true:=by
 cases s with
 | nil=>cases h
 | cons a s=>rfl
theorem Zj7 {s:Str} (h:Zah s=true):0<s.length:=by
 cases s with
 | nil=>simp [Zah] at h
 | cons a s=>simp
def Zcv (b:Str) (g:DGrant):Bool:=Zah g.user && (decide (1≤g.rights) && decide (g.rights≤63)) && Op.bytesLess b g.user
def Zdf (gs:List DGrant):Bool × Str:=scn Zcv (fun _ g=>g.user) [] gs
def ZbQ (gs:List DGrant):Bool:=(Zdf gs).1 && decide (gs.length≤4)
theorem ZdN {gs:List DGrant} {k:Nat} {x:DGrant} {nm:Str} (hx:gs[k]? = some x) (hs:Zdf (gs.take k)=(true,nm)) (h:Zcv nm x=false):ZbQ gs=false:=by
 rw [ZbQ,show (Zdf gs).1=false from ZhM hx hs h,Bool.false_and]
theorem ZmM {gs:List DGrant} {b:Str} (h:Zdf gs=(true,b)):ZbQ gs=decide (gs.length≤4):=by rw [ZbQ,h,Bool.true_and]
def DFolder.box (f:DFolder):DBox:=⟨f.next,f.mail⟩
def inbox:Str:=[105,110,98,111,120]
def Z5 (us:List DUser) (f:DFolder):Bool:=decide (0≤Zde us f.owner) && Zah f.name && ZbQ f.grants && Zbf f.box
def ZbV (us:List DUser) (b:Option DFolder) (f:DFolder):Bool:=Z5 us f && (match b with | none=>true | some y=>Zb0 y f)
def Zdx (us:List DUser) (fs:List DFolder):Bool × Option DFolder:=scn (ZbV us) (fun _ f=>some f) none fs
def Zcf (us:List DUser) (fs:List DFolder):Bool:=(Zdx us fs).1 && decide (fs.length≤8)
theorem ZcJ {us:List DUser} {fs:List DFolder} {k:Nat} {x:DFolder} {b:Option DFolder} (hx:fs[k]? = some x) (hs:Zdx us (fs.take k)=(true,b)) (h:ZbV us b x=false):Zcf us fs=false:=by
 rw [Zcf,show (Zdx us fs).1=false from ZhM hx hs h,Bool.false_and]
theorem Zk3 {us:List DUser} {fs:List DFolder} {b:Option DFolder} (h:Zdx us fs=(true,b)):Zcf us fs=decide (fs.length≤8):=by rw [Zcf,h,Bool.true_and]
def Za9 (fs:List DFolder) (u:Str):Nat:=(fs.map fun f=>if f.owner=u then Zag f.mail else 0).sum
theorem ZjT {fs:List DFolder} {u:Str} {k:Nat} {x:DFolder} (hx:fs[k]? = some x):Za9 (fs.take (k+1)) u=Za9 (fs.take k) u+if x.owner=u then Zag x.mail else 0:=by
 have:fs.take (k+1)=fs.take k ++ [x]:=by rw [List.take_add_one,hx];rfl
 simp [Za9,this]
theorem Zqk {fs:List DFolder} {u:Str} {k n:Nat} (h:n=Za9 (fs.take k) u) (hk:fs.length≤k):n=Za9 fs u:=by rwa [List.take_of_length_le hk] at h
def Zgv (us:List DUser) (ns:List Str):Bool:=ns.all fun n=>decide (0≤Zde us n)
def ZaW (fs:List DFolder) (u:DUser):Bool:=decide (0≤ZaB (inF u.name inbox) fs) && decide ((Za9 fs u.name:Int)≤u.quota)
def ZaI (us:List DUser) (x:DItem):Bool:=decide (0≤Zde us x.fr) && Zgv us x.left
def Zw (h:DHost):Bool:=Zcn h.domain && Zap h.users && Zad h.queue && Zcf h.users h.folders && h.users.all (ZaW h.folders) && h.queue.items.all (ZaI h.users)
theorem Z0 {B:Kn} {q:Option Addr} {cp:Nat} {ms:List DMail} (h:SlK B q cp 3 ZM ms):Zag ms≤4000000000000:=by
 have h1 :∀m,m∈ms→m.text.length≤2000000:=fun m hm=>by
  obtain ⟨i,hi⟩:=List.mem_iff_getElem?.1 hm
  obtain ⟨b,o,row,_,h2,_⟩:=h.rows i m hi
  exact h2.2
 have h2 :∀l:List DMail,(∀m,m∈l→m.text.length≤2000000)→Zag l≤l.length*2000000:=by
  intro l
  induction l with
  | nil=>intro _;simp [Zag]
  | cons m l ih=>
   intro hl
   have:=ih fun y hy=>hl y (List.mem_cons_of_mem _ hy)
   have:=hl m (List.mem_cons_self ..)
   simp only [Zag,List.map_cons,List.sum_cons,List.length_cons] at *
   omega
 have:=h2 ms h1
 have:=h.len
 omega
theorem ZiS {h:DHost} {k:Nat} {u:DUser} (hu:h.users[k]? = some u) (hf:ZaW h.folders u=false):Zw h=false:=by
 rw [Zw,Zc6 hu hf,Bool.and_false,Bool.false_and]
theorem ZiU {h:DHost} {k:Nat} {y:DItem} (hy:h.queue.items[k]? = some y) (hf:ZaI h.users y=false):Zw h=false:=by
 rw [Zw,Zc6 hy hf,Bool.and_false]
theorem Zpu {h:DHost} (h1:Zcn h.domain=true) (h2:Zap h.users=true) (h3:Zad h.queue=true) (h4:Zcf h.users h.folders=true) (h5:h.users.all (ZaW h.folders)=true) (h6:h.queue.items.all (ZaI h.users)=true):Zw h=true:=by
 rw [Zw,h1,h2,h3,h4,h5,h6];rfl
theorem Zlw {fs:List DFolder} {u:DUser} (h:ZaB (inF u.name inbox) fs<0):ZaW fs u=false:=by
 rw [ZaW,decide_eq_false (by omega),Bool.false_and]
theorem Zlv {fs:List DFolder} {u:DUser} (h:u.quota<Za9 fs u.name):ZaW fs u=false:=by
 rw [ZaW,decide_eq_false (p:=(Za9 fs u.name:Int)≤u.quota) (by omega),Bool.and_false]
theorem Zlu {fs:List DFolder} {u:DUser} (h:0≤ZaB (inF u.name inbox) fs) (h':(Za9 fs u.name:Int)≤u.quota):ZaW fs u=true:=by
 rw [ZaW,decide_eq_true h,decide_eq_true h'];rfl
theorem ZkW {us:List DUser} {x:DItem} (h:Zde us x.fr<0):ZaI us x=false:=by rw [ZaI,decide_eq_false (by omega),Bool.false_and]
theorem ZkV {us:List DUser} {x:DItem} (h:Zgv us x.left=false):ZaI us x=false:=by rw [ZaI,h,Bool.and_false]
theorem ZkU {us:List DUser} {x:DItem} (h:0≤Zde us x.fr) (h':Zgv us x.left=true):ZaI us x=true:=by rw [ZaI,decide_eq_true h,h'];rfl
theorem Zdw :∀{a b c:Str},Op.bytesLess a b=true→Op.bytesLess b c=true→Op.bytesLess a c=true
 | [],[],_,h,_=>by simp [Op.bytesLess] at h
 | _ :: _,[],_,h,_=>by simp [Op.bytesLess] at h
 | _,_ :: _,[],_,h=>by simp [Op.bytesLess] at h
 | [],_ :: _,_ :: _,_,_=>by simp [Op.bytesLess]
 | a :: x,b :: y,c :: z,h,h'=>by
  simp only [Op.bytesLess,Bool.or_eq_true,decide_eq_true_eq,Bool.and_eq_true,beq_iff_eq] at h h' ⊢
  rcases h with h | ⟨rfl,h⟩
  ·rcases h' with h' | ⟨rfl,h'⟩
   ·exact .inl (UInt8.lt_trans h h')
   ·exact .inl h
  ·rcases h' with h' | ⟨rfl,h'⟩
   ·exact .inl h'
   ·exact .inr ⟨rfl,Zdw h h'⟩
def Zfc (gs:List DGrant):List (Str × Int):=gs.map fun g=>(g.user,g.rights)
theorem Zhu :∀(xs:List DGrant) (b0 b:Str),xs.foldl (fun s x=>(s.1 && Zcv s.2 x,x.user)) (true,b0)=(true,b)→(∀y,y∈xs→y.user=b∨Op.bytesLess y.user b=true)∧(b=b0∨Op.bytesLess b0 b=true)
 | [],b0,b,h=>by
  cases h;exact ⟨by simp,.inl rfl⟩
 | x :: xs,b0,b,h=>by
  simp only [List.foldl_cons,Bool.true_and] at h
  cases hp:Zcv b0 x with
  | false=>
   rw [hp] at h
   have:=Zcb (p:=Zcv) (nx:=fun _ g=>g.user) xs x.user
   rw [h] at this;cases this
  | true=>
   rw [hp] at h
   obtain ⟨h1,h2⟩:=Zhu xs x.user b h
   have hl:Op.bytesLess b0 x.user=true:=by
    simp only [Zcv,Bool.and_eq_true] at hp;exact hp.2
   refine ⟨fun y hy=>?_,.inr ?_⟩
   ·rcases List.mem_cons.1 hy with rfl | hy
    ·rcases h2 with h2 | h2
     ·exact .inl h2.symm
     ·exact .inr h2
    ·exact h1 y hy
   ·rcases h2 with rfl | h2
    ·exact hl
    ·exact Zdw hl h2
theorem ZsQ {kvs:List (Str × Int)} {k:Str} {v:Int} (h:k ∉ kvs.map (·.1)):mput kvs k v=kvs ++ [(k,v)]:=by
 induction kvs with
 | nil=>rfl
 | cons p r ih=>
  simp only [List.map_cons,List.mem_cons,not_or] at h
  simp only [mput,if_neg h.1,ih h.2,List.cons_append]
theorem ZuY {gs:List DGrant} {k:Nat} {m:DGrant} {nm:Str} (hm:gs[k]? = some m) (hs:Zdf (gs.take k)=(true,nm)) (hl:Op.bytesLess nm m.user=true):mput (Zfc (gs.take k)) m.user m.rights=Zfc (gs.take (k+1)):=by
 have h1:=(Zhu _ _ _ hs).1
 rw [ZsQ]
 ·rw [Zfc,Zfc,List.take_add_one,hm];simp
 ·intro hc
  simp only [Zfc,List.map_map,List.mem_map,Function.comp] at hc
  obtain ⟨y,hy,e⟩:=hc
  rcases h1 y hy with h | h
  ·rw [← e,h,Zc4] at hl;cases hl
  ·rw [e] at h
   have:=Zdw hl h
   rw [Zc4] at this;cases this
def ZnS (gs:List DGrant) (B:Kn):Value→Kn→List Cells→Prop:=fun v B' Ls=>∃m l,v = .tuple #[.map m,.bool (ZbQ gs)]∧Ls=[l]∧B'=B∧(ZbQ gs=true→∃b,m=some b∧ZvL l b (Zfc gs))
theorem Zjk {P:PJ} {S:Env} {B:Kn} {L:List Cells} {rs:List ResultVar} {gs:List DGrant} (e:Exit) (he:e = .ret∨e = .normal) (vs:List Value) (hr:Zc8 P S B L rs vs) (h:ZbQ gs=false) (hv:ZdD vs = .tuple #[.map none,.bool false]:=by rfl):ZfC P rs (ZnS gs B) e S [] B L:=
 Zvp e he vs hr ⟨none,[],by rw [hv,h],rfl,rfl,fun hc=>by rw [h] at hc;cases hc⟩
theorem Zvo {P:PJ} {S:Env} {B:Kn} {L:List Cells} {rs:List ResultVar} {gs:List DGrant} (e:Exit) (he:e = .ret∨e = .normal) (vs:List Value) {b:Nat} {l:Cells} {r:List Cells} (hp:Za0 L [0]=some ([l],r)) (hr:Zc8 P S B L rs vs) (h:ZbQ gs=true) (hm:ZvL l b (Zfc gs)) (hv:ZdD vs = .tuple #[.map (some b),.bool true]:=by rfl):ZfC P rs (ZnS gs B) e S [] B L:=
 Zav e he vs [0] hp hr ⟨some b,l,by rw [hv,h],rfl,rfl,fun _=>⟨b,rfl,hm⟩⟩
def Zw6 (f:DFolder) (ow nm:Str):Int:=if Lib.compareBytes f.owner ow≠0 then Lib.compareBytes f.owner ow else Lib.compareBytes f.name nm
theorem Zmw (f g:DFolder):0≤Zw6 f g.owner g.name↔Zb0 f g=false:=by
 have h1:=ZnL f.owner g.owner
 have h2:=ZnL f.name g.name
 unfold Zw6 Zb0
 by_cases e:f.owner=g.owner
 ·have e0:=h1.2.2 e
  have e1:Op.bytesLess f.owner g.owner=false:=by rw [e];exact Zc4 _
  rw [if_neg (fun h=>h e0),e1,decide_eq_true e,Bool.true_and,Bool.false_or,Bool.eq_false_iff,ne_eq,← h2.1];omega
 ·have e0:Lib.compareBytes f.owner g.owner≠0:=fun h=>e (h1.2.1 h)
  rw [if_pos e0,decide_eq_false e,Bool.false_and,Bool.or_false,Bool.eq_false_iff,ne_eq,← h1.1];omega
def Zfz (fs:List DFolder) (u:Str):Int:=(fs.map fun f=>if f.owner=u then Zeg ⟨f.next,f.mail⟩ else 0).sum
theorem ZjS {fs:List DFolder} {u:Str} {k:Nat} {x:DFolder} (hx:fs[k]? = some x):Zfz (fs.take (k+1)) u=Zfz (fs.take k) u+if x.owner=u then Zeg ⟨x.next,x.mail⟩ else 0:=by
 have:fs.take (k+1)=fs.take k ++ [x]:=by rw [List.take_add_one,hx];rfl
 simp [Zfz,this]
theorem Zqh {fs:List DFolder} {u:Str} {k:Nat} {n:Int} (h:n=Zfz (fs.take k) u) (hk:fs.length≤k):n=Zfz fs u:=by rwa [List.take_of_length_le hk] at h
theorem Zom :∀(xs:List DMail) (b0 b:Int),xs.foldl (fun s x=>(s.1 && ZbP s.2 x,x.uid)) (true,b0)=(true,b)→∀y,y∈xs→ZbE y=true
 | [],_,_,_,_,h=>by cases h
 | x :: xs,b0,b,h,y,hy=>by
  simp only [List.foldl_cons,Bool.true_and] at h
  cases hp:ZbP b0 x with
  | false=>
   rw [hp] at h
   have:=Zcb (p:=ZbP) (nx:=fun _ m=>m.uid) xs x.uid
   rw [h] at this;cases this
  | true=>
   rw [hp] at h
   rcases List.mem_cons.1 hy with rfl | hy
   ·simp only [ZbP,Bool.and_eq_true] at hp;exact hp.1
   ·exact Zom xs x.uid b h y hy
theorem ZdK {b:DBox} (h:Zbf b=true):(∀y,y∈b.mail→ZbE y=true)∧b.mail.length≤10:=by
 simp only [Zbf,Bool.and_eq_true,decide_eq_true_eq] at h
 exact ⟨Zom b.mail 0 (Zcj b.mail).2 (Prod.ext h.1.1 rfl),h.2⟩
theorem ZfU :∀l:List DMail,(∀m,m∈l→ZbE m=true)→Zag l≤l.length*20
 | [],_=>by simp [Zag]
 | m :: l,h=>by
  have h1:=ZfU l fun y hy=>h y (List.mem_cons_of_mem _ hy)
  have h2:=h m (List.mem_cons_self ..)
  simp only [ZbE,Bool.and_eq_true,decide_eq_true_eq] at h2
  simp only [Zag,List.map_cons,List.sum_cons,List.length_cons] at *
  omega
theorem Zkt (b:DBox) : -1≤Zeg b∧Zeg b≤200:=by
 unfold Zeg
 split
 ·rename_i h
  obtain ⟨h1,h2⟩:=ZdK h
  have:=ZfU _ h1
  omega
 ·omega
theorem Zsq (fs:List DFolder) (u:Str) : -1*fs.length≤Zfz fs u∧Zfz fs u≤fs.length*200:=by
 induction fs with
 | nil=>simp [Zfz]
 | cons f fs ih=>
  have:=Zkt ⟨f.next,f.mail⟩
  simp only [Zfz,List.map_cons,List.sum_cons,List.length_cons] at *
  split <;> omega
def Zcl (x:DHost) (u:Str) (more:Int):Bool:=!(Za5 x.users u).2 || decide ((Za5 x.users u).1.quota<Zfz x.folders u+more)
def Zc3 (x:DHost) (w:DUser):Bool:=decide (0≤ZaB (inF w.name inbox) x.folders) && !Zcl x w.name 0
theorem Zlz {x:DHost} {w:DUser} (h:ZaB (inF w.name inbox) x.folders<0):Zc3 x w=false:=by rw [Zc3,decide_eq_false (by omega),Bool.false_and]
theorem Zly {x:DHost} {w:DUser} (h:Zcl x w.name 0=true):Zc3 x w=false:=by rw [Zc3,h];simp
theorem Zlx {x:DHost} {w:DUser} (h:0≤ZaB (inF w.name inbox) x.folders) (h':Zcl x w.name 0=false):Zc3 x w=true:=by rw [Zc3,h',decide_eq_true h];rfl
def Zig (x:DHost):Bool:=x.users.all (Zc3 x)
def ZvN:Rel Bool:=fun _ row x=>row=[.bool x]
def Za6 (us:List DUser) (f:DFolder):Bool:=(Za5 us f.owner).2 && Zah f.name && ZbQ f.grants && Zbf f.box
theorem ZhP (C i:Nat):(some (ptr (Addr.add ⟨C,0,none⟩ ((i:Int).toNat*1))):Option Value)=some (ptr ⟨C,i,none⟩):=by
 rw [Addr.add_off _ _ rfl];simp
def Zsf (x:DHost) (i:Nat):Value:=.bool (match x.folders[i]? with | some m=>Za6 x.users m | none=>false)
theorem Zn3 {x:DHost} {i:Nat} {m:DFolder} (h:x.folders[i]? = some m):Zsf x i = .bool (Za6 x.users m):=by simp [Zsf,h]
theorem Zqf {B:Kn} {x:DHost} {C:Nat} {T:TypeId} (hm :∀p,p∈[(C,Obj.cells ((List.range x.folders.length).map (Zsf x)).toArray T (0,0))]→B.mem p.1=some p.2) (hl:x.folders.length≤2000000):SlK B (some ⟨C,0,none⟩) (x.folders.map (Za6 x.users)).length 1 ZvN (x.folders.map (Za6 x.users)):=by
 refine ⟨fun i y hy=>⟨C,0,[.bool y],rfl,rfl,fun j u hu=>?_⟩,by simp,by simpa using hl⟩
 have hj:j=0:=by
  cases j with
  | zero=>rfl
  | succ j=>simp at hu
 subst hj
 simp only [List.getElem?_cons_zero,Option.some.injEq] at hu
 subst hu
 rw [List.getElem?_map] at hy
 obtain ⟨m,hm',rfl⟩:=Option.map_eq_some_iff.1 hy
 have hi:i<x.folders.length:=(List.getElem?_eq_some_iff.1 hm').1
 refine ⟨rfl,_,T,(0,0),.inl (hm _ (List.mem_singleton.2 rfl)),?_⟩
 simp only [Nat.mul_one,Nat.zero_add,Nat.add_zero,List.getElem?_toArray,List.getElem?_map,List.getElem?_range hi,Option.map_some,Zn3 hm']
theorem Zlg {us:List DUser} {fs:List DFolder} : (!decide (0≤ZaB (fun y=>decide (false=y)) (fs.map (Za6 us))))=fs.all (Za6 us):=by
 by_cases h :∀f,f∈fs→Za6 us f=true
 ·rw [List.all_eq_true.2 h,Zfd (fun y hy=>by
   obtain ⟨f,hf,rfl⟩:=List.mem_map.1 hy
   simp [h f hf])]
  rfl
 ·have h2:fs.all (Za6 us)=false:=by
   rw [Bool.eq_false_iff,ne_eq,List.all_eq_true];exact h
  rw [h2]
  have h3 :∃k,(fs.map (Za6 us)).findIdx? (fun y=>decide (false=y))=some k:=by
   cases hk:(fs.map (Za6 us)).findIdx? (fun y=>decide (false=y)) with
   | some k=>exact ⟨k,rfl⟩
   | none=>
    exfalso;apply h
    intro f hf
    have:=List.findIdx?_eq_none_iff.1 hk (Za6 us f) (List.mem_map_of_mem hf)
    cases hq:Za6 us f with
    | true=>rfl
    | false=>rw [hq] at this;simp at this
  obtain ⟨k,hk⟩:=h3
  have e:ZaB (fun y=>decide (false=y)) (fs.map (Za6 us))=(k:Int):=by unfold ZaB;rw [hk]
  rw [e];simp
def ZgJ:List DFolder→Bool
 | []=>true
 | [_]=>true
 | a :: b :: r=>Zb0 a b && ZgJ (b :: r)
def ZdI (x:DHost):Bool:=Zcn x.domain && Zap x.users && Zad x.queue && decide (x.folders.length≤8) && ZgJ x.folders && (x.folders.all (Za6 x.users) && Zig x && x.queue.items.all (Zdr x.users))
def ZtP (fs:List DFolder) (k:Nat):Prop:=∀i a b,i<k→fs[i]? = some a→fs[i+1]? = some b→Zb0 a b=true
theorem Zo5 {fs:List DFolder} : ZtP fs 0:=fun i a b h=>by omega
theorem Zo6 {fs:List DFolder} {k:Nat} {x y:DFolder} (h:ZtP fs k) (hx:fs[k]? = some x) (hy:fs[k+1]? = some y) (hl:Zb0 x y=true):ZtP fs (k+1):=fun i a b hi ha hb=>by
 rcases Nat.lt_or_ge i k with h' | h'
 ·exact h i a b h' ha hb
 ·obtain rfl:i=k:=by omega
  rw [hx] at ha;rw [hy] at hb
  cases ha;cases hb;exact hl
theorem ZhR :∀(fs:List DFolder),ZgJ fs=true↔∀i a b,fs[i]? = some a→fs[i+1]? = some b→Zb0 a b=true
 | []=>by simp [ZgJ]
 | [_]=>by simp [ZgJ]
 | x :: y :: r=>by
  rw [ZgJ,Bool.and_eq_true,ZhR (y :: r)]
  constructor
  ·rintro ⟨h1,h2⟩ i a b ha hb
   cases i with
   | zero=>simp at ha hb;rw [← ha,← hb];exact h1
   | succ i=>exact h2 i a b (by simpa using ha) (by simpa using hb)
  ·intro h
   exact ⟨h 0 x y rfl rfl,fun i a b ha hb=>h (i+1) a b (by simpa using ha) (by simpa using hb)⟩
theorem ZsN {fs:List DFolder} {k:Nat} {x y:DFolder} (hx:fs[k]? = some x) (hy:fs[k+1]? = some y) (hl:Zb0 x y=false):ZgJ fs=false:=by
 rw [Bool.eq_false_iff,ne_eq,ZhR]
 intro h
 have:=h k x y hx hy
 rw [hl] at this;cases this
theorem ZsM {fs:List DFolder} (h :∀i a b,i<fs.length - 1→fs[i]? = some a→fs[i+1]? = some b→Zb0 a b=true):ZgJ fs=true:=
 (ZhR fs).2 fun i a b ha hb=>h i a b (by have:=(List.getElem?_eq_some_iff.1 hb).1;omega) ha hb
theorem ZfX {α:Type} {p:Str→α→Bool} {f:α→Str} (hp :∀b x,p b x=true→Op.bytesLess b (f x)=true) :∀(xs:List α) (b0 b:Str),xs.foldl (fun s x=>(s.1 && p s.2 x,f x)) (true,b0)=(true,b)→(∀y,y∈xs→Op.bytesLess b0 (f y)=true)∧xs.Pairwise (fun x y=>Op.bytesLess (f x) (f y)=true)
 | [],_,_,_=>⟨by simp,.nil⟩
 | x :: xs,b0,b,h=>by
  simp only [List.foldl_cons,Bool.true_and] at h
  cases hq:p b0 x with
  | false=>
   rw [hq] at h
   have:=Zcb (p:=p) (nx:=fun _ g=>f g) xs (f x)
   rw [h] at this;cases this
  | true=>
   rw [hq] at h
   obtain ⟨h1,h2⟩:=ZfX hp xs (f x) b h
   refine ⟨fun y hy=>?_,.cons h1 h2⟩
   rcases List.mem_cons.1 hy with rfl | hy
   ·exact hp _ _ hq
   ·exact Zdw (hp _ _ hq) (h1 y hy)
theorem Zea {us:List DUser} (h:Zap us=true):us.Pairwise fun x y=>Op.bytesLess x.name y.name=true:=by
 simp only [Zap,Bool.and_eq_true] at h
 exact (ZfX (p:=ZdB) (f:=fun u=>u.name) (fun b x hq=>by simp only [ZdB,Bool.and_eq_true] at hq;exact hq.2) us [] (ZdV us).2 (Prod.ext h.1 rfl)).2
theorem Zbd {us:List DUser} {u:Str} : 0≤Zde us u↔∃x,x∈us∧x.name=u:=by
 unfold Zde
 cases h:us.findIdx? (fun x=>decide (x.name=u)) with
 | none=>
  have:=List.findIdx?_eq_none_iff.1 h
  simp only [decide_eq_false_iff_not] at this
  exact ⟨fun hc=>absurd hc (by simp only [];omega),fun ⟨x,hx,e⟩=>absurd e (this x hx)⟩
 | some i=>
  rw [List.findIdx?_eq_some_iff_getElem] at h
  obtain ⟨hi,h1,_⟩:=h
  exact ⟨fun _=>⟨us[i],List.getElem_mem hi,by simpa using h1⟩,fun _=>by simp only [];omega⟩
theorem Zrz {us:List DUser} {t:DUser→Bool} : (Zf6 t us).2=true↔∃x,x∈us∧t x=true:=by
 unfold Zf6
 cases h:us.find? t with
 | none=>simp only [Bool.false_eq_true,false_iff];rintro ⟨x,hx,e⟩;have:=List.find?_eq_none.1 h x hx;exact this e
 | some x=>simp only [true_iff];exact ⟨x,List.mem_of_find?_eq_some h,List.find?_some h⟩
theorem ZdW {us:List DUser} (h:Zap us=true) (n:Str):(Za5 us n).2=decide (0≤Zde us n):=by
 rw [Za5,if_pos h,Bool.eq_iff_iff,Zrz,decide_eq_true_eq,Zbd];simp
theorem Zf5 :∀{us:List DUser},us.Pairwise (fun x y=>Op.bytesLess x.name y.name=true)→∀w,w∈us→us.find? (fun y=>decide (y.name=w.name))=some w
 | [],_,w,h=>by cases h
 | x :: us,hp,w,h=>by
  cases hp with
  | cons h1 h2=>
   rw [List.find?_cons]
   rcases List.mem_cons.1 h with rfl | h
   ·simp
   ·have hne:x.name≠w.name:=fun e=>by
     have:=h1 w h
     rw [e,Zc4] at this;cases this
    simp only [hne,decide_false]
    exact Zf5 h2 w h
theorem Zgi {us:List DUser} (h:Zap us=true) {w:DUser} (hw:w∈us):Za5 us w.name=(w,true):=by
 rw [Za5,if_pos h,Zf6,Zf5 (Zea h) w hw]
theorem ZpF {us:List DUser} (h:Zap us=true) (f:DFolder):Za6 us f=Z5 us f:=by
 rw [Za6,Z5,ZdW h]
theorem ZeT {us:List DUser} :∀(fs:List DFolder) (b0:Option DFolder),(fs.foldl (fun s x=>(s.1 && ZbV us s.2 x,some x)) (true,b0)).1=(fs.all (Z5 us) && ZgJ ((match b0 with | none=>[] | some y=>[y]) ++ fs))
 | [],none=>rfl
 | [],some y=>rfl
 | x :: fs,b0=>by
  simp only [List.foldl_cons,Bool.true_and]
  have hstep:(fs.foldl (fun (s:Bool × Option DFolder) x=>(s.1 && ZbV us s.2 x,some x)) (ZbV us b0 x,some x)).1=(ZbV us b0 x && (fs.all (Z5 us) && ZgJ (x :: fs))):=by
   cases hq:ZbV us b0 x with
   | false=>rw [Bool.false_and];exact Zcb (p:=ZbV us) (nx:=fun _ f=>some f) fs (some x)
   | true=>rw [Bool.true_and];exact ZeT fs (some x)
  rw [hstep]
  cases b0 with
  | none=>
   simp only [ZbV,Bool.and_true,List.all_cons,List.nil_append]
   cases Z5 us x <;> simp
  | some y=>
   simp only [ZbV,List.all_cons,List.cons_append,List.nil_append,ZgJ]
   cases Z5 us x <;> cases Zb0 y x <;> simp
theorem ZcI {us:List DUser} {fs:List DFolder} : Zcf us fs=(fs.all (Z5 us) && ZgJ fs && decide (fs.length≤8)):=by
 rw [Zcf,show (Zdx us fs).1=_ from ZeT fs none];rfl
theorem ZkA {us:List DUser} {u:Str} :∀{fs:List DFolder},fs.all (Z5 us)=true→Zfz fs u=(Za9 fs u:Int)
 | [],_=>rfl
 | f :: fs,h=>by
  simp only [List.all_cons,Bool.and_eq_true] at h
  have ih:=ZkA (u:=u) h.2
  have hb:Zbf ⟨f.next,f.mail⟩=true:=by
   have:=h.1;simp only [Z5,Bool.and_eq_true] at this;exact this.2
  simp only [Zfz,Za9,List.map_cons,List.sum_cons] at ih ⊢
  rw [ih]
  by_cases he:f.owner=u
  ·simp [he,Zeg,hb]
  ·simp [he]
theorem ZmU {x:DHost} (hu:Zap x.users=true) (hf:x.folders.all (Z5 x.users)=true) {w:DUser} (hw:w∈x.users):Zc3 x w=ZaW x.folders w:=by
 rw [Zc3,ZaW,Zcl,Zgi hu hw,ZkA hf]
 simp only [Bool.not_true,Bool.false_or,Int.add_zero]
 congr 1
 rw [Bool.eq_iff_iff];simp
theorem Zno {us:List DUser} (h:Zap us=true) (y:DItem):Zdr us y=ZaI us y:=by
 rw [Zdr,ZaI,ZdW h,Zgv]
 simp only [ZdW h]
theorem Zr3 {α:Type} {p q:α→Bool} {xs:List α} (h :∀x,x∈xs→p x=q x):xs.all p=xs.all q:=by
 rw [Bool.eq_iff_iff,List.all_eq_true,List.all_eq_true]
 exact ⟨fun a x hx=>h x hx ▸ a x hx,fun a x hx=>(h x hx).symm ▸ a x hx⟩
theorem Zpv (x:DHost):ZdI x=Zw x:=by
 cases hu:Zap x.users with
 | false=>simp [ZdI,Zw,hu]
 | true=>
  have e1:x.folders.all (Za6 x.users)=x.folders.all (Z5 x.users):=Zr3 fun f _=>ZpF hu f
  have e2:x.queue.items.all (Zdr x.users)=x.queue.items.all (ZaI x.users):=Zr3 fun y _=>Zno hu y
  rw [ZdI,Zw,hu,e1,e2,ZcI]
  cases hf:x.folders.all (Z5 x.users) with
  | false=>simp
  | true=>
   have e3:Zig x=x.users.all (ZaW x.folders):=Zr3 fun w hw=>ZmU hu hf hw
   rw [e3]
   cases Zcn x.domain <;> cases Zad x.queue <;> cases ZgJ x.folders <;> cases decide (x.folders.length≤8) <;> simp
end Go.BL
namespace Go.BL
open Go
theorem Zd3 {x:DHost} (h:Zw x=true):Zap x.users=true:=by
 simp only [Zw,Bool.and_eq_true] at h;exact h.1.1.1.1.2
theorem ZjJ {x:DHost} (h:Zw x=true):x.folders.all (Z5 x.users)=true:=by
 simp only [Zw,Bool.and_eq_true,ZcI] at h;exact h.1.1.2.1.1
theorem ZiT {x:DHost} (h:Zw x=true) (n:Str):(Za5 x.users n).2=decide (0≤Zde x.users n):=ZdW (Zd3 h) n
theorem Zme {x:DHost} (h:Zw x=true) (u:Str):Zfz x.folders u=Za9 x.folders u:=ZkA (ZjJ h)
theorem Ztn {us:List DUser} {n:Str} (h:0≤Zde us n) {x:DUser} (hx:us[(Zde us n).toNat]? = some x):Zf6 (fun y=>decide (y.name=n)) us=(x,true):=by
 unfold Zde at h hx
 cases hf:us.findIdx? (fun x=>decide (x.name=n)) with
 | none=>rw [hf] at h;simp at h
 | some i=>
  rw [hf] at hx
  simp only [Int.toNat_natCast] at hx
  rw [List.findIdx?_eq_some_iff_getElem] at hf
  obtain ⟨hi,h1,h2⟩:=hf
  rw [List.getElem?_eq_getElem hi] at hx
  cases hx
  have:us.find? (fun y=>decide (y.name=n))=some us[i]:=by
   rw [List.find?_eq_some_iff_getElem]
   exact ⟨h1,i,hi,rfl,fun j hj=>by simpa using h2 j hj⟩
  rw [Zf6,this]
structure DSess where
 user:Str
 owner:Str
 name:Str
deriving DecidableEq
theorem Zq9 (us:List DUser) (n:Str):Zde us n<us.length∧Zde us n ≥ -1:=by
 unfold Zde
 cases hf:us.findIdx? (fun x=>decide (x.name=n)) with
 | none=>simp only [];omega
 | some i=>
  rw [List.findIdx?_eq_some_iff_getElem] at hf
  obtain ⟨hi,_⟩:=hf
  simp only [];omega
end Go.BL
namespace Go.BL
open Go
def ZkN (n:Str):DFolder:=⟨n,inbox,[],1,[]⟩
def ZqP (d:Str) (us:List DUser):DHost:=⟨d,us,us.map fun u=>ZkN u.name,⟨1,[]⟩⟩
def ZaO:DHost:=⟨[],[],[],⟨0,[]⟩⟩
def Zco (d:Str) (us:List DUser):DHost × Bool:=if Zcn d=true∧Zap us=true then (ZqP d us,true) else (ZaO,false)
theorem ZkF {α β:Type} {p:β→α→Bool} {nx:β→α→β} :∀(xs:List α) (b:β),(xs.foldl (fun (s:Bool × β) x=>(s.1 && p s.2 x,nx s.2 x)) (true,b)).1=true→∀x,x∈xs→∃b',p b' x=true
 | [],_,_,x,hx=>by cases hx
 | x :: xs,b,h,y,hy=>by
  simp only [List.foldl_cons,Bool.true_and] at h
  cases hq:p b x with
  | false=>
   rw [hq] at h
   have:=Zcb (p:=p) (nx:=nx) xs (nx b x)
   rw [this] at h;cases h
  | true=>
   rw [hq] at h
   rcases List.mem_cons.1 hy with rfl | hy
   ·exact ⟨b,hq⟩
   ·exact ZkF xs _ h y hy
theorem Zhi {us:List DUser} (h:Zap us=true) {u:DUser} (hu:u∈us):Zcz u=true:=by
 simp only [Zap,Bool.and_eq_true] at h
 obtain ⟨b,hb⟩:=ZkF (p:=ZdB) (nx:=fun _ u=>u.name) us [] h.1 u hu
 simp only [ZdB,Bool.and_eq_true] at hb;exact hb.1
theorem Zoh :∀{us:List DUser},us.Pairwise (fun x y=>Op.bytesLess x.name y.name=true)→ZgJ (us.map fun u=>ZkN u.name)=true
 | [],_=>rfl
 | [_],_=>rfl
 | a :: b :: r,h=>by
  cases h with
  | cons h1 h2=>
   have h3:=h1 b (List.mem_cons_self ..)
   show (Zb0 (ZkN a.name) (ZkN b.name) && ZgJ ((b :: r).map fun u=>ZkN u.name))=true
   rw [Zoh h2,Bool.and_true,Zb0]
   simp only [ZkN,h3,Bool.true_or]
theorem Zqi (us:List DUser) (n:Str):Za9 (us.map fun u=>ZkN u.name) n=0:=by
 induction us with
 | nil=>rfl
 | cons u us ih=>
  simp only [Za9,List.map_cons,List.sum_cons] at ih ⊢
  rw [ih]
  simp [ZkN,Zag]
theorem ZuO {us:List DUser} {u:DUser} (h:u∈us):0≤ZaB (inF u.name inbox) (us.map fun u=>ZkN u.name):=
 Zd2.2 ⟨ZkN u.name,List.mem_map.2 ⟨u,h,rfl⟩,by simp [inF,ZkN]⟩
theorem Znd (d:Str) (us:List DUser):Zw (ZqP d us)=(Zcn d && Zap us):=by
 cases hu:Zap us with
 | false=>simp [Zw,ZqP,hu]
 | true=>
  have h1:Zcf us (us.map fun u=>ZkN u.name)=true:=by
   rw [ZcI,Zoh (Zea hu)]
   have h2:(us.map fun u=>ZkN u.name).all (Z5 us)=true:=by
    rw [List.all_eq_true]
    intro f hf
    obtain ⟨u,hm,rfl⟩:=List.mem_map.1 hf
    have e1:Zah inbox=true:=by decide
    have e2:ZbQ []=true:=by decide
    have e3:Zbf ⟨1,[]⟩=true:=by decide
    simp only [Z5,ZkN,DFolder.box,e1,e2,e3,Bool.and_true]
    exact decide_eq_true (Zbd.2 ⟨u,hm,rfl⟩)
   have h3:us.length≤4:=by simp only [Zap,Bool.and_eq_true,decide_eq_true_eq] at hu;exact hu.2.2
   rw [h2];simp;omega
  have h4:us.all (ZaW (us.map fun u=>ZkN u.name))=true:=by
   rw [List.all_eq_true]
   intro u hm
   have:=Zhi hu hm
   simp only [Zcz,Bool.and_eq_true,decide_eq_true_eq] at this
   simp only [ZaW,Zqi,Bool.and_eq_true,decide_eq_true_eq]
   exact ⟨ZuO hm,by omega⟩
  have h5:Zad ⟨1,[]⟩=true:=by decide
  simp only [Zw,ZqP,hu,h1,h4,h5,List.all_nil,Bool.and_true]
theorem ZiV {d:Str} {us:List DUser} (h:Zw (ZqP d us)=true):Zco d us=(ZqP d us,true):=by
 rw [Znd,Bool.and_eq_true] at h;rw [Zco,if_pos h]
theorem Zpw {d:Str} {us:List DUser} (h:Zw (ZqP d us)=false):Zco d us=(ZaO,false):=by
 rw [Znd] at h;rw [Zco,if_neg (by rw [← Bool.and_eq_true,h];exact Bool.false_ne_true)]
def ZhT:DFolder:=⟨[],[],[],0,[]⟩
def ZH (x:DHost) (o n:Str):DFolder × Bool:=if Zw x=true then (match x.folders.find? (inF o n) with | some f=>(f,true) | none=>(ZhT,false)) else (ZhT,false)
theorem ZjK {x:DHost} {o n:Str} (h:Zw x=false):ZH x o n=(ZhT,false):=by simp [ZH,h]
theorem ZiX {x:DHost} {o n:Str} (h:ZaB (inF o n) x.folders<0):ZH x o n=(ZhT,false):=by
 have:x.folders.find? (inF o n)=none:=List.find?_eq_none.2 fun y hy hp=>by have:=Zd2.2 ⟨y,hy,hp⟩;omega
 rw [ZH,this];split <;> rfl
theorem ZiW {x:DHost} {o n:Str} (hx:Zw x=true) (h:0≤ZaB (inF o n) x.folders) {f:DFolder} (hf:x.folders[(ZaB (inF o n) x.folders).toNat]? = some f):ZH x o n=(f,true):=by
 unfold ZaB at h hf
 cases hq:x.folders.findIdx? (inF o n) with
 | none=>rw [hq] at h;simp at h
 | some i=>
  rw [hq] at hf
  simp only [Int.toNat_natCast] at hf
  rw [List.findIdx?_eq_some_iff_getElem] at hq
  obtain ⟨hi,h1,h2⟩:=hq
  rw [List.getElem?_eq_getElem hi] at hf
  cases hf
  have:x.folders.find? (inF o n)=some x.folders[i]:=by
   rw [List.find?_eq_some_iff_getElem]
   exact ⟨h1,i,hi,rfl,fun j hj=>by simpa using h2 j hj⟩
  rw [ZH,if_pos hx,this]
theorem ZcY {α:Type} (p:α→Bool) (xs:List α):ZaB p xs<xs.length∧ZaB p xs ≥ -1:=by
 unfold ZaB
 cases hf:xs.findIdx? p with
 | none=>simp only [];omega
 | some i=>
  rw [List.findIdx?_eq_some_iff_getElem] at hf
  obtain ⟨hi,_⟩:=hf
  simp only [];omega
end Go.BL
namespace Go.BL
open Go
end Go.BL
namespace Go.BL
open Go
def ZbA (k:Nat):Int:=([1,2,4,8,16,32]:List Int).getD k 0
theorem ZrZ {k:Nat} (h:k<6):(k=0∧ZbA k=1)∨(k=1∧ZbA k=2)∨(k=2∧ZbA k=4)∨(k=3∧ZbA k=8)∨(k=4∧ZbA k=16)∨(k=5∧ZbA k=32):=by
 have:k=0∨k=1∨k=2∨k=3∨k=4∨k=5:=by omega
 rcases this with rfl | rfl | rfl | rfl | rfl | rfl <;> simp [ZbA]
theorem Zld {k:Nat} (h:k<6):0<ZbA k∧ZbA k≤32:=by rcases ZrZ h with h | h | h | h | h | h <;> omega
theorem Zd8 {α:Type} {p:α→Bool} {xs:List α} {k:Nat} {x:α} (hx:xs[k]? = some x):(xs.take (k+1)).any p=((xs.take k).any p || p x):=by
 rw [Zat hx,List.any_append];simp
theorem Zr2 {α:Type} {p:α→Bool} {xs:List α} {k:Nat} {b:Bool} (h:b=(xs.take k).any p) (hk:xs.length≤k):b=xs.any p:=by rwa [List.take_of_length_le hk] at h
def onB (u:Str) (b:Int) (g:DGrant):Bool:=(decide (g.user=u) || decide (g.user=anyone)) && decide (Int.tmod (Int.tdiv g.rights b) 2=1)
def ZfI (gs:List DGrant) (u:Str):Nat→Int
 | 0=>0
 | k+1=>if gs.any (onB u (ZbA k))=true then ZfI gs u k+ZbA k else ZfI gs u k
theorem Zjv (gs:List DGrant) (u:Str) :∀k,k≤6→0≤ZfI gs u k∧ZfI gs u k≤100*k
 | 0,_=>by simp [ZfI]
 | k+1,h=>by
  have:=Zjv gs u k (by omega)
  have:=Zld (k:=k) (by omega)
  simp only [ZfI]
  split <;> omega
def ZbN (gs:List DGrant) (u:Str):Int:=ZfI gs u 6
def ZhB (f:DFolder) (u:Str) (r:Int):Bool:=decide (u=f.owner) || decide (Int.tmod (Int.tdiv (ZbN f.grants u) r) 2=1)
def Zgd (us:List DUser) (fs:List DFolder) (u:Str) (k:Int) (r:Int):Int:=
 if Zde us u<0∨k<0 then 1 else match fs[k.toNat]? with
  | none=>1
  | some f=>if ZhB f u 1=false then 1 else if ZhB f u r=false then 2 else 0
theorem Zlb {us:List DUser} {fs:List DFolder} {u:Str} {k r:Int} (h:Zde us u<0∨k<0):Zgd us fs u k r=1:=by rw [Zgd,if_pos h]
theorem ZrW {us:List DUser} {fs:List DFolder} {u:Str} {k r:Int} {f:DFolder} (h : ¬ (Zde us u<0∨k<0)) (hf:fs[k.toNat]? = some f):Zgd us fs u k r=if ZhB f u 1=false then 1 else if ZhB f u r=false then 2 else 0:=by
 rw [Zgd,if_neg h,hf]
theorem ZrV (us:List DUser) (fs:List DFolder) (u:Str) (k r:Int):Zgd us fs u k r=0∨Zgd us fs u k r=1∨Zgd us fs u k r=2:=by
 unfold Zgd
 split
 ·simp
 ·split
  ·simp
  ·split
   ·simp
   ·split <;> simp
theorem Zdg {us:List DUser} {fs:List DFolder} {u:Str} {k r:Int} (h:Zgd us fs u k r=0):0≤Zde us u∧0≤k∧∃f,fs[k.toNat]? = some f∧ZhB f u 1=true∧ZhB f u r=true:=by
 unfold Zgd at h
 split at h
 ·cases h
 ·split at h
  ·cases h
  ·rename_i f hf
   split at h
   ·cases h
   ·split at h
    ·cases h
    ·rename_i h1 h2 h3
     exact ⟨by omega,by omega,f,hf,by simpa using h2,by simpa using h3⟩
def ZdQ (b:DBox) (fl:Int) (t:Str):DBox × Bool:=if 10≤b.mail.length∨99<b.next then (b,false) else (⟨b.next+1,b.mail ++ [⟨b.next,fl,t⟩]⟩,true)
theorem ZgF {b:DBox} {fl:Int} {t:Str} (h:10≤b.mail.length∨99<b.next):ZdQ b fl t=(b,false):=by rw [ZdQ,if_pos h]
theorem Zr7 {b:DBox} {fl:Int} {t:Str} (h : ¬ (10≤b.mail.length∨99<b.next)):ZdQ b fl t=(⟨b.next+1,b.mail ++ [⟨b.next,fl,t⟩]⟩,true):=by rw [ZdQ,if_neg h]
def DFolder.withBox (f:DFolder) (b:DBox):DFolder:=⟨f.owner,f.name,f.grants,b.next,b.mail⟩
def DHost.withFolders (x:DHost) (fs:List DFolder):DHost:=⟨x.domain,x.users,fs,x.queue⟩
def DHost.withQueue (x:DHost) (q:DQueue):DHost:=⟨x.domain,x.users,x.folders,q⟩
def ZcQ (us:List DUser) (n:Str):Int:=match us[(Zde us n).toNat]? with | some w=>w.quota | none=>0
def ZaZ (x:DHost) (k:Nat) (fl:Int) (t:Str):DHost × Int:=
 match x.folders[k]? with
 | none=>(x,0)
 | some f=>if ZcQ x.users f.owner<(Za9 x.folders f.owner:Int)+t.length then (x,3)
  else if (ZdQ f.box fl t).2=true then (x.withFolders (x.folders.set k (f.withBox (ZdQ f.box fl t).1)),0) else (x,4)
theorem ZfZ {x:DHost} {k:Nat} {fl:Int} {t:Str} {f:DFolder} (hf:x.folders[k]? = some f) (h:ZcQ x.users f.owner<(Za9 x.folders f.owner:Int)+t.length):ZaZ x k fl t=(x,3):=by simp only [ZaZ,hf,if_pos h]
theorem ZgQ {x:DHost} {k:Nat} {fl:Int} {t:Str} {f:DFolder} (hf:x.folders[k]? = some f) (h : ¬ ZcQ x.users f.owner<(Za9 x.folders f.owner:Int)+t.length) (h2:(ZdQ f.box fl t).2=false):ZaZ x k fl t=(x,4):=by simp only [ZaZ,hf,if_neg h,h2];rfl
theorem ZgR {x:DHost} {k:Nat} {fl:Int} {t:Str} {f:DFolder} (hf:x.folders[k]? = some f) (h : ¬ ZcQ x.users f.owner<(Za9 x.folders f.owner:Int)+t.length) (h2:(ZdQ f.box fl t).2=true):ZaZ x k fl t=(x.withFolders (x.folders.set k (f.withBox (ZdQ f.box fl t).1)),0):=by simp only [ZaZ,hf,if_neg h,h2,if_true]
def Zae (n:Int):Bool:=decide (0≤n) && decide (n≤31)
def ZcL (x:DHost) (by_ o n:Str) (fl:Int) (t:Str):DHost × Int:=
 if ¬ (Zw x=true∧Zae fl=true∧t.length≤20) then (ZaO,5)
 else if Zgd x.users x.folders by_ (ZaB (inF o n) x.folders) 8≠0 then (x,Zgd x.users x.folders by_ (ZaB (inF o n) x.folders) 8)
 else ZaZ x (ZaB (inF o n) x.folders).toNat fl t
def Ze8 (o n:Str):DFolder:=⟨o,n,[],1,[]⟩
def ZgX (fs:List DFolder) (f:DFolder):Nat:=(fs.takeWhile fun y=>Zb0 y f).length
def ZhE (fs:List DFolder) (f:DFolder):List DFolder:=fs.take (ZgX fs f) ++ [f] ++ fs.drop (ZgX fs f)
def Zbo (x:DHost) (u n:Str):DHost × Int:=
 if ¬ (Zw x=true∧Zah n=true) then (ZaO,5)
 else if Zde x.users u<0 then (x,1)
 else if 0≤ZaB (inF u n) x.folders∨8≤x.folders.length then (x,4)
 else (x.withFolders (ZhE x.folders (Ze8 u n)),0)
def Zfm (u:Str) (r:Int) (s:Bool × List DGrant) (g:DGrant):Bool × List DGrant:=
 let s1:Bool × List DGrant:=if s.1=false∧Op.bytesLess g.user u=false then (true,s.2 ++ [⟨u,r⟩]) else s
 if g.user≠u then (s1.1,s1.2 ++ [g]) else s1
def ZeQ (u:Str) (r:Int) (gs:List DGrant):Bool × List DGrant:=gs.foldl (Zfm u r) (decide (r=0),[])
theorem Zcw {u:Str} {r:Int} {gs:List DGrant} {k:Nat} {x:DGrant} (hx:gs[k]? = some x):ZeQ u r (gs.take (k+1))=Zfm u r (ZeQ u r (gs.take k)) x:=by
 rw [Zat hx,ZeQ,List.foldl_append];rfl
def ZgG (gs:List DGrant) (u:Str) (r:Int):List DGrant:=if (ZeQ u r gs).1=true then (ZeQ u r gs).2 else (ZeQ u r gs).2 ++ [⟨u,r⟩]
def ZdY (r:Int):Bool:=decide (0≤r) && decide (r≤63)
def Zb6 (gs:List DGrant) (u:Str) (r:Int):List DGrant × Bool:=
 if ¬ (ZbQ gs=true∧Zah u=true∧ZdY r=true) then ([],false)
 else if ZbQ (ZgG gs u r)=true then (ZgG gs u r,true) else (gs,false)
def DFolder.withGrants (f:DFolder) (gs:List DGrant):DFolder:=⟨f.owner,f.name,gs,f.next,f.mail⟩
def Zff (x:DHost) (k:Nat) (u:Str) (r:Int):DHost × Int:=
 match x.folders[k]? with
 | none=>(x,0)
 | some f=>if (Zb6 f.grants u r).2=true then (x.withFolders (x.folders.set k (f.withGrants (Zb6 f.grants u r).1)),0) else (x,4)
def Zb4 (x:DHost) (by_ o n u:Str) (r:Int):DHost × Int:=
 if ¬ (Zw x=true∧ZdY r=true) then (ZaO,5)
 else if Zgd x.users x.folders by_ (ZaB (inF o n) x.folders) 32≠0 then (x,Zgd x.users x.folders by_ (ZaB (inF o n) x.folders) 32)
 else if u≠anyone∧Zde x.users u<0 then (x,1)
 else Zff x (ZaB (inF o n) x.folders).toNat u r
def Zbt (x:DHost) (l:DLetter):DHost × Int:=
 if ¬ (Zw x=true∧ZaS l=true) then (ZaO,5)
 else if Zde x.users l.fr<0∨Zgv x.users l.to_=false then (x,1)
 else if (Zh5 x.queue l).2=true then (x.withQueue (Zh5 x.queue l).1,0) else (x,4)
def ZaY (x:DHost) (id:Int) (u:Str):DHost × Int:=
 if Zw x=false then (ZaO,5)
 else if (Zca x.queue id u).2.2=false then (x,1)
 else if (ZaZ x (ZaB (inF u inbox) x.folders).toNat 0 (Zca x.queue id u).2.1).2≠4 then
  ((ZaZ x (ZaB (inF u inbox) x.folders).toNat 0 (Zca x.queue id u).2.1).1.withQueue (Zca x.queue id u).1,(ZaZ x (ZaB (inF u inbox) x.folders).toNat 0 (Zca x.queue id u).2.1).2)
 else ZaZ x (ZaB (inF u inbox) x.folders).toNat 0 (Zca x.queue id u).2.1
def ZlJ (s:DSpan):Bool:=(decide (0≤s.low) && decide (s.low≤99)) && (decide (0≤s.high) && decide (s.high≤99))
def Zir (s:List DSpan):Bool:=s.all ZlJ && (decide (1≤s.length) && decide (s.length≤6))
def Zeb (last n:Int) (s:DSpan):Bool:=decide (min (if s.low=0 then last else s.low) (if s.high=0 then last else s.high)≤n) && decide (n≤max (if s.low=0 then last else s.low) (if s.high=0 then last else s.high))
def Zgq (s:List DSpan) (last n:Int):Bool:=s.any (Zeb last n)
def Zdc (s:List DSpan) (last:Int):Nat→List Int
 | 0=>[]
 | n+1=>if Zgq s last (n+1:Nat)=true then Zdc s last n ++ [((n+1:Nat):Int)] else Zdc s last n
def ZaF (s:List DSpan) (last:Int):List Int:=if Zir s=true then Zdc s (min last 99) (min last 99).toNat else []
def Zku (n:Int) (k:Nat):Int:=Int.tmod (Int.tdiv n (ZbA k)) 2
def Zfj (fl how ot:Int) (k:Nat):Bool:=(decide (how=1) && decide (0<Zku fl k+Zku ot k)) || (decide (how = -1) && decide (Zku fl k=1) && decide (Zku ot k=0)) || (decide (how=0) && decide (Zku ot k=1))
def Zjs (fl how ot:Int):Nat→Int
 | 0=>0
 | k+1=>if Zfj fl how ot k=true then Zjs fl how ot k+ZbA k else Zjs fl how ot k
theorem ZoG (fl how ot:Int) :∀k,k≤5→0≤Zjs fl how ot k∧Zjs fl how ot k≤100*k
 | 0,_=>by simp [Zjs]
 | k+1,h=>by
  have:=ZoG fl how ot k (by omega)
  have:=Zld (k:=k) (by omega)
  simp only [Zjs]
  split <;> omega
def chg (fl how ot:Int):Int:=Zjs fl how ot 5
theorem Zue (fl how ot:Int):0≤chg fl how ot∧chg fl how ot≤31:=by
 unfold chg
 simp only [Zjs,show ZbA 0=1 from rfl,show ZbA 1=2 from rfl,show ZbA 2=4 from rfl,show ZbA 3=8 from rfl,show ZbA 4=16 from rfl]
 split <;> split <;> split <;> split <;> split <;> omega
def ZqN (n:Nat) (b x:Int):Bool:=(decide (1≤x) && decide (x≤n)) && decide (b<x)
def Zd1 (n:Nat) (xs:List Int):Bool × Int:=scn (ZqN n) (fun _ x=>x) 0 xs
def Zen (n:Nat) (xs:List Int):Bool:=(Zd1 n xs).1
def Zg2 (ms:List DMail) (how fl:Int) (acc:List DMail) (n:Int):List DMail:=
 match acc[(n - 1).toNat]?,ms[(n - 1).toNat]? with
 | some a,some m=>acc.set (n - 1).toNat ⟨a.uid,chg m.flags how fl,a.text⟩
 | _,_=>acc
def Zef (ms:List DMail) (how fl:Int) (ns:List Int):List DMail:=ns.foldl (Zg2 ms how fl) ms
def ZkY (how:Int):Bool:=decide (-1≤how) && decide (how≤1)
def Zbn (b:DBox) (ns:List Int) (how fl:Int):DBox × Bool:=
 if Zbf b=true∧Zen b.mail.length ns=true∧ZkY how=true∧Zae fl=true then (⟨b.next,Zef b.mail how fl ns⟩,true) else (⟨0,[]⟩,false)
def ZpY (m:DMail):Bool:=decide (Int.tmod (Int.tdiv m.flags 8) 2=1)
def ZcE (ms:List DMail):List DMail:=ms.filter fun m=>!ZpY m
def Zds (s:Nat × List Int) (m:DMail):Nat × List Int:=if ZpY m=true then (s.1,s.2 ++ [((s.1+1:Nat):Int)]) else (s.1+1,s.2)
def Zk1 (ms:List DMail):Nat × List Int:=ms.foldl Zds (0,[])
def expunge (b:DBox):DBox × List Int:=if Zbf b=true then (⟨b.next,ZcE b.mail⟩,(Zk1 b.mail).2) else (⟨0,[]⟩,[])
def atF (x:DHost) (s:DSess) (r:Int):Int × Int:=
 if Zgd x.users x.folders s.user (ZaB (inF s.owner s.name) x.folders) 2≠0 then (ZaB (inF s.owner s.name) x.folders,Zgd x.users x.folders s.user (ZaB (inF s.owner s.name) x.folders) 2)
 else (ZaB (inF s.owner s.name) x.folders,Zgd x.users x.folders s.user (ZaB (inF s.owner s.name) x.folders) r)
def ZhG (x:DHost) (k:Nat):DBox:=match x.folders[k]? with | some f=>f.box | none=>⟨0,[]⟩
def ZjY (x:DHost) (k:Nat) (b:DBox):DHost:=match x.folders[k]? with | some f=>x.withFolders (x.folders.set k (f.withBox b)) | none=>x
def Zcd (x:DHost) (s:DSess) (set:List DSpan) (how fl:Int):DHost × Int:=
 if ¬ (Zw x=true∧Zir set=true∧Zae fl=true∧ZkY how=true) then (ZaO,5)
 else if (atF x s 4).2≠0 then (x,(atF x s 4).2)
 else (ZjY x (atF x s 4).1.toNat (Zbn (ZhG x (atF x s 4).1.toNat) (ZaF set (ZhG x (atF x s 4).1.toNat).mail.length) how fl).1,0)
def ZaT (x:DHost) (s:DSess):DHost × List Int × Int:=
 if Zw x=false then (ZaO,[],5)
 else if (atF x s 16).2≠0 then (x,[],(atF x s 16).2)
 else (ZjY x (atF x s 16).1.toNat (expunge (ZhG x (atF x s 16).1.toNat)).1,(expunge (ZhG x (atF x s 16).1.toNat)).2,0)
def ZbO (to:Nat) (s:DHost × Int) (m:DMail):DHost × Int:=if s.2=0 then ZaZ s.1 to m.flags m.text else s
def Zjp (x:DHost) (ms:List DMail) (to:Nat):DHost × Int:=ms.foldl (ZbO to) (x,0)
def Zdl (ms:List DMail) (n:Int):DMail:=match ms[(n - 1).toNat]? with | some m=>m | none=>⟨0,0,[]⟩
def ZeK (x:DHost) (s:DSess) (set:List DSpan) (o n:Str):DHost × Int:=
 if ¬ (Zw x=true∧Zir set=true) then (ZaO,5)
 else if (atF x s 2).2≠0 then (x,(atF x s 2).2)
 else if Zgd x.users x.folders s.user (ZaB (inF o n) x.folders) 8≠0 then (x,Zgd x.users x.folders s.user (ZaB (inF o n) x.folders) 8)
 else
  let ms:=(ZaF set (ZhG x (atF x s 2).1.toNat).mail.length).map (Zdl (ZhG x (atF x s 2).1.toNat).mail)
  if (Zjp x ms (ZaB (inF o n) x.folders).toNat).2=0 then Zjp x ms (ZaB (inF o n) x.folders).toNat else (x,(Zjp x ms (ZaB (inF o n) x.folders).toNat).2)
structure DEvent where
 kind:Int
 by_:Str
 owner:Str
 name:Str
 to_:Str
 text:Str
 a:Int
 b:Int
deriving DecidableEq
def ZhX (x:DHost) (e:DEvent):DHost × Int:=
 if e.kind=1 then Zbo x e.by_ e.name
 else if e.kind=2 then Zb4 x e.by_ e.owner e.name e.to_ e.a
 else if e.kind=3 then ZcL x e.by_ e.owner e.name e.a e.text
 else if e.kind=4 then Zbt x ⟨e.by_,[e.to_],e.text⟩
 else if e.kind=5 then ZaY x e.a e.to_
 else if e.kind=6 then Zcd x ⟨e.by_,e.owner,e.name⟩ [⟨e.a,e.a⟩] 1 e.b
 else if e.kind=7 then ((ZaT x ⟨e.by_,e.owner,e.name⟩).1,(ZaT x ⟨e.by_,e.owner,e.name⟩).2.2)
 else if e.kind=8 then ZeK x ⟨e.by_,e.owner,e.name⟩ [⟨e.a,e.a⟩] e.to_ inbox
 else (ZaO,5)
def hDo (x:DHost) (e:DEvent):DHost × Int:=if Zw x=false then (ZaO,5) else if (ZhX x e).2=5 then (x,5) else ZhX x e
end Go.BL
namespace Go.BL
open Go
theorem ZaM {x:DHost} : Zw x=true↔(Zcn x.domain=true∧Zap x.users=true∧Zad x.queue=true)∧((∀f,f∈x.folders→Z5 x.users f=true)∧ZgJ x.folders=true∧x.folders.length≤8)∧(∀u,u∈x.users→ZaW x.folders u=true)∧(∀y,y∈x.queue.items→ZaI x.users y=true):=by
 simp only [Zw,ZcI,Bool.and_eq_true,decide_eq_true_eq,List.all_eq_true]
 constructor
 ·rintro ⟨⟨⟨⟨⟨h1,h2⟩,h3⟩,⟨h4,h5⟩,h6⟩,h7⟩,h8⟩
  exact ⟨⟨h1,h2,h3⟩,⟨h4,h5,h6⟩,h7,h8⟩
 ·rintro ⟨⟨h1,h2,h3⟩,⟨h4,h5,h6⟩,h7,h8⟩
  exact ⟨⟨⟨⟨⟨h1,h2⟩,h3⟩,⟨h4,h5⟩,h6⟩,h7⟩,h8⟩
theorem Zi2 {α:Type} {fs:List α} {k i:Nat} {y g:α} (h:(fs.set k y)[i]? = some g):(i=k∧g=y∧k<fs.length)∨(i≠k∧fs[i]? = some g):=by
 have hi:=(List.getElem?_eq_some_iff.1 h).1
 rw [List.length_set] at hi
 rw [List.getElem?_set] at h
 split at h
 ·rename_i e
  subst e
  simp [hi] at h
  exact .inl ⟨rfl,h.symm,hi⟩
 ·rename_i e
  exact .inr ⟨fun e'=>e e'.symm,h⟩
theorem ZlA :∀{fs:List DFolder} {k:Nat} {f:DFolder} (f':DFolder) (u:Str),fs[k]? = some f→Za9 (fs.set k f') u+(if f.owner=u then Zag f.mail else 0)=Za9 fs u+(if f'.owner=u then Zag f'.mail else 0)
 | [],_,_,_,_,h=>by simp at h
 | g :: fs,0,f,f',u,h=>by
  simp only [List.getElem?_cons_zero,Option.some.injEq] at h
  subst h
  simp only [List.set_cons_zero,Za9,List.map_cons,List.sum_cons]
  omega
 | g :: fs,k+1,f,f',u,h=>by
  have:=ZlA (fs:=fs) (k:=k) f' u (by simpa using h)
  simp only [Za9] at this
  simp only [List.set_cons_succ,Za9,List.map_cons,List.sum_cons]
  omega
theorem Zl2 {a b a' b':DFolder} (h1:a.owner=a'.owner) (h2:a.name=a'.name) (h3:b.owner=b'.owner) (h4:b.name=b'.name):Zb0 a b=Zb0 a' b':=by simp only [Zb0,h1,h2,h3,h4]
theorem ZsL {fs:List DFolder} {k:Nat} {f f':DFolder} (h:ZgJ fs=true) (hf:fs[k]? = some f) (ho:f'.owner=f.owner) (hn:f'.name=f.name):ZgJ (fs.set k f')=true:=by
 rw [ZhR] at h ⊢
 intro i a b ha hb
 rcases Zi2 ha with ⟨e1,e2,_⟩ | ⟨hi,ha'⟩
 ·rcases Zi2 hb with ⟨e,_,_⟩ | ⟨_,hb'⟩
  ·omega
  ·rw [e2,Zl2 ho hn rfl rfl];exact h i _ _ (by rw [e1];exact hf) hb'
 ·rcases Zi2 hb with ⟨e,e2,_⟩ | ⟨_,hb'⟩
  ·rw [e2,Zl2 rfl rfl ho hn];exact h i _ _ ha' (by rw [e];exact hf)
  ·exact h _ _ _ ha' hb'
theorem Zu3 {fs:List DFolder} {k:Nat} {f f':DFolder} {o n:Str} (hf:fs[k]? = some f) (ho:f'.owner=f.owner) (hn:f'.name=f.name) (h:0≤ZaB (inF o n) fs):0≤ZaB (inF o n) (fs.set k f'):=by
 rw [Zd2] at h ⊢
 obtain ⟨y,hy,hp⟩:=h
 obtain ⟨i,hi⟩:=List.mem_iff_getElem?.1 hy
 by_cases e:i=k
 ·subst e
  rw [hf] at hi;cases hi
  refine ⟨f',List.mem_iff_getElem?.2 ⟨i,?_⟩,by simp only [inF,ho,hn] at hp ⊢;exact hp⟩
  have:=(List.getElem?_eq_some_iff.1 hf).1
  simp [List.getElem?_set,this]
 ·exact ⟨y,List.mem_iff_getElem?.2 ⟨i,by rw [List.getElem?_set,if_neg (fun e'=>e e'.symm)];exact hi⟩,hp⟩
theorem Zj1 {us:List DUser} (h:Zap us=true) {w:DUser} (hw:w∈us):ZcQ us w.name=w.quota:=by
 have h0:0≤Zde us w.name:=Zbd.2 ⟨w,hw,rfl⟩
 have h1:=Zq9 us w.name
 obtain ⟨v,hv⟩ :∃v,us[(Zde us w.name).toNat]? = some v:=⟨_,List.getElem?_eq_getElem (by omega)⟩
 have h2:=Ztn h0 hv
 rw [Zf6,Zf5 (Zea h) w hw] at h2
 cases h2
 simp only [ZcQ,hv]
theorem ZhQ {us:List DUser} {f:DFolder} (h:Z5 us f=true) :∃w,w∈us∧w.name=f.owner:=by
 simp only [Z5,Bool.and_eq_true,decide_eq_true_eq] at h
 exact Zbd.1 h.1.1.1
theorem ZgY {x:DHost} {k:Nat} {f f':DFolder} (h:Zw x=true) (hf:x.folders[k]? = some f) (ho:f'.owner=f.owner) (hn:f'.name=f.name) (hi:Z5 x.users f'=true)
  (hq:(Za9 x.folders f.owner:Int)+Zag f'.mail≤ZcQ x.users f.owner+Zag f.mail∨Zag f'.mail≤Zag f.mail):Zw (x.withFolders (x.folders.set k f'))=true:=by
 rw [ZaM] at h ⊢
 obtain ⟨⟨h1,h2,h3⟩,⟨h4,h5,h6⟩,h7,h8⟩:=h
 refine ⟨⟨h1,h2,h3⟩,⟨?_,ZsL h5 hf ho hn,by simpa [DHost.withFolders] using h6⟩,?_,h8⟩
 ·intro g hg
  obtain ⟨i,hg⟩:=List.mem_iff_getElem?.1 hg
  rcases Zi2 hg with ⟨_,rfl,_⟩ | ⟨_,hg⟩
  ·exact hi
  ·exact h4 g (List.mem_of_getElem? hg)
 ·intro w hw
  have:=h7 w hw
  simp only [ZaW,Bool.and_eq_true,decide_eq_true_eq] at this ⊢
  refine ⟨Zu3 hf ho hn this.1,?_⟩
  have hu:=ZlA f' w.name hf
  simp only [DHost.withFolders]
  by_cases e:f.owner=w.name
  ·rw [if_pos e,if_pos (ho.trans e)] at hu
   rw [e,Zj1 h2 hw] at hq
   omega
  ·rw [if_neg e,if_neg (fun e'=>e (ho ▸ e'))] at hu
   omega
theorem Zoi :∀{fs:List DFolder} {f:DFolder},ZgJ fs=true→(∀g,g∈fs→¬ (g.owner=f.owner∧g.name=f.name))→ZgJ (ZhE fs f)=true
 | [],f,_,_=>rfl
 | a :: r,f,h,hk=>by
  cases hl:Zb0 a f with
  | true=>
   have e:ZhE (a :: r) f=a :: ZhE r f:=by simp [ZhE,ZgX,hl]
   have ih:=Zoi (fs:=r) (f:=f) (by cases r with | nil=>rfl | cons b r=>simp only [ZgJ,Bool.and_eq_true] at h;exact h.2) (fun g hg=>hk g (List.mem_cons_of_mem _ hg))
   rw [e]
   cases r with
   | nil=>simp [ZhE,ZgX,ZgJ,hl]
   | cons b r=>
    simp only [ZgJ,Bool.and_eq_true] at h
    cases hb:Zb0 b f with
    | true=>
     have e2:ZhE (b :: r) f=b :: ZhE r f:=by simp [ZhE,ZgX,hb]
     rw [e2] at ih ⊢
     simp only [ZgJ,h.1,Bool.true_and];exact ih
    | false=>
     have e2:ZhE (b :: r) f=f :: b :: r:=by simp [ZhE,ZgX,hb]
     rw [e2] at ih ⊢
     simp only [ZgJ,hl,Bool.true_and] at ih ⊢;exact ih
  | false=>
   have e:ZhE (a :: r) f=f :: a :: r:=by simp [ZhE,ZgX,hl]
   rw [e]
   have hne:=hk a (List.mem_cons_self ..)
   have:Zb0 f a=true:=by
    unfold Zb0 at hl ⊢
    rw [Zbs f.owner a.owner,Zbs f.name a.name]
    simp only [Bool.or_eq_false_iff,Bool.and_eq_false_iff,decide_eq_false_iff_not] at hl
    by_cases e:a.owner=f.owner
    ·have e2:a.name≠f.name:=fun e2=>hne ⟨e,e2⟩
     rcases hl.2 with h2 | h2
     ·exact absurd e h2
     ·simp [e,Zc4,h2,e2]
    ·simp [hl.1,e]
   simp only [ZgJ,this,Bool.true_and];exact h
theorem ZqY {fs:List DFolder} {f g:DFolder} : g∈ZhE fs f↔g∈fs∨g=f:=by
 have e:fs=fs.take (ZgX fs f) ++ fs.drop (ZgX fs f):=(List.take_append_drop _ _).symm
 constructor
 ·intro h
  simp only [ZhE,List.mem_append,List.mem_singleton] at h
  rcases h with (h | h) | h
  ·exact .inl (List.mem_of_mem_take h)
  ·exact .inr h
  ·exact .inl (List.mem_of_mem_drop h)
 ·intro h
  simp only [ZhE,List.mem_append,List.mem_singleton]
  rcases h with h | h
  ·rw [e,List.mem_append] at h
   rcases h with h | h
   ·exact .inl (.inl h)
   ·exact .inr h
  ·exact .inl (.inr h)
theorem Zij (as bs:List DFolder) (u:Str):Za9 (as ++ bs) u=Za9 as u+Za9 bs u:=by simp [Za9]
theorem Zqj (fs:List DFolder) (f:DFolder) (u:Str):Za9 (ZhE fs f) u=Za9 fs u+(if f.owner=u then Zag f.mail else 0):=by
 have e:Za9 fs u=Za9 (fs.take (ZgX fs f)) u+Za9 (fs.drop (ZgX fs f)) u:=by rw [← Zij,List.take_append_drop]
 rw [ZhE,Zij,Zij,e]
 simp only [Za9,List.map_cons,List.map_nil,List.sum_cons,List.sum_nil];omega
theorem Zu1 (fs:List DFolder) (f:DFolder):(ZhE fs f).length=fs.length+1:=by
 have:=congrArg List.length (List.take_append_drop (ZgX fs f) fs)
 simp only [List.length_append] at this
 simp only [ZhE,List.length_append,List.length_cons,List.length_nil];omega
theorem ZkZ {x:DHost} {u n:Str} (h:Zw x=true) (hn:Zah n=true) (hu : ¬ Zde x.users u<0) (hk : ¬ (0≤ZaB (inF u n) x.folders∨8≤x.folders.length)):Zw (x.withFolders (ZhE x.folders (Ze8 u n)))=true:=by
 rw [ZaM] at h ⊢
 obtain ⟨⟨h1,h2,h3⟩,⟨h4,h5,h6⟩,h7,h8⟩:=h
 refine ⟨⟨h1,h2,h3⟩,⟨?_,Zoi h5 ?_,by show (ZhE x.folders _).length≤8;rw [Zu1];omega⟩,?_,h8⟩
 ·intro g hg
  rcases ZqY.1 hg with hg | rfl
  ·exact h4 g hg
  ·have e2:ZbQ []=true:=by decide
   have e3:Zbf ⟨1,[]⟩=true:=by decide
   simp only [Z5,Ze8,DFolder.box,e2,e3,hn,Bool.and_true]
   exact decide_eq_true (by simp only [DHost.withFolders];omega)
 ·rintro g hg ⟨e1,e2⟩
  exact hk (.inl (Zd2.2 ⟨g,hg,by simp [inF,e1,e2,Ze8]⟩))
 ·intro w hw
  have:=h7 w hw
  simp only [ZaW,Bool.and_eq_true,decide_eq_true_eq] at this ⊢
  have e:Za9 (ZhE x.folders (Ze8 u n)) w.name=Za9 x.folders w.name:=by
   rw [Zqj];simp [Ze8,Zag]
  obtain ⟨g,hg,hp⟩:=Zd2.1 this.1
  refine ⟨Zd2.2 ⟨g,ZqY.2 (.inl hg),hp⟩,?_⟩
  show ((Za9 (ZhE x.folders (Ze8 u n)) w.name:Nat):Int)≤w.quota
  rw [e];exact this.2
theorem ZpE {x:DHost} {u n:Str} (h:Zw x=true):(Zbo x u n).2=5∨Zw (Zbo x u n).1=true:=by
 unfold Zbo
 split
 ·exact .inl rfl
 ·rename_i h1
  split
  ·exact .inr h
  ·rename_i h2
   split
   ·exact .inr h
   ·rename_i h3
    exact .inr (ZkZ h (by simp only [h,true_and,Decidable.not_not] at h1;exact h1) h2 h3)
theorem ZlZ {ms:List DMail} {b:Int} {m:DMail} (h:Zcj ms=(true,b)) (hm:ZbP b m=true):Zcj (ms ++ [m])=(true,m.uid):=by
 rw [Zcj,scn,List.foldl_append]
 have:ms.foldl (fun (s:Bool × Int) x=>(s.1 && ZbP s.2 x,x.uid)) (true,0)=(true,b):=h
 rw [this];simp [hm]
theorem Zfx {b:DBox} (h:Zbf b=true) :∃l,Zcj b.mail=(true,l)∧l+1≤b.next∧b.next≤100∧b.mail.length≤10:=by
 simp only [Zbf,Bool.and_eq_true,decide_eq_true_eq] at h
 exact ⟨(Zcj b.mail).2,Prod.ext h.1.1 rfl,h.1.2.1,h.1.2.2,h.2⟩
theorem ZkG :∀(xs:List DMail) (b0 b:Int),xs.foldl (fun (s:Bool × Int) x=>(s.1 && ZbP s.2 x,x.uid)) (true,b0)=(true,b)→b0≤b
 | [],b0,b,h=>by cases h;omega
 | x :: xs,b0,b,h=>by
  simp only [List.foldl_cons,Bool.true_and] at h
  cases hp:ZbP b0 x with
  | false=>
   rw [hp] at h
   have:=Zcb (p:=ZbP) (nx:=fun _ m=>m.uid) xs x.uid
   rw [h] at this;cases this
  | true=>
   rw [hp] at h
   have:=ZkG xs x.uid b h
   simp only [ZbP,Bool.and_eq_true,decide_eq_true_eq] at hp
   omega
theorem ZpT {b:DBox} {fl:Int} {t:Str} (h:Zbf b=true) (hf:Zae fl=true) (ht:t.length≤20) (h2:(ZdQ b fl t).2=true):Zbf (ZdQ b fl t).1=true∧Zag (ZdQ b fl t).1.mail=Zag b.mail+t.length:=by
 obtain ⟨l,hs,hl,hn,hk⟩:=Zfx h
 have h0:=ZkG b.mail 0 l hs
 unfold ZdQ at h2 ⊢
 split at h2
 ·cases h2
 ·rename_i hc
  rw [if_neg hc]
  simp only [Zae,Bool.and_eq_true,decide_eq_true_eq] at hf
  have hm:ZbP l ⟨b.next,fl,t⟩=true:=by
   simp only [ZbP,ZbE,Bool.and_eq_true,decide_eq_true_eq];omega
  refine ⟨?_,by simp [Zag]⟩
  rw [ZdL (ZlZ hs hm)]
  simp only [Bool.and_eq_true,decide_eq_true_eq,List.length_append,List.length_cons,List.length_nil]
  omega
theorem Zhv {us:List DUser} {f:DFolder} {b:DBox} (h:Z5 us f=true) (hb:Zbf b=true):Z5 us (f.withBox b)=true:=by
 simp only [Z5,Bool.and_eq_true,decide_eq_true_eq] at h ⊢
 exact ⟨⟨⟨h.1.1.1,h.1.1.2⟩,h.1.2⟩,hb⟩
theorem ZaK {x:DHost} {k:Nat} {f:DFolder} (h:Zw x=true) (hf:x.folders[k]? = some f):Z5 x.users f=true:=(ZaM.1 h).2.1.1 f (List.mem_of_getElem? hf)
theorem Zbu {us:List DUser} {f:DFolder} (h:Z5 us f=true):Zbf f.box=true:=by simp only [Z5,Bool.and_eq_true] at h;exact h.2
theorem ZhO {x:DHost} {k:Nat} {fl:Int} {t:Str} (h:Zw x=true) (hf:Zae fl=true) (ht:t.length≤20):Zw (ZaZ x k fl t).1=true:=by
 unfold ZaZ
 split
 ·exact h
 ·rename_i f hk
  split
  ·exact h
  ·rename_i hq
   split
   ·rename_i h2
    obtain ⟨h3,h4⟩:=ZpT (Zbu (ZaK h hk)) hf ht h2
    refine ZgY h hk rfl rfl (Zhv (ZaK h hk) h3) (.inl ?_)
    show (Za9 x.folders f.owner:Int)+Zag (ZdQ f.box fl t).1.mail≤ZcQ x.users f.owner+Zag f.mail
    rw [h4,show f.box.mail=f.mail from rfl];omega
   ·exact h
theorem ZR {x:DHost} {k:Nat} {fl:Int} {t:Str} : (ZaZ x k fl t).1.users=x.users∧(ZaZ x k fl t).1.queue=x.queue∧(ZaZ x k fl t).1.domain=x.domain∧(ZaZ x k fl t).1.folders.length=x.folders.length:=by
 unfold ZaZ
 split
 ·exact ⟨rfl,rfl,rfl,rfl⟩
 ·split
  ·exact ⟨rfl,rfl,rfl,rfl⟩
  ·split
   ·exact ⟨rfl,rfl,rfl,by simp [DHost.withFolders]⟩
   ·exact ⟨rfl,rfl,rfl,rfl⟩
theorem Zrm {x:DHost} {b o n:Str} {fl:Int} {t:Str} (h:Zw x=true):(ZcL x b o n fl t).2=5∨Zw (ZcL x b o n fl t).1=true:=by
 unfold ZcL
 split
 ·exact .inl rfl
 ·rename_i h1
  simp only [h,true_and,Decidable.not_not] at h1
  split
  ·exact .inr h
  ·exact .inr (ZhO h h1.1 h1.2)
theorem Zr8 {gs:List DGrant} {u:Str} {r:Int} (h:(Zb6 gs u r).2=true):ZbQ (Zb6 gs u r).1=true:=by
 unfold Zb6 at h ⊢
 split
 ·rename_i h1;rw [if_pos h1] at h;cases h
 ·rename_i h1
  rw [if_neg h1] at h
  split
  ·assumption
  ·rename_i h2;rw [if_neg h2] at h;cases h
theorem Zrn {x:DHost} {b o n u:Str} {r:Int} (h:Zw x=true):(Zb4 x b o n u r).2=5∨Zw (Zb4 x b o n u r).1=true:=by
 unfold Zb4
 split
 ·exact .inl rfl
 ·split
  ·exact .inr h
  ·split
   ·exact .inr h
   ·right
    unfold Zff
    split
    ·exact h
    ·rename_i f hk
     split
     ·rename_i h2
      refine ZgY h hk rfl rfl ?_ (.inr (Nat.le_refl _))
      have:=ZaK h hk
      simp only [Z5,Bool.and_eq_true,decide_eq_true_eq] at this ⊢
      exact ⟨⟨⟨this.1.1.1,this.1.1.2⟩,Zr8 h2⟩,this.2⟩
     ·exact h
theorem Zhs {x:DHost} {q:DQueue} (h:Zw x=true) (hq:Zad q=true) (hi :∀y,y∈q.items→ZaI x.users y=true):Zw (x.withQueue q)=true:=by
 rw [ZaM] at h ⊢
 exact ⟨⟨h.1.1,h.1.2.1,hq⟩,h.2.1,h.2.2.1,hi⟩
theorem Zfu {x:DHost} (h:Zw x=true):Zad x.queue=true:=(ZaM.1 h).1.2.2
theorem ZpD {x:DHost} {l:DLetter} (h:Zw x=true):(Zbt x l).2=5∨Zw (Zbt x l).1=true:=by
 unfold Zbt
 split
 ·exact .inl rfl
 ·split
  ·exact .inr h
  ·rename_i h2
   split
   ·rename_i h3
    refine .inr (Zhs h (ZpS h3) fun y hy=>?_)
    rw [(ZmJ h3).1] at hy
    simp only [List.mem_append,List.mem_singleton] at hy
    rcases hy with hy | rfl
    ·exact (ZaM.1 h).2.2.2 y hy
    ·simp only [not_or,Bool.not_eq_false] at h2
     simp only [ZaI,h2.2,Bool.and_true]
     exact decide_eq_true (by omega)
   ·exact .inr h
theorem ZoR {id:Int} {u:Str} {xs:List DItem} {y:DItem} (h:y∈ZeU id u xs) :∃z,z∈xs∧y.fr=z.fr∧(∀n,n∈y.left→n∈z.left):=by
 simp only [ZeU,List.mem_filter,List.mem_map] at h
 obtain ⟨⟨z,hz,rfl⟩,_⟩:=h
 refine ⟨z,hz,?_,?_⟩
 ·unfold ZbM;split <;> rfl
 ·intro n hn
  unfold ZbM at hn
  split at hn
  ·exact (List.mem_filter.1 hn).1
  ·exact hn
theorem ZjV :∀(xs:List DItem) {id:Int} {u:Str} (s:Str × Bool),(xs.foldl (ZbY id u) s).2=true→s.2=true∨∃y,y∈xs∧u∈y.left
 | [],_,_,s,h=>.inl h
 | x :: xs,id,u,s,h=>by
  rcases ZjV xs (ZbY id u s x) h with h | ⟨y,hy,hu⟩
  ·unfold ZbY at h
   split at h
   ·rename_i hc;exact .inr ⟨x,List.mem_cons_self ..,hc.2⟩
   ·exact .inl h
  ·exact .inr ⟨y,List.mem_cons_of_mem _ hy,hu⟩
theorem ZpJ {x:DHost} {id:Int} {u:Str} (h:Zw x=true) (hf:(Zca x.queue id u).2.2=true):0≤ZaB (inF u inbox) x.folders:=by
 obtain ⟨_,_,h7,h8⟩:=ZaM.1 h
 rcases ZjV x.queue.items (id:=id) (u:=u) ([],false) hf with h0 | ⟨y,hy,hu⟩
 ·cases h0
 ·have:=h8 y hy
  simp only [ZaI,Zgv,Bool.and_eq_true,List.all_eq_true,decide_eq_true_eq] at this
  obtain ⟨w,hw,rfl⟩:=Zbd.1 (this.2 u hu)
  have:=h7 w hw
  simp only [ZaW,Bool.and_eq_true,decide_eq_true_eq] at this
  exact this.1
theorem Zn4 :∀(xs:List DItem) {id:Int} {u:Str} (s:Str × Bool),s.1.length≤20→(∀y,y∈xs→ZcF y=true)→(xs.foldl (ZbY id u) s).1.length≤20
 | [],_,_,s,h,_=>h
 | x :: xs,id,u,s,h,ha=>by
  refine Zn4 xs (ZbY id u s x) ?_ fun y hy=>ha y (List.mem_cons_of_mem _ hy)
  unfold ZbY
  split
  ·have:=ha x (List.mem_cons_self ..)
   simp only [ZcF,ZaS,Bool.and_eq_true,decide_eq_true_eq] at this
   exact this.2
  ·exact h
theorem ZhA {x:DHost} {id:Int} {u:Str} (h:Zw x=true):(Zca x.queue id u).2.1.length≤20:=
 Zn4 x.queue.items ([],false) (by simp) fun y hy=>ZdZ (Zfu h) hy
theorem Zny {x:DHost} {id:Int} {u:Str} (h:Zw x=true):(ZaY x id u).2=5∨Zw (ZaY x id u).1=true:=by
 right
 unfold ZaY
 rw [if_neg (show ¬ Zw x=false by simp [h])]
 split
 ·exact h
 ·rename_i hf
  have hp:Zw (ZaZ x (ZaB (inF u inbox) x.folders).toNat 0 (Zca x.queue id u).2.1).1=true:=ZhO h (by decide) (ZhA h)
  split
  ·have e:=ZR (x:=x) (k:=(ZaB (inF u inbox) x.folders).toNat) (fl:=0) (t:=(Zca x.queue id u).2.1)
   have hq:Zdi x.queue id u=Zca x.queue id u:=by rw [Zdi,if_pos (Zfu h)]
   refine Zhs hp ?_ fun y hy=>?_
   ·rw [← hq];exact ZoQ (by rw [hq];simpa using hf)
   ·obtain ⟨z,hz,e1,e2⟩:=ZoR (show y∈ZeU id u x.queue.items from hy)
    have:=(ZaM.1 h).2.2.2 z hz
    simp only [ZaI,Zgv,Bool.and_eq_true,List.all_eq_true,e.1,e1] at this ⊢
    exact ⟨this.1,fun n hn=>this.2 n (e2 n hn)⟩
  ·exact hp
theorem ZlK {x:DHost} {k:Nat} {b:DBox} (h:Zw x=true) (hb :∀f,x.folders[k]? = some f→Zbf b=true∧Zag b.mail≤Zag f.mail):Zw (ZjY x k b)=true:=by
 unfold ZjY
 split
 ·rename_i f hf
  exact ZgY h hf rfl rfl (Zhv (ZaK h hf) (hb f hf).1) (.inr (hb f hf).2)
 ·exact h
def Like (ms ms':List DMail):Prop:=ms'.length=ms.length∧∀(i:Nat) (a b:DMail),ms[i]? = some a→ms'[i]? = some b→b.uid=a.uid∧b.text=a.text∧(b.flags=a.flags∨(0≤b.flags∧b.flags≤31))
theorem Like.refl (ms:List DMail):Like ms ms:=⟨rfl,fun i a b h1 h2=>by rw [h1] at h2;cases h2;exact ⟨rfl,rfl,.inl rfl⟩⟩
theorem Like.set {ms acc:List DMail} {k:Nat} {a:DMail} {fl:Int} (h:Like ms acc) (ha:acc[k]? = some a) (hf:0≤fl∧fl≤31):Like ms (acc.set k ⟨a.uid,fl,a.text⟩):=by
 refine ⟨by rw [List.length_set];exact h.1,fun i c d hc hd=>?_⟩
 rcases Zi2 hd with ⟨rfl,rfl,_⟩ | ⟨_,hd⟩
 ·have:=h.2 _ _ _ hc ha
  exact ⟨this.1,this.2.1,.inr hf⟩
 ·exact h.2 _ _ _ hc hd
theorem Zmo {ms acc:List DMail} {how fl n:Int} (h:Like ms acc):Like ms (Zg2 ms how fl acc n):=by
 unfold Zg2
 split
 ·rename_i a m ha hm;exact h.set ha (Zue _ _ _)
 ·exact h
theorem Zhz {ms:List DMail} {how fl:Int} :∀(ns:List Int) {acc:List DMail},Like ms acc→Like ms (ns.foldl (Zg2 ms how fl) acc)
 | [],_,h=>h
 | n :: ns,_,h=>Zhz ns (Zmo h)
theorem Zl1 :∀{ms ms':List DMail} (b0 b:Int),Like ms ms'→ms.foldl (fun (s:Bool × Int) x=>(s.1 && ZbP s.2 x,x.uid)) (true,b0)=(true,b)→ms'.foldl (fun (s:Bool × Int) x=>(s.1 && ZbP s.2 x,x.uid)) (true,b0)=(true,b)∧Zag ms'=Zag ms
 | [],ms',b0,b,h,hs=>by
  have:ms'=[]:=List.length_eq_zero_iff.1 h.1
  subst this;exact ⟨hs,rfl⟩
 | x :: ms,[],b0,b,h,hs=>by cases h.1
 | x :: ms,y :: ms',b0,b,h,hs=>by
  obtain ⟨h1,h2⟩:=h
  obtain ⟨e1,e2,e3⟩:=h2 0 x y rfl rfl
  simp only [List.foldl_cons,Bool.true_and] at hs ⊢
  cases hp:ZbP b0 x with
  | false=>
   rw [hp] at hs
   have:=Zcb (p:=ZbP) (nx:=fun _ m=>m.uid) ms x.uid
   rw [hs] at this;cases this
  | true=>
   rw [hp] at hs
   have hq:ZbP b0 y=true:=by
    simp only [ZbP,ZbE,Bool.and_eq_true,decide_eq_true_eq] at hp ⊢
    rw [e1,e2]
    rcases e3 with e3 | e3
    ·rw [e3];exact hp
    ·omega
   rw [hq,e1]
   obtain ⟨h3,h4⟩:=Zl1 (ms:=ms) (ms':=ms') x.uid b ⟨by simpa using h1,fun i a c ha hc=>h2 (i+1) a c (by simpa using ha) (by simpa using hc)⟩ hs
   refine ⟨h3,?_⟩
   simp only [Zag,List.map_cons,List.sum_cons,e2] at h4 ⊢
   omega
theorem ZsU {b:DBox} {ms:List DMail} (h:Zbf b=true) (hl:Like b.mail ms):Zbf ⟨b.next,ms⟩=true∧Zag ms=Zag b.mail:=by
 obtain ⟨l,hs,h1,h2,h3⟩:=Zfx h
 obtain ⟨h4,h5⟩:=Zl1 0 l hl hs
 refine ⟨?_,h5⟩
 rw [ZdL (b:=⟨b.next,ms⟩) h4]
 simp only [Bool.and_eq_true,decide_eq_true_eq,hl.1];omega
theorem ZiL :∀(ms:List DMail) (b0 b1 b:Int),b1≤b0→ms.foldl (fun (s:Bool × Int) x=>(s.1 && ZbP s.2 x,x.uid)) (true,b0)=(true,b)→∃c,c≤b∧(ZcE ms).foldl (fun (s:Bool × Int) x=>(s.1 && ZbP s.2 x,x.uid)) (true,b1)=(true,c)∧Zag (ZcE ms)≤Zag ms
 | [],b0,b1,b,hb,h=>by cases h;exact ⟨b1,hb,rfl,Nat.le_refl _⟩
 | x :: ms,b0,b1,b,hb,h=>by
  simp only [List.foldl_cons,Bool.true_and] at h
  cases hp:ZbP b0 x with
  | false=>
   rw [hp] at h
   have:=Zcb (p:=ZbP) (nx:=fun _ m=>m.uid) ms x.uid
   rw [h] at this;cases this
  | true=>
   rw [hp] at h
   have hx:b0<x.uid:=by simp only [ZbP,Bool.and_eq_true,decide_eq_true_eq] at hp;exact hp.2
   cases hd:ZpY x with
   | true=>
    obtain ⟨c,h1,h2,h3⟩:=ZiL ms x.uid b1 b (by omega) h
    have e:ZcE (x :: ms)=ZcE ms:=by simp [ZcE,hd]
    rw [e]
    refine ⟨c,h1,h2,?_⟩
    simp only [Zag,List.map_cons,List.sum_cons] at h3 ⊢;omega
   | false=>
    obtain ⟨c,h1,h2,h3⟩:=ZiL ms x.uid x.uid b (by omega) h
    have e:ZcE (x :: ms)=x :: ZcE ms:=by simp [ZcE,hd]
    rw [e]
    have hq:ZbP b1 x=true:=by
     simp only [ZbP,Bool.and_eq_true,decide_eq_true_eq] at hp ⊢
     exact ⟨hp.1,by omega⟩
    refine ⟨c,h1,?_,?_⟩
    ·simp only [List.foldl_cons,Bool.true_and,hq];exact h2
    ·simp only [Zag,List.map_cons,List.sum_cons] at h3 ⊢;omega
theorem Zs4 {b:DBox} (h:Zbf b=true):Zbf ⟨b.next,ZcE b.mail⟩=true∧Zag (ZcE b.mail)≤Zag b.mail:=by
 obtain ⟨l,hs,h1,h2,h3⟩:=Zfx h
 obtain ⟨c,h4,h5,h6⟩:=ZiL b.mail 0 0 l (by omega) hs
 refine ⟨?_,h6⟩
 have:(ZcE b.mail).length≤b.mail.length:=List.length_filter_le _ _
 rw [ZdL (b:=⟨b.next,ZcE b.mail⟩) h5]
 simp only [Bool.and_eq_true,decide_eq_true_eq];omega
theorem Zdy {x:DHost} {k:Nat} {f:DFolder} (h:x.folders[k]? = some f):ZhG x k=f.box:=by simp only [ZhG,h]
theorem Zh1 {x:DHost} {s:DSess} {r:Int} (h:(atF x s r).2=0):(atF x s r).1=ZaB (inF s.owner s.name) x.folders∧0≤(atF x s r).1∧0≤Zde x.users s.user∧∃f,x.folders[(atF x s r).1.toNat]? = some f∧ZhB f s.user 1=true∧ZhB f s.user 2=true∧ZhB f s.user r=true:=by
 unfold atF at h ⊢
 split at h
 ·rename_i h1;exact absurd h h1
 ·rename_i h1
  rw [if_neg h1]
  obtain ⟨h2,h3,f,hf,h4,h5⟩:=Zdg h
  obtain ⟨_,_,f',hf',_,h6⟩:=Zdg (Decidable.not_not.1 h1)
  rw [hf] at hf';cases hf'
  exact ⟨rfl,h3,h2,f,hf,h4,h6,h5⟩
theorem Zrl {x:DHost} {s:DSess} {set:List DSpan} {how fl:Int} (h:Zw x=true):(Zcd x s set how fl).2=5∨Zw (Zcd x s set how fl).1=true∨(Zen (ZhG x (atF x s 4).1.toNat).mail.length (ZaF set (ZhG x (atF x s 4).1.toNat).mail.length)=false):=by
 unfold Zcd
 split
 ·exact .inl rfl
 ·rename_i h1
  split
  ·exact .inr (.inl h)
  ·rename_i h2
   cases hn:Zen (ZhG x (atF x s 4).1.toNat).mail.length (ZaF set (ZhG x (atF x s 4).1.toNat).mail.length) with
   | false=>exact .inr (.inr rfl)
   | true=>
    refine .inr (.inl (ZlK h fun f hf=>?_))
    simp only [h,true_and,Decidable.not_not] at h1
    have hb:=Zbu (ZaK h hf)
    rw [Zdy hf] at hn ⊢
    rw [Zbn,if_pos ⟨hb,hn,h1.2.2,h1.2.1⟩]
    obtain ⟨h4,h5⟩:=ZsU hb (Zhz (how:=how) (fl:=fl) (ZaF set f.box.mail.length) (Like.refl f.box.mail))
    exact ⟨h4,Nat.le_of_eq h5⟩
theorem Znx {x:DHost} {s:DSess} (h:Zw x=true):(ZaT x s).2.2=5∨Zw (ZaT x s).1=true:=by
 unfold ZaT
 split
 ·exact .inl rfl
 ·split
  ·exact .inr h
  ·refine .inr (ZlK h fun f hf=>?_)
   have hb:=Zbu (ZaK h hf)
   rw [Zdy hf,expunge,if_pos hb]
   exact Zs4 hb
theorem ZgS (s:List DSpan) (last:Int) :∀(n:Nat) (y:Int),y∈Zdc s last n→1≤y∧y≤n
 | 0,y,h=>by cases h
 | n+1,y,h=>by
  simp only [Zdc] at h
  split at h
  ·rw [List.mem_append,List.mem_singleton] at h
   rcases h with h | rfl
   ·have:=ZgS s last n y h;omega
   ·omega
  ·have:=ZgS s last n y h;omega
theorem ZlW {m:Nat} {xs:List Int} {b y:Int} (h:Zd1 m xs=(true,b)) (hy:ZqN m b y=true):Zd1 m (xs ++ [y])=(true,y):=by
 rw [Zd1,scn,List.foldl_append]
 have:xs.foldl (fun (s:Bool × Int) x=>(s.1 && ZqN m s.2 x,x)) (true,0)=(true,b):=h
 rw [this];simp [hy]
theorem ZiA (s:List DSpan) (last:Int) (m:Nat) :∀n,n≤m→∃b,Zd1 m (Zdc s last n)=(true,b)∧b≤n
 | 0,_=>⟨0,rfl,by simp⟩
 | n+1,h=>by
  obtain ⟨b,h1,h2⟩:=ZiA s last m n (by omega)
  simp only [Zdc]
  split
  ·exact ⟨_,ZlW h1 (by simp only [ZqN,Bool.and_eq_true,decide_eq_true_eq];omega),by omega⟩
  ·exact ⟨b,h1,by omega⟩
theorem ZqM (s:List DSpan) (m:Nat):Zen m (ZaF s m)=true:=by
 unfold ZaF
 split
 ·obtain ⟨b,h,_⟩:=ZiA s (min (m:Int) 99) m (min (m:Int) 99).toNat (by omega)
  rw [Zen,h]
 ·rfl
theorem Zj6 {s:List DSpan} {m:Nat} {y:Int} (h:y∈ZaF s m):1≤y∧y≤m:=by
 unfold ZaF at h
 split at h
 ·have:=ZgS _ _ _ _ h;omega
 ·cases h
theorem Zj4 (s:List DSpan) (last:Int) :∀n,(Zdc s last n).length≤n
 | 0=>by simp [Zdc]
 | n+1=>by
  have:=Zj4 s last n
  simp only [Zdc]
  split
  ·simp;omega
  ·omega
theorem ZnJ {to:Nat} {s:DHost × Int} {m:DMail} (h:Zw s.1=true) (hm:ZbE m=true):Zw (ZbO to s m).1=true:=by
 unfold ZbO
 simp only [ZbE,Bool.and_eq_true,decide_eq_true_eq] at hm
 split
 ·exact ZhO h (by simp only [Zae,Bool.and_eq_true,decide_eq_true_eq];exact hm.1.2) hm.2
 ·exact h
theorem Zjq {to:Nat} :∀(ms:List DMail) (s:DHost × Int),Zw s.1=true→(∀m,m∈ms→ZbE m=true)→Zw (ms.foldl (ZbO to) s).1=true
 | [],_,h,_=>h
 | m :: ms,s,h,hm=>Zjq ms _ (ZnJ h (hm m (List.mem_cons_self ..))) fun y hy=>hm y (List.mem_cons_of_mem _ hy)
theorem ZqZ {b:DBox} (h:Zbf b=true) {y:Int} (hy:1≤y∧y≤b.mail.length):ZbE (Zdl b.mail y)=true:=by
 unfold Zdl
 have :∃m,b.mail[(y - 1).toNat]? = some m:=⟨_,List.getElem?_eq_getElem (by omega)⟩
 obtain ⟨m,hm⟩:=this
 simp only [hm]
 exact (ZdK h).1 m (List.mem_of_getElem? hm)
theorem Zti {x:DHost} {s:DSess} {set:List DSpan} {o n:Str} (h:Zw x=true):(ZeK x s set o n).2=5∨Zw (ZeK x s set o n).1=true:=by
 unfold ZeK
 split
 ·exact .inl rfl
 ·split
  ·exact .inr h
  ·rename_i h2
   split
   ·exact .inr h
   ·obtain ⟨_,_,_,f,hf,_⟩:=Zh1 (Decidable.not_not.1 h2)
    have hb:=Zbu (ZaK h hf)
    simp only []
    split
    ·refine .inr (Zjq _ _ h fun m hm=>?_)
     obtain ⟨y,hy,rfl⟩:=List.mem_map.1 hm
     rw [Zdy hf] at hy ⊢
     exact ZqZ hb (Zj6 hy)
    ·exact .inr h
theorem Zvh {x:DHost} {e:DEvent} (h:Zw x=true):(ZhX x e).2=5∨Zw (ZhX x e).1=true:=by
 unfold ZhX
 split
 ·exact ZpE h
 ·split
  ·exact Zrn h
  ·split
   ·exact Zrm h
   ·split
    ·exact ZpD h
    ·split
     ·exact Zny h
     ·split
      ·rcases Zrl (x:=x) (s:=⟨e.by_,e.owner,e.name⟩) (set:=[⟨e.a,e.a⟩]) (how:=1) (fl:=e.b) h with h | h | h
       ·exact .inl h
       ·exact .inr h
       ·rw [ZqM] at h;cases h
      ·split
       ·exact Znx h
       ·split
        ·exact Zti h
        ·exact .inl rfl
theorem ZwJ {x:DHost} {e:DEvent} (h:Zw x=true):Zw (hDo x e).1=true:=by
 unfold hDo
 rw [h]
 simp only [Bool.true_eq_false,if_false]
 split
 ·exact h
 ·rename_i h2
  rcases Zvh (e:=e) h with h3 | h3
  ·exact absurd h3 h2
  ·exact h3
end Go.BL
namespace Go.BL
open Go
theorem ZsF {k:Nat} {e:Int} (h:([1,2,4,8,16,32]:List Int)[k]? = some e):e=ZbA k:=by rw [ZbA,List.getD_eq_getElem?_getD,h];rfl
theorem ZqI {k:Nat} {e:Int} (h:([1,2,4,8,16]:List Int)[k]? = some e):e=ZbA k:=by
 have hk:=(List.getElem?_eq_some_iff.1 h).1
 simp only [List.length_cons,List.length_nil] at hk
 have:k=0∨k=1∨k=2∨k=3∨k=4:=by omega
 rcases this with rfl | rfl | rfl | rfl | rfl <;> simp at h <;> rw [← h] <;> rfl
theorem Zj2 {a b:Int} (h0:0≤a) (h1:a≤1000000) (hb:0<b):IntKind.i64.wrap (Int.tdiv a b)=Int.tdiv a b:=
 ZaR (Int.le_trans (by decide) (Int.tdiv_nonneg h0 (by omega))) (Int.le_trans (Int.tdiv_le_self _ h0) (by omega))
theorem Zfn {gs:List DGrant} (h:ZbQ gs=true) :∀y,y∈gs→0≤y.rights∧y.rights≤63:=by
 intro y hy
 simp only [ZbQ,Bool.and_eq_true] at h
 obtain ⟨b,hb⟩:=ZkF (p:=Zcv) (nx:=fun _ g=>g.user) gs [] h.1 y hy
 simp only [Zcv,Bool.and_eq_true,decide_eq_true_eq] at hb;omega
def Zh7 (fs:List DFolder):Prop:=∀f,f∈fs→∀y,y∈f.grants→0≤y.rights∧y.rights≤63
theorem ZcG {x:DHost} (h:Zw x=true):Zh7 x.folders:=fun f hf=>by
 have:=(ZaM.1 h).2.1.1 f hf
 simp only [Z5,Bool.and_eq_true] at this
 exact Zfn this.1.2
theorem Zm5 (gs:List DGrant) (u:Str):0≤ZbN gs u∧ZbN gs u≤600:=Zjv gs u 6 (Nat.le_refl _)
theorem Zqg :∀{fs:List DFolder} (us:List DUser) (u:Str),(∀f,f∈fs→Z5 us f=true)→Za9 fs u≤fs.length*200
 | [],_,_,_=>by simp [Za9]
 | f :: fs,us,u,h=>by
  have ih:=Zqg us u fun g hg=>h g (List.mem_cons_of_mem _ hg)
  obtain ⟨h1,h2⟩:=ZdK (Zbu (h f (List.mem_cons_self ..)))
  have h3:Zag f.mail≤f.mail.length*20:=ZfU _ h1
  have h4:f.mail.length≤10:=h2
  simp only [Za9,List.map_cons,List.sum_cons,List.length_cons] at ih ⊢
  split <;> omega
theorem Znt {x:DHost} (h:Zw x=true) (u:Str):Za9 x.folders u≤1600:=by
 obtain ⟨_,⟨h4,_,h6⟩,_⟩:=ZaM.1 h
 have:=Zqg x.users u h4
 omega
theorem Zb3 {b:DBox} (h:Zbf b=true):1≤b.next∧b.next≤100∧b.mail.length≤10:=by
 obtain ⟨l,hs,h1,h2,h3⟩:=Zfx h
 have:=ZkG b.mail 0 l hs
 omega
structure GHC where
 q1:Option Addr
 c1:Nat
 q3:Option Addr
 c3:Nat
 b:Nat
theorem Zhj {α:Type} {p:α→Bool} :∀{fs:List α} {k:Nat},(∀y,y∈fs.take k→p y=true)→(fs.length≤k∨∃z,fs[k]? = some z∧p z=false)→k≤fs.length→(fs.takeWhile p).length=k
 | [],k,_,_,hk=>by simp at hk;subst hk;rfl
 | a :: fs,0,_,he,_=>by
  rcases he with he | ⟨z,hz,hp⟩
  ·simp at he
  ·simp at hz;subst hz;simp [hp]
 | a :: fs,k+1,ha,he,hk=>by
  have h1:p a=true:=ha a (by simp)
  have ih:=Zhj (fs:=fs) (k:=k) (fun y hy=>ha y (by simp [hy])) (by
   rcases he with he | ⟨z,hz,hp⟩
   ·exact .inl (by simpa using he)
   ·exact .inr ⟨z,by simpa using hz,hp⟩) (by simpa using hk)
  simp [h1,ih]
theorem Zcu {x:DHost} {u n:Str} {k:Nat} (h1:Zw x=true) (h2:Zah n=true) (h3 : ¬ Zde x.users u<0) (h4 : ¬ 0≤ZaB (inF u n) x.folders) (h5 : ¬ 8≤x.folders.length) (hk:k≤x.folders.length)
  (ha :∀y,y∈x.folders.take k→Zb0 y (Ze8 u n)=true) (he:x.folders.length≤k∨∃z,x.folders[k]? = some z∧Zb0 z (Ze8 u n)=false) :
  Zbo x u n=(x.withFolders (((x.folders.take k).drop 0 ++ [⟨u,n,[],1,[]⟩]) ++ (x.folders.take x.folders.length).drop k),0):=by
 rw [Zbo,if_neg (fun h=>h ⟨h1,h2⟩),if_neg h3,if_neg (fun h=>h.elim h4 h5),ZhE,show ZgX x.folders (Ze8 u n)=k from Zhj ha he hk,List.drop_zero,List.take_length]
 rfl
theorem Zg9 {gs:List DGrant} {u:Str} {r:Int} (h : ¬ (ZbQ gs=true∧Zah u=true∧ZdY r=true)):Zb6 gs u r=([],false):=by rw [Zb6,if_pos h]
theorem ZmL {gs:List DGrant} {u:Str} {r:Int} (h:ZbQ gs=true∧Zah u=true∧ZdY r=true) (h2:ZbQ (ZgG gs u r)=false):Zb6 gs u r=(gs,false):=by rw [Zb6,if_neg (fun a=>a h),if_neg (by rw [h2];exact Bool.false_ne_true)]
theorem Zkw {gs:List DGrant} {u:Str} {r:Int} (h:ZbQ gs=true∧Zah u=true∧ZdY r=true) (h2:ZbQ (ZgG gs u r)=true):Zb6 gs u r=(ZgG gs u r,true):=by rw [Zb6,if_neg (fun a=>a h),if_pos h2]
theorem Zha {gs xs:List DGrant} {u:Str} {r:Int} (h:(true,xs)=ZeQ u r gs):ZgG gs u r=xs:=by rw [ZgG,← h];rfl
theorem Zhb {gs xs:List DGrant} {u:Str} {r:Int} (h:(false,xs)=ZeQ u r gs):ZgG gs u r=xs ++ [⟨u,r⟩]:=by rw [ZgG,← h];rfl
theorem Zjy {gs:List DGrant} (h:ZbQ gs=true):gs.length≤4:=by simp only [ZbQ,Bool.and_eq_true,decide_eq_true_eq] at h;exact h.2
theorem Zkg {x:DHost} {k:Nat} {f:DFolder} {u:Str} {r:Int} (hf:x.folders[k]? = some f) (h:(Zb6 f.grants u r).2=false):Zff x k u r=(x,4):=by simp only [Zff,hf,h];rfl
theorem Zi1 {x:DHost} {k:Nat} {f:DFolder} {u:Str} {r:Int} (hf:x.folders[k]? = some f) (h:(Zb6 f.grants u r).2=true):Zff x k u r=(x.withFolders (x.folders.set k (f.withGrants (Zb6 f.grants u r).1)),0):=by simp only [Zff,hf,h,if_true]
theorem Zj5 {n:Nat} {xs:List Int} {k:Nat} {x b:Int} (hx:xs[k]? = some x) (hs:Zd1 n (xs.take k)=(true,b)) (h:ZqN n b x=false):Zen n xs=false:=ZhM hx hs h
theorem Zo9 {n:Nat} {xs:List Int} {b:Int} (h:Zd1 n xs=(true,b)):Zen n xs=true:=by rw [Zen,h]
theorem Zo8 {n:Nat} {xs:List Int} (h:Zen n xs=true) :∀y,y∈xs→1≤y∧y≤n:=by
 intro y hy
 obtain ⟨b,hb⟩:=ZkF (p:=ZqN n) (nx:=fun _ x=>x) xs 0 h y hy
 simp only [ZqN,Bool.and_eq_true,decide_eq_true_eq] at hb;omega
theorem Zmn {ms:List DMail} {how fl:Int} {ns:List Int} {k:Nat} {y:Int} {a m:DMail} (hy:ns[k]? = some y) (ha:(Zef ms how fl (ns.take k))[(y - 1).toNat]? = some a) (hm:ms[(y - 1).toNat]? = some m) :
  Zef ms how fl (ns.take (k+1))=(Zef ms how fl (ns.take k)).set (y - 1).toNat ⟨a.uid,chg m.flags how fl,a.text⟩:=by
 have e:Zef ms how fl (ns.take (k+1))=Zg2 ms how fl (Zef ms how fl (ns.take k)) y:=by rw [Zat hy,Zef,List.foldl_append];rfl
 rw [e,Zg2,ha,hm]
theorem Zf8 {b:DBox} (h:Zbf b=true) {m:DMail} (hm:m∈b.mail):0≤m.flags∧m.flags≤31:=by
 have:=(ZdK h).1 m hm
 simp only [ZbE,Bool.and_eq_true,decide_eq_true_eq] at this;exact this.1.2
theorem Zs2 {ms:List DMail} {k:Nat} {x:DMail} (hx:ms[k]? = some x) (h:ZpY x=false):ZcE (ms.take (k+1))=ZcE (ms.take k) ++ [x]:=by
 rw [Zat hx,ZcE,List.filter_append];simp [ZcE,h]
theorem ZuZ {ms:List DMail} {k:Nat} {x:DMail} (hx:ms[k]? = some x) (h:ZpY x=true):ZcE (ms.take (k+1))=ZcE (ms.take k):=by
 rw [Zat hx,ZcE,List.filter_append];simp [ZcE,h]
theorem Zkh {ms:List DMail} {k:Nat} {x:DMail} (hx:ms[k]? = some x):Zk1 (ms.take (k+1))=Zds (Zk1 (ms.take k)) x:=by
 rw [Zat hx,Zk1,List.foldl_append];rfl
theorem Zro (ms:List DMail):(Zk1 ms).1=(ZcE ms).length:=by
 have key :∀(ms:List DMail) (s:Nat × List Int),(ms.foldl Zds s).1=s.1+(ZcE ms).length:=by
  intro ms
  induction ms with
  | nil=>intro s;rfl
  | cons m ms ih=>
   intro s
   rw [List.foldl_cons,ih,Zds]
   cases hd:ZpY m with
   | true=>simp [ZcE,hd]
   | false=>simp [ZcE,hd];omega
 rw [Zk1,key];simp
theorem Zs3 (ms:List DMail) (k:Nat):(ZcE (ms.take k)).length≤k:=Nat.le_trans (List.length_filter_le _ _) (by rw [List.length_take];omega)
theorem Zo7 {s:List DSpan} {last:Int} {n:Nat} (h:Zgq s last (n+1:Nat)=true):Zdc s last (n+1)=Zdc s last n ++ [((n+1:Nat):Int)]:=by simp only [Zdc,h,if_true]
theorem ZqL {s:List DSpan} {last:Int} {n:Nat} (h:Zgq s last (n+1:Nat)=false):Zdc s last (n+1)=Zdc s last n:=by simp only [Zdc,h];rfl
theorem Zis {x:DHost} {k:Nat} {b:DBox} {f:DFolder} (h:x.folders[k]? = some f):ZjY x k b=x.withFolders (x.folders.set k (f.withBox b)):=by simp only [ZjY,h]
theorem ZeO {b:DBox} {ns:List Int} {how fl:Int} (h : ¬ (Zbf b=true∧Zen b.mail.length ns=true∧ZkY how=true∧Zae fl=true)):Zbn b ns how fl=(⟨0,[]⟩,false):=by rw [Zbn,if_neg h]
theorem ZmA {b:DBox} {ns:List Int} {how fl:Int} (h:Zbf b=true∧Zen b.mail.length ns=true∧ZkY how=true∧Zae fl=true):Zbn b ns how fl=(⟨b.next,Zef b.mail how fl ns⟩,true):=by rw [Zbn,if_pos h]
structure GEx where
 k:Nat
 m:Gh DMail
 n:Gh Int
structure GCp where
 k:Nat
 x:DHost
 c:Int
 q1:Option Addr
 c1:Nat
 q2:Option Addr
 c2:Nat
 q3:Option Addr
 c3:Nat
theorem ZrS {ns:List Int} {ms:List DMail} {to k:Nat} {y:Int} {s:DHost × Int} (hy:ns[k]? = some y):((ns.take (k+1)).map (Zdl ms)).foldl (ZbO to) s=ZbO to (((ns.take k).map (Zdl ms)).foldl (ZbO to) s) (Zdl ms y):=by
 rw [Zat hy,List.map_append,List.foldl_append];rfl
theorem Zg5 {to:Nat} :∀(ms:List DMail) (s:DHost × Int),s.2≠0→ms.foldl (ZbO to) s=s
 | [],_,_=>rfl
 | m :: ms,s,h=>by rw [List.foldl_cons,ZbO,if_neg h];exact Zg5 ms s h
theorem ZrR {ns:List Int} {ms:List DMail} {to k:Nat} {s:DHost × Int} {y:DHost} {c:Int} (h:(y,c)=((ns.take k).map (Zdl ms)).foldl (ZbO to) s) (hc : ¬ c=0):(y,c)=(ns.map (Zdl ms)).foldl (ZbO to) s:=by
 have e:ns=ns.take k ++ ns.drop k:=(List.take_append_drop k ns).symm
 conv=>rhs;rw [e,List.map_append,List.foldl_append,← h,Zg5 _ _ hc]
theorem Zmj {x:DHost} {s:DSess} {set:List DSpan} {o n:Str} {f:DFolder} {y:DHost} {c:Int} (h : ¬ ¬ (Zw x=true∧Zir set=true)) (ha:(atF x s 2).2=0) (hf:x.folders[(atF x s 2).1.toNat]? = some f)
  (hr:(y,c)=((ZaF set f.mail.length).map (Zdl f.mail)).foldl (ZbO (ZaB (inF o n) x.folders).toNat) (x,Zgd x.users x.folders s.user (ZaB (inF o n) x.folders) 8)):ZeK x s set o n=if c=0 then (y,0) else (x,c):=by
 rw [ZeK,if_neg h,if_neg (fun h=>h ha),Zdy hf]
 by_cases h8:Zgd x.users x.folders s.user (ZaB (inF o n) x.folders) 8=0
 ·rw [if_neg (fun h=>h h8)]
  rw [h8] at hr
  have e:Zjp x ((ZaF set f.mail.length).map (Zdl f.mail)) (ZaB (inF o n) x.folders).toNat=(y,c):=hr.symm
  show (if (Zjp x ((ZaF set f.mail.length).map (Zdl f.mail)) (ZaB (inF o n) x.folders).toNat).2=0 then Zjp x ((ZaF set f.mail.length).map (Zdl f.mail)) (ZaB (inF o n) x.folders).toNat else (x,(Zjp x ((ZaF set f.mail.length).map (Zdl f.mail)) (ZaB (inF o n) x.folders).toNat).2))=_
  rw [e]
  by_cases hc:c=0
  ·simp only [hc,if_true]
  ·simp only [hc,if_false]
 ·rw [if_pos h8]
  rw [Zg5 _ _ h8] at hr
  cases hr
  rw [if_neg h8]
theorem Zpa (s:List DSpan) (m:Nat):(ZaF s m).length≤m:=by
 unfold ZaF
 split
 ·have:=Zj4 s (min (m:Int) 99) (min (m:Int) 99).toNat
  omega
 ·simp
theorem Zfy (gs:List DGrant) (u:Str) (r:Int):(Zb6 gs u r).1.length≤gs.length+4:=by
 unfold Zb6
 split
 ·simp
 ·split
  ·rename_i h;have:=Zjy h;simp only [];omega
  ·simp only [];omega
theorem Zlh (b:DBox) (fl:Int) (t:Str):(ZdQ b fl t).1.mail.length≤b.mail.length+1:=by
 unfold ZdQ;split <;> simp
theorem ZnE (b:DBox):(expunge b).1.mail.length≤b.mail.length∧(expunge b).2.length≤b.mail.length:=by
 unfold expunge
 split
 ·have key :∀(ms:List DMail) (s:Nat × List Int),(ms.foldl Zds s).2.length≤s.2.length+ms.length:=by
   intro ms
   induction ms with
   | nil=>intro s;simp
   | cons m ms ih=>
    intro s
    rw [List.foldl_cons]
    cases hd:ZpY m with
    | true=>
     have:=ih (s.1,s.2 ++ [((s.1+1:Nat):Int)])
     rw [Zds,if_pos hd]
     simp only [List.length_append,List.length_cons,List.length_nil] at this ⊢;omega
    | false=>
     have:=ih (s.1+1,s.2)
     rw [Zds,if_neg (by simp [hd])]
     simp only [List.length_cons] at this ⊢;omega
  have:=key b.mail (0,[])
  exact ⟨List.length_filter_le _ _,by simpa [Zk1] using this⟩
 ·simp
def ZQ (b:DBox) (fl:Int) (t:Str):DBox × Bool:=if Zbf b=true∧Zae fl=true∧t.length≤20 then ZdQ b fl t else (⟨0,[]⟩,false)
theorem Zfk {b:DBox} {fl:Int} {t:Str} (h : ¬ (Zbf b=true∧Zae fl=true∧t.length≤20)):ZQ b fl t=(⟨0,[]⟩,false):=by rw [ZQ,if_neg h]
theorem Zlc {b:DBox} {fl:Int} {t:Str} (h:Zbf b=true∧Zae fl=true∧t.length≤20):ZQ b fl t=ZdQ b fl t:=by rw [ZQ,if_pos h]
theorem Zd7 (b:DBox) (fl:Int) (t:Str):0≤(ZQ b fl t).1.next∧(ZQ b fl t).1.next≤101∧(ZQ b fl t).1.mail.length≤11:=by
 unfold ZQ
 split
 ·rename_i h
  have:=Zb3 h.1
  unfold ZdQ
  split
  ·simp only [];omega
  ·simp;omega
 ·simp
theorem ZE (b:DBox):0≤(expunge b).1.next∧(expunge b).1.next≤101∧(expunge b).1.mail.length≤10:=by
 unfold expunge
 split
 ·rename_i h
  have:=Zb3 h
  have:=List.length_filter_le (fun m=>!ZpY m) b.mail
  simp only [ZcE];omega
 ·simp
theorem Zgy {us:List DUser} {f:DFolder} (h:Z5 us f=true):f.grants.length≤4:=by
 simp only [Z5,Bool.and_eq_true] at h;exact Zjy h.1.2
theorem Znu {x:DHost} (h:Zw x=true) :∀y,y∈x.queue.items→0<y.left.length:=fun y hy=>by
 have:=ZdZ (Zfu h) hy
 simp only [ZcF,ZaS,Bool.and_eq_true,decide_eq_true_eq] at this
 exact this.1.2
theorem Zpt {x:DHost} (h:Zw x=true):0<x.folders.length∧0<x.users.length:=by
 obtain ⟨⟨_,h2,_⟩,_,h7,_⟩:=ZaM.1 h
 simp only [Zap,Bool.and_eq_true,decide_eq_true_eq] at h2
 have hu:0<x.users.length:=by omega
 refine ⟨?_,hu⟩
 have:=h7 _ (List.getElem_mem hu)
 simp only [ZaW,Bool.and_eq_true,decide_eq_true_eq] at this
 obtain ⟨f,hf,_⟩:=Zd2.1 this.1
 exact List.length_pos_of_mem hf
def ZfH (a b:Int):List DUser:=[⟨[97,109,121],[97,49],60⟩,⟨[98,111,98],[98,50],20+a⟩,⟨[99,121,100],[99,51],100+b⟩]
theorem ZrN {a b:Int} (h1:0≤a) (h2:a<60) (h3:0≤b) (h4:b<100):Zco [104,111,115,116,46,111,114,103] (ZfH a b)=(ZqP [104,111,115,116,46,111,114,103] (ZfH a b),true)∧Zw (ZqP [104,111,115,116,46,111,114,103] (ZfH a b))=true:=by
 have hd:Zcn [104,111,115,116,46,111,114,103]=true:=by decide
 have hu:Zap (ZfH a b)=true:=by
  have e1:ZdB [] ⟨[97,109,121],[97,49],60⟩=true:=by decide
  have e2:ZdB [97,109,121] ⟨[98,111,98],[98,50],20+a⟩=true:=by
   have:(decide (0≤20+a) && decide (20+a≤200))=true:=by simp;omega
   simp only [ZdB,Zcz,this,Bool.and_true];rfl
  have e3:ZdB [98,111,98] ⟨[99,121,100],[99,51],100+b⟩=true:=by
   have:(decide (0≤100+b) && decide (100+b≤200))=true:=by simp;omega
   simp only [ZdB,Zcz,this,Bool.and_true];rfl
  simp [Zap,ZdV,scn,ZfH,e1,e2,e3]
 have:=Znd [104,111,115,116,46,111,114,103] (ZfH a b)
 rw [hd,hu] at this
 exact ⟨ZiV this,this⟩
structure GHo where
 k:Nat
 p:Nat
 x:DHost
 q1:Option Addr
 c1:Nat
 q2:Option Addr
 c2:Nat
 q3:Option Addr
 c3:Nat
structure GBo where
 k:Nat
 p:Nat
 l:Cells
 a:Option Addr
 c:Nat
 x:DBox
structure GAc where
 k:Nat
 p:Nat
 l:Cells
 a:Option Addr
 c:Nat
 xs:List DGrant
theorem ZlV :∀{fs:List DFolder},ZgJ fs=true→fs.Pairwise fun a b=>Zb0 a b=true
 | [],_=>.nil
 | [_],_=>.cons (by simp) .nil
 | a :: b :: r,h=>by
  simp only [ZgJ,Bool.and_eq_true] at h
  have ih:=ZlV (fs:=b :: r) h.2
  have tr :∀c,c∈b :: r→Zb0 a c=true:=by
   intro c hc
   rcases List.mem_cons.1 hc with rfl | hc
   ·exact h.1
   ·have h2:Zb0 b c=true:=by cases ih with | cons h3 _=>exact h3 c hc
    have h1:=h.1
    simp only [Zb0,Bool.or_eq_true,Bool.and_eq_true,decide_eq_true_eq] at h1 h2 ⊢
    rcases h1 with h1 | ⟨e1,h1⟩
    ·rcases h2 with h2 | ⟨e2,h2⟩
     ·exact .inl (Zdw h1 h2)
     ·exact .inl (e2 ▸ h1)
    ·rcases h2 with h2 | ⟨e2,h2⟩
     ·exact .inl (e1 ▸ h2)
     ·exact .inr ⟨e1.trans e2,Zdw h1 h2⟩
  exact .cons tr ih
theorem ZsV {a b:DFolder} (h:Zb0 a b=true) : ¬ (a.owner=b.owner∧a.name=b.name):=by
 rintro ⟨e1,e2⟩
 simp only [Zb0,e1,e2,Zc4,Bool.and_false,Bool.or_false] at h
 cases h
theorem Zow :∀{fs:List DFolder},fs.Pairwise (fun a b=>Zb0 a b=true)→∀f,f∈fs→fs.find? (inF f.owner f.name)=some f
 | [],_,f,h=>by cases h
 | a :: fs,hp,f,h=>by
  cases hp with
  | cons h1 h2=>
   rw [List.find?_cons]
   rcases List.mem_cons.1 h with rfl | h
   ·simp [inF]
   ·have:=ZsV (h1 f h)
    have e:inF f.owner f.name a=false:=by
     rw [Bool.eq_false_iff];intro hc
     simp only [inF,Bool.and_eq_true,decide_eq_true_eq] at hc
     exact this hc
    rw [e]
    exact Zow h2 f h
theorem Zc5 {x:DHost} (h:Zw x=true) {f:DFolder} (hf:f∈x.folders):ZH x f.owner f.name=(f,true):=by
 rw [ZH,if_pos h,Zow (ZlV (ZaM.1 h).2.1.2.1) f hf]
end Go.BL
namespace Go.BL
open Go
def Zc2 (gs:List DGrant) (o u:Str):Int:=
 if ¬ (ZbQ gs=true∧Zah o=true∧Zah u=true) then -1 else if u=o then 63 else orI ((mget (Zfc gs) u).getD 0) ((mget (Zfc gs) anyone).getD 0)
theorem Zli {gs:List DGrant} {o u:Str} (h : ¬ (ZbQ gs=true∧Zah o=true∧Zah u=true)):Zc2 gs o u = -1:=by rw [Zc2,if_pos h]
theorem ZtM {gs:List DGrant} {o u:Str} (h1:ZbQ gs=true) (h2:Zah o=true) (h3:Zah u=true):Zc2 gs o u=if u=o then 63 else orI ((mget (Zfc gs) u).getD 0) ((mget (Zfc gs) anyone).getD 0):=by rw [Zc2,if_neg (fun h=>h ⟨h1,h2,h3⟩)]
def ZpX (us:List DUser) (f:DFolder) (u:Str) (r:Int):Bool:=(Za5 us u).2 && (decide (0≤Zc2 f.grants f.owner u) && !decide (ZvT (Zc2 f.grants f.owner u) r=0))
theorem ZpU {gs:List DGrant} (h:ZbQ gs=true):gs.Pairwise fun x y=>Op.bytesLess x.user y.user=true:=by
 simp only [ZbQ,Bool.and_eq_true] at h
 exact (ZfX (p:=Zcv) (f:=fun u=>u.user) (fun b x hq=>by simp only [Zcv,Bool.and_eq_true] at hq;exact hq.2) gs [] (Zdf gs).2 (Prod.ext h.1 rfl)).2
def ZhH (r b:Int):Bool:=decide (Int.tmod (Int.tdiv r b) 2=1)
theorem ZkQ (u:Str) (b:Int) (h0:ZhH 0 b=false) :∀{gs:List DGrant},gs.Pairwise (fun x y=>Op.bytesLess x.user y.user=true)→(gs.any fun g=>decide (g.user=u) && ZhH g.rights b)=ZhH ((mget (Zfc gs) u).getD 0) b
 | [],_=>by simp [Zfc,mget,h0]
 | g :: gs,hp=>by
  obtain ⟨h1,h2⟩:=List.pairwise_cons.1 hp
  have ih:=ZkQ u b h0 h2
  simp only [Zfc,List.map_cons,mget,List.any_cons] at ih ⊢
  by_cases hu:u=g.user
  ·subst hu
   have hn:(gs.any fun x=>decide (x.user=g.user) && ZhH x.rights b)=false:=by
    rw [List.any_eq_false]
    intro x hx hc
    simp only [Bool.and_eq_true,decide_eq_true_eq] at hc
    have:=h1 x hx
    rw [hc.1,Zc4] at this;cases this
   simp [hn]
  ·rw [if_neg hu,decide_eq_false (Ne.symm hu),← ih];simp
theorem Zne (u:Str) :∀{gs:List DGrant},(∀y,y∈gs→0≤y.rights∧y.rights≤63)→0≤(mget (Zfc gs) u).getD 0∧(mget (Zfc gs) u).getD 0≤63
 | [],_=>by simp [Zfc,mget]
 | g :: gs,h=>by
  have ih:=Zne u (gs:=gs) fun y hy=>h y (List.mem_cons_of_mem _ hy)
  simp only [Zfc,List.map_cons,mget] at ih ⊢
  by_cases hu:u=g.user
  ·rw [if_pos hu];exact h g (List.mem_cons_self ..)
  ·rw [if_neg hu];exact ih
theorem ZwC :∀a,a<64→∀b,b<64→0≤orI (a:Nat) (b:Nat)∧orI (a:Nat) (b:Nat)≤63∧(∀k,k<6→(!decide (ZvT (orI (a:Nat) (b:Nat)) (ZbA k)=0))=(ZhH (a:Nat) (ZbA k) || ZhH (b:Nat) (ZbA k)))∧(!decide (Int.tmod (orI (a:Nat) (b:Nat)) 2=0))=(ZhH (a:Nat) 1 || ZhH (b:Nat) 1)∧(!decide (Int.tmod (Int.tdiv (orI (a:Nat) (b:Nat)) 2) 2=0))=(ZhH (a:Nat) 2 || ZhH (b:Nat) 2):=by
 decide +kernel
theorem ZuJ :∀k,k<6→(!decide (ZvT 63 (ZbA k)=0))=true:=by decide +kernel
def ZzC (b0 b1 b2 b3 b4 b5:Bool):Int:=
 let s0:Int:=if b0=true then 0+ZbA 0 else 0
 let s1:=if b1=true then s0+ZbA 1 else s0
 let s2:=if b2=true then s1+ZbA 2 else s1
 let s3:=if b3=true then s2+ZbA 3 else s2
 let s4:=if b4=true then s3+ZbA 4 else s3
 if b5=true then s4+ZbA 5 else s4
theorem ZtC :∀b0 b1 b2 b3 b4 b5:Bool,∀k,k<6→ZhH (ZzC b0 b1 b2 b3 b4 b5) (ZbA k)=[b0,b1,b2,b3,b4,b5].getD k false:=by decide +kernel
theorem Zo2 {gs:List DGrant} {u:Str} {k:Nat} (hk:k<6):ZhH (ZbN gs u) (ZbA k)=gs.any (onB u (ZbA k)):=by
 have e:ZbN gs u=ZzC (gs.any (onB u (ZbA 0))) (gs.any (onB u (ZbA 1))) (gs.any (onB u (ZbA 2))) (gs.any (onB u (ZbA 3))) (gs.any (onB u (ZbA 4))) (gs.any (onB u (ZbA 5))):=rfl
 rw [e,ZtC _ _ _ _ _ _ k hk]
 have:k=0∨k=1∨k=2∨k=3∨k=4∨k=5:=by omega
 rcases this with rfl | rfl | rfl | rfl | rfl | rfl <;> rfl
theorem ZuM {gs:List DGrant} {u:Str} {b:Int} : gs.any (onB u b)=((gs.any fun g=>decide (g.user=u) && ZhH g.rights b) || (gs.any fun g=>decide (g.user=anyone) && ZhH g.rights b)):=by
 induction gs with
 | nil=>rfl
 | cons g gs ih=>
  simp only [List.any_cons,ih,onB,ZhH]
  cases decide (g.user=u) <;> cases decide (g.user=anyone) <;> cases decide (Int.tmod (Int.tdiv g.rights b) 2=1) <;> simp
theorem ZnU {k:Nat} (hk:k<6):ZhH 0 (ZbA k)=false:=by
 have:k=0∨k=1∨k=2∨k=3∨k=4∨k=5:=by omega
 rcases this with rfl | rfl | rfl | rfl | rfl | rfl <;> rfl
theorem ZlP {gs:List DGrant} {u:Str} (h:ZbQ gs=true) {k:Nat} (hk:k<6):(!decide (ZvT (orI ((mget (Zfc gs) u).getD 0) ((mget (Zfc gs) anyone).getD 0)) (ZbA k)=0))=ZhH (ZbN gs u) (ZbA k)∧0≤orI ((mget (Zfc gs) u).getD 0) ((mget (Zfc gs) anyone).getD 0)∧orI ((mget (Zfc gs) u).getD 0) ((mget (Zfc gs) anyone).getD 0)≤63∧(!decide (Int.tmod (orI ((mget (Zfc gs) u).getD 0) ((mget (Zfc gs) anyone).getD 0)) 2=0))=ZhH (ZbN gs u) 1∧(!decide (Int.tmod (Int.tdiv (orI ((mget (Zfc gs) u).getD 0) ((mget (Zfc gs) anyone).getD 0)) 2) 2=0))=ZhH (ZbN gs u) 2:=by
 obtain ⟨a0,a1⟩:=Zne u (Zfn h)
 obtain ⟨b0,b1⟩:=Zne anyone (Zfn h)
 have hs:=ZpU h
 have e1 :∀k,k<6→ZhH (ZbN gs u) (ZbA k)=(ZhH ((mget (Zfc gs) u).getD 0) (ZbA k) || ZhH ((mget (Zfc gs) anyone).getD 0) (ZbA k)):=fun k hk=>by
  rw [Zo2 hk,ZuM,ZkQ u _ (ZnU hk) hs,ZkQ anyone _ (ZnU hk) hs]
 generalize (mget (Zfc gs) u).getD 0=a at *
 generalize (mget (Zfc gs) anyone).getD 0=b at *
 obtain ⟨n,rfl⟩:=Int.eq_ofNat_of_zero_le a0
 obtain ⟨m,rfl⟩:=Int.eq_ofNat_of_zero_le b0
 obtain ⟨t1,t2,t3,t4,t5⟩:=ZwC n (by omega) m (by omega)
 have h0:=e1 0 (by omega)
 exact ⟨by rw [t3 k hk,e1 k hk],t1,t2,by rw [t4];exact h0.symm,by rw [t5];exact (e1 1 (by omega)).symm⟩
theorem Zii {x:DHost} {u:Str} (h:Zw x=true) (hu:0≤Zde x.users u):Zah u=true:=by
 obtain ⟨w,hw,rfl⟩:=Zbd.1 hu
 have:=Zhi (Zd3 h) hw
 simp only [Zcz,Bool.and_eq_true] at this
 exact this.1.1.1
theorem ZoJ {x:DHost} {f:DFolder} {u:Str} (h:Zw x=true) (hf:f∈x.folders) (hu:0≤Zde x.users u):Zc2 f.grants f.owner u=if u=f.owner then 63 else orI ((mget (Zfc f.grants) u).getD 0) ((mget (Zfc f.grants) anyone).getD 0):=by
 have hi:=(ZaM.1 h).2.1.1 f hf
 simp only [Z5,Bool.and_eq_true,decide_eq_true_eq] at hi
 rw [Zc2,if_neg (fun hc=>hc ⟨hi.1.2,Zii h hi.1.1.1,Zii h hu⟩)]
theorem Zuh {x:DHost} {f:DFolder} (h:Zw x=true) (hf:f∈x.folders):ZbQ f.grants=true:=by
 have hi:=(ZaM.1 h).2.1.1 f hf
 simp only [Z5,Bool.and_eq_true] at hi
 exact hi.1.2
theorem Zng {x:DHost} {f:DFolder} {u:Str} {k:Nat} (h:Zw x=true) (hf:f∈x.folders) (hk:k<6):ZpX x.users f u (ZbA k)=(decide (0≤Zde x.users u) && ZhB f u (ZbA k)):=by
 rw [ZpX,ZiT h]
 by_cases hu:0≤Zde x.users u
 ·rw [ZoJ h hf hu,ZhB]
  obtain ⟨r1,r2,r3,r4,r5⟩:=ZlP (gs:=f.grants) (u:=u) (Zuh h hf) hk
  by_cases ho:u=f.owner
  ·rw [if_pos ho,decide_eq_true ho,ZuJ k hk];simp
  ·rw [if_neg ho,decide_eq_false ho,r1,decide_eq_true r2];simp [ZhH]
 ·simp [hu]
theorem Zqy {x:DHost} {f:DFolder} {u:Str} (h:Zw x=true) (hf:f∈x.folders) (hu:0≤Zde x.users u):(!decide (Int.tmod (Zc2 f.grants f.owner u) 2=0))=ZhB f u 1∧(!decide (Int.tmod (Int.tdiv (Zc2 f.grants f.owner u) 2) 2=0))=ZhB f u 2∧0≤Zc2 f.grants f.owner u∧Zc2 f.grants f.owner u≤63:=by
 rw [ZoJ h hf hu,ZhB,ZhB]
 obtain ⟨r1,r2,r3,r4,r5⟩:=ZlP (gs:=f.grants) (u:=u) (Zuh h hf) (k:=0) (by omega)
 by_cases ho:u=f.owner
 ·rw [if_pos ho,decide_eq_true ho];exact ⟨rfl,rfl,by omega,by omega⟩
 ·rw [if_neg ho,decide_eq_false ho,r4,r5];exact ⟨by simp [ZhH],by simp [ZhH],r2,r3⟩
def Zh3:Nat→Int→Int→Bool
 | 0,_,_=>true
 | n+1,a,b=>if b≤0 then true else if Int.tmod b 2=1∧Int.tmod a 2=0 then false else Zh3 n (Int.tdiv a 2) (Int.tdiv b 2)
theorem ZtJ (a:Int):Zh3 1 a 1 = !decide (Int.tmod a 2=0):=by
 rw [Zh3,if_neg (by decide)]
 by_cases h:Int.tmod a 2=0
 ·rw [if_pos ⟨by decide,h⟩,decide_eq_true h];rfl
 ·rw [if_neg (fun hc=>h hc.2),decide_eq_false h];rfl
theorem Zrk {a:Int} (h1 : -100≤a) (h2:a≤100) : -100≤Int.tdiv a 2∧Int.tdiv a 2≤100∧(0≤a→0≤Int.tdiv a 2)∧(0<a→Int.tdiv a 2≤a - 1):=by
 rcases Int.le_total 0 a with h | h
 ·rw [Int.tdiv_eq_ediv_of_nonneg h];omega
 ·have e:Int.tdiv a 2 = -((-a) / 2):=by
   rw [← Int.tdiv_eq_ediv_of_nonneg (by omega:0≤-a),Int.neg_tdiv,Int.neg_neg]
  rw [e];omega
theorem ZoI {n:Nat} {a b:Int} (h:b≤0):Zh3 n a b=true:=by
 cases n with
 | zero=>rfl
 | succ n=>rw [Zh3,if_pos h]
theorem ZtK {n:Nat} {a b:Int} (h:0<b) (hn:b≤n) (h1:Int.tmod b 2=1) (h2:Int.tmod a 2=0):Zh3 n a b=false:=by
 obtain ⟨k,rfl⟩ :∃k,n=k+1:=⟨n - 1,by omega⟩
 rw [Zh3,if_neg (by omega),if_pos ⟨h1,h2⟩]
theorem ZmI {n:Nat} {a b:Int} (h:0<b) (hn:b≤n) (h1 : ¬ (Int.tmod b 2=1∧Int.tmod a 2=0)):Zh3 n a b=Zh3 (n - 1) (Int.tdiv a 2) (Int.tdiv b 2):=by
 obtain ⟨k,rfl⟩ :∃k,n=k+1:=⟨n - 1,by omega⟩
 rw [Zh3,if_neg (by omega),if_neg h1];rfl
theorem ZqJ {x:DHost} {f:DFolder} (h:Zw x=true) (hf:f∈x.folders):f.owner.length≤2000000:=by
 have hi:=(ZaM.1 h).2.1.1 f hf
 simp only [Z5,Bool.and_eq_true,decide_eq_true_eq] at hi
 have h8:=Zii h hi.1.1.1
 simp only [Zah,Bool.and_eq_true,decide_eq_true_eq] at h8
 omega
end Go.BL
namespace Go.BL
open Go
theorem Zuz {α:Type} {xs:List α} {k:Nat} {x z:α} (h:xs[k]? = some x):(xs.set k z)[k]? = some z:=List.getElem?_set_self (List.getElem?_eq_some_iff.1 h).1
end Go.BL
namespace Go.BL
open Go
end Go.BL
namespace Go.BL
open Go
def Zjr (us:List DUser) (fs:List DFolder) (u o n:Str) (r:Int):Nat:=
 if ZaB (inF o n) fs<0 then 1 else match fs[(ZaB (inF o n) fs).toNat]? with
  | none=>1
  | some f=>if ZpX us f u 1=false then 1 else if ZpX us f u r=false then 2 else 0
theorem ZrT {us:List DUser} {fs:List DFolder} {u o n:Str} {r:Int} (h:ZaB (inF o n) fs<0):Zjr us fs u o n r=1:=by rw [Zjr,if_pos h]
theorem Zla {us:List DUser} {fs:List DFolder} {u o n:Str} {r:Int} {f:DFolder} (h : ¬ ZaB (inF o n) fs<0) (hf:fs[(ZaB (inF o n) fs).toNat]? = some f):Zjr us fs u o n r=if ZpX us f u 1=false then 1 else if ZpX us f u r=false then 2 else 0:=by
 rw [Zjr,if_neg h,hf]
theorem ZrU (us:List DUser) (fs:List DFolder) (u o n:Str) (r:Int):Zjr us fs u o n r<3:=by
 unfold Zjr
 split
 ·omega
 ·split
  ·omega
  ·split
   ·omega
   ·split <;> omega
theorem ZvF {x:DHost} {u o n:Str} {k:Nat} (h:Zw x=true) (hk:k<6):((Zjr x.users x.folders u o n (ZbA k):Nat):Int)=Zgd x.users x.folders u (ZaB (inF o n) x.folders) (ZbA k):=by
 by_cases h0:ZaB (inF o n) x.folders<0
 ·rw [ZrT h0,Zlb (.inr h0)];rfl
 ·have hl:=ZcY (inF o n) x.folders
  obtain ⟨f,hf⟩:=Zeh (xs:=x.folders) (i:=ZaB (inF o n) x.folders) (by omega) (by omega)
  have hm:=List.mem_of_getElem? hf
  rw [Zla h0 hf]
  have e1:ZpX x.users f u 1=(decide (0≤Zde x.users u) && ZhB f u 1):=Zng (k:=0) h hm (by omega)
  rw [e1,Zng h hm hk]
  by_cases hu:Zde x.users u<0
  ·rw [Zlb (.inl hu),decide_eq_false (by omega)];rfl
  ·rw [ZrW (by omega) hf,decide_eq_true (by omega)]
   cases ZhB f u 1 <;> cases ZhB f u (ZbA k) <;> rfl
end Go.BL
namespace Go.BL
open Go
end Go.BL
namespace Go.BL
open Go
theorem Zor {α:Type} {p:α→Bool} {xs:List α} {x:α} (h:0≤ZaB p xs) (hx:xs[(ZaB p xs).toNat]? = some x):p x=true:=by
 unfold ZaB at h hx
 cases hq:xs.findIdx? p with
 | none=>rw [hq] at h;exact absurd h (by decide)
 | some i=>
  rw [hq] at hx
  obtain ⟨hl,hp,_⟩:=List.findIdx?_eq_some_iff_getElem.1 hq
  simp only [Int.toNat_natCast] at hx
  rw [List.getElem?_eq_getElem hl] at hx
  cases hx;exact hp
end Go.BL
namespace Go.BL
open Go
end Go.BL
namespace Go.BL
open Go
end Go.BL
namespace Go.BL
open Go
theorem Zu.perm {P:PJ} {f:FuncId} {args:List Value} {B:Kn} {Ls Ls':List Cells} {Post:Value→Kn→List Cells→Prop} (hp:Ls.flatten.Perm Ls'.flatten) (h:Zu P f args B Ls' Post):Zu P f args B Ls Post:=fun X kind c cs F hk hA=>by
 refine X.drop (r:=Ls'.flatten ++ F) (gl:=[]) ?_ (h X kind c cs F hk hA)
 rw [List.append_nil];exact hp.append_right F
theorem MLst.one {TL Tn:TypeId} {b bn:Nat} {m:DMail} {s:Cells} (hm:m.text.length≤2000000) (hp:s.Perm (Zas b [Go.BL.ptr ⟨bn,0,none⟩,Go.BL.ptr ⟨bn,0,none⟩,.int .i64 1] TL ++ Zas bn (ZhD m (.pointer none)) Tn)):MLst TL Tn b [m] s:=
 .inr ⟨_,bn,m,[],hp.trans (by simp),Zlj.init hm⟩
theorem MLst.add {TL Tn:TypeId} {b bl bn:Nat} {v0:Value} {x m:DMail} {rest s:Cells} {xs:List DMail} {k:Int} (h:Zlj Tn v0 bl x rest xs) (hm:m.text.length≤2000000) (hk:k=xs.length+1)
  (hp:s.Perm (Zas b [v0,Go.BL.ptr ⟨bn,0,none⟩,.int .i64 k] TL ++ (Zas bn (ZhD m (.pointer none)) Tn ++ (rest ++ Zas bl (ZhD x (Go.BL.ptr ⟨bn,0,none⟩)) Tn)))):MLst TL Tn b (xs ++ [m]) s:=by
 refine .inr ⟨v0,bn,m,rest ++ Zas bl (ZhD x (Go.BL.ptr ⟨bn,0,none⟩)) Tn,hp.trans ?_,h.step hm⟩
 rw [hk,List.length_append]
 simp
theorem Zzd {P:PJ} {S:Env} {B:Kn} {L:List Cells} {rs:List ResultVar} {Post:Value→Kn→List Cells→Prop} (e:Exit) (he:e = .ret∨e = .normal) (vs:List Value) (js:List Nat) {ss r:List Cells} (hp:Za0 L js=some (ss,r)) (hr:Zc8 P S B L rs vs) (hq:Post (ZdD vs) B [ss.flatten]):ZfC P rs Post e S [] B L:=
 ⟨he,rfl,vs,[ss.flatten],hr,⟨r.flatten,by simpa using ZaE js L ss r hp⟩,hq⟩
structure MOf where
 p:Option Addr
 ys:List DMail
 xs:List DMail
 l:Cells
 q:Option Addr
 c:Nat
 cells:Cells
end Go.BL
namespace Go.BL
open Go
theorem Zwv {α:Type} {xs:List α} {k:Nat} {x:α} (h:xs[k]? = some x):xs.set k x=xs:=by
 apply List.ext_getElem?
 intro i
 rw [List.getElem?_set]
 split
 ·rename_i e;subst e
  split
  ·rw [h]
  ·rename_i hl;rw [List.getElem?_eq_none (by omega)] at h;cases h
 ·rfl
theorem ZeL {x:DHost} {u:Str} {more:Int} (h:Zw x=true) (hu:0≤Zde x.users u):Zcl x u more=decide (ZcQ x.users u<(Za9 x.folders u:Int)+more):=by
 obtain ⟨w,hw,rfl⟩:=Zbd.1 hu
 rw [Zcl,Zgi (Zd3 h) hw,Zj1 (Zd3 h) hw,Zme h]
 rfl
def ZlT (x:DHost) (k:Nat) (fl:Int) (t:Str):Nat:=
 match x.folders[k]? with
 | none=>0
 | some f=>if ZcQ x.users f.owner<(Za9 x.folders f.owner:Int)+t.length then 3 else if (ZdQ f.box fl t).2=true then 0 else 4
theorem Ziw (x:DHost) (k:Nat) (fl:Int) (t:Str):((ZlT x k fl t:Nat):Int)=(ZaZ x k fl t).2:=by
 cases h:x.folders[k]? with
 | none=>simp only [ZlT,ZaZ,h];rfl
 | some f=>
  simp only [ZlT,ZaZ,h]
  split
  ·rfl
  ·split <;> rfl
theorem ZuF (x:DHost) (k:Nat) (fl:Int) (t:Str):ZlT x k fl t<5:=by
 unfold ZlT
 split
 ·omega
 ·split
  ·omega
  ·split <;> omega
theorem ZqG {x:DHost} {k:Nat} {fl:Int} {t:Str} {f:DFolder} (hok:Zw x=true) (hf:x.folders[k]? = some f) (h:Zcl x f.owner t.length=true):ZlT x k fl t=3∧ZaZ x k fl t=(x,3):=by
 have ho:0≤Zde x.users f.owner:=Zbd.2 (ZhQ (ZaK hok hf))
 rw [ZeL hok ho,decide_eq_true_eq] at h
 have e:=ZfZ (fl:=fl) hf h
 have e2:=Ziw x k fl t
 rw [e] at e2
 exact ⟨by have:((ZlT x k fl t:Nat):Int)=3:=e2;omega,e⟩
theorem ZsB {x:DHost} {k:Nat} {fl:Int} {t:Str} {f:DFolder} (hok:Zw x=true) (hf:x.folders[k]? = some f) (h:Zcl x f.owner t.length=false) (h2:(ZdQ f.box fl t).2=false):ZlT x k fl t=4∧ZaZ x k fl t=(x,4):=by
 have ho:0≤Zde x.users f.owner:=Zbd.2 (ZhQ (ZaK hok hf))
 rw [ZeL hok ho,decide_eq_false_iff_not] at h
 have e:=ZgQ hf h h2
 have e2:=Ziw x k fl t
 rw [e] at e2
 exact ⟨by have:((ZlT x k fl t:Nat):Int)=4:=e2;omega,e⟩
theorem ZsC {x:DHost} {k:Nat} {fl:Int} {t:Str} {f:DFolder} (hok:Zw x=true) (hf:x.folders[k]? = some f) (h:Zcl x f.owner t.length=false) (h2:(ZdQ f.box fl t).2=true):ZlT x k fl t=0∧ZaZ x k fl t=(x.withFolders (x.folders.set k (f.withBox (ZdQ f.box fl t).1)),0):=by
 have ho:0≤Zde x.users f.owner:=Zbd.2 (ZhQ (ZaK hok hf))
 rw [ZeL hok ho,decide_eq_false_iff_not] at h
 have e:=ZgR hf h h2
 have e2:=Ziw x k fl t
 rw [e] at e2
 exact ⟨by have:((ZlT x k fl t:Nat):Int)=0:=e2;omega,e⟩
theorem ZzE {B:Kn} {L:List Cells} {b o:Nat} {row vs:List Value} {a:Addr} (hc :∀(m:Nat) (u:Value),row[m]? = some u→Zbi B L.flatten ⟨b,o+m,none⟩ u) (off:Nat) (ha:a=⟨b,o+off,none⟩) (hv:(row.drop off).take vs.length=vs):Zsd B L a vs:=by
 intro i v hi
 subst ha
 rw [Addr.add_off _ _ rfl]
 have hlt:i<vs.length:=(List.getElem?_eq_some_iff.1 hi).1
 have:row[off+i]? = some v:=by
  have e:=congrArg (fun l=>l[i]?) hv
  simp only [List.getElem?_take,if_pos hlt,List.getElem?_drop] at e
  rw [e,hi]
 have:=hc _ v this
 rwa [show o+(off+i)=o+off+i from by omega] at this
theorem ZcO.cellA {α:Type} {l:Cells} {p:Option Addr} {c:Nat} {T:TypeId} {w:Nat} {R:ZjD α} {xs:List α} (h:ZcO l p c T w R xs) {i:Nat} {x:α} (hx:xs[i]? = some x) :
∃b row li lr,p=some ⟨b,0,none⟩∧R row x li∧row.length=w∧l.Perm (li ++ lr)∧(∀(B:Kn) (L:List Cells) (j:Nat),L[j]? = some l→∀(m:Nat) (u:Value),row[m]? = some u→Zbi B L.flatten ⟨b,i*w+m,none⟩ u)∧(∀(B:Kn) (L:List Cells) (j:Nat),L[j]? = some lr→∀(m:Nat) (u:Value),row[m]? = some u→Zbi B L.flatten ⟨b,i*w+m,none⟩ u)∧∀x' li',R row x' li'→ZcO (li' ++ lr) p c T w R (xs.set i x'):=by
 obtain ⟨b,arr,row,li,lr,e1,e2,e3,e4,e5,e6⟩:=h.open1 hx
 refine ⟨b,row,li,Zas b arr T ++ lr,e1,e2,e3,e4,fun B L j hj m u hm=>⟨rfl,arr.toArray,T,(0,0),.inr ?_,by simpa using e5 m u hm⟩,fun B L j hj m u hm=>⟨rfl,arr.toArray,T,(0,0),.inr ?_,by simpa using e5 m u hm⟩,e6⟩
 ·exact List.mem_flatten.2 ⟨l,List.mem_of_getElem? hj,e4.mem_iff.2 (List.mem_append_right _ (List.mem_append_left _ (List.mem_singleton.2 rfl)))⟩
 ·exact List.mem_flatten.2 ⟨_,List.mem_of_getElem? hj,List.mem_append_left _ (List.mem_singleton.2 rfl)⟩
def ZjG (x:DHost) (u o n:Str) (fl:Int) (t:Str):Nat:=if Zjr x.users x.folders u o n 8=0 then ZlT x (ZaB (inF o n) x.folders).toNat fl t else Zjr x.users x.folders u o n 8
def ZfY (x:DHost) (u o n:Str) (fl:Int) (t:Str):DHost:=if Zjr x.users x.folders u o n 8=0 then (ZaZ x (ZaB (inF o n) x.folders).toNat fl t).1 else x
theorem Zog (x:DHost) (u o n:Str) (fl:Int) (t:Str):ZjG x u o n fl t<5:=by
 unfold ZjG
 split
 ·exact ZuF _ _ _ _
 ·have:=ZrU x.users x.folders u o n 8;omega
theorem Ztz {x:DHost} {u o n:Str} {r:Int} (h:Zjr x.users x.folders u o n r=0):0≤ZaB (inF o n) x.folders:=by
 unfold Zjr at h
 split at h
 ·cases h
 ·omega
theorem Zrc {x:DHost} {u o n:Str} {fl:Int} {t:Str} {ar:Bool} (h:ar=true↔Zae fl=true∧t.length≤20):((if ar=true∧Zw x=true then (ZfY x u o n fl t,(ZjG x u o n fl t:Int)) else (ZaO,5)):DHost × Int)=ZcL x u o n fl t:=by
 unfold ZcL
 by_cases hh:Zw x=true∧Zae fl=true∧t.length≤20
 ·rw [if_pos ⟨h.2 hh.2,hh.1⟩,if_neg (fun k=>k hh)]
  have hce:((Zjr x.users x.folders u o n 8:Nat):Int)=Zgd x.users x.folders u (ZaB (inF o n) x.folders) 8:=ZvF (k:=3) hh.1 (by omega)
  by_cases h0:Zjr x.users x.folders u o n 8=0
  ·rw [if_neg (by omega),ZfY,ZjG,if_pos h0,if_pos h0,Ziw]
  ·rw [if_pos (by omega),ZfY,ZjG,if_neg h0,if_neg h0,hce]
 ·rw [if_neg (fun k=>hh ⟨k.2,h.1 k.1⟩),if_pos hh]
end Go.BL
namespace Go.BL
open Go
theorem ZqH (x:DHost) (k:Nat) (fl:Int) (t:Str):ZlT x k fl t=0∨ZlT x k fl t=3∨ZlT x k fl t=4:=by
 unfold ZlT
 split
 ·exact .inl rfl
 ·split
  ·exact .inr (.inl rfl)
  ·split
   ·exact .inl rfl
   ·exact .inr (.inr rfl)
end Go.BL
namespace Go.BL
open Go
theorem Zrd {x:DHost} {u o n:Str} {fl:Int} {t:Str} (h:(ZcL x u o n fl t).2=0):Zw x=true∧Zae fl=true∧t.length≤20∧Zw (ZcL x u o n fl t).1=true∧∃k f,x.folders[k]? = some f∧f.owner=o∧f.name=n∧(ZdQ f.box fl t).2=true∧(ZcL x u o n fl t).1=x.withFolders (x.folders.set k (f.withBox (ZdQ f.box fl t).1)):=by
 have hv:Zw x=true→_:=fun hx=>@Zrm x u o n fl t hx
 unfold ZcL at h hv ⊢
 by_cases h1 : ¬ (Zw x=true∧Zae fl=true∧t.length≤20)
 ·rw [if_pos h1] at h;exact absurd h (show ¬ ((5:Int)=0) by decide)
 ·rw [if_neg h1] at h hv ⊢
  obtain ⟨hok,hfl,ht⟩:=Decidable.not_not.1 h1
  replace hv:=hv hok
  by_cases h2:Zgd x.users x.folders u (ZaB (inF o n) x.folders) 8≠0
  ·rw [if_pos h2] at h;exact absurd h h2
  ·rw [if_neg h2] at h hv ⊢
   refine ⟨hok,hfl,ht,hv.resolve_left (by omega),?_⟩
   obtain ⟨_,hk,f,hf,_,_⟩:=Zdg (Decidable.not_not.1 h2)
   have hp:=Zor hk hf
   simp only [inF,Bool.and_eq_true,decide_eq_true_eq] at hp
   refine ⟨_,f,hf,hp.1,hp.2,?_⟩
   by_cases hq:ZcQ x.users f.owner<(Za9 x.folders f.owner:Int)+t.length
   ·rw [ZfZ hf hq] at h;exact absurd h (show ¬ ((3:Int)=0) by decide)
   ·cases ha:(ZdQ f.box fl t).2 with
    | true=>exact ⟨rfl,by rw [ZgR hf hq ha]⟩
    | false=>rw [ZgQ hf hq ha] at h;exact absurd h (show ¬ ((4:Int)=0) by decide)
theorem Zqx {x y:DHost} {k:Nat} {f:DFolder} {b:DBox} (hok:Zw x=true) (hoy:Zw y=true) (hf:x.folders[k]? = some f) (hy:y.folders=x.folders.set k (f.withBox b)) :
  ZH x f.owner f.name=(f,true)∧ZH y f.owner f.name=(f.withBox b,true)∧∀g,g∈x.folders→(g.owner≠f.owner∨g.name≠f.name)→ZH y g.owner g.name=(g,true):=by
 refine ⟨Zc5 hok (List.mem_of_getElem? hf),?_,fun g hg hn=>?_⟩
 ·exact Zc5 hoy (f:=f.withBox b) (by rw [hy];exact List.mem_of_getElem? (Zuz hf))
 ·refine Zc5 hoy ?_
  obtain ⟨i,hi⟩:=List.mem_iff_getElem?.1 hg
  have hik:i≠k:=fun e=>by
   subst e;rw [hf] at hi;cases hi
   rcases hn with hn | hn <;> exact hn rfl
  rw [hy]
  refine List.mem_of_getElem? (i:=i) ?_
  rw [List.getElem?_set_ne (Ne.symm hik)];exact hi
theorem Zps {x:DHost} {u o n:Str} {fl:Int} {t:Str} (h:(ZcL x u o n fl t).2=0) :
∃f,Zw (ZcL x u o n fl t).1=true∧Zbf f.box=true∧Zae fl=true∧t.length≤20∧ZH x o n=(f,true)∧ZH (ZcL x u o n fl t).1 o n=(f.withBox (ZdQ f.box fl t).1,true)∧(ZdQ f.box fl t).2=true∧(∀g,g∈x.folders→(g.owner≠o∨g.name≠n)→ZH (ZcL x u o n fl t).1 g.owner g.name=(g,true)):=by
 obtain ⟨hok,hfl,ht,hoy,k,f,hf,rfl,rfl,ha,he⟩:=Zrd h
 obtain ⟨a,b,d⟩:=Zqx (b:=(ZdQ f.box fl t).1) hok hoy hf (by rw [he];rfl)
 exact ⟨f,hoy,Zbu (ZaK hok hf),hfl,ht,a,b,ha,d⟩
theorem ZpR (a:Int):Zh3 8 a 8 = !decide (Int.tmod (Int.tdiv (Int.tdiv (Int.tdiv a 2) 2) 2) 2=0):=by
 rw [Zh3,if_neg (by decide),if_neg (fun hc=>absurd hc.1 (by decide)),show Int.tdiv 8 2=4 from rfl,Zh3,if_neg (by decide),if_neg (fun hc=>absurd hc.1 (by decide)),show Int.tdiv 4 2=2 from rfl,Zh3,if_neg (by decide),if_neg (fun hc=>absurd hc.1 (by decide)),show Int.tdiv 2 2=1 from rfl,Zh3,if_neg (by decide)]
 by_cases h:Int.tmod (Int.tdiv (Int.tdiv (Int.tdiv a 2) 2) 2) 2=0
 ·rw [if_pos ⟨by decide,h⟩,decide_eq_true h];rfl
 ·rw [if_neg (fun hc=>h hc.2),decide_eq_false h,ZoI (by decide)];rfl
theorem ZrJ :∀a,a<64→(!decide (ZvT (a:Nat) 8=0)) = !decide (Int.tmod (Int.tdiv (Int.tdiv (Int.tdiv (a:Nat) 2) 2) 2) 2=0):=by decide +kernel
theorem ZuE {x:DHost} {f:DFolder} {u:Str} (h:Zw x=true) (hf:f∈x.folders) (hu:0≤Zde x.users u):Zh3 8 (Zc2 f.grants f.owner u) 8=ZhB f u 8:=by
 have h1:=Zng (u:=u) (k:=3) h hf (by omega)
 rw [show ZbA 3=8 from rfl,decide_eq_true hu,Bool.true_and] at h1
 obtain ⟨_,_,h0,h63⟩:=Zqy h hf hu
 rw [ZpX,ZiT h,decide_eq_true hu,Bool.true_and,decide_eq_true h0,Bool.true_and] at h1
 rw [ZpR,← h1]
 obtain ⟨n,hn⟩:=Int.eq_ofNat_of_zero_le h0
 rw [hn];exact (ZrJ n (by omega)).symm
theorem ZtA {us:List DUser} {fs:List DFolder} {u:Str} {k r:Int} (h:Zgd us fs u k r=2):0≤Zde us u∧0≤k∧∃f,fs[k.toNat]? = some f∧ZhB f u 1=true∧ZhB f u r=false:=by
 unfold Zgd at h
 split at h
 ·cases h
 ·split at h
  ·cases h
  ·rename_i f hf
   split at h
   ·cases h
   ·split at h
    ·rename_i h1 h2 h3
     exact ⟨by omega,by omega,f,hf,by simpa using h2,h3⟩
    ·cases h
theorem Zns {x:DHost} {u o n:Str} {fl:Int} {t:Str} (h5:(ZcL x u o n fl t).2≠5) (h1:(ZcL x u o n fl t).2≠1) :
∃f,ZH x o n=(f,true)∧-1≤Zc2 f.grants o u∧Zc2 f.grants o u≤63∧Zh3 1 (Zc2 f.grants o u) 1=true∧Zh3 8 (Zc2 f.grants o u) 8 = !decide ((ZcL x u o n fl t).2=2):=by
 unfold ZcL at h5 h1 ⊢
 by_cases g1 : ¬ (Zw x=true∧Zae fl=true∧t.length≤20)
 ·rw [if_pos g1] at h5;exact absurd rfl h5
 ·rw [if_neg g1] at h5 h1 ⊢
  obtain ⟨hok,_,_⟩:=Decidable.not_not.1 g1
  have fin :∀f c,0≤ZaB (inF o n) x.folders→x.folders[(ZaB (inF o n) x.folders).toNat]? = some f→0≤Zde x.users u→ZhB f u 1=true→ZhB f u 8=c→∃f,ZH x o n=(f,true)∧-1≤Zc2 f.grants o u∧Zc2 f.grants o u≤63∧Zh3 1 (Zc2 f.grants o u) 1=true∧Zh3 8 (Zc2 f.grants o u) 8=c:=fun f c hk hf hu hc1 hc8=>by
   have hp:=Zor hk hf
   simp only [inF,Bool.and_eq_true,decide_eq_true_eq] at hp
   obtain ⟨rfl,rfl⟩:=hp
   have hm:=List.mem_of_getElem? hf
   obtain ⟨s1,_,s3,s4⟩:=Zqy hok hm hu
   exact ⟨f,Zc5 hok hm,by omega,by omega,by rw [ZtJ,s1];exact hc1,by rw [ZuE hok hm hu];exact hc8⟩
  rcases ZrV x.users x.folders u (ZaB (inF o n) x.folders) 8 with e | e | e
  ·rw [if_neg (by omega)] at h5 h1 ⊢
   obtain ⟨hu,hk,f,hf,hc1,hc8⟩:=Zdg e
   have hv:=ZqH x (ZaB (inF o n) x.folders).toNat fl t
   have he:=Ziw x (ZaB (inF o n) x.folders).toNat fl t
   refine fin f _ hk hf hu hc1 ?_
   rw [hc8,decide_eq_false (by omega)];rfl
  ·rw [if_pos (by omega)] at h1;exact absurd e h1
  ·rw [if_pos (by omega)] at h5 h1 ⊢
   obtain ⟨hu,hk,f,hf,hc1,hc8⟩:=ZtA e
   refine fin f _ hk hf hu hc1 ?_
   rw [hc8,decide_eq_true e];rfl
theorem Zta {x:DHost} {u o n:Str} {fl:Int} {t:Str} (h:x.domain.length≤2000000):(ZcL x u o n fl t).1.domain.length≤2000000:=by
 unfold ZcL
 split
 ·simp [ZaO]
 ·split
  ·exact h
  ·rw [(ZR (x:=x)).2.2.1];exact h
end Go.BL
namespace Go.BL
open Go
end Go.BL
namespace Go.BL
open Go
end Go.BL
namespace Go.BL
section
variable {P:PJ} {n:Nat} {ops:Array Oper} {i:Nat} {K:Zao} {S:Env} {D:List Deferred} {B:Kn} {L:List Cells}
variable {dst:Option Tmp} {ty:TypeId} {pos:String} {after:Array Edge} {g:Option (Nat × Bool)}
end
end Go.BL
