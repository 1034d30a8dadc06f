/-
  THE WALK'S LOGIC: owned cells and known cells, goroutines started and awaited, calls, loops, data, and plain laws on lists: no program in sight.
-/
import Derived.Test.YtonfijmgahdgeaaGreatDoorB0
set_option linter.unusedVariables false
set_option linter.unusedSimpArgs false
set_option linter.unusedSectionVars false
namespace Go.BL
open Go.Conc (G)
def ZZ (Tg Tm:TypeId):Zg2 DFolder:=fun row x ins=>∃q c q' c' i1 i2,row=[str x.owner,str x.name,.slice q x.grants.length c,.int .i64 x.next,.slice q' x.mail.length c']∧ins=i1 ++ i2∧ZW Kn.none i1 q c Tg 2 Zac x.grants∧ZW Kn.none i2 q' c' Tm 3 Zab x.mail∧
 x.owner.length≤2000000∧x.name.length≤2000000∧x.grants.length≤2000000∧x.mail.length≤2000000
theorem ZZ.known {Tg Tm:TypeId} {B:Kn} {row:List Value} {x:DFolder} {ins:Cells} (h:ZZ Tg Tm row x ins) (hm :∀q,q∈ins→B.mem q.1=some q.2):Zm B row x:=by
 obtain ⟨q,c,q',c',i1,i2,h1,rfl,h2,h3,h4,h5,h6,h7⟩:=h
 exact ⟨q,c,q',c',h1,⟨h2.rowsF Zac.any fun p hp=>hm p (List.mem_append.2 (.inl hp)),h2.cap,h6⟩,⟨h3.rowsF Zab.any fun p hp=>hm p (List.mem_append.2 (.inr hp)),h3.cap,h7⟩,h4,h5⟩
theorem All3.set {α:Type} {R:Zg2 α} {rows:List (List Value)} {xs:List α} {s:Cells} (h:All3 R rows xs s) {row:List Value} {z:α} {ins:Cells} (hz:R row z ins) :∀k,k<xs.length→∃s' gl,All3 R (rows.set k row) (xs.set k z) s'∧(s ++ ins).Perm (s' ++ gl):=by
 induction h with
 | nil=>intro k hk;simp at hk
 | @cons row0 x ins0 rest rows xs h1 h2 ih=>
  intro k hk
  cases k with
  | zero=>
   refine ⟨ins ++ rest,ins0,.cons hz h2,?_⟩
   exact Zop fun f g h0 ha hc=>by simp only [ha];omega
  | succ k=>
   obtain ⟨s',gl,h3,h4⟩:=ih k (by simpa using hk)
   refine ⟨ins0 ++ s',gl,.cons h1 h3,?_⟩
   rw [List.append_assoc,List.append_assoc]
   exact List.Perm.append_left _ h4
theorem All3.zeros {α:Type} {R:Zg2 α} {row:List Value} {d:α} (h:R row d []) :∀m,All3 R (List.replicate m row) (List.replicate m d) []
 | 0=>.nil
 | m+1=>by rw [List.replicate_succ,List.replicate_succ];exact All3.cons (ins:=[]) h (All3.zeros h m)
theorem ZaV.zeros {α:Type} {b:Nat} {T:TypeId} {R:Zg2 α} {zs:List Value} {d:α} {m c w:Nat} (hw:zs.length=w) (hR:R zs d []) (hmc:m≤c):ZaV (ZN b (zrow zs c) T) (some ⟨b,0,Option.none⟩) c T w R (List.replicate m d):=by
 refine ⟨List.replicate m zs,_,[],All3.zeros hR m,fun r hr=>by rw [(List.mem_replicate.1 hr).2];exact hw,by rw [List.append_nil],?_,.inr ⟨b,_,rfl,by rw [Zck,hw],?_,rfl,by rw [List.length_replicate];exact hmc⟩⟩
 ·rw [List.length_replicate]
  exact (Zck (z:=zs) (c:=m)).trans (by rw [hw])
 ·rw [List.length_replicate]
  have e:zrow zs c=zrow zs m ++ zrow zs (c - m):=by
   simp only [zrow,← List.flatten_append,List.replicate_append_replicate]
   rw [show m+(c - m)=c from by omega]
  rw [e,List.take_append_of_le_length (by rw [Zck,hw];exact Nat.le_refl _),List.take_of_length_le (by rw [Zck,hw];exact Nat.le_refl _)]
  rfl
theorem ZgF :∀{l vs:List Value},l.length=vs.length→Zad l 0 vs=vs
 | l,[],h=>by rw [ZbN];exact List.eq_nil_of_length_eq_zero h
 | [],v :: vs,h=>by simp at h
 | x :: l,v :: vs,h=>by
  have:=ZgF (l:=l) (vs:=vs) (by simpa using h)
  simp [Zad,this]
section
variable {P:PJ} {n:Nat} {ops:Array Oper} {i:Nat} {K:ZaO} {S:Env} {D:List Deferred} {B:Kn} {L:List Cells} {Q:Exit→Zai}
variable {dst:Option Tmp} {ty:TypeId} {pos:String} {after:Array Edge} {g:Option (Nat × Bool)}
theorem Zmi {o:Oper} {L':List Cells} {K':ZaO} (hp:L.flatten.Perm L'.flatten) (h:opX P n ops i o K' S D B L') (hk :∀v D' B' L₁,B.le B'→K' v D' B' L₁→∃L₂ gl,L₁.flatten.Perm (L₂.flatten ++ gl)∧K v D' B' L₂):opX P n ops i o K S D B L:=⟨h.1,fun C todo k T ho hn hT hA=>
 C.X.perm (hp.append_right _) (h.2 C todo k T ho hn hT fun v D' B' L₁ hle hK=>by
  obtain ⟨L₂,gl,hp2,hK2⟩:=hk v D' B' L₁ hle hK
  refine C.X.drop (r:=L₂.flatten ++ C.F) (gl:=gl) ((hp2.append_right _).trans ?_) (hA v D' B' L₂ hle hK2)
  rw [List.append_assoc,List.append_assoc]
  exact List.Perm.append_left _ List.perm_append_comm)⟩
theorem Zwn {α:Type} {R:Zg2 α} {xs:List α} (z:α) {t T:TypeId} {x y:Operand} {v:Value} {row:List Value} {sz k c b:Nat} {l:Cells} {p:Option Addr} {inss r:List Cells} (j:Nat) (ks:List Nat) (hpk:ZaB L (j :: ks)=some (l :: inss,r)) (hnd:ZeL (j :: ks)=true) (hv:ZaV l p c T sz R xs) (hp:p=some ⟨b,0,Option.none⟩) (hk:k<xs.length) (hg:Zk ops S g=some true) (hd:Zx n dst=true) (hsz:ZQ P t=some sz)
  (hx:ev S x=some (ptr ⟨b,k*sz,Option.none⟩)) (hy:ev S y=some v) (hvc:v.cells=row.toArray) (ho:row.all ZhS=true) (hrl:row.length=sz) (ins0:Cells) (hi0:inss.flatten=ins0) (hr:R row z ins0)
  (h :∀l',ZaV l' p c T sz R (xs.set k z)→K undef D B (ZcA r (j :: ks) (l' :: inss.map fun _=>[]))):opX P n ops i ⟨dst,.store t x y,ty,pos,after,g⟩ K S D B L:=by
 subst hp
 subst hi0
 obtain ⟨rows,blk,ins,h1,h2,h3,hl1,⟨hc,_⟩ | ⟨b',arr,e,ha,ht,rfl,hmc⟩⟩:=hv
 ·cases hc
 ·cases e
  have hpp:=Zal (j :: ks) L (l :: inss) r hpk
  have hb1:k*sz+row.length≤arr.length:=by
   have:(k+1)*sz≤c*sz:=Nat.mul_le_mul_right sz (by omega)
   rw [Nat.succ_mul] at this;omega
  obtain ⟨s',gl,a1,a2⟩:=h1.set hr k hk
  refine Zmi (L':=[ZN b arr T ++ ins,inss.flatten ++ r.flatten]) (K':=fun u D' B' L₁=>u=undef∧D'=D∧B'=B∧L₁=[ZN b (Zad arr (k*sz) row) T ++ ins,inss.flatten ++ r.flatten]) ?_ ?_ ?_
  ·refine hpp.trans ?_
   simp only [List.flatten_cons,List.flatten_nil,List.append_nil,List.append_assoc]
   refine (h3.append_right _).trans ?_
   rw [List.append_assoc]
  ·exact ZL row 0 (Zad arr (k*sz) row) hg hd (by rw [hrl];exact hsz) hx hy hvc ho (T:=T) (r:=ins) rfl rfl (by rw [Nat.ble_eq];exact hb1) rfl ⟨rfl,rfl,rfl,rfl⟩
  ·rintro u D' B' L₁ hle ⟨rfl,rfl,rfl,rfl⟩
   have hlen:k<rows.length:=by rw [h1.len];exact hk
   have hnew:ZaV (ZN b (Zad arr (k*sz) row) T ++ s') (some ⟨b,0,Option.none⟩) c T sz R (xs.set k z):=by
    refine ⟨rows.set k row,_,s',a1,fun r' hr'=>?_,.refl _,?_,.inr ⟨b,_,rfl,by rw [Zaa];exact ha,?_,rfl,by rw [List.length_set];exact hmc⟩⟩
    ·rcases List.mem_or_eq_of_mem_set hr' with hr' | rfl
     ·exact h2 r' hr'
     ·exact hrl
    ·rw [Zdl (w:=sz),List.length_set,List.length_set,h1.len]
     intro r' hr'
     rcases List.mem_or_eq_of_mem_set hr' with hr' | rfl
     ·exact h2 r' hr'
     ·exact hrl
    ·rw [List.length_set]
     have hr1:rows[k]? = some rows[k]:=List.getElem?_eq_getElem hlen
     have hrow0:rows[k].length=sz:=h2 _ (List.getElem_mem hlen)
     have e:=Zdf (us:=row) (off:=0) h2 hr1 (by omega)
     rw [ZgF (by rw [hrow0,hrl]),Nat.add_zero] at e
     have hb2:k*sz+row.length≤xs.length*sz:=by
      have:(k+1)*sz≤xs.length*sz:=Nat.mul_le_mul_right sz hk
      rw [Nat.succ_mul] at this;omega
     have hb3:xs.length*sz≤arr.length:=by rw [ha];exact Nat.mul_le_mul_right sz hmc
     rw [Zdr _ _ _ _ hb2 hb3,ht,e]
   refine ⟨_,gl,?_,h _ hnew⟩
   have hq:=Zb2 ((ZN b (Zad arr (k*sz) row) T ++ s') :: inss.map fun _=>[]) r (j :: ks) (Zb5 hnd) (fun jj hj=>Zb3 (j :: ks) L (l :: inss) r hpk jj (.inr hj))
   have hnil:((inss.map fun _=>([]:Cells))).flatten=[]:=by
    clear hpk hpp hq hr h
    induction inss with
    | nil=>rfl
    | cons a as ih=>simp
   rw [List.flatten_cons,hnil,List.append_nil] at hq
   simp only [List.flatten_cons,List.flatten_nil,List.append_nil]
   refine List.Perm.trans ?_ (hq.append_right gl)
   have e1:(ZN b (Zad arr (k*sz) row) T ++ ins ++ (inss.flatten ++ r.flatten)).Perm (ZN b (Zad arr (k*sz) row) T ++ ((ins ++ inss.flatten) ++ r.flatten)):=by simp only [List.append_assoc];exact .refl _
   have e2:(ZN b (Zad arr (k*sz) row) T ++ ((ins ++ inss.flatten) ++ r.flatten)).Perm (ZN b (Zad arr (k*sz) row) T ++ ((s' ++ gl) ++ r.flatten)):=List.Perm.append_left _ (a2.append_right _)
   refine (e1.trans e2).trans ?_
   exact Zop fun f g h0 ha hc=>by simp only [ha];omega
end
section
variable {P:PJ} {n:Nat} {ops:Array Oper} {i:Nat} {K:ZaO} {S:Env} {D:List Deferred} {B BV:Kn} {L:List Cells}
variable {dst:Option Tmp} {ty:TypeId} {pos:String} {after:Array Edge} {g:Option (Nat × Bool)}
theorem Zpi {α:Type} {R:Rel α} {xs:List α} (z:α) {t T:TypeId} {x y:Operand} {v:Value} {row:List Value} {l:Cells} {p:Option Addr} {c sz k b:Nat} (j:Nat) (hj:L[j]? = some l) (hv:ZW BV l p c T sz R xs) (hp:p=some ⟨b,0,none⟩) (hk:k<xs.length) (hg:Zk ops S g=some true) (hd:Zx n dst=true) (hsz:ZQ P t=some sz)
  (hx:ev S x=some (ptr ⟨b,k*sz,none⟩)) (hy:ev S y=some v) (hvc:v.cells=row.toArray) (ho:row.all ZhS=true) (hrl:row.length=sz) (hr:R BV row z)
  (h :∀l',ZW BV l' p c T sz R (xs.set k z)→K undef D B (L.set j l')):opX P n ops i ⟨dst,.store t x y,ty,pos,after,g⟩ K S D B L:=by
 obtain ⟨rows,h1,h2,h3,⟨rfl,_,_,_⟩ | ⟨b',arr,rfl,ha,ht,rfl,hmc⟩⟩:=hv
 ·cases hp
 ·cases hp
  have hlen:k<rows.length:=by rw [h1.len];exact hk
  have hr1:rows[k]? = some rows[k]:=List.getElem?_eq_getElem hlen
  have hrow0:rows[k].length=sz:=h2 _ (List.getElem_mem hlen)
  have hb1:k*sz+row.length≤xs.length*sz:=by
   have:(k+1)*sz≤xs.length*sz:=Nat.mul_le_mul_right sz hk
   rw [Nat.succ_mul] at this;omega
  have hb2:xs.length*sz≤arr.length:=by rw [ha];exact Nat.mul_le_mul_right sz hmc
  refine ZL row j (Zad arr (k*sz) row) hg hd (by rw [hrl];exact hsz) hx hy hvc ho (r:=[]) hj rfl (by rw [Nat.ble_eq];show k*sz+row.length≤arr.length;omega) rfl (h _ ?_)
  have e:=Zdf (us:=row) (off:=0) h2 hr1 (by omega)
  rw [ZgF (by rw [hrow0,hrl]),Nat.add_zero] at e
  refine ⟨rows.set k row,h1.set hr k,fun r hr'=>?_,?_,.inr ⟨b,_,rfl,by rw [Zaa];exact ha,?_,rfl,by rw [List.length_set];exact hmc⟩⟩
  ·rcases List.mem_or_eq_of_mem_set hr' with hr' | rfl
   ·exact h2 r hr'
   ·exact hrl
  ·rw [← e,Zaa,List.length_set];exact h3
  ·rw [List.length_set,Zdr _ _ _ _ hb1 hb2,ht,e]
end
def fill {α:Type} (xs:List α) (d:α) (k:Nat):List α:=xs.take k ++ List.replicate (xs.length - k) d
theorem ZeE {α:Type} {xs:List α} {d:α} {k:Nat} (h:k≤xs.length):(fill xs d k).length=xs.length:=by
 rw [fill,List.length_append,List.length_take,List.length_replicate];omega
theorem Zdz {α:Type} {xs:List α} {d:α} : fill xs d 0=List.replicate xs.length d:=by simp [fill]
theorem ZeF {α:Type} {xs:List α} {d:α} {k:Nat} (h:xs.length≤k):fill xs d k=xs:=by
 rw [fill,List.take_of_length_le h,show xs.length - k=0 from by omega];simp
theorem ZdA {α:Type} {xs:List α} {d z:α} {k:Nat} (hz:xs[k]? = some z):(fill xs d k).set k z=fill xs d (k+1):=by
 have hk:=(List.getElem?_eq_some_iff.1 hz).1
 have e1:(xs.take k).length=k:=by rw [List.length_take];omega
 rw [fill,fill,List.set_append_right _ _ (by omega),e1,Nat.sub_self,List.take_add_one,hz,show xs.length - k=(xs.length - (k+1))+1 from by omega,List.replicate_succ]
 simp
theorem Zw.borrowL {P:PJ} {f:FuncId} {args:List Value} {B:Kn} {ls Ls:List Cells} {Post:Value→Kn→List Cells→Prop}
  (h:(∀p,p∈ls.flatten→(B.add ls.flatten).mem p.1=some p.2)→Zw P f args (B.add ls.flatten) Ls Post) :
  Zw P f args B (ls ++ Ls) (fun v B' Ls'=>∃B₂ Ls₂,Ls'=ls ++ Ls₂∧B'=B₂.minus ls.flatten∧(B.add ls.flatten).le B₂∧(∀p,p∈ls.flatten→(B.add ls.flatten).mem p.1=some p.2)∧(B.add ls.flatten).minus ls.flatten=B∧Post v B₂ Ls₂):=fun X kind c cs F hk hA=>by
 have key:=Zw.borrow (l:=ls.flatten) (Ls:=Ls) h X kind c cs F hk fun v B' Ls' hle ⟨B₂,Ls₂,h1,h2,h3,h4,h5,h6⟩=>by
  have:=hA v B' (ls ++ Ls₂) hle ⟨B₂,Ls₂,rfl,h2,h3,h4,h5,h6⟩
  subst h1
  rw [List.flatten_cons]
  rwa [List.flatten_append] at this
 rw [List.flatten_cons] at key
 rwa [List.flatten_append]
section
variable {P:PJ} {C:Cx P} {k:List Item} {n:Nat} {ops:Array Oper} {i:Nat} {S:Env} {D:List Deferred} {B BV:Kn} {L:List Cells} {Q:Exit→Zai}
variable {α:Type} {xs:List α} {l:Cells} {p:Option Addr} {cp:Nat} {T:TypeId} {w:Nat}
theorem ZAK {R:Rel α} {B':Kn} (hv:ZW BV l p cp T w R xs) (hA:Zpc R) (hl:xs.length≤2000000) (hm :∀q,q∈l→B'.mem q.1=some q.2):SlK B' p cp w R xs:=⟨hv.rowsF hA hm,hv.cap,hl⟩
theorem ZwU {R:Rel α} {o:Oper} {K:Zai} (j:Nat) (hj:L[j]? = some l) (hv:ZW BV l p cp T w R xs) (hA:Zpc R) (hl:xs.length≤2000000) (h :∀B',B.le B'→SlK B' p cp w R xs→opW P n ops i o K S D B' (L.set j [])):opW P n ops i o K S D B L:=fun C todo k T ho hn hT hA'=>by
 obtain ⟨r,h1,h2⟩:=Z1 C.F [] hj
 exact C.X.publish rfl h1 fun B' hle hm=>C.X.perm (by simpa using h2.symm) (h B' hle (ZAK hv hA hl hm) C todo k T ho hn hT fun S' D' B'' L' T' hle' hq=>hA' S' D' B'' L' T' (hle.trans hle') hq)
theorem Zeh {R:Rel α} {I:Kn→List Cells→Prop} {ℓ:List Nat} {K:Zai} (j:Nat) (hj:L[j]? = some l) (hv:ZW BV l p cp T w R xs) (hA:Zpc R) (hl:xs.length≤2000000) (hI' :∀B',B.le B'→I B' (L.set j []))
  (h :∀B',B.le B'→SlK B' p cp w R xs→Zbl C k n ops I ℓ K S D B' (L.set j [])):Zbl C k n ops I ℓ K S D B L:=fun T ex pend π a1 a2 a3 a4 a5 a6 a7 a8 a9 hI hA'=>by
 obtain ⟨r,h1,h2⟩:=Z1 C.F [] hj
 exact C.X.publish rfl h1 fun B' hle hm=>C.X.perm (by simpa using h2.symm) (h B' hle (ZAK hv hA hl hm) T ex pend π a1 a2 a3 a4 a5 a6 a7 a8 a9 (hI' B' hle) fun S' D' B'' L' T' hle' hq=>hA' S' D' B'' L' T' (hle.trans hle') hq)
theorem ZfJ {R:Zg2 α} {R':Rel α} {I:Kn→List Cells→Prop} {ℓ:List Nat} {K:Zai} (j:Nat) (hj:L[j]? = some l) (hv:ZaV l p cp T w R xs) (hR :∀{B:Kn} {row:List Value} {x:α} {ins:Cells},R row x ins→(∀q,q∈ins→B.mem q.1=some q.2)→R' B row x) (hM:Mono R') (hl:xs.length≤2000000) (hI' :∀B',B.le B'→I B' (L.set j []))
  (h :∀B',B.le B'→SlK B' p cp w R' xs→Zbl C k n ops I ℓ K S D B' (L.set j [])):Zbl C k n ops I ℓ K S D B L:=fun T ex pend π a1 a2 a3 a4 a5 a6 a7 a8 a9 hI hA'=>by
 obtain ⟨r,h1,h2⟩:=Z1 C.F [] hj
 exact C.X.publish rfl h1 fun B' hle hm=>C.X.perm (by simpa using h2.symm) (h B' hle (hv.known (fun _ _ _ a b=>hR a b) hM hm hl) T ex pend π a1 a2 a3 a4 a5 a6 a7 a8 a9 (hI' B' hle) fun S' D' B'' L' T' hle' hq=>hA' S' D' B'' L' T' (hle.trans hle') hq)
end
end Go.BL
namespace Go.BL
open Go.ChangeShapes Go.WideShapes Go.ChangeAt Go.RowKit
theorem Zk6 {α β:Type} {f:α→Option β} :∀{xs:List α} {ys:List β},xs.mapM f=some ys→ys.length=xs.length∧∀(i:Nat) (x:α),xs[i]? = some x→f x=ys[i]?
 | [],ys,h=>by
  simp only [List.mapM_nil,Option.pure_def,Option.some.injEq] at h
  subst h;simp
 | x :: xs,ys,h=>by
  simp only [List.mapM_cons,Option.bind_eq_bind,Option.pure_def,Option.bind_eq_some_iff,Option.some.injEq] at h
  obtain ⟨y,hy,zs,hz,rfl⟩:=h
  obtain ⟨h1,h2⟩:=Zk6 hz
  refine ⟨by simp [h1],fun i z hi=>?_⟩
  cases i with
  | zero=>simp only [List.getElem?_cons_zero,Option.some.injEq] at hi;subst hi;simpa using hy
  | succ i=>simpa using h2 i z (by simpa using hi)
theorem ZrI {w:World} {a:Addr} {n:Nat} {cs:List Value} (h:w.cells? 0 a n=some cs):cs.length=n∧∀i,i<n→w.cell? (a.add i)=cs[i]?:=by
 unfold World.cells? at h
 rw [if_pos (Nat.zero_le _)] at h
 obtain ⟨h1,h2⟩:=Zk6 h
 exact ⟨by simpa using h1,fun i hi=>h2 i i (by simp [hi])⟩
section
variable {H:Type} (enc:TypeId × Value→H) (P:Program) (W:World)
def ZdR (t:TypeId) (p:List Value→Prop):Prop:=∀(fuel:Nat) (cs:List Value) (d:DataW H) (ps:List MemPlace),DataW.trod enc P W 0 (fun _=>true) true fuel t cs=some (d,ps)→(∀m,m∈d.weights P t→m≤reachBytes)→p cs
def Zcx {α:Type} (t:TypeId) (R:Rel α):Prop:=ZdR enc P W t fun cs=>∃x,R (Za2 W) cs x
def ZdQ {α:Type} (w:Nat) (R:Rel α):Rel (List α):=fun B row xs=>∃q cp,row=[.slice q xs.length cp]∧SlB B q cp w R xs
def Parts:List (List Value→Prop)→List Value→Prop
 | [],cs=>cs=[]
 | p :: ps,cs=>∃a b,cs=a ++ b∧p a∧Parts ps b
def Zfp (P:Program):List Field→Nat→Nat→Bool
 | [],off,n=>off == n
 | f :: fs,off,n=>f.offset == off && Zfp P fs (off+P.cellsOf f.type) n
end
section
variable {H:Type} {enc:TypeId × Value→H} {P:Program} {W:World}
theorem ZdR.mono {t:TypeId} {p p':List Value→Prop} (h:ZdR enc P W t p) (hp :∀cs,p cs→p' cs):ZdR enc P W t p':=fun fuel cs d ps ht hw=>hp cs (h fuel cs d ps ht hw)
theorem Zp7 {t:TypeId} (ht:P.underlying t=some (.int .i64)):Zcx enc P W t ZbU:=fun fuel cs d ps h _=>by
 cases fuel with
 | zero=>simp [DataW.trod] at h
 | succ n=>
  unfold DataW.trod at h
  rw [ht] at h
  split at h <;> simp_all
  rename_i he
  subst he
  exact ⟨_,rfl⟩
theorem Zp6 {t:TypeId} (ht:P.underlying t=some .string):Zcx enc P W t Zji:=fun fuel cs d ps h hw=>by
 cases fuel with
 | zero=>simp [DataW.trod] at h
 | succ n=>
  unfold DataW.trod at h
  rw [ht] at h
  split at h <;> simp_all
  rename_i s
  obtain ⟨_,rfl,_⟩:=h
  have h1:=hw s.data.toList.length (by simp [DataW.weights])
  refine ⟨s.data.toList,rfl,?_⟩
  unfold reachBytes at h1
  omega
theorem ZsO {fs:List Field} {ps:List (List Value→Prop)} {n off:Nat} (hf:Zfp P fs off n=true) {cs:List Value} (hl:cs.length=n) (hlen:fs.length=ps.length)
  (h :∀(i:Nat) (f:Field) (p:List Value→Prop),fs[i]? = some f→ps[i]? = some p→p ((cs.drop f.offset).take (P.cellsOf f.type))):Parts ps (cs.drop off):=by
 induction fs generalizing ps off with
 | nil=>
  simp only [Zfp,beq_iff_eq] at hf
  cases ps with
  | nil=>show cs.drop off=[];rw [List.drop_eq_nil_iff];omega
  | cons p ps=>simp at hlen
 | cons f fs ih=>
  simp only [Zfp,Bool.and_eq_true,beq_iff_eq] at hf
  cases ps with
  | nil=>simp at hlen
  | cons p ps=>
   refine ⟨(cs.drop off).take (P.cellsOf f.type),(cs.drop off).drop (P.cellsOf f.type),(List.take_append_drop _ _).symm,?_,?_⟩
   ·have:=h 0 f p rfl rfl
    rwa [hf.1] at this
   ·rw [List.drop_drop]
    exact ih hf.2 (by simpa using hlen) fun i f' p' h1 h2=>h (i+1) f' p' (by simpa using h1) (by simpa using h2)
theorem Zdm :∀{ts:List TypeId} {ds:List (DataW H)} {i:Nat} {t:TypeId} {d:DataW H},ts[i]? = some t→ds[i]? = some d→∀m,m∈d.weights P t→m∈DataW.weightsEach P ts ds
 | t :: ts,d :: ds,0,t',d',h1,h2,m,hm=>by
  simp only [List.getElem?_cons_zero,Option.some.injEq] at h1 h2
  subst h1;subst h2
  simp only [DataW.weightsEach,List.mem_append];exact .inl hm
 | t :: ts,d :: ds,i+1,t',d',h1,h2,m,hm=>by
  simp only [DataW.weightsEach,List.mem_append];exact .inr (Zdm (by simpa using h1) (by simpa using h2) m hm)
 | [],_,_,_,_,h1,_,_,_=>by simp at h1
 | _ :: _,[],_,_,_,_,h2,_,_=>by simp at h2
theorem Zfz {e:TypeId} :∀{ds:List (DataW H)} {i:Nat} {d:DataW H},ds[i]? = some d→∀m,m∈d.weights P e→m∈DataW.weightsAll P e ds
 | d :: ds,0,d',h2,m,hm=>by
  simp only [List.getElem?_cons_zero,Option.some.injEq] at h2
  subst h2
  simp only [DataW.weightsAll,List.mem_append];exact .inl hm
 | d :: ds,i+1,d',h2,m,hm=>by
  simp only [DataW.weightsAll,List.mem_append];exact .inr (Zfz (by simpa using h2) m hm)
 | [],_,_,h2,_,_=>by simp at h2
theorem ZkP {t:TypeId} {fs:Array Field} (ht:P.underlying t=some (.struct fs)) (ps:List (List Value→Prop)) (hf:Zfp P fs.toList 0 (P.cellsOf t)=true) (hlen:fs.toList.length=ps.length)
  (h :∀(i:Nat) (f:Field) (p:List Value→Prop),fs.toList[i]? = some f→ps[i]? = some p→ZdR enc P W f.type p):ZdR enc P W t (Parts ps):=fun fuel cs d pl htr hw=>by
 obtain ⟨xs,n,rfl,hx,hl,hxl,hel⟩:=DataW.trod_struct ht htr
 simp only [Prod.mk.injEq] at hx
 obtain ⟨rfl,_⟩:=hx
 have:=ZsO (ps:=ps) hf hl hlen fun i f p h1 h2=>by
  have h3:=hel i f (by simpa using h1)
  have hi:i<xs.length:=by
   have:=(List.getElem?_eq_some_iff.1 h1).1
   simp only [Array.length_toList] at this
   omega
  rw [List.getElem?_eq_getElem hi] at h3
  rcases hxi:xs[i] with ⟨d,pl'⟩
  refine h i f p h1 h2 n _ d pl' (by rw [h3,hxi]) fun m hm=>hw m ?_
  simp only [DataW.weights,ht]
  exact Zdm (i:=i) (t:=f.type) (d:=d) (by simp [h1]) (by simp [List.getElem?_eq_getElem hi,hxi]) m hm
 simpa using this
theorem Zb4 {α:Type} {t e:TypeId} {w:Nat} {R:Rel α} (ht:P.underlying t=some (.slice e)) (hc:P.cellsOf e=w) (hb:0<P.bytesOf e) (hw0:0<w) (h:Zcx enc P W e R):Zcx enc P W t (ZdQ w R):=fun fuel cs d pl htr hw=>by
 rcases DataW.trod_slice ht htr with ⟨rfl,_⟩ | ⟨a,len,cap,elems,rest,n,rfl,rfl,hx,_,hl,hm,hlen,hel,_,_⟩
 ·exact ⟨[],none,0,rfl,⟨fun i x hi=>by simp at hi,Nat.le_refl _,Nat.zero_le _⟩⟩
 ·simp only [Prod.mk.injEq] at hx
  obtain ⟨rfl,_⟩:=hx
  have hlen2:len≤140737488355328:=by
   have:=hw ((elems.length+rest.length)*P.bytesOf e) (by simp [DataW.weights,ht])
   have h2:elems.length+rest.length≤(elems.length+rest.length)*P.bytesOf e:=Nat.le_mul_of_pos_right _ hb
   unfold reachBytes at this
   omega
  have each :∀i,i<len→∃x row,R (Za2 W) row x∧row.length=w∧∀j,j<w→W.cell? ((a.add (i*w)).add j)=row[j]?:=fun i hi=>by
   have h1:=hel i hi
   have hi':i<elems.length:=by omega
   rw [List.getElem?_eq_getElem hi'] at h1
   obtain ⟨row,hr1,hr2⟩:=Option.bind_eq_some_iff.1 h1
   rw [hc] at hr1
   obtain ⟨hr3,hr4⟩:=ZrI hr1
   rcases hxi:elems[i] with ⟨d,pl'⟩
   obtain ⟨x,hx⟩:=h n row d pl' (by rw [hr2,hxi]) fun m hm=>hw m (by
    simp only [DataW.weights,ht,List.mem_cons,List.mem_append]
    exact .inr (.inl (Zfz (i:=i) (d:=d) (by simp [List.getElem?_eq_getElem hi',hxi]) m hm)))
   exact ⟨x,row,hx,hr3,hr4⟩
  have hsp:0<len→a.spot=none:=fun h0=>by
   obtain ⟨x,row,_,hr,hj⟩:=each 0 h0
   have h1:=hj 0 hw0
   rw [List.getElem?_eq_getElem (by omega)] at h1
   have:=(Zip h1).1
   simpa [Addr.add] using this
  refine ⟨(List.range len).attach.map fun i=>(each i.1 (List.mem_range.1 i.2)).choose,some a,cap,by simp,⟨fun i x hi=>?_,by simpa using hl,by simpa using hlen2⟩⟩
  have hi':i<len:=by
   have:=(List.getElem?_eq_some_iff.1 hi).1
   simpa using this
  have hxx:x=(each i hi').choose:=by
   simp [hi'] at hi
   exact hi.symm
  obtain ⟨row,hr1,hr2,hr3⟩:=(each i hi').choose_spec
  have hs:=hsp (by omega)
  refine ⟨a.block,a.off,row,?_,by rw [hxx];exact hr1,fun j u hj=>?_⟩
  ·obtain ⟨b,o,s⟩:=a;simp only at hs;subst hs;rfl
  ·have hjw:j<w:=by rw [← hr2];exact (List.getElem?_eq_some_iff.1 hj).1
   have h4:=hr3 j hjw
   rw [hj] at h4
   have:=Zip h4
   have ea:(a.add (i*w)).add j=⟨a.block,a.off+i*w+j,none⟩:=by
    rw [Addr.add_off _ _ (by rw [Addr.add_off _ _ hs]),Addr.add_off _ _ hs]
   rwa [ea] at this
def Zt2 (enc:TypeId × Value→H) (P:Program) (W:World):List Field→List (List Value→Prop)→Prop
 | [],[]=>True
 | f :: fs,p :: ps=>ZdR enc P W f.type p∧Zt2 enc P W fs ps
 | _,_=>False
theorem ZkQ :∀{fs:List Field} {ps:List (List Value→Prop)},Zt2 enc P W fs ps→fs.length=ps.length
 | [],[],_=>rfl
 | _ :: _,_ :: _,h=>by simp only [List.length_cons,ZkQ h.2]
 | [],_ :: _,h=>h.elim
 | _ :: _,[],h=>h.elim
theorem ZkR :∀{fs:List Field} {ps:List (List Value→Prop)},Zt2 enc P W fs ps→∀(i:Nat) (f:Field) (p:List Value→Prop),fs[i]? = some f→ps[i]? = some p→ZdR enc P W f.type p
 | _ :: _,_ :: _,h,0,f,p,h1,h2=>by
  simp only [List.getElem?_cons_zero,Option.some.injEq] at h1 h2
  subst h1;subst h2;exact h.1
 | _ :: _,_ :: _,h,i+1,f,p,h1,h2=>ZkR h.2 i f p (by simpa using h1) (by simpa using h2)
 | [],_,_,i,f,p,h1,h2=>by simp at h1
 | _ :: _,[],h,_,_,_,_,_=>h.elim
theorem ZbQ {t:TypeId} {fs:Array Field} (ht:P.underlying t=some (.struct fs)) (ps:List (List Value→Prop)) (hf:Zfp P fs.toList 0 (P.cellsOf t)=true) (h:Zt2 enc P W fs.toList ps):ZdR enc P W t (Parts ps):=
 ZkP ht ps hf (ZkQ h) (ZkR h)
theorem Zjw {t:TypeId} {v:Value} {d:DataW H} {ps:List MemPlace} {p:List Value→Prop} (h:DataW.Trod enc P W 0 (fun _=>true) true t v d ps) (ho:ZdR enc P W t p) (hw :∀m,m∈d.weights P t→m≤reachBytes):p v.cells.toList:=by
 obtain ⟨n,hn⟩:=h;exact ho n _ _ _ hn hw
theorem weigh {ts:List TypeId} {ds:List (DataW H)} (h:(DataW.weightsEach P ts ds).all (·≤reachBytes)=true) {i:Nat} {t:TypeId} {d:DataW H} (h1:ts[i]? = some t) (h2:ds[i]? = some d) :∀m,m∈d.weights P t→m≤reachBytes:=fun m hm=>by
 have:=List.all_eq_true.1 h m (Zdm h1 h2 m hm)
 simpa using this
end
end Go.BL
namespace Go.BL
section
variable {P:PJ} {n:Nat} {ops:Array Oper} {i:Nat} {K:ZaO} {S:Env} {D:List Deferred} {B:Kn} {L:List Cells}
variable {dst:Option Tmp} {ty:TypeId} {pos:String} {after:Array Edge} {g:Option (Nat × Bool)}
theorem ZoT {P:Program} {B:Kn} {L:Cells} {q:Addr} {cp:Nat} {b:Int} (hs:Zc4 B L (some q) [.int .u8 b]) {Q:Value→Kn→Cells→Prop} (h:Q (str [UInt8.ofNat b.toNat]) B L):hb P (Conv.bytesToString (.slice (some q) 1 cp)) Q B L:=by
 simp only [Conv.bytesToString,Zi,loadCells]
 refine ZbW [.int .u8 b] 0 #[] (fun j v hj=>by simpa using hs j v hj) ?_
 have e:Q (Value.string (ByteArray.empty.push (UInt8.ofNat b.toNat))) B L:=h
 simpa [Zq,Zi] using e
theorem Zps {s d e:TypeId} {x:Operand} {q:Addr} {cp:Nat} {b:Int} (hg:Zk ops S g=some true) (hd:Zx n dst=true) (hs:P.underlying s=some (.slice e)) (hd':P.underlying d=some .string) (he:P.underlying e=some (.int .u8))
  (hx:ev S x=some (.slice (some q) 1 cp)) (hc:Zc4 B L.flatten (some q) [.int .u8 b]) (h:K (str [UInt8.ofNat b.toNat]) D B L):opX P n ops i ⟨dst,.convert s d x,ty,pos,after,g⟩ K S D B L:=
 ZJ hg hd (fun ρ hρ Q F q'=>by
  simp only [execOp,convert,hρ x _ hx,Zi,Zr hs,Zr hd',Zr he]
  exact ZoT hc.app q') h
end
end Go.BL
namespace Go.BL
theorem All3.at {α:Type} {R:Zg2 α} {rows:List (List Value)} {xs:List α} {s:Cells} (h:All3 R rows xs s) :∀{i:Nat} {x:α},xs[i]? = some x→∃row li lr,rows[i]? = some row∧R row x li∧s.Perm (li ++ lr)∧∀x' li',R row x' li'→∃s',All3 R rows (xs.set i x') s'∧s'.Perm (li' ++ lr):=by
 induction h with
 | nil=>intro i x hx;simp at hx
 | @cons row0 x0 ins0 rest rows xs h1 h2 ih=>
  intro i x hx
  cases i with
  | zero=>
   simp only [List.getElem?_cons_zero,Option.some.injEq] at hx
   subst hx
   exact ⟨row0,ins0,rest,rfl,h1,.refl _,fun x' li' hr=>⟨li' ++ rest,.cons hr h2,.refl _⟩⟩
  | succ i=>
   obtain ⟨row,li,lr,e1,e2,e3,e4⟩:=ih (by simpa using hx)
   refine ⟨row,li,ins0 ++ lr,by simpa using e1,e2,?_,fun x' li' hr=>?_⟩
   ·exact (List.Perm.append_left ins0 e3).trans (by rw [← List.append_assoc,← List.append_assoc];exact List.Perm.append_right lr List.perm_append_comm)
   ·obtain ⟨s',f1,f2⟩:=e4 x' li' hr
    exact ⟨ins0 ++ s',.cons h1 f1,(List.Perm.append_left ins0 f2).trans (by rw [← List.append_assoc,← List.append_assoc];exact List.Perm.append_right lr List.perm_append_comm)⟩
theorem ZaV.open1 {α:Type} {l:Cells} {p:Option Addr} {c:Nat} {T:TypeId} {w:Nat} {R:Zg2 α} {xs:List α} (h:ZaV l p c T w R xs) {i:Nat} {x:α} (hx:xs[i]? = some x) :
∃b arr row li lr,p=some ⟨b,0,none⟩∧R row x li∧row.length=w∧l.Perm (li ++ (ZN b arr T ++ lr))∧(∀(j:Nat) (u:Value),row[j]? = some u→arr[i*w+j]? = some u)∧
∀x' li',R row x' li'→ZaV (li' ++ (ZN b arr T ++ lr)) p c T w R (xs.set i x'):=by
 obtain ⟨rows,blk,ins,h1,h2,h3,hvl⟩:=h
 have hlt:=(List.getElem?_eq_some_iff.1 hx).1
 obtain ⟨hl0,⟨_,h0,_,_⟩ | ⟨b,arr,rfl,ha,ht,rfl,hm⟩⟩:=hvl
 ·omega
 ·obtain ⟨row,li,lr,e1,e2,e3,e4⟩:=h1.at hx
  refine ⟨b,arr,row,li,lr,rfl,e2,h2 row (List.mem_of_getElem? e1),?_,fun j u hj=>?_,fun x' li' hr=>?_⟩
  ·refine h3.trans ((List.Perm.append_left _ e3).trans ?_)
   rw [← List.append_assoc,← List.append_assoc];exact List.Perm.append_right lr List.perm_append_comm
  ·have hu:=Zgc h2 e1 hj
   rw [← ht,List.getElem?_take] at hu
   split at hu
   ·exact hu
   ·cases hu
  ·obtain ⟨s',f1,f2⟩:=e4 x' li' hr
   refine ⟨rows,ZN b arr T,s',f1,h2,?_,by rw [List.length_set];exact hl0,.inr ⟨b,arr,rfl,ha,by rw [List.length_set];exact ht,rfl,by rw [List.length_set];exact hm⟩⟩
   refine List.Perm.trans ?_ (List.Perm.append_left _ f2.symm)
   rw [← List.append_assoc,← List.append_assoc];exact List.Perm.append_right lr List.perm_append_comm
section
variable {P:PJ} {n:Nat} {Q:Exit→Zai} {S:Env} {D:List Deferred} {B:Kn} {L:List Cells} {c:Code}
theorem Zt6 {L':List Cells} (hp:L.flatten.Perm L'.flatten) (h:wpS P n c Q S D B L'):wpS P n c Q S D B L:=fun C k T hn hT hA=>by
 refine C.X.drop (r:=L'.flatten ++ C.F) (gl:=[]) ?_ (h C k T hn hT hA)
 rw [List.append_nil];exact hp.append_right C.F
theorem Zeo {a b:Cells} (j m:Nat) (hj:L[j]? = some a) (hm:L[m]? = some b) (hne:j≠m) (h:wpS P n c Q S D B ((L.set j (b ++ a)).set m [])):wpS P n c Q S D B L:=by
 refine Zt6 ?_ h
 obtain ⟨r,h1,h2⟩:=Z1 [] (b ++ a) hj
 have hm':(L.set j (b ++ a))[m]? = some b:=by rw [List.getElem?_set_ne hne];exact hm
 obtain ⟨r2,h3,h4⟩:=Z1 [] [] hm'
 rw [List.append_nil] at h1 h2 h3 h4
 rw [List.nil_append] at h4
 have h5:(b ++ (a ++ r)).Perm (b ++ r2):=by rw [← List.append_assoc];exact h2.symm.trans h3
 exact h1.trans (((List.perm_append_left_iff b).1 h5).trans h4.symm)
end
end Go.BL
namespace Go.BL
theorem All3.row {α:Type} {R:Zg2 α} {rows:List (List Value)} {xs:List α} {s:Cells} (h:All3 R rows xs s) {z x:α} (f:List Value→List Value) (hf :∀row li,R row x li→R (f row) z li) :∀{k:Nat},xs[k]? = some x→∃row,rows[k]? = some row∧All3 R (rows.set k (f row)) (xs.set k z) s:=by
 induction h with
 | nil=>intro k hx;simp at hx
 | @cons row0 x0 ins0 rest rows xs h1 h2 ih=>
  intro k hx
  cases k with
  | zero=>
   simp only [List.getElem?_cons_zero,Option.some.injEq] at hx
   subst hx
   exact ⟨row0,rfl,.cons (hf _ _ h1) h2⟩
  | succ k=>
   obtain ⟨row,e1,e2⟩:=ih (k:=k) (by simpa using hx)
   exact ⟨row,by simpa using e1,.cons h1 e2⟩
theorem ZaV.cell {α:Type} {l:Cells} {p:Option Addr} {c:Nat} {T:TypeId} {w:Nat} {R:Zg2 α} {xs:List α} (h:ZaV l p c T w R xs) {i:Nat} {x:α} (hx:xs[i]? = some x) {B:Kn} {L:List Cells} (j:Nat) (hj:L[j]? = some l) :
∃b row li lr,p=some ⟨b,0,none⟩∧R row x li∧row.length=w∧l.Perm (li ++ lr)∧(∀(m:Nat) (u:Value),row[m]? = some u→Za0 B L.flatten ⟨b,i*w+m,none⟩ u)∧∀x' li',R row x' li'→ZaV (li' ++ lr) p c T w R (xs.set i x'):=by
 obtain ⟨b,arr,row,li,lr,e1,e2,e3,e4,e5,e6⟩:=h.open1 hx
 refine ⟨b,row,li,ZN b arr T ++ lr,e1,e2,e3,e4,fun m u hm=>⟨rfl,arr.toArray,T,(0,0),.inr ?_,by simpa using e5 m u hm⟩,e6⟩
 obtain ⟨r,h1,h2⟩:=Z1 [] [] hj
 rw [List.append_nil] at h1
 rw [h1.mem_iff]
 refine List.mem_append_left _ (e4.mem_iff.2 (List.mem_append_right _ (List.mem_append_left _ ?_)))
 exact List.mem_singleton.2 rfl
section
variable {P:PJ} {n:Nat} {ops:Array Oper} {i:Nat} {K:ZaO} {S:Env} {D:List Deferred} {B:Kn} {L:List Cells}
variable {dst:Option Tmp} {ty:TypeId} {pos:String} {after:Array Edge} {g:Option (Nat × Bool)}
theorem ZiH {α:Type} {R:Zg2 α} {xs:List α} {x0:α} (z:α) {t T:TypeId} {x y:Operand} {v:Value} {us:List Value} {sz k c b:Nat} (off:Nat) {l:Cells} {p:Option Addr} (j:Nat) (hj:L[j]? = some l) (hv:ZaV l p c T sz R xs) (hp:p=some ⟨b,0,Option.none⟩) (hx0:xs[k]? = some x0) (hg:Zk ops S g=some true) (hd:Zx n dst=true) (hsz:ZQ P t=some us.length)
  (hx:ev S x=some (ptr ⟨b,k*sz+off,Option.none⟩)) (hy:ev S y=some v) (hvc:v.cells=us.toArray) (ho:us.all ZhS=true) (hoff:off+us.length≤sz) (hr :∀row li,R row x0 li→R (Zad row off us) z li)
  (h :∀l',ZaV l' p c T sz R (xs.set k z)→K undef D B (L.set j l')):opX P n ops i ⟨dst,.store t x y,ty,pos,after,g⟩ K S D B L:=by
 subst hp
 obtain ⟨rows,blk,ins,h1,h2,h3,hl1,⟨hc,_⟩ | ⟨b',arr,e,ha,ht,rfl,hmc⟩⟩:=hv
 ·cases hc
 ·cases e
  have hk:=(List.getElem?_eq_some_iff.1 hx0).1
  obtain ⟨row,hrow,a1⟩:=h1.row (fun row=>Zad row off us) hr hx0
  have hw:row.length=sz:=h2 row (List.mem_of_getElem? hrow)
  have hsz1:(k+1)*sz≤xs.length*sz:=Nat.mul_le_mul_right sz hk
  have hcs:xs.length*sz≤c*sz:=Nat.mul_le_mul_right sz hmc
  rw [Nat.succ_mul] at hsz1
  have hb1:k*sz+off+us.length≤arr.length:=by omega
  refine Zmi (L':=L.set j (ZN b arr T ++ ins)) (K':=fun u D' B' L₁=>u=undef∧D'=D∧B'=B∧L₁=(L.set j (ZN b arr T ++ ins)).set j (ZN b (Zad arr (k*sz+off) us) T ++ ins)) ?_ ?_ ?_
  ·obtain ⟨r,e1,e2⟩:=Z1 [] (ZN b arr T ++ ins) hj
   rw [List.append_nil] at e1 e2
   exact e1.trans ((h3.append_right r).trans e2.symm)
  ·have hj':(L.set j (ZN b arr T ++ ins))[j]? = some (ZN b arr T ++ ins):=by
    rw [List.getElem?_set_self (List.getElem?_eq_some_iff.1 hj).1]
   exact ZL us j (Zad arr (k*sz+off) us) hg hd hsz hx hy hvc ho (T:=T) (r:=ins) hj' rfl (by rw [Nat.ble_eq];exact hb1) rfl ⟨rfl,rfl,rfl,rfl⟩
  ·rintro u D' B' L₁ hle ⟨rfl,rfl,rfl,rfl⟩
   have hnew:ZaV (ZN b (Zad arr (k*sz+off) us) T ++ ins) (some ⟨b,0,Option.none⟩) c T sz R (xs.set k z):=by
    have hsl:(Zad row off us).length=sz:=by rw [Zaa];exact hw
    have hwide:wide sz (rows.set k (Zad row off us)):=fun r' hr'=>by
     rcases List.mem_or_eq_of_mem_set hr' with hr' | rfl
     ·exact h2 r' hr'
     ·exact hsl
    refine ⟨rows.set k (Zad row off us),_,ins,a1,hwide,.refl _,?_,.inr ⟨b,_,rfl,by rw [Zaa];exact ha,?_,rfl,by rw [List.length_set];exact hmc⟩⟩
    ·rw [Zdl hwide,List.length_set,List.length_set,h1.len]
    ·rw [List.length_set]
     have e:=Zdf (us:=us) (off:=off) h2 hrow hoff
     rw [Zdr _ _ _ _ (by omega) (by omega),ht,e]
   refine ⟨L.set j (ZN b (Zad arr (k*sz+off) us) T ++ ins),[],?_,h _ hnew⟩
   rw [List.set_set,List.append_nil]
end
end Go.BL
namespace Go.BL
open Go.Conc (G)
section
variable {P:PJ} {n:Nat} {ops:Array Oper} {i:Nat} {K:ZaO} {S:Env} {D:List Deferred} {B:Kn} {L:List Cells}
variable {dst:Option Tmp} {ty:TypeId} {pos:String} {after:Array Edge} {g:Option (Nat × Bool)}
theorem ZuL {α:Type} {R:Zg2 α} {xs:List α} (z:α) {t u e:TypeId} {x y:Operand} {sz by_ m c c2:Nat} {p q:Option Addr} {row:List Value} {l:Cells} {inss r:List Cells} (j:Nat) (ks:List Nat) (hpk:ZaB L (j :: ks)=some (l :: inss,r)) (hnd:ZeL (j :: ks)=true) (hv:ZaV l p c e sz R xs) (hm:m=xs.length) (hg:Zk ops S g=some true) (hd:Zx n dst=true)
  (he:ZcC P t e sz by_=true) (hu:(match P.underlying u with | some (.slice _)=>true | _=>false)=true) (hx:ev S x=some (.slice p m c)) (hy:ev S y=some (.slice q 1 c2)) (hs:Zc4 B L.flatten q row) (hone:row.all ZhS=true) (hrl:row.length=sz) (ins0:Cells) (hi0:inss.flatten=ins0) (hr:R row z ins0) (hb1:(xs.length+1)*by_≤140737488355328)
  (h :∀l' p' c',ZaV l' p' c' e sz R (xs ++ [z])→K (.slice p' (xs ++ [z]).length c') D B (ZcA r (j :: ks) (l' :: inss.map fun _=>[]))):opX P n ops i ⟨dst,.call ⟨.builtin .append,#[x,y],#[t,u]⟩,ty,pos,after,g⟩ K S D B L:=by
 subst hm
 subst hi0
 obtain ⟨rows,blk,inn,h1,h2,h3,h4⟩:=hv
 have hpp:=Zal (j :: ks) L (l :: inss) r hpk
 have p1:L.flatten.Perm (blk ++ (inn ++ (inss.flatten ++ r.flatten))):=by
  refine hpp.trans ?_
  simp only [List.flatten_cons,List.append_assoc]
  refine (h3.append_right _).trans ?_
  rw [List.append_assoc]
 refine Znz (L':=[blk,inn ++ (inss.flatten ++ r.flatten)]) (K':=fun v D' B' L₁=>∃blk' p' c',L₁=[blk',inn ++ (inss.flatten ++ r.flatten)]∧v = .slice p' (xs.length+1) c'∧D'=D∧B'=B∧Ziu blk' p' (xs.length+1) c' e sz (rows.flatten ++ row)) ?_ ?_ ?_
 ·simpa using p1
 ·refine Zfh 0 rfl h4 hg hd he hu hx hy ?_ (by rw [hrl,Nat.one_mul]) hone hb1 fun l' p' c' hv'=>⟨l',p',c',rfl,rfl,rfl,rfl,hv'⟩
  cases q with
  | none=>exact hs
  | some a=>
   intro jj v hjj
   exact (hs jj v hjj).perm (by simpa using p1)
 ·rintro v D' B' L₁ hle ⟨blk',p',c',rfl,rfl,rfl,rfl,hv'⟩
  have hnew:ZaV (blk' ++ (inn ++ inss.flatten)) p' c' e sz R (xs ++ [z]):=⟨rows ++ [row],blk',inn ++ inss.flatten,h1.snoc hr,fun r' hr'=>by
   rcases List.mem_append.1 hr' with hr' | hr'
   ·exact h2 r' hr'
   ·rw [List.mem_singleton.1 hr'];exact hrl,.refl _,by rw [List.length_append,List.flatten_append];simpa using hv'⟩
  refine ⟨_,?_,by have:=h _ _ _ hnew;rwa [List.length_append] at this⟩
  have hq:=Zb2 ((blk' ++ (inn ++ inss.flatten)) :: inss.map fun _=>[]) r (j :: ks) (Zb5 hnd) (fun jj hj=>Zb3 (j :: ks) L (l :: inss) r hpk jj (.inr hj))
  have hnil:((inss.map fun _=>([]:Cells))).flatten=[]:=by
   clear hpk hpp h hnew hs h3 p1 hq
   induction inss with
   | nil=>rfl
   | cons a as ih=>simp
  rw [List.flatten_cons,hnil,List.append_nil] at hq
  refine List.Perm.trans ?_ hq
  simp only [List.flatten_cons,List.flatten_nil,List.append_nil,List.append_assoc]
  exact .refl _
theorem Z8.borrowL {f:FuncId} {args:List Value} {ls:List Cells} {v:Value} (h:(∀p,p∈ls.flatten→(B.add ls.flatten).mem p.1=some p.2)→Z8 P f args (B.add ls.flatten) v):Zw P f args B ls (fun v' B' Ls=>v'=v∧B'=B∧Ls=ls):=by
 have:=(Zw.borrowL (P:=P) (Ls:=[]) h).mono (Post':=fun v' B' Ls=>v'=v∧B'=B∧Ls=ls) fun v' B' Ls' _ ⟨B₂,Ls₂,a1,a2,_,_,a3,a4,a5,a6⟩=>by subst a5;subst a6;exact ⟨a4,a2.trans a3,by rw [a1,List.append_nil]⟩
 rwa [List.append_nil] at this
theorem Zha {f:FuncId} {xs:List Operand} {vs:List Value} {ats:Array TypeId} {v:Value} {ls r:List Cells} (js:List Nat) (hp:ZaB L js=some (ls,r)) (hput:ZcA r js ls=L) (hn:ZeL js=true) (hg:Zk ops S g=some true) (hd:Zx n dst=true) (he:enters P f=true) (ha:evs S xs=some vs)
  (hc:Zw P f vs B ls (fun v' B' Ls=>v'=v∧B'=B∧Ls=ls)) (h:K v D B L):opX P n ops i ⟨dst,.call ⟨.value (.func f),xs.toArray,ats⟩,ty,pos,after,g⟩ K S D B L:=
 ZbH js hp hn hg hd he ha hc fun v' B' Ls' hle ⟨h1,h2,h3⟩=>by subst h1;subst h2;subst h3;rw [hput];exact h
end
theorem Zw.borrowK {P:PJ} {B:Kn} {f:FuncId} {args:List Value} {Ls:List Cells} {Post:Value→Kn→List Cells→Prop} (k:Nat)
  (h:(∀p,p∈(Ls.take k).flatten→(B.add (Ls.take k).flatten).mem p.1=some p.2)→Zw P f args (B.add (Ls.take k).flatten) (Ls.drop k) Post) :
  Zw P f args B Ls (fun v B' Ls'=>∃B₂ Ls₂,Ls'=Ls.take k ++ Ls₂∧B'=B₂.minus (Ls.take k).flatten∧(B.add (Ls.take k).flatten).le B₂∧(∀p,p∈(Ls.take k).flatten→(B.add (Ls.take k).flatten).mem p.1=some p.2)∧(B.add (Ls.take k).flatten).minus (Ls.take k).flatten=B∧Post v B₂ Ls₂):=by
 have:=Zw.borrowL (P:=P) (ls:=Ls.take k) (Ls:=Ls.drop k) h
 rwa [List.take_append_drop] at this
theorem Zqt {B:Kn} {ls:List Cells} {l:Cells} (hm :∀p,p∈ls.flatten→B.mem p.1=some p.2) (k:Nat) (hk:ls[k]? = some l) :∀q,q∈l→B.mem q.1=some q.2:=fun q hq=>hm q (List.mem_flatten.2 ⟨l,List.mem_of_getElem? hk,hq⟩)
theorem ZW.lendK {α:Type} {B BV:Kn} {l:Cells} {ls:List Cells} {p:Option Addr} {c:Nat} {T:TypeId} {w:Nat} {R:Rel α} {xs:List α} (h:ZW BV l p c T w R xs) (hR:Zpc R) (k:Nat) (hk:ls[k]? = some l) (hm :∀q,q∈ls.flatten→(B.add ls.flatten).mem q.1=some q.2) (hl:xs.length≤2000000):SlK (B.add ls.flatten) p c w R xs:=⟨h.rowsF hR (Zqt hm k hk),h.cap,hl⟩
theorem ZaV.lendK {α:Type} {B:Kn} {l:Cells} {ls:List Cells} {p:Option Addr} {c:Nat} {T:TypeId} {w:Nat} {R:Zg2 α} {R':Rel α} {xs:List α} (h:ZaV l p c T w R xs) (hR :∀{B:Kn} {row:List Value} {x:α} {ins:Cells},R row x ins→(∀q,q∈ins→B.mem q.1=some q.2)→R' B row x) (hM:Mono R') (k:Nat) (hk:ls[k]? = some l) (hm :∀q,q∈ls.flatten→(B.add ls.flatten).mem q.1=some q.2) (hl:xs.length≤2000000):SlK (B.add ls.flatten) p c w R' xs:=h.known (fun _ _ _ a b=>hR a b) hM (Zqt hm k hk) hl
theorem Zw0 {l a lr:Cells} (h:l.Perm (a ++ lr)):l.Perm (lr ++ ([a]:List Cells).flatten):=by
 simpa using h.trans List.perm_append_comm
theorem ZsN {l a b lr:Cells} (h:l.Perm (a ++ b ++ lr)):l.Perm (lr ++ ([a,b]:List Cells).flatten):=by
 simpa using h.trans List.perm_append_comm
theorem ZwD {P:PJ} {n:Nat} {Q:Exit→Zai} {S:Env} {D:List Deferred} {B:Kn} {L:List Cells} {c:Code} (es:List Cells) (he:es.flatten=[]) (h:wpS P n c Q S D B (L ++ es)):wpS P n c Q S D B L:=
 Zt6 (by rw [List.flatten_append,he,List.append_nil]) h
end Go.BL
namespace Go.BL
open Go.Conc (G)
def errv (tE:TypeId) (a:Nat→Addr):Nat→Value
 | 0=>.nilIface
 | k+1=>.iface tE (.pointer (some (a k)))
structure ErrsB (tE:TypeId) (gs:List Nat) (B:Kn) (a:Nat→Addr):Prop where
 row :∀k,k<4→Zan B (gs.getD k 0) 0 [.iface tE (.pointer (some (a k)))]
 cell :∀k,k<4→∃cs T,B.mem (a k).block=some (.cells cs T (0,0))
 ne :∀i j,i<4→j<4→i≠j→a i≠a j
theorem ErrsB.mono {tE:TypeId} {gs:List Nat} {B B':Kn} {a:Nat→Addr} (h:ErrsB tE gs B a) (hle:B.le B'):ErrsB tE gs B' a:=
 ⟨fun k hk=>(h.row k hk).mono hle,fun k hk=>let ⟨cs,T,e⟩:=h.cell k hk;⟨cs,T,hle _ _ e⟩,h.ne⟩
section
variable {P:Program}
theorem Ztn {a:Addr} {B:Kn} {L:Cells} {Q:Bool→Kn→Cells→Prop} (q:Q true B L):hb P (sameAddr a a) Q B L:=by
 have e:sameAddr a a=pure true:=by simp [sameAddr]
 rw [e];exact q
theorem Zhi {x:Addr} {cx:Array Value} {tx:TypeId} {B:Kn} {L:Cells} {Q:Bool→Kn→Cells→Prop} (hx:Zjj B L x.block (.cells cx tx (0,0))) (q:Q false B L):hb P (stringish x) Q B L:=by
 unfold stringish
 rw [Zi]
 refine ⟨_,hx,?_⟩
 simp only [ZbG,Zq,Zbf,Nat.not_lt_zero,decide_false,Bool.and_false,Bool.false_eq_true,if_false]
 rw [Zi]
 refine ⟨_,hx,?_⟩
 simp only [Zjp,Zq,Zbf]
 refine ⟨_,hx,?_⟩
 simp only [ZbG,Nat.not_lt_zero,decide_false,Bool.and_false]
 exact q
theorem Zlk {x:Addr} {cx:Array Value} {tx:TypeId} {B:Kn} {L:Cells} {Q:Unit→Kn→Cells→Prop} (hx:Zjj B L x.block (.cells cx tx (0,0))) (q:Q () B L):hb P (noView x) Q B L:=by
 unfold noView viewAt
 simp only [Zi]
 refine ⟨_,hx,?_⟩
 simp only [Zjp,Option.isSome_some,if_true,Zq,Zbf]
 exact q
theorem Zto {a b:Addr} {ca cb:Array Value} {ta tb:TypeId} {B:Kn} {L:Cells} {Q:Bool→Kn→Cells→Prop} (hne:a≠b) (ha:Zjj B L a.block (.cells ca ta (0,0))) (hb':Zjj B L b.block (.cells cb tb (0,0))) (q:Q false B L):hb P (sameAddr a b) Q B L:=by
 unfold sameAddr
 by_cases h:a.block=b.block
 ·have e1:(a.block == b.block)=true:=by simpa using h
  have e2:(a == b)=false:=by simpa using hne
  simp only [e1,if_true,e2];exact q
 ·have e1:(a.block == b.block)=false:=by simpa using h
  simp only [e1,Bool.false_eq_true,if_false,Zi]
  refine ⟨_,ha,?_⟩
  have f1:ZbG a.off (.cells ca ta (0,0))=false:=by simp [ZbG]
  simp only [f1,Zq,Zbf,Bool.false_eq_true,if_false,Bool.false_and,Zi]
  refine ⟨_,hb',?_⟩
  simp only [Zq,Zbf,Zi]
  refine Zlk ha ?_
  rw [Zi]
  refine Zlk hb' ?_
  unfold mayBeOne
  simp only [Zi]
  refine Zhi ha ?_
  rw [Zi]
  refine Zhi hb' ?_
  simp only [Zi]
  refine ⟨_,ha,?_⟩
  simp only [Zq,Zbf,Zi]
  refine ⟨_,hb',?_⟩
  simp only [Bool.false_and,Bool.or_false,Bool.false_eq_true,if_false,Zq,Zbf]
  exact q
theorem Zxl {tI tE te:TypeId} {ms:Array (String × TypeId)} {i:TypeInfo} {d:Nat} {x y:Addr} {B:Kn} {L:Cells} {Q:Bool→Kn→Cells→Prop} (hi:P.underlying tI=some (.interface ms)) (hp:P.underlying tE=some (.pointer te)) (hinfo:P.info? tE=some i) (hc:i.comparable=true) (hs:ZQ P te=some (d+1))
  (h:hb P (sameAddr x y) Q B L):hb P (Op.equal tI (.iface tE (.pointer (some x))) (.iface tE (.pointer (some y)))) Q B L:=by
 show hb P (Op.equalIn (9999+1) tI _ _) Q B L
 rw [Op.equalIn,Zi,Zr hi]
 simp only [ne_eq,not_true_eq_false,if_false,Zi,Zbx hinfo,hc,Bool.not_true,Bool.false_eq_true]
 show hb P (Op.equalIn (9998+1) tE _ _) Q B L
 rw [Op.equalIn,Zi,Zr hp]
 simp only [Zi,ZaC hs,ne_eq,Nat.add_eq_zero_iff,Nat.one_ne_zero,and_false,not_false_eq_true,if_true]
 exact h
theorem Zrg {tE:TypeId} {gs:List Nat} {B:Kn} {a:Nat→Addr} (h:ErrsB tE gs B a) {k:Nat} (hk:k<4) (L:Cells) :∃cs T,Zjj B L (a k).block (.cells cs T (0,0)):=
 let ⟨cs,T,e⟩:=h.cell k hk;⟨cs,T,.inl e⟩
theorem Zxm {tI tE te:TypeId} {ms:Array (String × TypeId)} {i:TypeInfo} {d:Nat} {c k:Nat} {gs:List Nat} {a:Nat→Addr} {B:Kn} {L:Cells} {Q:Bool→Kn→Cells→Prop} (hE:ErrsB tE gs B a) (hcb:c<5) (hkb:k<4) (hi:P.underlying tI=some (.interface ms)) (hp:P.underlying tE=some (.pointer te)) (hinfo:P.info? tE=some i) (hc:i.comparable=true) (hs:ZQ P te=some (d+1))
  (h:Q (decide (c=k+1)) B L):hb P (Op.equal tI (errv tE a c) (errv tE a (k+1))) Q B L:=by
 cases c with
 | zero=>
  show hb P (Op.equalIn (9999+1) tI .nilIface _) Q B L
  rw [Op.equalIn,Zi,Zr hi]
  simp only [errv,Zq]
  simpa using h
 | succ c=>
  refine Zxl hi hp hinfo hc hs ?_
  by_cases e:c=k
  ·subst e
   exact Ztn (by simpa using h)
  ·obtain ⟨cs,T,h1⟩:=Zrg hE (k:=c) (by omega) L
   obtain ⟨cs',T',h2⟩:=Zrg hE hkb L
   exact Zto (hE.ne c k (by omega) hkb e) h1 h2 (by simpa [e] using h)
end
section
variable {P:PJ} {n:Nat} {ops:Array Oper} {i:Nat} {K:ZaO} {S:Env} {D:List Deferred} {B:Kn} {L:List Cells}
variable {dst:Option Tmp} {ty:TypeId} {pos:String} {after:Array Edge} {g:Option (Nat × Bool)}
theorem Znj {t u:TypeId} {x:Operand} {tE:TypeId} {a:Nat→Addr} {c:Nat} {ms:Array (String × TypeId)} (hg:Zk ops S g=some true) (hd:Zx n dst=true) (hu:P.underlying t=some (.interface ms)) (hx:ev S x=some (errv tE a c)) (h:K (.bool (decide (c=0))) D B L):opX P n ops i ⟨dst,.binOp .eql t x (.const .nilIface) u,ty,pos,after,g⟩ K S D B L:=
 ZJ hg hd (fun ρ hρ Q F q=>by
  have e0:ρ (.const .nilIface) = .nilIface:=hρ (.const .nilIface) _ rfl
  simp only [execOp,hρ x _ hx,e0,Zi]
  cases c with
  | zero=>
   simp only [errv,eqGuard,binOp,Bool.not_true,Bool.false_eq_true,if_false,Bool.or_true,if_true,Zq,Zi]
   show hb P (Op.equalIn (9999+1) t .nilIface .nilIface) _ B _
   rw [Op.equalIn,Zi,Zr hu]
   simp only [Zq]
   simpa using q
  | succ c=>
   simp only [errv,eqGuard,binOp,Bool.not_true,Bool.false_eq_true,if_false,Bool.or_true,if_true,Zq,Zi]
   show hb P (Op.equalIn (9999+1) t (.iface tE _) .nilIface) _ B _
   rw [Op.equalIn,Zi,Zr hu]
   simp only [Zq]
   simpa using q) h
theorem Zt9 {t u:TypeId} {x:Operand} {tE:TypeId} {a:Nat→Addr} {c:Nat} {ms:Array (String × TypeId)} (hg:Zk ops S g=some true) (hd:Zx n dst=true) (hu:P.underlying t=some (.interface ms)) (hx:ev S x=some (errv tE a c)) (h:K (.bool (decide (c≠0))) D B L):opX P n ops i ⟨dst,.binOp .neq t x (.const .nilIface) u,ty,pos,after,g⟩ K S D B L:=
 ZJ hg hd (fun ρ hρ Q F q=>by
  have e0:ρ (.const .nilIface) = .nilIface:=hρ (.const .nilIface) _ rfl
  simp only [execOp,hρ x _ hx,e0,Zi]
  cases c with
  | zero=>
   simp only [errv,eqGuard,binOp,Bool.not_true,Bool.false_eq_true,if_false,Bool.or_true,if_true,Zq,Zi]
   show hb P (Op.equalIn (9999+1) t .nilIface .nilIface) _ B _
   rw [Op.equalIn,Zi,Zr hu]
   simp only [Zq]
   simpa using q
  | succ c=>
   simp only [errv,eqGuard,binOp,Bool.not_true,Bool.false_eq_true,if_false,Bool.or_true,if_true,Zq,Zi]
   show hb P (Op.equalIn (9999+1) t (.iface tE _) .nilIface) _ B _
   rw [Op.equalIn,Zi,Zr hu]
   simp only [Zq]
   simpa using q) h
theorem Zpq {t u:TypeId} {x y:Operand} {tE te:TypeId} {gs:List Nat} {a:Nat→Addr} {c k:Nat} {ms:Array (String × TypeId)} (hE:ErrsB tE gs B a) (hcb:c<5) (hkb:k<4) (hg:Zk ops S g=some true) (hd:Zx n dst=true) (hu:P.underlying t=some (.interface ms)) (hp:P.underlying tE=some (.pointer te)) (hinf:(P.info? tE).map (·.comparable)=some true) (hs:ZQ P te=some 1)
  (hx:ev S x=some (errv tE a c)) (hy:ev S y=some (errv tE a (k+1))) (h:K (.bool (decide (c=k+1))) D B L):opX P n ops i ⟨dst,.binOp .eql t x y u,ty,pos,after,g⟩ K S D B L:=
 ZJ hg hd (fun ρ hρ Q F q=>by
  obtain ⟨inf,hinfo,hc⟩:=Option.map_eq_some_iff.1 hinf
  have hpl:ZgW (errv tE a c) (errv tE a (k+1))=true:=by cases c <;> rfl
  simp only [execOp,hρ x _ hx,hρ y _ hy,Zi,ZfY hpl,ZlI (.inl hpl)]
  exact Zxm hE hcb hkb hu hp hinfo hc hs q) h
theorem ZhH {x:Operand} {xt t asserted:TypeId} {v:Value} {want:Array (String × TypeId)} (hg:Zk ops S g=some true) (hd:Zx n dst=true) (hu:P.underlying asserted=some (.interface want)) (hl:(P.info? t).map (fun i=>(lacking want i.methods).isEmpty)=some false) (hz:Zak P asserted=some .nilIface)
  (hx:ev S x=some (.iface t v)) (h:K (.tuple #[.nilIface,.bool false]) D B L):opX P n ops i ⟨dst,.typeAssert x xt asserted true,ty,pos,after,g⟩ K S D B L:=
 ZJ hg hd (fun ρ hρ Q F q=>by
  obtain ⟨j,hj,hm⟩:=Option.map_eq_some_iff.1 hl
  obtain ⟨m,hm⟩:=missingMethod_some (want:=want) (got:=j.methods) (fun e=>by rw [e] at hm;cases hm)
  simp only [execOp,Instr.typeAssert,hρ x _ hx,Zi,Zr hu,Zbx hj,hm,if_true,Zbw hz,Zq]
  exact q) h
theorem ZwC {f:FuncId} {fn:Func} {ext:Array Value→Sem Value} {x:Operand} {ats:Array TypeId} {v r:Value} (hg:Zk ops S g=some true) (hd:Zx n dst=true) (hf:P.funcs[f]? = some fn) (hname:(fn.name == "runtime.NumGoroutine")=false) (hb0:fn.body.isNone=true) (hn:Extern.findNext fn=none) (he:Extern.find fn=some ext)
  (hx:ev S x=some v) (hr :∀(Q:Value→Kn→Cells→Prop) B L,hb P (ext #[v]) Q B L=Q r B L) (h:K r D B L):opX P n ops i ⟨dst,.call ⟨.value (.func f),#[x],ats⟩,ty,pos,after,g⟩ K S D B L:=
 Zd3 hg hd fun ρ hρ F=>by
  have e0:ρ (.func f) = .func (.func f) #[] #[]:=hρ (.func f) _ rfl
  simp only [execOp,resolve,e0,Deferred.ofValue,Zi,Zq,invoke,List.map_toArray,List.map_cons,List.map_nil,hρ x _ hx]
  have e:(#[] ++ #[v]:Array Value) ++ #[] = #[v]:=by simp
  rw [e]
  simp only [callFunc,Zi,Zce,hf,hname,Bool.false_eq_true,if_false,hb0,if_true,hn,he]
  refine ⟨rfl,?_⟩
  simp only [Zbf,Zq,Zi,hr]
  exact ⟨L,.of (.refl _),h⟩
theorem Zwz {f:FuncId} {fn:Func} {ext:Array Value→Sem Value} {x:Operand} {t:TypeId} {name:String} {ats:Array TypeId} {v u r:Value} (hg:Zk ops S g=some true) (hd:Zx n dst=true) (hf:P.funcs[f]? = some fn) (hname:(fn.name == "runtime.NumGoroutine")=false) (hb0:fn.body.isNone=true) (hn:Extern.findNext fn=none) (he:Extern.find fn=some ext)
  (hx:ev S x=some (.iface t v)) (hm :∀(k:Nat) (Q:FuncId × Value→Kn→Cells→Prop) B L,hb P (method (k+1) t v name) Q B L=Q (f,u) B L) (hr :∀(Q:Value→Kn→Cells→Prop) B L,hb P (ext #[u]) Q B L=Q r B L) (h:K r D B L):opX P n ops i ⟨dst,.call ⟨.invoke x name,#[],ats⟩,ty,pos,after,g⟩ K S D B L:=
 Zd3 hg hd fun ρ hρ F=>by
  have e1:(#[Value.iface t v] ++ #[])[0]? = some (.iface t v):=by simp
  have e2:(#[Value.iface t v] ++ #[]).extract 1 (#[Value.iface t v] ++ #[]).size = #[]:=by apply Array.ext';simp
  have e3 : #[u] ++ #[] = #[u]:=by simp
  simp only [execOp,resolve,hρ x _ hx,Zi,Zq,invoke,List.map_toArray,List.map_nil,e1,e2,callMethod,Zce]
  have hpos:0<Made.depth:=by decide
  obtain ⟨d,hd'⟩ :∃d,P.types.size+Made.depth=d+1:=⟨P.types.size+Made.depth - 1,by omega⟩
  rw [hd',hm]
  simp only [e3,callFunc,Zi,Zce,hf,hname,Bool.false_eq_true,if_false,hb0,if_true,hn,he]
  refine ⟨rfl,?_⟩
  simp only [Zbf,Zq,Zi,hr]
  exact ⟨L,.of (.refl _),h⟩
end
end Go.BL
namespace Go.BL
open Go.ChangeShapes Go.WideShapes Go.ChangeAt Go.RowKit Go.Conc
section
variable {H:Type} {enc:TypeId × Value→H} {P:Program}
theorem Zn7 {t:TypeId} {ms:Array (String × TypeId)} (hu:P.underlying t=some (.interface ms)) {W W':World} {sp sp':Nat→Bool} {fuel:Nat} {cs:List Value} : DataW.trod enc P W 0 sp true fuel t cs=DataW.trod enc P W' 0 sp' true fuel t cs:=by
 cases fuel with
 | zero=>simp [DataW.trod]
 | succ n=>
  cases cs with
  | nil=>simp [DataW.trod,hu]
  | cons x xs=>
   cases xs with
   | nil=>cases x <;> simp [DataW.trod,hu]
   | cons y ys=>cases x <;> simp [DataW.trod,hu]
theorem Zsl {W W':World} (hk:Kept W W') {n:String} {g:Nat} {cs:Array Value} (hg:P.globalNamed n=some g) (hlt:g<W.heap.size) (h:W.var? P n=some cs):W'.var? P n=some cs:=by
 simp only [World.var?,hg,Option.bind_some] at h ⊢
 rw [hk.1 g hlt];exact h
theorem ZkH {W W':World} (hk:Kept W W') {sp sp':Nat→Bool} :∀{ns:List String} {gs:List (DataW H)} {ps:List MemPlace},(∀n,n∈ns→∀g t,P.globalNamed n=some g→(P.globals[g]?).map (·.type)=some t→∃ms,P.underlying t=some (.interface ms))→
  DataW.TrodVars enc P W sp ns gs ps→(∀n,n∈ns→∀g,P.globalNamed n=some g→g<W.heap.size)→DataW.TrodVars enc P W' sp' ns gs ps
 | [],[],_,_,h,_=>h
 | n :: ns,d :: ds,ps,ht,⟨g,t,cs,fuel,p,q,hg,hty,hv,hd,hr,e⟩,hlt=>by
  obtain ⟨ms,hu⟩:=ht n (List.mem_cons_self ..) g t hg hty
  exact ⟨g,t,cs,fuel,p,q,hg,hty,Zsl hk hg (hlt n (List.mem_cons_self ..) g hg) hv,(Zn7 hu).trans hd,
   ZkH hk (fun n hn=>ht n (List.mem_cons_of_mem _ hn)) hr (fun n hn=>hlt n (List.mem_cons_of_mem _ hn)),e⟩
 | [],_ :: _,_,_,h,_=>h.elim
 | _ :: _,[],_,_,h,_=>h.elim
theorem Zpu {W:World} {sp:Nat→Bool} :∀{ns:List String} {gs:List (DataW H)} {ps:List MemPlace},DataW.TrodVars enc P W sp ns gs ps→∀n,n∈ns→∀g,P.globalNamed n=some g→g<W.heap.size
 | [],_,_,_,n,hn,_,_=>by cases hn
 | m :: ns,d :: ds,ps,⟨g,t,cs,fuel,p,q,hg,hty,hv,hd,hr,e⟩,n,hn,g',hg'=>by
  rcases List.mem_cons.1 hn with rfl | hn
  ·obtain rfl:=Option.some.inj (hg.symm.trans hg')
   simp only [World.var?,hg,Option.bind_some] at hv
   rcases Nat.lt_or_ge g W.heap.size with h | h
   ·exact h
   ·rw [Array.getElem?_eq_none h] at hv;cases hv
  ·exact Zpu hr n hn g' hg'
 | _ :: _,[],_,h,_,_,_,_=>h.elim
theorem Znk {W:World} {sp:Nat→Bool} :∀{ns:List String} {gs:List (DataW H)} {ps:List MemPlace},DataW.TrodVars enc P W sp ns gs ps→gs.length=ns.length
 | [],[],_,_=>rfl
 | n :: ns,d :: ds,ps,⟨g,t,cs,fuel,p,q,hg,hty,hv,hd,hr,e⟩=>by rw [List.length_cons,List.length_cons,Znk hr]
 | [],_ :: _,_,h=>h.elim
 | _ :: _,[],_,h=>h.elim
theorem Zqu {f:Func} {s:ChangeSpec} {apart fresh handsOn again:Bool} {W W':World} {args:Array Value} {ds gs:List (DataW H)} {before:List MemPlace} {tb:TypeId}
  (hl:laidOutB P=true) (hts:(f.params.toList.all fun t=>P.readableRec t && decide (t<P.types.size))=true) (hres:f.resultTypes.toList=[tb]) (hb:P.underlying tb=some .bool)
  (hvars :∀n,n∈s.vars→∀g t,P.globalNamed n=some g→(P.globals[g]?).map (·.type)=some t→∃ms,P.underlying t=some (.interface ms))
  (hW:DataW.Whole enc P f.params.toList s.vars apart W args.toList ds gs before) (hfn :∀ds' gs',gs'.length=s.vars.length→ds'.length=f.params.toList.length→s.fn H (ds' ++ gs') = { results:=[.lit (.bool true)],args:=ds',vars:=gs' })
  (hk:Kept W W'):s.post enc P f apart fresh handsOn again W args (.bool true) W':=by
 have hlt:=hW.lt
 have hW':=hW
 obtain ⟨p,q,hA0,hV,rfl,hfz,hnd⟩:=hW
 have hlen:=(trodAll_length hA0).2
 have hvl:gs.length=s.vars.length:=Znk hV
 have hf2:=hfn ds gs hvl hlen
 have hr2:f.resultTypes = #[tb]:=by apply Array.ext';rw [hres]
 refine post_of_same (pa:=p) (pv:=q) hW' (fun b sp hd=>?_) (fun sp hsp=>?_) (fun sp hsp=>?_) rfl (hk.2.frame _) hk.2.2.1 ?_
 ·rw [hf2,hr2]
  exact trodAll_cons_mk (shut_bool hb _) trodAll_mk0
 ·rw [hf2]
  exact Znv hl hk hts hA0 (fun x hx=>hlt x (List.mem_append_left _ hx)) (fun x hx=>hsp x (List.mem_append_left _ hx))
 ·rw [hf2]
  exact ZkH hk hvars hV (Zpu hV)
 ·intro j t r h1 h2
  rw [hr2] at h1 h2
  cases j with
  | zero=>
   simp only [List.getElem?_toArray,List.getElem?_cons_zero,Option.some.injEq] at h1
   simp [Value.resultList] at h2
   subst h1;subst h2
   exact okWide_bool_mk hb _
  | succ j=>simp at h1
theorem ZlX {ns:List String} (h:(ns.all fun n=>match P.globalNamed n with | some g=>(match (P.globals[g]?).map (·.type) with | some t=>(match P.underlying t with | some (.interface _)=>true | _=>false) | none=>true) | none=>true)=true) :
∀n,n∈ns→∀g t,P.globalNamed n=some g→(P.globals[g]?).map (·.type)=some t→∃ms,P.underlying t=some (.interface ms):=fun n hn g t hg ht=>by
 have h1:=List.all_eq_true.1 h n hn
 simp only [hg,ht] at h1
 split at h1
 ·exact ⟨_,by assumption⟩
 ·cases h1
theorem ZsC {ts:Array TypeId} (h:(ts.toList.all fun t=>!P.wantsStandIn t)=true) {j:Nat} {t:TypeId} (ht:ts[j]? = some t):P.wantsStandIn t=false:=by
 have:=List.all_eq_true.1 h t (by
  rw [← Array.getElem?_toList] at ht
  exact List.mem_of_getElem? ht)
 simpa using this
theorem ZkJ {a:Assume} {C:Checked} {os:Os} {f:FuncId} {fn:Func} {s:ChangeSpec} {conds:List PathCond} {apart fresh handsOn again:Bool} {laid:List (String × DataW Unit)}
  (own:ownKnob C.prog.godebug=none) (started:os.Started) (hfn:C.prog.funcs[f]? = some fn)
  (witness :∃(w:World) (tape:Tape) (i:Input),w.os=os∧(w.forCall tape i).Shaped C.prog∧i.vars=[]∧Input.okWide C.prog (w.forCall tape i) .any w.heap.size f i∧
   ((s.pre enc C.prog fn conds apart (w.forCall tape i).memory i.args∧laidMetH C.prog laid (w.forCall tape i).memory)∧sizedMet enc C.prog fn (OpenSpec.ofChange s) apart (w.forCall tape i).memory i.args)∧a.holds C.prog (lone (Frame.enter C.prog f i.args .normal) [] (w.forCall tape i)))
  (runs :∀(W:World) (base:Nat) (args:Array Value) (ds gs:List (DataW H)) (before:List MemPlace),
   (∀(j:Nat) t v,fn.params[j]? = some t→args[j]? = some v→Value.okWide C.prog W .any base t v)→
   DataW.Whole enc C.prog fn.params.toList s.vars apart W args.toList ds gs before→
   (DataW.weightsEach C.prog (fn.params.toList ++ s.plain.varTypes C.prog) (ds ++ gs)).all (·≤reachBytes)=true→
   laidMetH C.prog laid W→
∃M last o w' t',runNT C.prog (M+1) (solo (G (Frame.enter C.prog f args .normal) []) W) #[]=(.ended o w',t')∧runN C.prog M (solo (G (Frame.enter C.prog f args .normal) []) W) = .next last∧
    step C.prog last = .ended o w'∧Conc.Good C.prog (fun v W'=>s.post enc C.prog fn apart fresh handsOn again W args v W') last o w' t') :
  ReturnsInLeavingWide a C os f .any (fun w args=>(s.pre enc C.prog fn conds apart w args∧laidMetH C.prog laid w)∧sizedMet enc C.prog fn (OpenSpec.ofChange s) apart w args) (s.post enc C.prog fn apart fresh handsOn again):=by
 refine returnsInLeavingWide_of_good own started witness ?_
 intro w tape i _ _ _ hok hpre hholds
 obtain ⟨_,_,_,fn',hfn',_,_,_,_,hval⟩:=hok
 have e:fn'=fn:=Option.some.inj (hfn'.symm.trans hfn)
 subst e
 obtain ⟨⟨⟨ds,gs,before,hw,hc⟩,hL⟩,hz⟩:=hpre
 have hw':=DataW.Whole.of_heap (w':=w.forCall tape i) (by rfl) hw
 have hL':=hL.of_heap (w':=w.forCall tape i) (by rfl)
 obtain ⟨M,last,o,w',t',h1,h2,h3,h4⟩:=runs (w.forCall tape i) w.heap.size i.args ds gs before hval hw' (hz.weights hw) hL'
 exact ⟨M,last,o,w',t',h1,h2,h3,h4.mono fun v hp=>ChangeSpec.post_blind hp⟩
theorem Zrh {n0 n1 n2 n3 nm:String} {x0 x1 x2 x3:List UInt8} {r:List (String × DataW Unit)} {W:World} {k0 k1 k2 k3:Nat} {ti tp te ts:TypeId} {ms:Array (String × TypeId)} {f:Field}
  (h:laidMet P ((n0,.iface nm (.ptr (.agg [.lit (.string x0)]))) :: (n1,.iface nm (.ptr (.agg [.lit (.string x1)]))) :: (n2,.iface nm (.ptr (.agg [.lit (.string x2)]))) :: (n3,.iface nm (.ptr (.agg [.lit (.string x3)]))) :: r) W)
  (hg0:P.globalNamed n0=some k0) (hg1:P.globalNamed n1=some k1) (hg2:P.globalNamed n2=some k2) (hg3:P.globalNamed n3=some k3) (hy0:(P.globals[k0]?).map (·.type)=some ti) (hy1:(P.globals[k1]?).map (·.type)=some ti) (hy2:(P.globals[k2]?).map (·.type)=some ti) (hy3:(P.globals[k3]?).map (·.type)=some ti)
  (hi:P.underlying ti=some (.interface ms)) (hrow :∀u,P.typeName? 3 u=some nm→u=tp)
  (hp:P.underlying tp=some (.pointer te)) (he:P.underlying te=some (.struct #[f])) (hft:f.type=ts) (hfo:f.offset=0) (hs:P.underlying ts=some .string) (hc:P.cellsOf te=1) (hcs:P.cellsOf ts=1) :
∃a:Nat→Addr,ErrsB tp [k0,k1,k2,k3] (Za2 W) a:=by
 obtain ⟨ps,⟨g0,t0,cs0,f0,p0,q0,hg0',ht0',hv0,hd0,⟨g1,t1,cs1,f1,p1,q1,hg1',ht1',hv1,hd1,⟨g2,t2,cs2,f2,p2,q2,hg2',ht2',hv2,hd2,⟨g3,t3,cs3,f3,p3,q3,hg3',ht3',hv3,hd3,_,e3⟩,e2⟩,e1⟩,e0⟩,hnd,hrows⟩:=h
 obtain rfl:=Option.some.inj (hg0.symm.trans hg0')
 obtain rfl:=Option.some.inj (hg1.symm.trans hg1')
 obtain rfl:=Option.some.inj (hg2.symm.trans hg2')
 obtain rfl:=Option.some.inj (hg3.symm.trans hg3')
 obtain rfl:=Option.some.inj (hy0.symm.trans ht0')
 obtain rfl:=Option.some.inj (hy1.symm.trans ht1')
 obtain rfl:=Option.some.inj (hy2.symm.trans ht2')
 obtain rfl:=Option.some.inj (hy3.symm.trans ht3')
 subst e3
 subst e2
 subst e1
 subst e0
 obtain ⟨l0⟩:=cs0
 obtain ⟨l1⟩:=cs1
 obtain ⟨l2⟩:=cs2
 obtain ⟨l3⟩:=cs3
 have ok0 :∀u v,l0=[.iface u v]→Value.okWide P W .any 0 u v:=fun u v e=>by
  subst e
  exact (hrows k0 0 (by simp [MemPlace.row])).2 u v (by simpa using World.var?_cell hg0' hv0 0)
 have ok1 :∀u v,l1=[.iface u v]→Value.okWide P W .any 0 u v:=fun u v e=>by
  subst e
  exact (hrows k1 0 (by simp [MemPlace.row])).2 u v (by simpa using World.var?_cell hg1' hv1 0)
 have ok2 :∀u v,l2=[.iface u v]→Value.okWide P W .any 0 u v:=fun u v e=>by
  subst e
  exact (hrows k2 0 (by simp [MemPlace.row])).2 u v (by simpa using World.var?_cell hg2' hv2 0)
 have ok3 :∀u v,l3=[.iface u v]→Value.okWide P W .any 0 u v:=fun u v e=>by
  subst e
  exact (hrows k3 0 (by simp [MemPlace.row])).2 u v (by simpa using World.var?_cell hg3' hv3 0)
 obtain ⟨a0,s0,rfl,hc0,hs0,hz0,rfl⟩:=errorString_of_trod hi hrow hp he hft hfo hs hc hcs hd0 ok0
 obtain ⟨a1,s1,rfl,hc1,hs1,hz1,rfl⟩:=errorString_of_trod hi hrow hp he hft hfo hs hc hcs hd1 ok1
 obtain ⟨a2,s2,rfl,hc2,hs2,hz2,rfl⟩:=errorString_of_trod hi hrow hp he hft hfo hs hc hcs hd2 ok2
 obtain ⟨a3,s3,rfl,hc3,hs3,hz3,rfl⟩:=errorString_of_trod hi hrow hp he hft hfo hs hc hcs hd3 ok3
 have b0:=(hrows a0.block a0.off (by simp [MemPlace.row])).1
 have b1:=(hrows a1.block a1.off (by simp [MemPlace.row])).1
 have b2:=(hrows a2.block a2.off (by simp [MemPlace.row])).1
 have b3:=(hrows a3.block a3.off (by simp [MemPlace.row])).1
 have row :∀(g:Nat) (v:Value) (n:String),P.globalNamed n=some g→W.var? P n=some #[v]→Zan (Za2 W) g 0 [v]:=fun g v n hg hv L j u hj=>by
  cases j with
  | zero=>
   simp only [List.getElem?_cons_zero,Option.some.injEq] at hj
   subst hj
   have:=Zip (by simpa using World.var?_cell hg hv 0:W.cell? ⟨g,0,none⟩=some v)
   obtain ⟨h1,cs,T,fr,h2,h3⟩:=this
   exact ⟨h1,cs,T,fr,h2.elim .inl (fun h=>by cases h),h3⟩
  | succ j=>simp at hj
 refine ⟨fun k=>if k=0 then a0 else if k=1 then a1 else if k=2 then a2 else a3,fun k hk=>?_,fun k hk=>?_,fun i j hi' hj' hne=>?_⟩
 ·match k,hk with
  | 0,_=>exact row k0 _ _ hg0 hv0
  | 1,_=>exact row k1 _ _ hg1 hv1
  | 2,_=>exact row k2 _ _ hg2 hv2
  | 3,_=>exact row k3 _ _ hg3 hv3
 ·match k,hk with
  | 0,_=>exact b0
  | 1,_=>exact b1
  | 2,_=>exact b2
  | 3,_=>exact b3
 ·have h01:a0≠a1:=by rintro rfl;simp [MemPlace.row] at hnd
  have h02:a0≠a2:=by rintro rfl;simp [MemPlace.row] at hnd
  have h03:a0≠a3:=by rintro rfl;simp [MemPlace.row] at hnd
  have h12:a1≠a2:=by rintro rfl;simp [MemPlace.row] at hnd
  have h13:a1≠a3:=by rintro rfl;simp [MemPlace.row] at hnd
  have h23:a2≠a3:=by rintro rfl;simp [MemPlace.row] at hnd
  match i,j,hi',hj',hne with
  | 0,1,_,_,_=>exact h01
  | 0,2,_,_,_=>exact h02
  | 0,3,_,_,_=>exact h03
  | 1,0,_,_,_=>exact h01.symm
  | 1,2,_,_,_=>exact h12
  | 1,3,_,_,_=>exact h13
  | 2,0,_,_,_=>exact h02.symm
  | 2,1,_,_,_=>exact h12.symm
  | 2,3,_,_,_=>exact h23
  | 3,0,_,_,_=>exact h03.symm
  | 3,1,_,_,_=>exact h13.symm
  | 3,2,_,_,_=>exact h23.symm
  | 0,0,_,_,h=>exact (h rfl).elim
  | 1,1,_,_,h=>exact (h rfl).elim
  | 2,2,_,_,h=>exact (h rfl).elim
  | 3,3,_,_,h=>exact (h rfl).elim
end
theorem ZrJ (Lk:Looks) {p:Pinned} {s:OpenSpec} {c:OpenClaim} (kinds:List LaidKind) (tests:Bool) (har:Bool × String) (lk:Bool)
  (hc:c.holds p s) (hw:c.wfByText s=true) (htie:c.laidByTextAt Lk p kinds tests)
  (hst:c.start = .entering) (hnb:c.noBlocks=false∧c.again=false) (hm:p.checked.prog.mainIs=some (har.1,har.2.toList)) (hn:(!har.1 && har.2.isEmpty && !lk)=false)
  (hl :∀f fn,p.checked.prog.funcNamed c.func=some f→p.checked.prog.funcs[f]? = some fn→lk=p.checked.prog.looks []∧∀(j:Nat) t,fn.params[j]? = some t→p.checked.prog.wantsStandIn t=false)
  (hg:true=c.goesBy p.checked.prog) :
  Claim7.holds p (.plain s) { stood:={ row:=c,standIns:=[],harness:=har,looks:=lk },kinds:=[],alts:=[],goes:=true,laidByText:=true,laidKinds:=kinds,laidTests:=tests,laidLooks:=Lk }:=by
 have h6 :∀r:OpenClaim,Claim7.isSixth { stood:={ row:=r,standIns:=[],harness:=har,looks:=lk },kinds:=[] } = false:=fun r=>by simpa [Claim7.isSixth] using hn
 refine ⟨Claim7.tied_new_at Lk kinds tests (Claim7.new_of_sixth hc har lk hst hnb hm (h6 c) hl) hw,(fun D hD=>by cases hD),htie,(fun h=>by cases h),hg⟩
end Go.BL
namespace Go.BL
open Go.Conc (G)
section
variable {P:PJ} {n:Nat} {ops:Array Oper} {i:Nat} {K:ZaO} {S:Env} {D:List Deferred} {B:Kn} {L:List Cells}
variable {dst:Option Tmp} {ty:TypeId} {pos:String} {after:Array Edge} {g:Option (Nat × Bool)}
theorem Zjl {f:FuncId} {x:Operand} {cap:Array Value} {xs:List Operand} {vs:List Value} {ats:Array TypeId} {Post:Value→Kn→List Cells→Prop} (js:List Nat) {ss r:List Cells} (hp:ZaB L js=some (ss,r)) (hn:ZeL js=true) (hg:Zk ops S g=some true) (hd:Zx n dst=true) (he:enters P f=true) (hx:ev S x=some (.func (.func f) #[] cap)) (ha:evs S xs=some vs) (hc:Zw P f (vs ++ cap.toList) B ss Post)
  (h :∀v B' Ls',B.le B'→Post v B' Ls'→K v D B' (ZcA r js Ls')):opX P n ops i ⟨dst,.call ⟨.value x,xs.toArray,ats⟩,ty,pos,after,g⟩ K S D B L:=
 Zd4 (o:=⟨dst,.call ⟨.value x,xs.toArray,ats⟩,ty,pos,after,g⟩) (vs:=vs ++ cap.toList) hg (fun ρ hρ Q F q=>by
   have:=ZeI (P:=P) (B:=B) (L:=L) (dst:=dst) (ty:=ty) (pos:=pos) (after:=after) (g:=g) (x:=x) (first:=#[]) (cap:=cap) (ats:=ats) he hx ha ρ hρ Q F
   exact this (by simpa using q)) hd (Ls:=ss) (Lk:=r) (Zal js L ss r hp) hc
  fun v' B' Ls' hle hq=>⟨ZcA r js Ls',Zb2 Ls' r js (Zb5 hn) (fun j hj=>Zb3 js L ss r hp j (.inr hj)),h v' B' Ls' hle hq⟩
theorem All3.turn {α:Type} {R:Zg2 α} {rows:List (List Value)} {xs:List α} {s:Cells} (h:All3 R rows xs s) {z x:α} {ex:Cells} (f:List Value→List Value) (hf :∀row li,R row x li→∃li' gl,R (f row) z li'∧(li ++ ex).Perm (li' ++ gl)) :∀{k:Nat},xs[k]? = some x→∃row s' gl,rows[k]? = some row∧All3 R (rows.set k (f row)) (xs.set k z) s'∧(s ++ ex).Perm (s' ++ gl):=by
 induction h with
 | nil=>intro k hx;simp at hx
 | @cons row0 x0 ins0 rest rows xs h1 h2 ih=>
  intro k hx
  cases k with
  | zero=>
   simp only [List.getElem?_cons_zero,Option.some.injEq] at hx
   subst hx
   obtain ⟨li',gl,e1,e2⟩:=hf _ _ h1
   refine ⟨row0,li' ++ rest,gl,rfl,.cons e1 h2,?_⟩
   have e3:(ins0 ++ rest ++ ex).Perm ((ins0 ++ ex) ++ rest):=by
    rw [List.append_assoc,List.append_assoc];exact List.Perm.append_left _ List.perm_append_comm
   refine e3.trans ((e2.append_right rest).trans ?_)
   rw [List.append_assoc,List.append_assoc];exact List.Perm.append_left _ List.perm_append_comm
  | succ k=>
   obtain ⟨row,s',gl,e1,e2,e3⟩:=ih (k:=k) (by simpa using hx)
   refine ⟨row,ins0 ++ s',gl,by simpa using e1,.cons h1 e2,?_⟩
   rw [List.append_assoc,List.append_assoc]
   exact List.Perm.append_left ins0 e3
theorem Zpj {α:Type} {R:Zg2 α} {xs:List α} {x0:α} (z:α) {t T:TypeId} {x y:Operand} {v:Value} {us:List Value} {sz k c b:Nat} (off:Nat) {l:Cells} {p:Option Addr} {inss r:List Cells} (j:Nat) (ks:List Nat) (hpk:ZaB L (j :: ks)=some (l :: inss,r)) (hnd:ZeL (j :: ks)=true) (hv:ZaV l p c T sz R xs) (hp:p=some ⟨b,0,Option.none⟩) (hx0:xs[k]? = some x0) (hg:Zk ops S g=some true) (hd:Zx n dst=true) (hsz:ZQ P t=some us.length)
  (hx:ev S x=some (ptr ⟨b,k*sz+off,Option.none⟩)) (hy:ev S y=some v) (hvc:v.cells=us.toArray) (ho:us.all ZhS=true) (hoff:off+us.length≤sz) (hr :∀row li,R row x0 li→∃li' gl,R (Zad row off us) z li'∧(li ++ inss.flatten).Perm (li' ++ gl))
  (h :∀l',ZaV l' p c T sz R (xs.set k z)→K undef D B (ZcA r (j :: ks) (l' :: inss.map fun _=>[]))):opX P n ops i ⟨dst,.store t x y,ty,pos,after,g⟩ K S D B L:=by
 subst hp
 obtain ⟨rows,blk,ins,h1,h2,h3,hl1,⟨hc,_⟩ | ⟨b',arr,e,ha,ht,rfl,hmc⟩⟩:=hv
 ·cases hc
 ·cases e
  have hk:=(List.getElem?_eq_some_iff.1 hx0).1
  obtain ⟨row,s',gl,hrow,a1,a2⟩:=h1.turn (fun row=>Zad row off us) hr hx0
  have hw:row.length=sz:=h2 row (List.mem_of_getElem? hrow)
  have hsz1:(k+1)*sz≤xs.length*sz:=Nat.mul_le_mul_right sz hk
  have hcs:xs.length*sz≤c*sz:=Nat.mul_le_mul_right sz hmc
  rw [Nat.succ_mul] at hsz1
  have hb1:k*sz+off+us.length≤arr.length:=by omega
  have hpp:=Zal (j :: ks) L (l :: inss) r hpk
  refine Zmi (L':=[ZN b arr T ++ ins,inss.flatten ++ r.flatten]) (K':=fun u D' B' L₁=>u=undef∧D'=D∧B'=B∧L₁=[ZN b (Zad arr (k*sz+off) us) T ++ ins,inss.flatten ++ r.flatten]) ?_ ?_ ?_
  ·refine hpp.trans ?_
   simp only [List.flatten_cons,List.flatten_nil,List.append_nil,List.append_assoc]
   refine (h3.append_right _).trans ?_
   rw [List.append_assoc]
  ·exact ZL us 0 (Zad arr (k*sz+off) us) hg hd hsz hx hy hvc ho (T:=T) (r:=ins) rfl rfl (by rw [Nat.ble_eq];exact hb1) rfl ⟨rfl,rfl,rfl,rfl⟩
  ·rintro u D' B' L₁ hle ⟨rfl,rfl,rfl,rfl⟩
   have hnew:ZaV (ZN b (Zad arr (k*sz+off) us) T ++ s') (some ⟨b,0,Option.none⟩) c T sz R (xs.set k z):=by
    have hsl:(Zad row off us).length=sz:=by rw [Zaa];exact hw
    have hwide:wide sz (rows.set k (Zad row off us)):=fun r' hr'=>by
     rcases List.mem_or_eq_of_mem_set hr' with hr' | rfl
     ·exact h2 r' hr'
     ·exact hsl
    refine ⟨rows.set k (Zad row off us),_,s',a1,hwide,.refl _,?_,.inr ⟨b,_,rfl,by rw [Zaa];exact ha,?_,rfl,by rw [List.length_set];exact hmc⟩⟩
    ·rw [Zdl hwide,List.length_set,List.length_set,h1.len]
    ·rw [List.length_set]
     have e:=Zdf (us:=us) (off:=off) h2 hrow hoff
     rw [Zdr _ _ _ _ (by omega) (by omega),ht,e]
   refine ⟨_,gl,?_,h _ hnew⟩
   have hq:=Zb2 ((ZN b (Zad arr (k*sz+off) us) T ++ s') :: inss.map fun _=>[]) r (j :: ks) (Zb5 hnd) (fun jj hj=>Zb3 (j :: ks) L (l :: inss) r hpk jj (.inr hj))
   have hnil:((inss.map fun _=>([]:Cells))).flatten=[]:=by
    clear hpk hpp hr h a2 hq
    induction inss with
    | nil=>rfl
    | cons a as ih=>simp
   rw [List.flatten_cons,hnil,List.append_nil] at hq
   refine List.Perm.trans ?_ (hq.append_right gl)
   simp only [List.flatten_cons,List.flatten_nil,List.append_nil]
   have e1:(ZN b (Zad arr (k*sz+off) us) T ++ ins ++ (inss.flatten ++ r.flatten)).Perm (ZN b (Zad arr (k*sz+off) us) T ++ ((ins ++ inss.flatten) ++ r.flatten)):=by simp only [List.append_assoc];exact .refl _
   refine (e1.trans (List.Perm.append_left _ (a2.append_right _))).trans ?_
   exact Zop fun f g h0 ha hc=>by simp only [ha];omega
end
theorem ZxP {B:Kn} {ls:List Cells} {b:Nat} {row:List Value} {T:TypeId} (k:Nat) (hk:ls[k]? = some (ZN b row T)) (hm :∀q,q∈ls.flatten→(B.add ls.flatten).mem q.1=some q.2):Zan (B.add ls.flatten) b 0 row:=Za5 (Zqt hm k hk)
end Go.BL
namespace Go.BL
open Go.Conc (G)
@[reducible] def Zfu (x:DMail) (v:Value):List Value:=[.int .i64 x.uid,.int .i64 x.flags,str x.text,v]
def Zei (Tn:TypeId):Value→List DMail→Cells→Prop
 | v,[],s=>v = .pointer none∧s=[]
 | v,x :: xs,s=>∃b nx rest,v=ptr ⟨b,0,none⟩∧s.Perm (ZN b (Zfu x nx) Tn ++ rest)∧x.text.length≤2000000∧Zei Tn nx xs rest
theorem Zei.ptr {Tn:TypeId} {v:Value} {xs:List DMail} {s:Cells} (h:Zei Tn v xs s) :∃p,v = .pointer p:=by
 cases xs with
 | nil=>exact ⟨none,h.1⟩
 | cons x xs=>obtain ⟨b,nx,rest,rfl,_⟩:=h;exact ⟨_,rfl⟩
theorem Zei.more {Tn:TypeId} {p:Option Addr} {xs:List DMail} {s:Cells} (h:Zei Tn (.pointer p) xs s) (hp:p.isNone=false) :∃y ys b np rest,p=some ⟨b,0,none⟩∧xs=y :: ys∧s.Perm (ZN b (Zfu y (.pointer np)) Tn ++ [rest].flatten)∧y.text.length≤2000000∧Zei Tn (.pointer np) ys rest:=by
 cases xs with
 | nil=>obtain ⟨h1,_⟩:=h;cases h1;cases hp
 | cons x xs=>
  obtain ⟨b,nx,rest,h1,h2,h3,h4⟩:=h
  obtain ⟨np,rfl⟩:=h4.ptr
  cases h1
  exact ⟨x,xs,b,np,rest,rfl,rfl,by simpa using h2,h3,h4⟩
theorem Zei.done {Tn:TypeId} {p:Option Addr} {xs:List DMail} {s:Cells} (h:Zei Tn (.pointer p) xs s) (hp:p.isNone=true):xs=[]:=by
 cases xs with
 | nil=>rfl
 | cons x xs=>obtain ⟨b,nx,rest,h1,_⟩:=h;cases h1;cases hp
def Zkd (Tn:TypeId) (v0:Value) (bl:Nat) (x:DMail) (rest:Cells) (pre:List DMail):Prop:=
∀v xs s,Zei Tn v xs s→∃s0,Zei Tn v0 (pre ++ xs) s0∧(ZN bl (Zfu x v) Tn ++ (rest ++ s)).Perm s0
theorem Zkd.init {Tn:TypeId} {b:Nat} {x:DMail} (hx:x.text.length≤2000000):Zkd Tn (Go.BL.ptr ⟨b,0,none⟩) b x [] [x]:=fun v xs s h=>
 ⟨ZN b (Zfu x v) Tn ++ s,⟨b,v,s,rfl,.refl _,hx,h⟩,by simp⟩
theorem Zkd.step {Tn:TypeId} {v0:Value} {bl b:Nat} {x y:DMail} {rest:Cells} {pre:List DMail} (h:Zkd Tn v0 bl x rest pre) (hy:y.text.length≤2000000) :
  Zkd Tn v0 b y (rest ++ ZN bl (Zfu x (Go.BL.ptr ⟨b,0,none⟩)) Tn) (pre ++ [y]):=fun v xs s hs=>by
 obtain ⟨s0,h1,h2⟩:=h (Go.BL.ptr ⟨b,0,none⟩) (y :: xs) (ZN b (Zfu y v) Tn ++ s) ⟨b,v,s,rfl,.refl _,hy,hs⟩
 refine ⟨s0,by simpa using h1,?_⟩
 refine List.Perm.trans ?_ h2
 exact Zop fun f g h0 ha hc=>by simp only [ha];omega
def MLst (TL Tn:TypeId) (b:Nat) (xs:List DMail) (s:Cells):Prop:=
 (xs=[]∧s.Perm (ZN b [.pointer none,.pointer none,.int .i64 0] TL))∨
∃v0 bl x rest,s.Perm (ZN b [v0,ptr ⟨bl,0,none⟩,.int .i64 xs.length] TL ++ [ZN bl (Zfu x (.pointer none)) Tn,rest].flatten)∧Zkd Tn v0 bl x rest xs
theorem MLst.nil {TL Tn:TypeId} {b:Nat} : MLst TL Tn b [] (ZN b [.pointer none,.pointer none,.int .i64 0] TL):=.inl ⟨rfl,.refl _⟩
theorem MLst.chain {TL Tn:TypeId} {b:Nat} {xs:List DMail} {s:Cells} (h:MLst TL Tn b xs s) :∃p vl s0,s.Perm (ZN b [.pointer p,vl,.int .i64 xs.length] TL ++ [s0].flatten)∧Zei Tn (.pointer p) xs s0:=by
 rcases h with ⟨rfl,hp⟩ | ⟨v0,bl,x,rest,hp,hh⟩
 ·exact ⟨none,.pointer none,[],by simpa using hp,rfl,rfl⟩
 ·obtain ⟨s0,h1,h2⟩:=hh (.pointer none) [] [] ⟨rfl,rfl⟩
  rw [List.append_nil] at h1
  obtain ⟨p,rfl⟩:=h1.ptr
  refine ⟨p,_,s0,hp.trans (List.Perm.append_left _ ?_),h1⟩
  simpa using h2
end Go.BL
namespace Go.BL
section
variable {P:PJ} {n:Nat} {ops:Array Oper} {i:Nat} {K:ZaO} {S:Env} {D:List Deferred} {B:Kn} {L:List Cells}
variable {dst:Option Tmp} {ty:TypeId} {pos:String} {after:Array Edge} {g:Option (Nat × Bool)}
theorem Znh {x y:Operand} {ats:Array TypeId} {a b:Int} {k k':IntKind} (hg:Zk ops S g=some true) (hd:Zx n dst=true) (hx:ev S x=some (.int k a)) (hy:ev S y=some (.int k' b)) (h:K (.int k (max a b)) D B L):opX P n ops i ⟨dst,.call ⟨.builtin .max,#[x,y],ats⟩,ty,pos,after,g⟩ K S D B L:=
 ZJ hg hd (fun ρ hρ Q F q=>by
  have e:(if b > a then b else a)=max a b:=by rw [Int.max_def];split <;> split <;> omega
  simp only [execOp,resolve,Zi,Zq,invoke,builtin,Builtin.max_,List.map_toArray,List.map_cons,List.map_nil,hρ x _ hx,hρ y _ hy,List.foldlM_cons,List.foldlM_nil,Builtin.max2,e]
  exact q) h
theorem Zge {x y:Operand} {ats:Array TypeId} {a b:Int} {k k':IntKind} (hg:Zk ops S g=some true) (hd:Zx n dst=true) (hx:ev S x=some (.int k a)) (hy:ev S y=some (.int k' b)) (h:K (.int k (min a b)) D B L):opX P n ops i ⟨dst,.call ⟨.builtin .min,#[x,y],ats⟩,ty,pos,after,g⟩ K S D B L:=
 ZJ hg hd (fun ρ hρ Q F q=>by
  have e:(if b<a then b else a)=min a b:=by rw [Int.min_def];split <;> split <;> omega
  simp only [execOp,resolve,Zi,Zq,invoke,builtin,Builtin.min_,List.map_toArray,List.map_cons,List.map_nil,hρ x _ hx,hρ y _ hy,List.foldlM_cons,List.foldlM_nil,Builtin.min2,e]
  exact q) h
end
end Go.BL
namespace Go.BL
section
variable {P:PJ} {n:Nat} {ops:Array Oper} {i:Nat} {K:ZaO} {S:Env} {D:List Deferred} {B:Kn} {L:List Cells}
variable {dst:Option Tmp} {ty:TypeId} {pos:String} {after:Array Edge} {g:Option (Nat × Bool)}
variable {α:Type} {R:Rel α} {xs:List α}
end
end Go.BL
namespace Go.BL
theorem Zph {P:PJ} {n:Nat} {Q:Exit→Zai} {S:Env} {D:List Deferred} {B:Kn} {L:List Cells} {c:Code} (L':List Cells) (hl:L=L') (h:wpS P n c Q S D B L'):wpS P n c Q S D B L:=by subst hl;exact h
theorem sQ:(∀(p:Prop) [Decidable p],(decide p=true)=p)∧(∀(p:Prop) [Decidable p],(decide p=false) = ¬p)∧(∀b:Bool,((!b)=true)=(b=false))∧(∀b:Bool,((!b)=false)=(b=true))∧(∀(p:Prop) [Decidable p],(decide (¬p)) = !decide p)∧(∀(p:Prop) [Decidable p],(¬¬p)=p)∧(∀a b:Int,(¬a<b)=(b≤a))∧(∀a b:Int,(¬a≤b)=(b<a)):=
 ⟨fun p _=>by simp,fun p _=>by simp,by simp,by simp,fun p _=>by simp,fun p _=>by simp,by simp,by simp⟩
end Go.BL
namespace Go.BL
def orI (a b:Int):Int:=IntKind.i64.wrap (BitVec.ofInt 64 a ||| BitVec.ofInt 64 b).toNat
def ZxU (a b:Int):Int:=IntKind.i64.wrap (BitVec.ofInt 64 a &&& BitVec.ofInt 64 b).toNat
section
variable {P:PJ} {n:Nat} {ops:Array Oper} {i:Nat} {K:ZaO} {S:Env} {D:List Deferred} {B:Kn} {L:List Cells}
variable {dst:Option Tmp} {ty:TypeId} {pos:String} {after:Array Edge} {g:Option (Nat × Bool)}
theorem Zni {t kt et:TypeId} {x y:Operand} {b:Nat} {l:Cells} {kvs:KV} {k:List UInt8} (j:Nat) (hj:L[j]? = some l) (hl:Zwd l b kvs) (hg:Zk ops S g=some true) (hd:Zx n dst=true) (hu:P.underlying t=some (.map kt et)) (hk:P.underlying kt=some .string)
  (hz:Zak P et=some (.int .i64 0)) (hx:ev S x=some (.map (some b))) (hy:ev S y=some (str k)) (h:K (.int .i64 ((mget kvs k).getD 0)) D B L):opX P n ops i ⟨dst,.lookup t x y false,ty,pos,after,g⟩ K S D B L:=
 Zd3 hg hd fun ρ hρ F=>by
  obtain ⟨es,clock,rfl,ok⟩:=hl
  have hin:(b,Obj.map es clock)∈L.flatten ++ F:=by
   rw [((Z1 F [] hj).choose_spec.1).mem_iff];simp
  simp only [execOp,Instr.lookup,hρ x _ hx,hρ y _ hy,Zi,Zr hu]
  refine ⟨_,.inr hin,rfl,rfl,?_⟩
  simp only [Zbf,Zi,Zq]
  refine Zia hk ?_
  rw [Zi]
  refine Zi4 hk ok.ent ?_
  cases hm:mlook kvs k 0 with
  | none=>
   obtain ⟨_,_,_,m4⟩:=ZgK hm
   simp only [Zbw hz,Zq,Zi,ZqH,Bool.false_eq_true,if_false]
   rw [m4] at h
   exact ⟨L,.of (List.Perm.refl _),h⟩
  | some p=>
   obtain ⟨jj,u⟩:=p
   obtain ⟨m,w,rfl,rfl,m3,m4,_,m6⟩:=ZgJ hm
   simp only [Zq,Zi,Bool.false_eq_true,if_false]
   rw [m6] at h
   exact ⟨L,.of (List.Perm.refl _),h⟩
section
variable {t u:TypeId} {x y:Operand} {a b r:Int}
theorem Zwr (hg:Zk ops S g=some true) (hd:Zx n dst=true) (hx:ev S x=some (.int .i64 a)) (hy:ev S y=some (.int .i64 b)) (h:K (.int .i64 (orI a b)) D B L):opX P n ops i ⟨dst,.binOp .or t x y u,ty,pos,after,g⟩ K S D B L:=
 ZJ hg hd (fun ρ hρ Q F q=>by
  simp only [execOp,hρ x _ hx,hρ y _ hy,Zi,Zaj,binOp,ne_eq,not_true_eq_false,if_false,Op.intBits,Zq];exact q) h
theorem ZwG (hg:Zk ops S g=some true) (hd:Zx n dst=true) (hx:ev S x=some (.int .i64 a)) (hy:ev S y=some (.int .i64 b)) (h:K (.int .i64 (ZxU a b)) D B L):opX P n ops i ⟨dst,.binOp .and t x y u,ty,pos,after,g⟩ K S D B L:=
 ZJ hg hd (fun ρ hρ Q F q=>by
  simp only [execOp,hρ x _ hx,hρ y _ hy,Zi,Zaj,binOp,ne_eq,not_true_eq_false,if_false,Op.intBits,Zq];exact q) h
end
end
end Go.BL
namespace Go.BL
theorem om {p:Prop} (h:p:=by first | omega | (simp;done) | (simp;omega)):p:=h
theorem om2 {p:Prop} (h:p:=by first | assumption | omega | (simp;done) | (simp;omega)):p:=h
theorem oz {p:Prop} (h:p:=by omega):p:=h
theorem kr {p:Prop} (h:p:=by kernel_rfl):p:=h
theorem so {p:Prop} (h:p:=by simp only [];omega):p:=h
theorem so2 {p:Prop} (h:p:=by first | omega | (simp only [];omega)):p:=h
theorem oa {p:Prop} (h:p:=by first | assumption | omega):p:=h
theorem oy {p:Prop} (h:p:=by assumption):p:=h
theorem om3 {p:Prop} (h:p:=by first | omega | decide | (simp;done) | (simp;omega)):p:=h
theorem t1 {α0:Sort _} {a0:α0} : a0=a0∧True:=⟨rfl,trivial⟩
theorem t2 {α0 α1:Sort _} {a0:α0} {a1:α1} : a0=a0∧a1=a1∧True:=⟨rfl,rfl,trivial⟩
theorem t3 {α0 α1 α2:Sort _} {a0:α0} {a1:α1} {a2:α2} : a0=a0∧a1=a1∧a2=a2∧True:=⟨rfl,rfl,rfl,trivial⟩
theorem t4 {α0 α1 α2 α3:Sort _} {a0:α0} {a1:α1} {a2:α2} {a3:α3} : a0=a0∧a1=a1∧a2=a2∧a3=a3∧True:=⟨rfl,rfl,rfl,rfl,trivial⟩
theorem t5 {α0 α1 α2 α3 α4:Sort _} {a0:α0} {a1:α1} {a2:α2} {a3:α3} {a4:α4} : a0=a0∧a1=a1∧a2=a2∧a3=a3∧a4=a4∧True:=⟨rfl,rfl,rfl,rfl,rfl,trivial⟩
theorem t6 {α0 α1 α2 α3 α4 α5:Sort _} {a0:α0} {a1:α1} {a2:α2} {a3:α3} {a4:α4} {a5:α5} : a0=a0∧a1=a1∧a2=a2∧a3=a3∧a4=a4∧a5=a5∧True:=⟨rfl,rfl,rfl,rfl,rfl,rfl,trivial⟩
theorem t7 {α0 α1 α2 α3 α4 α5 α6:Sort _} {a0:α0} {a1:α1} {a2:α2} {a3:α3} {a4:α4} {a5:α5} {a6:α6} : a0=a0∧a1=a1∧a2=a2∧a3=a3∧a4=a4∧a5=a5∧a6=a6∧True:=⟨rfl,rfl,rfl,rfl,rfl,rfl,rfl,trivial⟩
theorem t8 {α0 α1 α2 α3 α4 α5 α6 α7:Sort _} {a0:α0} {a1:α1} {a2:α2} {a3:α3} {a4:α4} {a5:α5} {a6:α6} {a7:α7} : a0=a0∧a1=a1∧a2=a2∧a3=a3∧a4=a4∧a5=a5∧a6=a6∧a7=a7∧True:=⟨rfl,rfl,rfl,rfl,rfl,rfl,rfl,rfl,trivial⟩
theorem t9 {α0 α1 α2 α3 α4 α5 α6 α7 α8:Sort _} {a0:α0} {a1:α1} {a2:α2} {a3:α3} {a4:α4} {a5:α5} {a6:α6} {a7:α7} {a8:α8} : a0=a0∧a1=a1∧a2=a2∧a3=a3∧a4=a4∧a5=a5∧a6=a6∧a7=a7∧a8=a8∧True:=⟨rfl,rfl,rfl,rfl,rfl,rfl,rfl,rfl,rfl,trivial⟩
theorem t10 {α0 α1 α2 α3 α4 α5 α6 α7 α8 α9:Sort _} {a0:α0} {a1:α1} {a2:α2} {a3:α3} {a4:α4} {a5:α5} {a6:α6} {a7:α7} {a8:α8} {a9:α9} : a0=a0∧a1=a1∧a2=a2∧a3=a3∧a4=a4∧a5=a5∧a6=a6∧a7=a7∧a8=a8∧a9=a9∧True:=⟨rfl,rfl,rfl,rfl,rfl,rfl,rfl,rfl,rfl,rfl,trivial⟩
theorem t11 {α0 α1 α2 α3 α4 α5 α6 α7 α8 α9 α10:Sort _} {a0:α0} {a1:α1} {a2:α2} {a3:α3} {a4:α4} {a5:α5} {a6:α6} {a7:α7} {a8:α8} {a9:α9} {a10:α10} : a0=a0∧a1=a1∧a2=a2∧a3=a3∧a4=a4∧a5=a5∧a6=a6∧a7=a7∧a8=a8∧a9=a9∧a10=a10∧True:=⟨rfl,rfl,rfl,rfl,rfl,rfl,rfl,rfl,rfl,rfl,rfl,trivial⟩
theorem t12 {α0 α1 α2 α3 α4 α5 α6 α7 α8 α9 α10 α11:Sort _} {a0:α0} {a1:α1} {a2:α2} {a3:α3} {a4:α4} {a5:α5} {a6:α6} {a7:α7} {a8:α8} {a9:α9} {a10:α10} {a11:α11} : a0=a0∧a1=a1∧a2=a2∧a3=a3∧a4=a4∧a5=a5∧a6=a6∧a7=a7∧a8=a8∧a9=a9∧a10=a10∧a11=a11∧True:=⟨rfl,rfl,rfl,rfl,rfl,rfl,rfl,rfl,rfl,rfl,rfl,rfl,trivial⟩
theorem t14 {α0 α1 α2 α3 α4 α5 α6 α7 α8 α9 α10 α11 α12 α13:Sort _} {a0:α0} {a1:α1} {a2:α2} {a3:α3} {a4:α4} {a5:α5} {a6:α6} {a7:α7} {a8:α8} {a9:α9} {a10:α10} {a11:α11} {a12:α12} {a13:α13} : a0=a0∧a1=a1∧a2=a2∧a3=a3∧a4=a4∧a5=a5∧a6=a6∧a7=a7∧a8=a8∧a9=a9∧a10=a10∧a11=a11∧a12=a12∧a13=a13∧True:=⟨rfl,rfl,rfl,rfl,rfl,rfl,rfl,rfl,rfl,rfl,rfl,rfl,rfl,rfl,trivial⟩
theorem t15 {α0 α1 α2 α3 α4 α5 α6 α7 α8 α9 α10 α11 α12 α13 α14:Sort _} {a0:α0} {a1:α1} {a2:α2} {a3:α3} {a4:α4} {a5:α5} {a6:α6} {a7:α7} {a8:α8} {a9:α9} {a10:α10} {a11:α11} {a12:α12} {a13:α13} {a14:α14} : a0=a0∧a1=a1∧a2=a2∧a3=a3∧a4=a4∧a5=a5∧a6=a6∧a7=a7∧a8=a8∧a9=a9∧a10=a10∧a11=a11∧a12=a12∧a13=a13∧a14=a14∧True:=⟨rfl,rfl,rfl,rfl,rfl,rfl,rfl,rfl,rfl,rfl,rfl,rfl,rfl,rfl,rfl,trivial⟩
theorem t17 {α0 α1 α2 α3 α4 α5 α6 α7 α8 α9 α10 α11 α12 α13 α14 α15 α16:Sort _} {a0:α0} {a1:α1} {a2:α2} {a3:α3} {a4:α4} {a5:α5} {a6:α6} {a7:α7} {a8:α8} {a9:α9} {a10:α10} {a11:α11} {a12:α12} {a13:α13} {a14:α14} {a15:α15} {a16:α16} : a0=a0∧a1=a1∧a2=a2∧a3=a3∧a4=a4∧a5=a5∧a6=a6∧a7=a7∧a8=a8∧a9=a9∧a10=a10∧a11=a11∧a12=a12∧a13=a13∧a14=a14∧a15=a15∧a16=a16∧True:=⟨rfl,rfl,rfl,rfl,rfl,rfl,rfl,rfl,rfl,rfl,rfl,rfl,rfl,rfl,rfl,rfl,rfl,trivial⟩
theorem t18 {α0 α1 α2 α3 α4 α5 α6 α7 α8 α9 α10 α11 α12 α13 α14 α15 α16 α17:Sort _} {a0:α0} {a1:α1} {a2:α2} {a3:α3} {a4:α4} {a5:α5} {a6:α6} {a7:α7} {a8:α8} {a9:α9} {a10:α10} {a11:α11} {a12:α12} {a13:α13} {a14:α14} {a15:α15} {a16:α16} {a17:α17} : a0=a0∧a1=a1∧a2=a2∧a3=a3∧a4=a4∧a5=a5∧a6=a6∧a7=a7∧a8=a8∧a9=a9∧a10=a10∧a11=a11∧a12=a12∧a13=a13∧a14=a14∧a15=a15∧a16=a16∧a17=a17∧True:=⟨rfl,rfl,rfl,rfl,rfl,rfl,rfl,rfl,rfl,rfl,rfl,rfl,rfl,rfl,rfl,rfl,rfl,rfl,trivial⟩
section
variable {P:PJ} {n:Nat} {ops:Array Oper} {i:Nat} {K:Zai} {S:Env} {D:List Deferred} {B:Kn} {L:List Cells}
variable {dst:Option Tmp} {ty:TypeId} {pos:String} {after:Array Edge} {g:Option (Nat × Bool)} {t u:TypeId} {x y:Operand}
theorem xM {x:Operand} {v:Value} (hg:Zk ops S g=some true:=by exact rfl) (hd:Zx n dst=true:=by exact rfl) (hx:ev S x=some v:=by exact rfl) (h:K (ZbC S dst v) D B L):opW P n ops i ⟨dst,.move x,ty,pos,after,g⟩ K S D B L:=Zj (Zcl hg hd hx h)
theorem xA {x:Operand} {v:Value} (hg:Zk ops S g=some true:=by exact rfl) (hd:Zx n dst=true:=by exact rfl) (hx:ev S x=some v:=by exact rfl) (h:K (ZbC S dst v) D B L):opW P n ops i ⟨dst,.assign x,ty,pos,after,g⟩ K S D B L:=Zj (Zcm hg hd hx h)
theorem xP  {dst:Option Tmp} {op:Op} {t:TypeId} {pos:String} {after:Array Edge} {g:Option (Nat × Bool)}   (hg:Zk ops S g=some false:=by exact rfl) (hd:Zx n dst=true:=by exact rfl) (h:K (ZbC S dst undef) D B L):opW P n ops i ⟨dst,op,t,pos,after,g⟩ K S D B L:=Zj (Zt7  hg hd h)
theorem xT  {c:Operand} {a:Operand} {b:Operand} {v:Value}   (hg:Zk ops S g=some true:=by exact rfl) (hd:Zx n dst=true:=by exact rfl) (hc:ev S c=some (.bool true):=by exact rfl) (hx:ev S a=some v:=by exact rfl) (h:K (ZbC S dst v) D B L):opW P n ops i ⟨dst,.pick c a b,ty,pos,after,g⟩ K S D B L:=Zj (Zpl  hg hd hc hx h)
theorem xF  {c:Operand} {a:Operand} {b:Operand} {v:Value}   (hg:Zk ops S g=some true:=by exact rfl) (hd:Zx n dst=true:=by exact rfl) (hc:ev S c=some (.bool false):=by exact rfl) (hx:ev S b=some v:=by exact rfl) (h:K (ZbC S dst v) D B L):opW P n ops i ⟨dst,.pick c a b,ty,pos,after,g⟩ K S D B L:=Zj (Zpm  hg hd hc hx h)
theorem xE  {x:Operand} {ix:Nat} {vs:List Value} {v:Value}   (hg:Zk ops S g=some true:=by exact rfl) (hd:Zx n dst=true:=by exact rfl) (hx:ev S x=some (.tuple vs.toArray):=by exact rfl) (hi:vs[ix]? = some v:=by exact rfl) (h:K (ZbC S dst v) D B L):opW P n ops i ⟨dst,.extract x ix,ty,pos,after,g⟩ K S D B L:=Zj (Zkn  hg hd hx hi h)
theorem xN  {x:Operand} {b:Bool} {t:TypeId}   (hg:Zk ops S g=some true:=by exact rfl) (hd:Zx n dst=true:=by exact rfl) (hx:ev S x=some (.bool b):=by exact rfl) (h:K (ZbC S dst (.bool (!b))) D B L):opW P n ops i ⟨dst,.unOp .not t x,ty,pos,after,g⟩ K S D B L:=Zj (Zwt  hg hd hx h)
theorem xW  {s:TypeId} {x:Operand} {fi:Nat} {off:Nat} {a:Addr}  (hf:Zt P s fi=some off) (hg:Zk ops S g=some true:=by exact rfl) (hd:Zx n dst=true:=by exact rfl) (hx:ev S x=some (ptr a):=by exact rfl) (h:K (ZbC S dst (ptr (a.add off))) D B L):opW P n ops i ⟨dst,.fieldAddr s x fi,ty,pos,after,g⟩ K S D B L:=Zj (Zaw  hg hd hf hx h)
theorem xD  {k:IntKind} {a b r:Int}   (hg:Zk ops S g=some true:=by exact rfl) (hd:Zx n dst=true:=by exact rfl) (hx:ev S x=some (.int k a):=by exact rfl) (hy:ev S y=some (.int k b):=by exact rfl) (hr:k.wrap (a+b)=r:=by first | exact Zcy (by first | omega | (simp;done) | (simp;omega)) (by first | omega | (simp;done) | (simp;omega)) | exact rfl) (h:K (ZbC S dst (.int k r)) D B L):opW P n ops i ⟨dst,.binOp .add t x y u,ty,pos,after,g⟩ K S D B L:=Zj (Zgz  hg hd hx hy hr h)
theorem xU  {k:IntKind} {a b r:Int}   (hg:Zk ops S g=some true:=by exact rfl) (hd:Zx n dst=true:=by exact rfl) (hx:ev S x=some (.int k a):=by exact rfl) (hy:ev S y=some (.int k b):=by exact rfl) (hr:k.wrap (a - b)=r:=by first | exact Zcy (by first | omega | (simp;done) | (simp;omega)) (by first | omega | (simp;done) | (simp;omega)) | exact rfl) (h:K (ZbC S dst (.int k r)) D B L):opW P n ops i ⟨dst,.binOp .sub t x y u,ty,pos,after,g⟩ K S D B L:=Zj (Zjk  hg hd hx hy hr h)
theorem ZG  {k:IntKind} {a b:Int}   (hg:Zk ops S g=some true:=by exact rfl) (hd:Zx n dst=true:=by exact rfl) (hx:ev S x=some (.int k a):=by exact rfl) (hy:ev S y=some (.int k b):=by exact rfl) (h:K (ZbC S dst (.bool (decide (a<b)))) D B L):opW P n ops i ⟨dst,.binOp .lss t x y u,ty,pos,after,g⟩ K S D B L:=Zj (Zww  hg hd hx hy h)
theorem ZbJ  {k:IntKind} {a b:Int}   (hg:Zk ops S g=some true:=by exact rfl) (hd:Zx n dst=true:=by exact rfl) (hx:ev S x=some (.int k a):=by exact rfl) (hy:ev S y=some (.int k b):=by exact rfl) (h:K (ZbC S dst (.bool (decide (a≤b)))) D B L):opW P n ops i ⟨dst,.binOp .leq t x y u,ty,pos,after,g⟩ K S D B L:=Zj (Zwx  hg hd hx hy h)
theorem Zek  {k:IntKind} {a b:Int}   (hg:Zk ops S g=some true:=by exact rfl) (hd:Zx n dst=true:=by exact rfl) (hx:ev S x=some (.int k a):=by exact rfl) (hy:ev S y=some (.int k b):=by exact rfl) (h:K (ZbC S dst (.bool (decide (b<a)))) D B L):opW P n ops i ⟨dst,.binOp .gtr t x y u,ty,pos,after,g⟩ K S D B L:=Zj (ZwA  hg hd hx hy h)
theorem ZdZ  {k:IntKind} {a b:Int}   (hg:Zk ops S g=some true:=by exact rfl) (hd:Zx n dst=true:=by exact rfl) (hx:ev S x=some (.int k a):=by exact rfl) (hy:ev S y=some (.int k b):=by exact rfl) (h:K (ZbC S dst (.bool (decide (b≤a)))) D B L):opW P n ops i ⟨dst,.binOp .geq t x y u,ty,pos,after,g⟩ K S D B L:=Zj (ZwB  hg hd hx hy h)
theorem ZaH  {k:IntKind} {a b:Int}   (hg:Zk ops S g=some true:=by exact rfl) (hd:Zx n dst=true:=by exact rfl) (hx:ev S x=some (.int k a):=by exact rfl) (hy:ev S y=some (.int k b):=by exact rfl) (h:K (ZbC S dst (.bool (decide (a=b)))) D B L):opW P n ops i ⟨dst,.binOp .eql t x y u,ty,pos,after,g⟩ K S D B L:=Zj (Zug  hg hd hx hy h)
theorem ZaP  {k:IntKind} {a b:Int}   (hg:Zk ops S g=some true:=by exact rfl) (hd:Zx n dst=true:=by exact rfl) (hx:ev S x=some (.int k a):=by exact rfl) (hy:ev S y=some (.int k b):=by exact rfl) (h:K (ZbC S dst (.bool (decide (a≠b)))) D B L):opW P n ops i ⟨dst,.binOp .neq t x y u,ty,pos,after,g⟩ K S D B L:=Zj (Zpn  hg hd hx hy h)
theorem Zd0  {a b:List UInt8}   (hg:Zk ops S g=some true:=by exact rfl) (hd:Zx n dst=true:=by exact rfl) (hx:ev S x=some (str a):=by exact rfl) (hy:ev S y=some (str b):=by exact rfl) (h:K (ZbC S dst (.bool (decide (a=b)))) D B L):opW P n ops i ⟨dst,.binOp .eql t x y u,ty,pos,after,g⟩ K S D B L:=Zj (Zuf  hg hd hx hy h)
theorem Zfy  {a b:List UInt8}   (hg:Zk ops S g=some true:=by exact rfl) (hd:Zx n dst=true:=by exact rfl) (hx:ev S x=some (str a):=by exact rfl) (hy:ev S y=some (str b):=by exact rfl) (h:K (ZbC S dst (.bool (decide (a≠b)))) D B L):opW P n ops i ⟨dst,.binOp .neq t x y u,ty,pos,after,g⟩ K S D B L:=Zj (Zt8  hg hd hx hy h)
theorem Zt4  {a b:List UInt8}   (hg:Zk ops S g=some true:=by exact rfl) (hd:Zx n dst=true:=by exact rfl) (hx:ev S x=some (str a):=by exact rfl) (hy:ev S y=some (str b):=by exact rfl) (h:K (ZbC S dst (.bool (Op.bytesLess a b))) D B L):opW P n ops i ⟨dst,.binOp .lss t x y u,ty,pos,after,g⟩ K S D B L:=Zj (Zwv  hg hd hx hy h)
theorem xV  {x:Operand} {t:TypeId} {e:TypeId} {p:Option Addr} {len:Nat} {cap:Nat}  (hu:P.underlying t=some (.slice e)) (hg:Zk ops S g=some true:=by exact rfl) (hd:Zx n dst=true:=by exact rfl) (hx:ev S x=some (.slice p len cap):=by exact rfl) (h:K (ZbC S dst (.int .i64 len)) D B L):opW P n ops i ⟨dst,.call ⟨.builtin .len,#[x],#[t]⟩,ty,pos,after,g⟩ K S D B L:=Zj (Zuc  hg hd hu hx h)
theorem xVs  {x:Operand} {t:TypeId} {l:List UInt8}  (hu:P.underlying t=some .string) (hg:Zk ops S g=some true:=by exact rfl) (hd:Zx n dst=true:=by exact rfl) (hx:ev S x=some (str l):=by exact rfl) (h:K (ZbC S dst (.int .i64 l.length)) D B L):opW P n ops i ⟨dst,.call ⟨.builtin .len,#[x],#[t]⟩,ty,pos,after,g⟩ K S D B L:=Zj (Zud  hg hd hu hx h)
theorem xNc  {x:Operand} {a:Addr}   (hg:Zk ops S g=some true:=by exact rfl) (hd:Zx n dst=true:=by exact rfl) (hx:ev S x=some (.pointer (some a)):=by exact rfl) (h:K (ZbC S dst (.pointer (some a))) D B L):opW P n ops i ⟨dst,.nilCheck x,ty,pos,after,g⟩ K S D B L:=Zj (ZaS  hg hd hx h)
theorem x1  {t:TypeId} {x:Operand} {a:Addr} {v:Value} {l:List Value} {T:TypeId} {fr:Nat × Nat} {r:Cells}  (hl:lk P t=some none) (j:Nat) (hg:Zk ops S g=some true:=by exact rfl) (hd:Zx n dst=true:=by exact rfl) (hx:ev S x=some (ptr a):=by exact rfl) (hj:L[j]? = some ((a.block,.cells l.toArray T fr) :: r):=by exact rfl) (hs:a.spot=none:=by exact rfl) (hv:l[a.off]? = some v:=by exact rfl) (h:K (ZbC S dst v) D B L):opW P n ops i ⟨dst,.load t x,ty,pos,after,g⟩ K S D B L:=Zj (Zo  hg hd hl hx (atL j hj hs hv) h)
theorem xL  {t:TypeId} {x:Operand} {a:Addr} {l:List Value} {T:TypeId} {fr:Nat × Nat} {r:Cells}  (vs:List Value) (hl:lk P t=some (some vs.length)) (j:Nat) (hg:Zk ops S g=some true:=by exact rfl) (hd:Zx n dst=true:=by exact rfl) (hx:ev S x=some (ptr a):=by exact rfl) (hj:L[j]? = some ((a.block,.cells l.toArray T fr) :: r):=by exact rfl) (hs:a.spot=none:=by exact rfl) (hv:(l.drop a.off).take vs.length=vs:=by exact rfl) (h:K (ZbC S dst (.agg vs.toArray)) D B L):opW P n ops i ⟨dst,.load t x,ty,pos,after,g⟩ K S D B L:=Zj (Z4  vs hg hd hl hx (Zbu j hj hs hv) h)
theorem y1  {t:TypeId} {x:Operand} {a:Addr} {v:Value} {b o:Nat} {row:List Value}  (hl:lk P t=some none) (hc:Zan B b o row) (off:Nat) (hg:Zk ops S g=some true:=by exact rfl) (hd:Zx n dst=true:=by exact rfl) (hx:ev S x=some (ptr a):=by exact rfl) (ha:a=⟨b,o+off,none⟩:=by exact rfl) (hv:row[off]? = some v:=by exact rfl) (h:K (ZbC S dst v) D B L):opW P n ops i ⟨dst,.load t x,ty,pos,after,g⟩ K S D B L:=Zj (Zo  hg hd hl hx (by subst ha;exact hc _ off _ hv) h)
theorem yL  {t:TypeId} {x:Operand} {a:Addr} {b o:Nat} {row:List Value}  (vs:List Value) (hl:lk P t=some (some vs.length)) (hc:Zan B b o row) (off:Nat) (hg:Zk ops S g=some true:=by exact rfl) (hd:Zx n dst=true:=by exact rfl) (hx:ev S x=some (ptr a):=by exact rfl) (ha:a=⟨b,o+off,none⟩:=by exact rfl) (hv:(row.drop off).take vs.length=vs:=by exact rfl) (h:K (ZbC S dst (.agg vs.toArray)) D B L):opW P n ops i ⟨dst,.load t x,ty,pos,after,g⟩ K S D B L:=Zj (Z4  vs hg hd hl hx (Zke hc off ha hv) h)
theorem xS  {t:TypeId} {x:Operand} {y:Operand} {a:Addr} {v:Value} {l:List Value} {T:TypeId} {r:Cells}  (vs:List Value) (j:Nat) (l':List Value) (hsz:ZQ P t=some vs.length) (hg:Zk ops S g=some true:=by exact rfl) (hd:Zx n dst=true:=by exact rfl) (hx:ev S x=some (ptr a):=by exact rfl) (hy:ev S y=some v:=by exact rfl) (hv:v.cells=vs.toArray:=by exact rfl) (ho:vs.all ZhS=true:=by exact rfl) (hj:L[j]? = some ((a.block,.cells l.toArray T (0,0)) :: r):=by exact rfl) (hs:a.spot=none:=by exact rfl) (hlen:Nat.ble (a.off+vs.length) l.length=true:=by exact rfl) (hl':Zad l a.off vs=l':=by exact rfl) (h:K (ZbC S dst undef) D B (L.set j ((a.block,.cells l'.toArray T (0,0)) :: r))):opW P n ops i ⟨dst,.store t x y,ty,pos,after,g⟩ K S D B L:=Zj (ZL  vs j l' hg hd hsz hx hy hv ho hj hs hlen hl' h)
theorem xB  {t:TypeId} {z:Value} {pl:List (Nat × Nat)} {vs:List Value} (parts:List (Nat × Operand)) (zl l':List Value) (hpl:Zbe P t=some pl) (hz:Zak P t=some z) (hg:Zk ops S g=some true:=by exact rfl) (hd:Zx n dst=true:=by exact rfl) (hzl:z.cells.toList=zl:=by exact rfl) (ha:evs S (parts.map (·.2))=some vs:=by exact rfl) (hf:ZiD (fun i=>pl[i]?) zl ((parts.map (·.1)).zip vs)=some l':=by exact rfl) (h:K (ZbC S dst (.agg l'.toArray)) D B L):opW P n ops i ⟨dst,.build t parts.toArray,ty,pos,after,g⟩ K S D B L:=Zj (Zas (parts:=parts) zl l' hg hd hpl hz hzl ha hf h)
theorem xAl  {t:TypeId} {z:Value} (l:List Value) (hz:Zak P t=some z) (hg:Zk ops S g=some true:=by exact rfl) (hd:Zx n dst=true:=by exact rfl) (hl:z.cells=l.toArray:=by exact rfl) (h :∀b,K (ZbC S dst (ptr ⟨b,0,none⟩)) D B (L ++ [ZN b l t])):opW P n ops i ⟨dst,.alloc t,ty,pos,after,g⟩ K S D B L:=Zj (Zae (l:=l) hg hd hz hl h)
theorem xBx  {t:TypeId} {x:Operand} {v:Value} (l:List Value)  (hg:Zk ops S g=some true:=by exact rfl) (hd:Zx n dst=true:=by exact rfl) (hx:ev S x=some v:=by exact rfl) (hl:v.cells=l.toArray:=by exact rfl) (h :∀b,K (ZbC S dst (ptr ⟨b,0,none⟩)) D B (L ++ [ZN b l t])):opW P n ops i ⟨dst,.box t x,ty,pos,after,g⟩ K S D B L:=Zj (Zpt (l:=l) hg hd hx hl h)
theorem xIx  {t:TypeId} {e:TypeId} {x:Operand} {y:Operand} {k:IntKind} {b:Nat} {o:Nat} {len:Nat} {cap:Nat} {sz:Nat} {ix:Int}  (hu:P.underlying t=some (.slice e)) (hsz:ZQ P e=some sz) (hg:Zk ops S g=some true:=by exact rfl) (hd:Zx n dst=true:=by exact rfl) (hx:ev S x=some (.slice (some ⟨b,o,none⟩) len cap):=by exact rfl) (hy:ev S y=some (.int k ix):=by exact rfl) (h0:0≤ix:=by first | omega | (simp;done) | (simp;omega)) (h1:ix<len:=by first | omega | (simp;done) | (simp;omega)) (h:K (ZbC S dst (ptr ⟨b,o+ix.toNat*sz,none⟩)) D B L):opW P n ops i ⟨dst,.indexAddr t x y,ty,pos,after,g⟩ K S D B L:=Zj (Zwy  hg hd hu hsz hx hy h0 h1 h)
theorem xIp  {t:TypeId} {e:TypeId} {x:Operand} {y:Operand} {k:IntKind} {p:Option Addr} {b:Nat} {len:Nat} {cap:Nat} {sz:Nat} {ix:Int}  (hp:p=some ⟨b,0,none⟩) (hu:P.underlying t=some (.slice e)) (hsz:ZQ P e=some sz) (hg:Zk ops S g=some true:=by exact rfl) (hd:Zx n dst=true:=by exact rfl) (hx:ev S x=some (.slice p len cap):=by exact rfl) (hy:ev S y=some (.int k ix):=by exact rfl) (h0:0≤ix:=by first | omega | (simp;done) | (simp;omega)) (h1:ix<len:=by first | omega | (simp;done) | (simp;omega)) (h:K (ZbC S dst (ptr ⟨b,ix.toNat*sz,none⟩)) D B L):opW P n ops i ⟨dst,.indexAddr t x y,ty,pos,after,g⟩ K S D B L:=Zj (Zkm  hp hg hd hu hsz hx hy h0 h1 h)
theorem xR  {f:FuncId} {xs:List Operand} {vs:List Value} {ats:Array TypeId} {v:Value}  (he:enters P f=true) (ha:evs S xs=some vs) (hc:Z8 P f vs B v) (hg:Zk ops S g=some true:=by exact rfl) (hd:Zx n dst=true:=by exact rfl) (h:K (ZbC S dst v) D B L):opW P n ops i ⟨dst,.call ⟨.value (.func f),xs.toArray,ats⟩,ty,pos,after,g⟩ K S D B L:=Zj (Z9  hg hd he ha hc h)
theorem xC  {f:FuncId} {xs:List Operand} {vs:List Value} {ats:Array TypeId} {Post:Value→Kn→List Cells→Prop}  (he:enters P f=true) (ha:evs S xs=some vs) (hc:Zw P f vs B [] Post) (hg:Zk ops S g=some true:=by exact rfl) (hd:Zx n dst=true:=by exact rfl) (h :∀v B' Ls',B.le B'→Post v B' Ls'→K (ZbC S dst v) D B' (L ++ Ls')):opW P n ops i ⟨dst,.call ⟨.value (.func f),xs.toArray,ats⟩,ty,pos,after,g⟩ K S D B L:=Zj (Zag  hg hd he ha hc h)
theorem xQ  {f:FuncId} {xs:List Operand} {vs:List Value} {ats:Array TypeId} {Post:Value→Kn→Prop}  (he:enters P f=true) (ha:evs S xs=some vs) (hc:Zw P f vs B [] (fun v B' Ls=>Ls=[]∧Post v B')) (hg:Zk ops S g=some true:=by exact rfl) (hd:Zx n dst=true:=by exact rfl) (h :∀v B',B.le B'→Post v B'→K (ZbC S dst v) D B' L):opW P n ops i ⟨dst,.call ⟨.value (.func f),xs.toArray,ats⟩,ty,pos,after,g⟩ K S D B L:=Zj (ZcD  hg hd he ha hc h)
theorem xK  {f:FuncId} {xs:List Operand} {vs:List Value} {ats:Array TypeId} {Post:Value→Kn→List Cells→Prop} {ss:List Cells} {r:List Cells}  (js:List Nat) (hp:ZaB L js=some (ss,r)) (he:enters P f=true) (ha:evs S xs=some vs) (hc:Zw P f vs B ss Post) (hn:ZeL js=true:=by exact rfl) (hg:Zk ops S g=some true:=by exact rfl) (hd:Zx n dst=true:=by exact rfl) (h :∀v B' Ls',B.le B'→Post v B' Ls'→K (ZbC S dst v) D B' (ZcA r js Ls')):opW P n ops i ⟨dst,.call ⟨.value (.func f),xs.toArray,ats⟩,ty,pos,after,g⟩ K S D B L:=Zj (ZbH  js hp hn hg hd he ha hc h)
theorem xBs  {t:TypeId} {e:TypeId} {len:Nat} {sz:Nat} {z:Value} {vs:List Value} (parts:List (Nat × Operand)) (l':List Value) (hu:P.underlying t=some (.slice e)) (hsz:ZQ P e=some sz) (hz:Zak P e=some z) (hg:Zk ops S g=some true:=by exact rfl) (hd:Zx n dst=true:=by exact rfl) (hbig:Nat.ble (len*sz) 1024=true:=by exact rfl) (hidx:parts.map (·.1)=List.range len:=by exact rfl) (ha:evs S (parts.map (·.2))=some vs:=by exact rfl) (hall:vs.all (fun v=>Nat.beq v.cells.toList.length sz)=true:=by exact rfl) (hl':(vs.map fun v=>v.cells.toList).flatten=l':=by exact rfl) (h :∀b,K (ZbC S dst (.slice (some ⟨b,0,none⟩) len len)) D B (L ++ [ZN b l' e])):opW P n ops i ⟨dst,.buildSlice t len parts.toArray,ty,pos,after,g⟩ K S D B L:=Zj (ZO (parts:=parts) l' hg hd hu hsz hz hbig hidx ha hall hl' h)
end
section
variable {P:PJ} {n:Nat} {ops:Array Oper} {K:Zai} {S:Env} {D:List Deferred} {B:Kn} {L:List Cells}
variable {dst:Option Tmp} {ty:TypeId} {pos:String} {after:Array Edge} {g:Option (Nat × Bool)} {t u:TypeId} {x y:Operand}
theorem aT {C:Cx P} {k':List Item} {I:Kn→List Cells→Prop} {ℓ:List Nat} (i:Nat) {o:Oper} {v:Value} (hi:ops[i]? = some o) (hq:quiet P n ops I i o v (sel (o.looksAt ops) S)) (hr:(ZaQ ops ℓ).contains i=true:=by kernel_rfl) (hd:Zx n o.dst=true:=by exact rfl) (hp:Zi1 o=false:=by rfl) (h:Zbl C k' n ops I (i :: ℓ) K (ZbC S o.dst v) D B L):Zbl C k' n ops I ℓ K S D B L:=ZtU i hi hr hd hq h hp
theorem r4 {α β γ δ:Type} {a:α} {b:β} {c:γ} {d:δ} : a=a∧b=b∧c=c∧d=d:=⟨rfl,rfl,rfl,rfl⟩
variable {C:Cx P} {k':List Item} {I:Kn→List Cells→Prop} {ℓ:List Nat}
theorem aM  {x:Operand} {v:Value} (i:Nat) (hii:ops[i]? = some ⟨dst,.move x,ty,pos,after,g⟩)  (hrr:(ZaQ ops ℓ).contains i=true:=by kernel_rfl) (hdd:Zx n dst=true:=by exact rfl) (hg:Zk ops (sel ((⟨dst,.move x,ty,pos,after,g⟩:Oper).looksAt ops) S) g=some true:=by exact rfl) (hd:Zx n dst=true:=by exact rfl) (hx:ev (sel ((⟨dst,.move x,ty,pos,after,g⟩:Oper).looksAt ops) S) x=some v:=by exact rfl) (h:Zbl C k' n ops I (i :: ℓ) K (ZbC S dst v) D B L):Zbl C k' n ops I ℓ K S D B L:=Zaq i hii hrr hdd (fun _ _ _=>Zcl hg hd hx ⟨rfl,rfl,rfl,rfl⟩) h
theorem aA  {x:Operand} {v:Value} (i:Nat) (hii:ops[i]? = some ⟨dst,.assign x,ty,pos,after,g⟩)  (hrr:(ZaQ ops ℓ).contains i=true:=by kernel_rfl) (hdd:Zx n dst=true:=by exact rfl) (hg:Zk ops (sel ((⟨dst,.assign x,ty,pos,after,g⟩:Oper).looksAt ops) S) g=some true:=by exact rfl) (hd:Zx n dst=true:=by exact rfl) (hx:ev (sel ((⟨dst,.assign x,ty,pos,after,g⟩:Oper).looksAt ops) S) x=some v:=by exact rfl) (h:Zbl C k' n ops I (i :: ℓ) K (ZbC S dst v) D B L):Zbl C k' n ops I ℓ K S D B L:=Zaq i hii hrr hdd (fun _ _ _=>Zcm hg hd hx ⟨rfl,rfl,rfl,rfl⟩) h
theorem aZ  {dst:Option Tmp} {op:Op} {t:TypeId} {pos:String} {after:Array Edge} {g:Option (Nat × Bool)} (i:Nat) (hii:ops[i]? = some ⟨dst,op,t,pos,after,g⟩)  (hrr:(ZaQ ops ℓ).contains i=true:=by kernel_rfl) (hdd:Zx n dst=true:=by exact rfl) (hg:Zk ops (sel ((⟨dst,op,t,pos,after,g⟩:Oper).looksAt ops) S) g=some false:=by exact rfl) (hd:Zx n dst=true:=by exact rfl) (h:Zbl C k' n ops I (i :: ℓ) K (ZbC S dst undef) D B L):Zbl C k' n ops I ℓ K S D B L:=Zaq i hii hrr hdd (fun _ _ _=>Zt7 hg hd ⟨rfl,rfl,rfl,rfl⟩) h
theorem aPT  {c:Operand} {a:Operand} {b:Operand} {v:Value} (i:Nat) (hii:ops[i]? = some ⟨dst,.pick c a b,ty,pos,after,g⟩)  (hrr:(ZaQ ops ℓ).contains i=true:=by kernel_rfl) (hdd:Zx n dst=true:=by exact rfl) (hg:Zk ops (sel ((⟨dst,.pick c a b,ty,pos,after,g⟩:Oper).looksAt ops) S) g=some true:=by exact rfl) (hd:Zx n dst=true:=by exact rfl) (hc:ev (sel ((⟨dst,.pick c a b,ty,pos,after,g⟩:Oper).looksAt ops) S) c=some (.bool true):=by exact rfl) (hx:ev (sel ((⟨dst,.pick c a b,ty,pos,after,g⟩:Oper).looksAt ops) S) a=some v:=by exact rfl) (h:Zbl C k' n ops I (i :: ℓ) K (ZbC S dst v) D B L):Zbl C k' n ops I ℓ K S D B L:=Zaq i hii hrr hdd (fun _ _ _=>Zpl hg hd hc hx ⟨rfl,rfl,rfl,rfl⟩) h
theorem aPF  {c:Operand} {a:Operand} {b:Operand} {v:Value} (i:Nat) (hii:ops[i]? = some ⟨dst,.pick c a b,ty,pos,after,g⟩)  (hrr:(ZaQ ops ℓ).contains i=true:=by kernel_rfl) (hdd:Zx n dst=true:=by exact rfl) (hg:Zk ops (sel ((⟨dst,.pick c a b,ty,pos,after,g⟩:Oper).looksAt ops) S) g=some true:=by exact rfl) (hd:Zx n dst=true:=by exact rfl) (hc:ev (sel ((⟨dst,.pick c a b,ty,pos,after,g⟩:Oper).looksAt ops) S) c=some (.bool false):=by exact rfl) (hx:ev (sel ((⟨dst,.pick c a b,ty,pos,after,g⟩:Oper).looksAt ops) S) b=some v:=by exact rfl) (h:Zbl C k' n ops I (i :: ℓ) K (ZbC S dst v) D B L):Zbl C k' n ops I ℓ K S D B L:=Zaq i hii hrr hdd (fun _ _ _=>Zpm hg hd hc hx ⟨rfl,rfl,rfl,rfl⟩) h
theorem aE  {x:Operand} {ix:Nat} {vs:List Value} {v:Value} (i:Nat) (hii:ops[i]? = some ⟨dst,.extract x ix,ty,pos,after,g⟩)  (hrr:(ZaQ ops ℓ).contains i=true:=by kernel_rfl) (hdd:Zx n dst=true:=by exact rfl) (hg:Zk ops (sel ((⟨dst,.extract x ix,ty,pos,after,g⟩:Oper).looksAt ops) S) g=some true:=by exact rfl) (hd:Zx n dst=true:=by exact rfl) (hx:ev (sel ((⟨dst,.extract x ix,ty,pos,after,g⟩:Oper).looksAt ops) S) x=some (.tuple vs.toArray):=by exact rfl) (hi:vs[ix]? = some v:=by exact rfl) (h:Zbl C k' n ops I (i :: ℓ) K (ZbC S dst v) D B L):Zbl C k' n ops I ℓ K S D B L:=Zaq i hii hrr hdd (fun _ _ _=>Zkn hg hd hx hi ⟨rfl,rfl,rfl,rfl⟩) h
theorem aW  {s:TypeId} {x:Operand} {fi:Nat} {off:Nat} {a:Addr} (i:Nat) (hii:ops[i]? = some ⟨dst,.fieldAddr s x fi,ty,pos,after,g⟩) (hf:Zt P s fi=some off) (hrr:(ZaQ ops ℓ).contains i=true:=by kernel_rfl) (hdd:Zx n dst=true:=by exact rfl) (hg:Zk ops (sel ((⟨dst,.fieldAddr s x fi,ty,pos,after,g⟩:Oper).looksAt ops) S) g=some true:=by exact rfl) (hd:Zx n dst=true:=by exact rfl) (hx:ev (sel ((⟨dst,.fieldAddr s x fi,ty,pos,after,g⟩:Oper).looksAt ops) S) x=some (ptr a):=by exact rfl) (h:Zbl C k' n ops I (i :: ℓ) K (ZbC S dst (ptr (a.add off))) D B L):Zbl C k' n ops I ℓ K S D B L:=Zaq i hii hrr hdd (fun _ _ _=>Zaw hg hd hf hx ⟨rfl,rfl,rfl,rfl⟩) h
theorem aN  {x:Operand} {b:Bool} {t:TypeId} (i:Nat) (hii:ops[i]? = some ⟨dst,.unOp .not t x,ty,pos,after,g⟩)  (hrr:(ZaQ ops ℓ).contains i=true:=by kernel_rfl) (hdd:Zx n dst=true:=by exact rfl) (hg:Zk ops (sel ((⟨dst,.unOp .not t x,ty,pos,after,g⟩:Oper).looksAt ops) S) g=some true:=by exact rfl) (hd:Zx n dst=true:=by exact rfl) (hx:ev (sel ((⟨dst,.unOp .not t x,ty,pos,after,g⟩:Oper).looksAt ops) S) x=some (.bool b):=by exact rfl) (h:Zbl C k' n ops I (i :: ℓ) K (ZbC S dst (.bool (!b))) D B L):Zbl C k' n ops I ℓ K S D B L:=Zaq i hii hrr hdd (fun _ _ _=>Zwt hg hd hx ⟨rfl,rfl,rfl,rfl⟩) h
theorem aNc  {x:Operand} {a:Addr} (i:Nat) (hii:ops[i]? = some ⟨dst,.nilCheck x,ty,pos,after,g⟩)  (hrr:(ZaQ ops ℓ).contains i=true:=by kernel_rfl) (hdd:Zx n dst=true:=by exact rfl) (hg:Zk ops (sel ((⟨dst,.nilCheck x,ty,pos,after,g⟩:Oper).looksAt ops) S) g=some true:=by exact rfl) (hd:Zx n dst=true:=by exact rfl) (hx:ev (sel ((⟨dst,.nilCheck x,ty,pos,after,g⟩:Oper).looksAt ops) S) x=some (.pointer (some a)):=by exact rfl) (h:Zbl C k' n ops I (i :: ℓ) K (ZbC S dst (.pointer (some a))) D B L):Zbl C k' n ops I ℓ K S D B L:=Zaq i hii hrr hdd (fun _ _ _=>ZaS hg hd hx ⟨rfl,rfl,rfl,rfl⟩) h
theorem aV  {x:Operand} {t:TypeId} {e:TypeId} {p:Option Addr} {len:Nat} {cap:Nat} (i:Nat) (hii:ops[i]? = some ⟨dst,.call ⟨.builtin .len,#[x],#[t]⟩,ty,pos,after,g⟩) (hu:P.underlying t=some (.slice e)) (hrr:(ZaQ ops ℓ).contains i=true:=by kernel_rfl) (hdd:Zx n dst=true:=by exact rfl) (hg:Zk ops (sel ((⟨dst,.call ⟨.builtin .len,#[x],#[t]⟩,ty,pos,after,g⟩:Oper).looksAt ops) S) g=some true:=by exact rfl) (hd:Zx n dst=true:=by exact rfl) (hx:ev (sel ((⟨dst,.call ⟨.builtin .len,#[x],#[t]⟩,ty,pos,after,g⟩:Oper).looksAt ops) S) x=some (.slice p len cap):=by exact rfl) (h:Zbl C k' n ops I (i :: ℓ) K (ZbC S dst (.int .i64 len)) D B L):Zbl C k' n ops I ℓ K S D B L:=Zaq i hii hrr hdd (fun _ _ _=>Zuc hg hd hu hx ⟨rfl,rfl,rfl,rfl⟩) h
theorem Zt0  {k:IntKind} {a b:Int} (i:Nat) (hii:ops[i]? = some ⟨dst,.binOp .lss t x y u,ty,pos,after,g⟩)  (hrr:(ZaQ ops ℓ).contains i=true:=by kernel_rfl) (hdd:Zx n dst=true:=by exact rfl) (hg:Zk ops (sel ((⟨dst,.binOp .lss t x y u,ty,pos,after,g⟩:Oper).looksAt ops) S) g=some true:=by exact rfl) (hd:Zx n dst=true:=by exact rfl) (hx:ev (sel ((⟨dst,.binOp .lss t x y u,ty,pos,after,g⟩:Oper).looksAt ops) S) x=some (.int k a):=by exact rfl) (hy:ev (sel ((⟨dst,.binOp .lss t x y u,ty,pos,after,g⟩:Oper).looksAt ops) S) y=some (.int k b):=by exact rfl) (h:Zbl C k' n ops I (i :: ℓ) K (ZbC S dst (.bool (decide (a<b)))) D B L):Zbl C k' n ops I ℓ K S D B L:=Zaq i hii hrr hdd (fun _ _ _=>Zww hg hd hx hy ⟨rfl,rfl,rfl,rfl⟩) h
theorem Zwc  {k:IntKind} {a b:Int} (i:Nat) (hii:ops[i]? = some ⟨dst,.binOp .leq t x y u,ty,pos,after,g⟩)  (hrr:(ZaQ ops ℓ).contains i=true:=by kernel_rfl) (hdd:Zx n dst=true:=by exact rfl) (hg:Zk ops (sel ((⟨dst,.binOp .leq t x y u,ty,pos,after,g⟩:Oper).looksAt ops) S) g=some true:=by exact rfl) (hd:Zx n dst=true:=by exact rfl) (hx:ev (sel ((⟨dst,.binOp .leq t x y u,ty,pos,after,g⟩:Oper).looksAt ops) S) x=some (.int k a):=by exact rfl) (hy:ev (sel ((⟨dst,.binOp .leq t x y u,ty,pos,after,g⟩:Oper).looksAt ops) S) y=some (.int k b):=by exact rfl) (h:Zbl C k' n ops I (i :: ℓ) K (ZbC S dst (.bool (decide (a≤b)))) D B L):Zbl C k' n ops I ℓ K S D B L:=Zaq i hii hrr hdd (fun _ _ _=>Zwx hg hd hx hy ⟨rfl,rfl,rfl,rfl⟩) h
theorem Zo8  {k:IntKind} {a b:Int} (i:Nat) (hii:ops[i]? = some ⟨dst,.binOp .gtr t x y u,ty,pos,after,g⟩)  (hrr:(ZaQ ops ℓ).contains i=true:=by kernel_rfl) (hdd:Zx n dst=true:=by exact rfl) (hg:Zk ops (sel ((⟨dst,.binOp .gtr t x y u,ty,pos,after,g⟩:Oper).looksAt ops) S) g=some true:=by exact rfl) (hd:Zx n dst=true:=by exact rfl) (hx:ev (sel ((⟨dst,.binOp .gtr t x y u,ty,pos,after,g⟩:Oper).looksAt ops) S) x=some (.int k a):=by exact rfl) (hy:ev (sel ((⟨dst,.binOp .gtr t x y u,ty,pos,after,g⟩:Oper).looksAt ops) S) y=some (.int k b):=by exact rfl) (h:Zbl C k' n ops I (i :: ℓ) K (ZbC S dst (.bool (decide (b<a)))) D B L):Zbl C k' n ops I ℓ K S D B L:=Zaq i hii hrr hdd (fun _ _ _=>ZwA hg hd hx hy ⟨rfl,rfl,rfl,rfl⟩) h
theorem Zx0  {k:IntKind} {a b:Int} (i:Nat) (hii:ops[i]? = some ⟨dst,.binOp .geq t x y u,ty,pos,after,g⟩)  (hrr:(ZaQ ops ℓ).contains i=true:=by kernel_rfl) (hdd:Zx n dst=true:=by exact rfl) (hg:Zk ops (sel ((⟨dst,.binOp .geq t x y u,ty,pos,after,g⟩:Oper).looksAt ops) S) g=some true:=by exact rfl) (hd:Zx n dst=true:=by exact rfl) (hx:ev (sel ((⟨dst,.binOp .geq t x y u,ty,pos,after,g⟩:Oper).looksAt ops) S) x=some (.int k a):=by exact rfl) (hy:ev (sel ((⟨dst,.binOp .geq t x y u,ty,pos,after,g⟩:Oper).looksAt ops) S) y=some (.int k b):=by exact rfl) (h:Zbl C k' n ops I (i :: ℓ) K (ZbC S dst (.bool (decide (b≤a)))) D B L):Zbl C k' n ops I ℓ K S D B L:=Zaq i hii hrr hdd (fun _ _ _=>ZwB hg hd hx hy ⟨rfl,rfl,rfl,rfl⟩) h
theorem ZrT  {k:IntKind} {a b:Int} (i:Nat) (hii:ops[i]? = some ⟨dst,.binOp .eql t x y u,ty,pos,after,g⟩)  (hrr:(ZaQ ops ℓ).contains i=true:=by kernel_rfl) (hdd:Zx n dst=true:=by exact rfl) (hg:Zk ops (sel ((⟨dst,.binOp .eql t x y u,ty,pos,after,g⟩:Oper).looksAt ops) S) g=some true:=by exact rfl) (hd:Zx n dst=true:=by exact rfl) (hx:ev (sel ((⟨dst,.binOp .eql t x y u,ty,pos,after,g⟩:Oper).looksAt ops) S) x=some (.int k a):=by exact rfl) (hy:ev (sel ((⟨dst,.binOp .eql t x y u,ty,pos,after,g⟩:Oper).looksAt ops) S) y=some (.int k b):=by exact rfl) (h:Zbl C k' n ops I (i :: ℓ) K (ZbC S dst (.bool (decide (a=b)))) D B L):Zbl C k' n ops I ℓ K S D B L:=Zaq i hii hrr hdd (fun _ _ _=>Zug hg hd hx hy ⟨rfl,rfl,rfl,rfl⟩) h
theorem ZxZ  {k:IntKind} {a b:Int} (i:Nat) (hii:ops[i]? = some ⟨dst,.binOp .neq t x y u,ty,pos,after,g⟩)  (hrr:(ZaQ ops ℓ).contains i=true:=by kernel_rfl) (hdd:Zx n dst=true:=by exact rfl) (hg:Zk ops (sel ((⟨dst,.binOp .neq t x y u,ty,pos,after,g⟩:Oper).looksAt ops) S) g=some true:=by exact rfl) (hd:Zx n dst=true:=by exact rfl) (hx:ev (sel ((⟨dst,.binOp .neq t x y u,ty,pos,after,g⟩:Oper).looksAt ops) S) x=some (.int k a):=by exact rfl) (hy:ev (sel ((⟨dst,.binOp .neq t x y u,ty,pos,after,g⟩:Oper).looksAt ops) S) y=some (.int k b):=by exact rfl) (h:Zbl C k' n ops I (i :: ℓ) K (ZbC S dst (.bool (decide (a≠b)))) D B L):Zbl C k' n ops I ℓ K S D B L:=Zaq i hii hrr hdd (fun _ _ _=>Zpn hg hd hx hy ⟨rfl,rfl,rfl,rfl⟩) h
theorem ZrS  {a b:List UInt8} (i:Nat) (hii:ops[i]? = some ⟨dst,.binOp .eql t x y u,ty,pos,after,g⟩)  (hrr:(ZaQ ops ℓ).contains i=true:=by kernel_rfl) (hdd:Zx n dst=true:=by exact rfl) (hg:Zk ops (sel ((⟨dst,.binOp .eql t x y u,ty,pos,after,g⟩:Oper).looksAt ops) S) g=some true:=by exact rfl) (hd:Zx n dst=true:=by exact rfl) (hx:ev (sel ((⟨dst,.binOp .eql t x y u,ty,pos,after,g⟩:Oper).looksAt ops) S) x=some (str a):=by exact rfl) (hy:ev (sel ((⟨dst,.binOp .eql t x y u,ty,pos,after,g⟩:Oper).looksAt ops) S) y=some (str b):=by exact rfl) (h:Zbl C k' n ops I (i :: ℓ) K (ZbC S dst (.bool (decide (a=b)))) D B L):Zbl C k' n ops I ℓ K S D B L:=Zaq i hii hrr hdd (fun _ _ _=>Zuf hg hd hx hy ⟨rfl,rfl,rfl,rfl⟩) h
theorem ZfK  {a b:List UInt8} (i:Nat) (hii:ops[i]? = some ⟨dst,.binOp .neq t x y u,ty,pos,after,g⟩)  (hrr:(ZaQ ops ℓ).contains i=true:=by kernel_rfl) (hdd:Zx n dst=true:=by exact rfl) (hg:Zk ops (sel ((⟨dst,.binOp .neq t x y u,ty,pos,after,g⟩:Oper).looksAt ops) S) g=some true:=by exact rfl) (hd:Zx n dst=true:=by exact rfl) (hx:ev (sel ((⟨dst,.binOp .neq t x y u,ty,pos,after,g⟩:Oper).looksAt ops) S) x=some (str a):=by exact rfl) (hy:ev (sel ((⟨dst,.binOp .neq t x y u,ty,pos,after,g⟩:Oper).looksAt ops) S) y=some (str b):=by exact rfl) (h:Zbl C k' n ops I (i :: ℓ) K (ZbC S dst (.bool (decide (a≠b)))) D B L):Zbl C k' n ops I ℓ K S D B L:=Zaq i hii hrr hdd (fun _ _ _=>Zt8 hg hd hx hy ⟨rfl,rfl,rfl,rfl⟩) h
theorem aD  {k:IntKind} {a b r:Int} (i:Nat) (hii:ops[i]? = some ⟨dst,.binOp .add t x y u,ty,pos,after,g⟩)  (hrr:(ZaQ ops ℓ).contains i=true:=by kernel_rfl) (hdd:Zx n dst=true:=by exact rfl) (hg:Zk ops (sel ((⟨dst,.binOp .add t x y u,ty,pos,after,g⟩:Oper).looksAt ops) S) g=some true:=by exact rfl) (hd:Zx n dst=true:=by exact rfl) (hx:ev (sel ((⟨dst,.binOp .add t x y u,ty,pos,after,g⟩:Oper).looksAt ops) S) x=some (.int k a):=by exact rfl) (hy:ev (sel ((⟨dst,.binOp .add t x y u,ty,pos,after,g⟩:Oper).looksAt ops) S) y=some (.int k b):=by exact rfl) (hr:k.wrap (a+b)=r:=by first | exact Zcy (by first | omega | (simp;done) | (simp;omega)) (by first | omega | (simp;done) | (simp;omega)) | exact rfl) (h:Zbl C k' n ops I (i :: ℓ) K (ZbC S dst (.int k r)) D B L):Zbl C k' n ops I ℓ K S D B L:=Zaq i hii hrr hdd (fun _ _ _=>Zgz hg hd hx hy hr ⟨rfl,rfl,rfl,rfl⟩) h
theorem aU  {k:IntKind} {a b r:Int} (i:Nat) (hii:ops[i]? = some ⟨dst,.binOp .sub t x y u,ty,pos,after,g⟩)  (hrr:(ZaQ ops ℓ).contains i=true:=by kernel_rfl) (hdd:Zx n dst=true:=by exact rfl) (hg:Zk ops (sel ((⟨dst,.binOp .sub t x y u,ty,pos,after,g⟩:Oper).looksAt ops) S) g=some true:=by exact rfl) (hd:Zx n dst=true:=by exact rfl) (hx:ev (sel ((⟨dst,.binOp .sub t x y u,ty,pos,after,g⟩:Oper).looksAt ops) S) x=some (.int k a):=by exact rfl) (hy:ev (sel ((⟨dst,.binOp .sub t x y u,ty,pos,after,g⟩:Oper).looksAt ops) S) y=some (.int k b):=by exact rfl) (hr:k.wrap (a - b)=r:=by first | exact Zcy (by first | omega | (simp;done) | (simp;omega)) (by first | omega | (simp;done) | (simp;omega)) | exact rfl) (h:Zbl C k' n ops I (i :: ℓ) K (ZbC S dst (.int k r)) D B L):Zbl C k' n ops I ℓ K S D B L:=Zaq i hii hrr hdd (fun _ _ _=>Zjk hg hd hx hy hr ⟨rfl,rfl,rfl,rfl⟩) h
theorem aIx  {t:TypeId} {e:TypeId} {x:Operand} {y:Operand} {k:IntKind} {b:Nat} {o:Nat} {len:Nat} {cap:Nat} {sz:Nat} {ix:Int} (i:Nat) (hii:ops[i]? = some ⟨dst,.indexAddr t x y,ty,pos,after,g⟩) (hu:P.underlying t=some (.slice e)) (hsz:ZQ P e=some sz) (hrr:(ZaQ ops ℓ).contains i=true:=by kernel_rfl) (hdd:Zx n dst=true:=by exact rfl) (hg:Zk ops (sel ((⟨dst,.indexAddr t x y,ty,pos,after,g⟩:Oper).looksAt ops) S) g=some true:=by exact rfl) (hd:Zx n dst=true:=by exact rfl) (hx:ev (sel ((⟨dst,.indexAddr t x y,ty,pos,after,g⟩:Oper).looksAt ops) S) x=some (.slice (some ⟨b,o,none⟩) len cap):=by exact rfl) (hy:ev (sel ((⟨dst,.indexAddr t x y,ty,pos,after,g⟩:Oper).looksAt ops) S) y=some (.int k ix):=by exact rfl) (h0:0≤ix:=by first | omega | (simp;done) | (simp;omega)) (h1:ix<len:=by first | omega | (simp;done) | (simp;omega)) (h:Zbl C k' n ops I (i :: ℓ) K (ZbC S dst (ptr ⟨b,o+ix.toNat*sz,none⟩)) D B L):Zbl C k' n ops I ℓ K S D B L:=Zaq i hii hrr hdd (fun _ _ _=>Zwy hg hd hu hsz hx hy h0 h1 ⟨rfl,rfl,rfl,rfl⟩) h
end
section
variable {P:PJ} {n:Nat} {Q:Exit→Zai} {S:Env} {D:List Deferred} {B:Kn} {L:List Cells}
theorem tL1 {c:Code} {x0:Cells} (h:wpS P n c Q S D B [x0]):wpS P n c Q S D B [x0]:=h
theorem tL2 {c:Code} {x0 x1:Cells} (h:wpS P n c Q S D B [x0,x1]):wpS P n c Q S D B [x0,x1]:=h
theorem tL3 {c:Code} {x0 x1 x2:Cells} (h:wpS P n c Q S D B [x0,x1,x2]):wpS P n c Q S D B [x0,x1,x2]:=h
theorem tL4 {c:Code} {x0 x1 x2 x3:Cells} (h:wpS P n c Q S D B [x0,x1,x2,x3]):wpS P n c Q S D B [x0,x1,x2,x3]:=h
theorem tL5 {c:Code} {x0 x1 x2 x3 x4:Cells} (h:wpS P n c Q S D B [x0,x1,x2,x3,x4]):wpS P n c Q S D B [x0,x1,x2,x3,x4]:=h
theorem tL6 {c:Code} {x0 x1 x2 x3 x4 x5:Cells} (h:wpS P n c Q S D B [x0,x1,x2,x3,x4,x5]):wpS P n c Q S D B [x0,x1,x2,x3,x4,x5]:=h
theorem tL7 {c:Code} {x0 x1 x2 x3 x4 x5 x6:Cells} (h:wpS P n c Q S D B [x0,x1,x2,x3,x4,x5,x6]):wpS P n c Q S D B [x0,x1,x2,x3,x4,x5,x6]:=h
theorem tL8 {c:Code} {x0 x1 x2 x3 x4 x5 x6 x7:Cells} (h:wpS P n c Q S D B [x0,x1,x2,x3,x4,x5,x6,x7]):wpS P n c Q S D B [x0,x1,x2,x3,x4,x5,x6,x7]:=h
theorem tL9 {c:Code} {x0 x1 x2 x3 x4 x5 x6 x7 x8:Cells} (h:wpS P n c Q S D B [x0,x1,x2,x3,x4,x5,x6,x7,x8]):wpS P n c Q S D B [x0,x1,x2,x3,x4,x5,x6,x7,x8]:=h
theorem ZBh {c:Code} {x0 x1 x2 x3 x4 x5 x6 x7 x8 x9 x10 x11 x12 x13 x14:Cells} (h:wpS P n c Q S D B [x0,x1,x2,x3,x4,x5,x6,x7,x8,x9,x10,x11,x12,x13,x14]):wpS P n c Q S D B [x0,x1,x2,x3,x4,x5,x6,x7,x8,x9,x10,x11,x12,x13,x14]:=h
theorem wSk {K:Zai} (h:K S D B L):wpS P n .skip (thn K Q) S D B L:=ZS (Zn h)
theorem eR {rs:List ResultVar} {Post:Value→Kn→List Cells→Prop} {v:Value} (hr:ZbP P S B L rs [v]) (hp:Post v B []):Zf8 P rs Post .ret S [] B L:=Zrq .ret (.inl rfl) [v] hr hp
theorem eN {rs:List ResultVar} {Post:Value→Kn→List Cells→Prop} {v:Value} (js:List Nat) {ss r:List Cells} (hp:ZaB L js=some (ss,r)) (hr:ZbP P S B L rs [v]) (hq:Post v B ss):Zf8 P rs Post .ret S [] B L:=ZdI .ret (.inl rfl) [v] js hp hr hq
theorem e1 {rs:List ResultVar} {Post:Value→Kn→List Cells→Prop} {v:Value} (j:Nat) {s:Cells} (hj:L[j]? = some s) (hr:ZbP P S B L rs [v]) (hp:Post v B [s]):Zf8 P rs Post .ret S [] B L:=ZvW .ret (.inl rfl) [v] j hj hr hp
end
theorem mT {α:Type} {R:Rel α} (h:Mono R:=by first | exact Zp.mono | exact Zm.mono | exact Zz.mono | exact Zab.mono | exact Zac.mono | exact Z0.mono | exact ZdF.mono | exact ZbU.mono):Mono R:=h
theorem up1 {B B':Kn} {α1:Type} {q1:Option Addr} {c1 w1:Nat} {R1:Rel α1} {x1:List α1} (hle:B.le B') (h1:SlK B q1 c1 w1 R1 x1) (g1:Mono R1:=by exact mT):SlK B' q1 c1 w1 R1 x1:=h1.mono g1 hle
theorem up2 {B B':Kn} {α1:Type} {q1:Option Addr} {c1 w1:Nat} {R1:Rel α1} {x1:List α1} {α2:Type} {q2:Option Addr} {c2 w2:Nat} {R2:Rel α2} {x2:List α2} (hle:B.le B') (h1:SlK B q1 c1 w1 R1 x1) (h2:SlK B q2 c2 w2 R2 x2) (g1:Mono R1:=by exact mT) (g2:Mono R2:=by exact mT):SlK B' q1 c1 w1 R1 x1∧SlK B' q2 c2 w2 R2 x2:=⟨h1.mono g1 hle,h2.mono g2 hle⟩
theorem up3 {B B':Kn} {α1:Type} {q1:Option Addr} {c1 w1:Nat} {R1:Rel α1} {x1:List α1} {α2:Type} {q2:Option Addr} {c2 w2:Nat} {R2:Rel α2} {x2:List α2} {α3:Type} {q3:Option Addr} {c3 w3:Nat} {R3:Rel α3} {x3:List α3} (hle:B.le B') (h1:SlK B q1 c1 w1 R1 x1) (h2:SlK B q2 c2 w2 R2 x2) (h3:SlK B q3 c3 w3 R3 x3) (g1:Mono R1:=by exact mT) (g2:Mono R2:=by exact mT) (g3:Mono R3:=by exact mT):SlK B' q1 c1 w1 R1 x1∧SlK B' q2 c2 w2 R2 x2∧SlK B' q3 c3 w3 R3 x3:=⟨h1.mono g1 hle,h2.mono g2 hle,h3.mono g3 hle⟩
theorem up4 {B B':Kn} {α1:Type} {q1:Option Addr} {c1 w1:Nat} {R1:Rel α1} {x1:List α1} {α2:Type} {q2:Option Addr} {c2 w2:Nat} {R2:Rel α2} {x2:List α2} {α3:Type} {q3:Option Addr} {c3 w3:Nat} {R3:Rel α3} {x3:List α3} {α4:Type} {q4:Option Addr} {c4 w4:Nat} {R4:Rel α4} {x4:List α4} (hle:B.le B') (h1:SlK B q1 c1 w1 R1 x1) (h2:SlK B q2 c2 w2 R2 x2) (h3:SlK B q3 c3 w3 R3 x3) (h4:SlK B q4 c4 w4 R4 x4) (g1:Mono R1:=by exact mT) (g2:Mono R2:=by exact mT) (g3:Mono R3:=by exact mT) (g4:Mono R4:=by exact mT):SlK B' q1 c1 w1 R1 x1∧SlK B' q2 c2 w2 R2 x2∧SlK B' q3 c3 w3 R3 x3∧SlK B' q4 c4 w4 R4 x4:=⟨h1.mono g1 hle,h2.mono g2 hle,h3.mono g3 hle,h4.mono g4 hle⟩
theorem cB {P:PJ} {f:FuncId} {fn:Func} {code:Code} {rs:List ResultVar} (n:Nat) (hf:P.funcs[f]? = some fn) (hb:fn.body=some code:=by exact rfl) (hn:fn.ntmps=n:=by exact rfl) (hrs:fn.results.toList=rs:=by exact rfl) {args:List Value} (ha:args.length≤n:=by exact Nat.le_of_ble_eq_true rfl) {B:Kn} {Ls:List Cells} {Post:Value→Kn→List Cells→Prop} (h:wpS P n code (Zf8 P rs Post) (ZdD args 0) [] B Ls):Zw P f args B Ls Post:=ZcO n hf hb hn hrs ha h
end Go.BL
namespace Go.BL
open Go.Conc (G)
def bitv (f:Nat→Bool):List Value:=(List.range 100).map (fun n=>.bool (f n))
theorem Zfs (f:Nat→Bool):(bitv f).length=100:=by simp [bitv]
theorem Zj6 {f:Nat→Bool} {k:Nat} (h:k<100):(bitv f)[k]? = some (.bool (f k)):=by simp [bitv,h]
theorem ZtN {f:Nat→Bool} {k:Nat} (h:k<100) (v:Bool):Zad (bitv f) k [.bool v]=bitv (fun n=>if n=k then v else f n):=by
 rw [ZpV (by rw [Zfs];exact h)]
 apply List.ext_getElem?
 intro n
 rw [List.getElem?_set]
 by_cases hn:n<100
 ·by_cases e:k=n
  ·subst e
   rw [if_pos rfl,if_pos (by rw [Zfs];exact h),Zj6 h,if_pos rfl]
  ·rw [if_neg e,Zj6 hn,Zj6 hn,if_neg (fun h=>e h.symm)]
 ·rw [if_neg (by omega),List.getElem?_eq_none (by rw [Zfs];omega),List.getElem?_eq_none (by rw [Zfs];omega)]
section
variable {P:PJ} {n:Nat} {ops:Array Oper} {i:Nat} {K:ZaO} {S:Env} {D:List Deferred} {B:Kn} {L:List Cells}
variable {dst:Option Tmp} {ty:TypeId} {pos:String} {after:Array Edge} {g:Option (Nat × Bool)}
theorem Zpp {t e:TypeId} {x y:Operand} {k:IntKind} {b len:Nat} {ix:Int} (hg:Zk ops S g=some true) (hd:Zx n dst=true) (hu:P.underlying t=some (.array len e)) (hsz:ZQ P e=some 1)
  (hx:ev S x=some (ptr ⟨b,0,none⟩)) (hy:ev S y=some (.int k ix)) (h0:0≤ix) (h1:ix<len) (h:K (ptr ⟨b,ix.toNat,none⟩) D B L):opX P n ops i ⟨dst,.indexAddr t x y,ty,pos,after,g⟩ K S D B L:=
 Zn5 hg hd hu hsz hx hy h0 h1 (by
  have e:(⟨b,0,none⟩:Addr).add (ix.toNat*1)=⟨b,ix.toNat,none⟩:=by simp [Addr.add];omega
  rw [e];exact h)
theorem Znf {t:TypeId} {x y:Operand} {b k:Nat} {v:Bool} {f:Nat→Bool} {T:TypeId} (j:Nat) (hg:Zk ops S g=some true) (hd:Zx n dst=true) (hsz:ZQ P t=some 1)
  (hx:ev S x=some (ptr ⟨b,k,none⟩)) (hy:ev S y=some (.bool v)) (hj:L[j]? = some (ZN b (bitv f) T)) (hk:k<100)
  (h:K undef D B (L.set j (ZN b (bitv (fun n=>if n=k then v else f n)) T))):opX P n ops i ⟨dst,.store t x y,ty,pos,after,g⟩ K S D B L:=
 ZL [.bool v] j (bitv (fun n=>if n=k then v else f n)) hg hd hsz hx hy rfl rfl hj rfl (Nat.ble_eq_true_of_le (by rw [Zfs];simp;omega)) (ZtN hk v) h
theorem Zsh {t:TypeId} {x:Operand} {b:Nat} {f:Nat→Bool} {T:TypeId} (j:Nat) (hg:Zk ops S g=some true) (hd:Zx n dst=true) (hl:lk P t=some (some 100)) (hx:ev S x=some (ptr ⟨b,0,none⟩)) (hj:L[j]? = some (ZN b (bitv f) T))
  (h:K (.agg (bitv f).toArray) D B L):opX P n ops i ⟨dst,.load t x,ty,pos,after,g⟩ K S D B L:=
 Z4 (bitv f) hg hd (by rw [Zfs];exact hl) hx (Zbu j hj rfl (by simp)) h
theorem Zsi {t e:TypeId} {x y:Operand} {k:IntKind} {f:Nat→Bool} {len:Nat} {ix:Int} (hg:Zk ops S g=some true) (hd:Zx n dst=true) (hu:P.underlying t=some (.array len e)) (hl:lk P e=some none) (hsz:ZQ P e=some 1)
  (hx:ev S x=some (.agg (bitv f).toArray)) (hy:ev S y=some (.int k ix)) (h0:0≤ix) (h1:ix<len) (h2:ix<100) (h:K (.bool (f ix.toNat)) D B L):opX P n ops i ⟨dst,.index t x y,ty,pos,after,g⟩ K S D B L:=
 ZJ hg hd (fun ρ hρ Q F q=>by
  have e:(bitv f).toArray[ix.toNat*1]? = some (.bool (f ix.toNat)):=by rw [List.getElem?_toArray,Nat.mul_one,Zj6 (by omega)]
  simp only [execOp,Instr.index,asIntOf,hρ x _ hx,hρ y _ hy,Zi,Zq,Zr hu,h0,h1,and_self,if_true,ZaC hsz,part,Zqr hl,Bool.false_eq_true,if_false,e]
  exact q) h
end
end Go.BL
namespace Go.BL
end Go.BL
namespace Go.BL
open Go.Conc (G)
def Zkc (TL Tn:TypeId) (b:Nat) (vl vc:Value) (bl o:Nat) (cs:List Value) (Tc:TypeId) (rest:Cells) (pre:List DMail):Prop:=
∀v xs s,Zei Tn v xs s→∃v0 s0,Zei Tn v0 (pre ++ xs) s0∧(ZN bl (cs.set o v) Tc ++ (rest ++ s)).Perm (ZN b [v0,vl,vc] TL ++ s0)
theorem Zkc.init {TL Tn:TypeId} {b:Nat} {v0 vl vc:Value} : Zkc TL Tn b vl vc b 0 [v0,vl,vc] TL [] []:=fun v xs s h=>⟨v,s,h,.refl _⟩
theorem Zkc.step {TL Tn Tc:TypeId} {b bl o b8:Nat} {vl vc np:Value} {cs:List Value} {rest:Cells} {pre:List DMail} {y:DMail} (h:Zkc TL Tn b vl vc bl o cs Tc rest pre) (hy:y.text.length≤2000000) :
  Zkc TL Tn b vl vc b8 3 (Zfu y np) Tn (ZN bl (cs.set o (Go.BL.ptr ⟨b8,0,none⟩)) Tc ++ rest) (pre ++ [y]):=fun v xs s hs=>by
 obtain ⟨v0,s0,h1,h2⟩:=h (Go.BL.ptr ⟨b8,0,none⟩) (y :: xs) (ZN b8 (Zfu y v) Tn ++ s) ⟨b8,v,s,rfl,.refl _,hy,hs⟩
 refine ⟨v0,s0,by simpa using h1,?_⟩
 refine List.Perm.trans ?_ h2
 show (ZN b8 (Zfu y v) Tn ++ _).Perm _
 exact Zop fun f g h0 ha hc=>by simp only [ha];omega
def MLw (TL Tn:TypeId) (b:Nat) (xs:List DMail) (s:Cells):Prop:=
∃(p:Option Addr) (vl:Value) (n:Nat) (s0:Cells),n≤2000000∧s.Perm (ZN b [.pointer p,vl,.int .i64 n] TL ++ [s0].flatten)∧Zei Tn (.pointer p) xs s0
end Go.BL
namespace Go.BL
open Go.Conc Go.ConcN
variable {H:Type} {enc:TypeId × Value→H}
theorem Zsg {C:Checked} {os:Os} {f:FuncId} {fn:Func} {s:ChangeSpec} {conds:List PathCond} {apart:Bool} {X:World→Array Value→Prop} (w0:World) (args:Array Value) (fuel:Nat) (hos:w0.os=os)
  (hsh:(w0.forCall (fun _ _=>0) ⟨#[],args,[]⟩).Shaped C.prog)
  (hok:Input.okWideB C.prog (w0.forCall (fun _ _=>0) ⟨#[],args,[]⟩) f ⟨#[],args,[]⟩=true)
  (hpre:s.preB enc C.prog fn conds apart (w0.forCall (fun _ _=>0) ⟨#[],args,[]⟩).memory args fuel=true)
  (hsz:s.sizedB enc C.prog fn apart (w0.forCall (fun _ _=>0) ⟨#[],args,[]⟩).memory args fuel=true)
  (hx:X (w0.forCall (fun _ _=>0) ⟨#[],args,[]⟩).memory args) :
∃(w:World) (tape:Tape) (i:Input),w.os=os∧(w.forCall tape i).Shaped C.prog∧i.vars=[]∧Input.okWide C.prog (w.forCall tape i) .any w.heap.size f i∧
   ((s.pre enc C.prog fn conds apart (w.forCall tape i).memory i.args∧X (w.forCall tape i).memory i.args)∧sizedMet enc C.prog fn (OpenSpec.ofChange s) apart (w.forCall tape i).memory i.args)∧({ calm:=true } : Assume).holds C.prog (lone (Frame.enter C.prog f i.args .normal) [] (w.forCall tape i)):=
 ⟨w0,fun _ _=>0,⟨#[],args,[]⟩,hos,hsh,(Input.okWide_of_okWideB (base:=0) hok).1,(Input.okWide_of_okWideB hok).2,⟨⟨ChangeSpec.pre_of_preB hpre,hx⟩,sizedMet_of_sizedB hsz⟩,by
  simp only [Assume.holds]
  exact ⟨by simp,fun _ _ _ _=>rfl,by simp,by simp,by simp⟩⟩
theorem Zp5 {P:Program} {f:Func} {s:ChangeSpec} {F:Stop.Interp} {apart fresh handsOn:Bool} {W W':World} {args:Array Value} {v:Value} (h:s.post enc P f apart fresh handsOn false W args v W') :
  (OpenSpec.ofChange s).postWith enc P f F (outsideKept [.timePasses]) apart fresh handsOn W args v W':=by
 have e:W'.os=W.os:=by
  obtain ⟨_,_,_,_,_,_,_,_,_,_,h5,_⟩:=h
  exact h5.1
 have e2:({ W' with os:=W.os } : World)=W':=by rw [← e]
 exact postWith_of_post (by rw [e2];exact h) ⟨0,e⟩
theorem Zmz {a:Assume} {C:Checked} {os:Os} {f:FuncId} {fn:Func} {s:ChangeSpec} {apart fresh handsOn:Bool} {Pre:World→Array Value→Prop} {F:Stop.Interp} (h:ReturnsInLeavingWide a C os f .any Pre (s.post enc C.prog fn apart fresh handsOn false)) :
  ReturnsInLeavingWide a C os f .any Pre ((OpenSpec.ofChange s).postWith enc C.prog fn F (outsideKept [.timePasses]) apart fresh handsOn):=fun enter=>by
 obtain ⟨x1,x2,x3,x4,x5⟩:=h enter
 refine ⟨x1,x2,x3,x4,fun w tape i hf=>?_⟩
 obtain ⟨n,v,w',r1,r2,r3,r4,r5⟩:=x5 w tape i hf
 exact ⟨n,v,w',r1,r2,r3,Zp5 r4,r5⟩
end Go.BL
namespace Go.BL
open Go.Conc (G)
theorem ZW.knownF {B:Kn} {l:Cells} {q:Option Addr} {c:Nat} {Tm:TypeId} {xs:List DMail} (h:ZW Kn.none l q c Tm 3 Zab xs) (hl:xs.length≤2000000) (hm :∀p,p∈l→B.mem p.1=some p.2):SlK B q c 3 Zab xs:=⟨h.rowsF Zab.any hm,h.cap,hl⟩
theorem ZaD {P:PJ} {C:Cx P} {k:List Item} {n:Nat} {ops:Array Oper} {I:Kn→List Cells→Prop} {ℓ:List Nat} {K:Zai} {S:Env} {D:List Deferred} {B:Kn} {L:List Cells} (L':List Cells) (hl:L=L') (h:Zbl C k n ops I ℓ K S D B L'):Zbl C k n ops I ℓ K S D B L:=by subst hl;exact h
theorem Zdv {α:Type} {Q:Exit→Zai} {S:Env} {D:List Deferred} {B:Kn} {L:List Cells} {E:α→Env} {Sg:α→List Cells} {F:α→Kn→Prop} (g:α) (L':List Cells) (hL:L=L') (js:List Nat) {r:List Cells} (hF:F g B) (hs:Sub (E g) S) (hp:ZaB L' js=some (Sg g,r)):thn (ZyL E Sg F D) Q .normal S D B L:=by
 subst hL;exact Zam g js hF hs hp
end Go.BL
namespace Go.BL
open Go.Conc (G)
def Zx4 (a b:Int):Int:=IntKind.i64.wrap (BitVec.ofInt 64 a &&& ~~~ BitVec.ofInt 64 b).toNat
section
variable {P:PJ} {n:Nat} {ops:Array Oper} {i:Nat} {K:ZaO} {S:Env} {D:List Deferred} {B:Kn} {L:List Cells}
variable {dst:Option Tmp} {ty:TypeId} {pos:String} {after:Array Edge} {g:Option (Nat × Bool)}
theorem Zws {t u:TypeId} {x y:Operand} {a b:Int} (hg:Zk ops S g=some true) (hd:Zx n dst=true) (hx:ev S x=some (.int .i64 a)) (hy:ev S y=some (.int .i64 b)) (h:K (.int .i64 (Zx4 a b)) D B L):opX P n ops i ⟨dst,.binOp .andNot t x y u,ty,pos,after,g⟩ K S D B L:=
 ZJ hg hd (fun ρ hρ Q F q=>by
  simp only [execOp,hρ x _ hx,hρ y _ hy,Zi,Zaj,binOp,ne_eq,not_true_eq_false,if_false,Op.intBits,Zq];exact q) h
end
end Go.BL
namespace Go.BL
open Go.Conc (G)
theorem ZmY {P:PJ} {t:TypeId} {f:Fn} {first cap:Array Value} {ps rs:Array TypeId} {vr:Bool} (hu:P.underlying t=some (.func ps rs vr)):Zwh P t (.func f first cap) .nilFunc false:=fun B L Q q=>by
 show hb P (Op.equalIn (9999+1) t _ _) Q B L
 rw [Op.equalIn,Zi,Zr hu]
 simp only [Zq];exact q
theorem ZtB {P:PJ} {t:TypeId} {ps rs:Array TypeId} {vr:Bool} (hu:P.underlying t=some (.func ps rs vr)):Zwh P t .nilFunc .nilFunc true:=fun B L Q q=>by
 show hb P (Op.equalIn (9999+1) t _ _) Q B L
 rw [Op.equalIn,Zi,Zr hu]
 simp only [Zq];exact q
theorem Zkc.fin {TL Tn Tc:TypeId} {b bl o n:Nat} {vl:Value} {cs:List Value} {rest cells s:Cells} {pre xs:List DMail} {p:Option Addr} (h:Zkc TL Tn b vl (.int .i64 n) bl o cs Tc rest pre) (hn:n≤2000000) (hc:cs.set o (.pointer p)=cs) (hx:Zei Tn (.pointer p) xs cells) (hs:s.Perm (ZN bl cs Tc ++ (rest ++ cells))):MLw TL Tn b (pre ++ xs) s:=by
 obtain ⟨v0,s0,h1,h2⟩:=h (.pointer p) xs cells hx
 obtain ⟨q,rfl⟩:=h1.ptr
 rw [hc] at h2
 exact ⟨q,vl,n,s0,hn,by simpa using hs.trans h2,h1⟩
structure FlM where
 k:Nat
 don:List DMail
 xs:List DMail
 p:Option Addr
 bl:Nat
 o:Nat
 cs:List Value
 Tc:TypeId
 cells:Cells
 rest:Cells
end Go.BL
namespace Go.BL
open Go.Conc (G)
section
variable {P:PJ} {n:Nat} {ops:Array Oper} {i:Nat} {K:ZaO} {S:Env} {D:List Deferred} {B:Kn} {L:List Cells}
variable {dst:Option Tmp} {ty:TypeId} {pos:String} {after:Array Edge} {g:Option (Nat × Bool)}
end
end Go.BL
namespace Go.BL
open Go.Conc (G)
section
variable {P:PJ} {n:Nat} {ops:Array Oper} {i:Nat} {K:ZaO} {S:Env} {D:List Deferred} {B:Kn} {L:List Cells}
variable {dst:Option Tmp} {ty:TypeId} {pos:String} {after:Array Edge} {g:Option (Nat × Bool)}
end
end Go.BL
namespace Go.BL
open Go
def Zbn (c:UInt8):Bool:=(decide (97≤c.toNat) && decide (c.toNat≤122)) || (decide (48≤c.toNat) && decide (c.toNat≤57))
def Zay (l:List UInt8):Bool:=l.all Zbn && decide (1≤l.length) && decide (l.length≤8)
theorem ZtV {l:List UInt8} {k:Nat} {c:UInt8} (hc:l[k]? = some c) (h:Zbn c=false):l.all Zbn=false:=by
 rw [Bool.eq_false_iff];intro ha
 have:=List.all_eq_true.1 ha c (List.mem_of_getElem? hc)
 rw [h] at this;cases this
theorem ZnX {l:List UInt8} {k:Nat} {c:UInt8} (hc:l[k]? = some c) (h:Zbn c=true) (ha:(l.take k).all Zbn=true):(l.take (k+1)).all Zbn=true:=by
 rw [List.take_add_one,hc];simp only [Option.toList_some,List.all_append,ha,List.all_cons,h,List.all_nil];rfl
def word (l:List UInt8) (i:Nat):List UInt8:=(l.drop i).takeWhile Zbn
def ZdJ (w:List UInt8):Bool:=decide (1≤w.length) && decide (w.length≤8)
theorem ZpS {o:Option UInt8} {f:UInt8→Bool} (h:(match o with | some c=>f c | none=>false)=true) :∃c,o=some c∧f c=true:=by
 cases o with
 | none=>cases h
 | some c=>exact ⟨c,rfl,h⟩
theorem ZbR {α:Type} {l:List α} {k:Nat} {c:α} (h:l[k]? = some c):k<l.length:=(List.getElem?_eq_some_iff.1 h).1
theorem Zgf {p:UInt8→Bool} :∀{m:List UInt8} {k:Nat},(m.take k).all p=true→(∀c,m[k]? = some c→p c=false)→m.takeWhile p=m.take k
 | [],k,_,_=>by simp
 | c :: m,0,_,h=>by simp [List.takeWhile,h c rfl]
 | c :: m,k+1,ha,h=>by
  simp only [List.take_succ_cons,List.all_cons,Bool.and_eq_true] at ha
  simp only [List.takeWhile,ha.1,List.take_succ_cons]
  rw [Zgf ha.2 (fun c hc=>h c (by simpa using hc))]
theorem Zse {l:List UInt8} {i k:Nat} (ha:((l.drop i).take k).all Zbn=true) (h :∀c,l[i+k]? = some c→Zbn c=false):word l i=(l.drop i).take k:=
 Zgf ha (fun c hc=>h c (by simpa using hc))
theorem ZfH {l:List UInt8} {i k:Nat} : (l.take (i+k)).drop i=(l.drop i).take k:=by
 rw [List.drop_take,Nat.add_sub_cancel_left]
theorem ZiN {a b c d:Value} (h:a=c) (h':b=d):Value.tuple #[a,b]=Value.tuple #[c,d]:=by rw [h,h']
def more:Nat→List UInt8→Nat→Bool × Nat
 | 0,_,i=>(true,i)
 | n+1,l,i=>if l[i]? = some 46 then (if ZdJ (word l (i+1))=true then more n l (i+1+(word l (i+1)).length) else (false,i+1+(word l (i+1)).length)) else (true,i)
def dom (l:List UInt8) (i:Nat):Bool × Nat:=if ZdJ (word l i)=true then more 2 l (i+(word l i).length) else (false,i+(word l i).length)
def Zim (l:List UInt8) (i:Nat):List UInt8:=if (dom l i).1=true then (l.take (dom l i).2).drop i else []
def Zm1 (l:List UInt8) (i:Nat):Bool:=(dom l i).1 && decide ((dom l i).2 - i≤20)
theorem Zm0 {l:List UInt8} {i:Nat} (h:ZdJ (word l i)=false):dom l i=(false,i+(word l i).length):=by simp [dom,h]
theorem ZtI {l:List UInt8} {i:Nat} (h:ZdJ (word l i)=true):dom l i=more 2 l (i+(word l i).length):=by simp [dom,h]
theorem ZhE {l:List UInt8} {i:Nat} (h:i≤l.length):i+(word l i).length≤l.length:=by
 have:=List.IsPrefix.length_le (List.takeWhile_prefix Zbn (l:=l.drop i))
 rw [List.length_drop] at this
 unfold word;omega
theorem ZhW {l:List UInt8} {n j:Nat} (h : ¬ l[j]? = some 46):more n l j=(true,j):=by
 cases n with
 | zero=>rfl
 | succ n=>rw [more,if_neg h]
theorem Zs3 {l:List UInt8} {n j:Nat} (hn:1≤n) (h:l[j]? = some 46) (hw:ZdJ (word l (j+1))=false):more n l j=(false,j+1+(word l (j+1)).length):=by
 cases n with
 | zero=>omega
 | succ n=>rw [more,if_pos h,if_neg (by simp [hw])]
theorem Zqj {l:List UInt8} {n j:Nat} (hn:1≤n) (h:l[j]? = some 46) (hw:ZdJ (word l (j+1))=true):more n l j=more (n - 1) l (j+1+(word l (j+1)).length):=by
 cases n with
 | zero=>omega
 | succ n=>rw [more,if_pos h,if_pos hw];rfl
theorem Zeq {p:UInt8→Bool} :∀l:List UInt8,(l.takeWhile p).length=l.length↔l.all p=true
 | []=>by simp
 | c :: l=>by
  have h:=Zeq (p:=p) l
  cases hc:p c with
  | true=>simp [List.takeWhile,hc] at h ⊢;exact h
  | false=>simp [List.takeWhile,hc]
theorem Zdt {l:List UInt8} : Zay l=(ZdJ (word l 0) && decide ((word l 0).length=l.length)):=by
 have h:=Zeq (p:=Zbn) l
 have e:word l 0=l.takeWhile Zbn:=by simp [word]
 rw [Bool.eq_iff_iff]
 simp only [Zay,ZdJ,e,Bool.and_eq_true,decide_eq_true_eq]
 constructor
 ·rintro ⟨⟨h1,h2⟩,h3⟩
  have:=h.2 h1
  omega
 ·rintro ⟨⟨h1,h2⟩,h3⟩
  exact ⟨⟨h.1 h3,by omega⟩,by omega⟩
theorem Zqi {l:List UInt8} :∀(n j:Nat),j≤l.length→(more n l j).2≤l.length
 | 0,j,h=>h
 | n+1,j,h=>by
  rw [more]
  split
  ·rename_i e
   have:=ZbR e
   have h2:=ZhE (l:=l) (i:=j+1) (by omega)
   split
   ·exact Zqi n _ h2
   ·exact h2
  ·exact h
theorem ZxI {l:List UInt8} {i:Nat} (h:i≤l.length):(dom l i).2≤l.length:=by
 unfold dom
 have h2:=ZhE h
 split
 ·exact Zqi 2 _ h2
 ·exact h2
def glue (a:List UInt8):List (List UInt8)→List (List UInt8)
 | []=>[a]
 | p :: ps=>(a ++ p) :: ps
def cut (x:UInt8):List UInt8→List (List UInt8)
 | []=>[[]]
 | c :: r=>if c=x then [] :: cut x r else glue [c] (cut x r)
theorem ZnV (x:UInt8) :∀l,cut x l≠[]
 | []=>by simp [cut]
 | c :: r=>by
  rw [cut]
  split
  ·simp
  ·cases cut x r <;> simp [glue]
theorem ZnL {m:List (List UInt8)} (h:m≠[]):glue [] m=m:=by
 cases m with
 | nil=>exact absurd rfl h
 | cons p ps=>rfl
theorem ZqM (a b:List UInt8) (m:List (List UInt8)):glue a (glue b m)=glue (a ++ b) m:=by
 cases m <;> simp [glue]
structure CutSt where
 i:Nat
 f:Nat
 m:Nat
 ps:List (List UInt8)
 q:Option Addr
 cp:Nat
 s:Cells
theorem Zyt {a b:UInt8} (h:(a.toNat:Int)=b.toNat):a=b:=UInt8.toNat_inj.1 (by exact_mod_cast h)
theorem Zv6 {l:List UInt8} {x c:UInt8} {i:Nat} (h:l[i]? = some c) (e:c=x):cut x (l.drop i)=[] :: cut x (l.drop (i+1)):=by
 obtain ⟨hlt,he⟩:=List.getElem?_eq_some_iff.1 h
 rw [List.drop_eq_getElem_cons hlt,he,cut,if_pos e]
theorem ZtK {l:List UInt8} {x c:UInt8} {i:Nat} (h:l[i]? = some c) (e:c≠x):cut x (l.drop i)=glue [c] (cut x (l.drop (i+1))):=by
 obtain ⟨hlt,he⟩:=List.getElem?_eq_some_iff.1 h
 rw [List.drop_eq_getElem_cons hlt,he,cut,if_neg e]
theorem Zys {a b:UInt8} (h : ¬ (a.toNat:Int)=b.toNat):a≠b:=fun e=>h (by rw [e])
theorem ZpE {l:List UInt8} {c:UInt8} {i f:Nat} (h:l[i]? = some c) (hf:f≤i):(l.take i).drop f ++ [c]=(l.take (i+1)).drop f:=by
 have hlt:=ZbR h
 rw [List.take_add_one,h]
 simp only [Option.toList_some]
 rw [List.drop_append_of_le_length (by rw [List.length_take];omega)]
theorem Ztt (a:List UInt8) (m:List (List UInt8)):glue a ([] :: m)=a :: m:=by simp [glue]
def Zc0 (l:List UInt8):Bool:=(cut 46 l).all Zay && decide ((cut 46 l).length≤3) && decide (l.length≤20)
theorem Zts {a:List UInt8} {m:List (List UInt8)} {n:Nat} (h :∀p,p∈m→p.length≤n) :∀p,p∈glue a m→p.length≤a.length+n:=by
 cases m with
 | nil=>intro p hp;simp [glue] at hp;subst hp;omega
 | cons q qs=>
  intro p hp
  simp only [glue,List.mem_cons] at hp
  rcases hp with rfl | hp
  ·rw [List.length_append];have:=h q (List.mem_cons_self ..);omega
  ·have:=h p (List.mem_cons_of_mem _ hp);omega
theorem Zm2 (x:UInt8) :∀(l p:List UInt8),p∈cut x l→p.length≤l.length
 | [],p,h=>by simp [cut] at h;subst h;simp
 | c :: r,p,h=>by
  rw [cut] at h
  split at h
  ·rcases List.mem_cons.1 h with rfl | h
   ·simp
   ·have:=Zm2 x r p h;simp;omega
  ·have:=Zts (Zm2 x r) p h;simp at this ⊢;omega
theorem ZlM {l:List (List UInt8)} {k:Nat} {c:List UInt8} (hc:l[k]? = some c) (h:Zay c=false):l.all Zay=false:=by
 rw [Bool.eq_false_iff];intro ha
 have:=List.all_eq_true.1 ha c (List.mem_of_getElem? hc)
 rw [h] at this;cases this
theorem Zit {l:List (List UInt8)} {k:Nat} {c:List UInt8} (hc:l[k]? = some c) (h:Zay c=true) (ha:(l.take k).all Zay=true):(l.take (k+1)).all Zay=true:=by
 rw [List.take_add_one,hc];simp only [Option.toList_some,List.all_append,ha,List.all_cons,h,List.all_nil];rfl
theorem ZlA (x:UInt8) :∀l:List UInt8,(cut x l).length≤l.length+1
 | []=>by simp [cut]
 | c :: r=>by
  have h:=ZlA x r
  rw [cut]
  split
  ·simp;omega
  ·cases hq:cut x r with
   | nil=>exact absurd hq (ZnV x r)
   | cons p ps=>rw [hq] at h;simp [glue] at h ⊢;omega
end Go.BL
namespace Go.BL
open Go
theorem Zj3 {x:UInt8} :∀{l:List UInt8},x ∉ l→cut x l=[l]
 | [],_=>rfl
 | c :: r,h=>by
  rw [cut,if_neg (fun e=>h (by rw [e];exact List.mem_cons_self ..)),Zj3 (fun hm=>h (List.mem_cons_of_mem _ hm))]
  rfl
theorem Zin {x:UInt8} {b:List UInt8} :∀{a:List UInt8},x ∉ a→cut x (a ++ x :: b)=a :: cut x b
 | [],_=>by simp [cut]
 | c :: r,h=>by
  rw [List.cons_append,cut,if_neg (fun e=>h (by rw [e];exact List.mem_cons_self ..)),Zin (fun hm=>h (List.mem_cons_of_mem _ hm))]
  rfl
theorem ZfP {x:UInt8} :∀{l:List UInt8},x∈l→∃a b,l=a ++ x :: b∧x ∉ a
 | c :: r,h=>by
  by_cases e:c=x
  ·exact ⟨[],r,by simp [e],by simp⟩
  ·have hr:x∈r:=(List.mem_cons.1 h).resolve_left (Ne.symm e)
   obtain ⟨a,b,h1,h2⟩:=ZfP hr
   exact ⟨c :: a,b,by simp [h1],by simp [Ne.symm e,h2]⟩
theorem ZiF (l:List UInt8) (i j:Nat):word l (i+j)=word (l.drop i) j:=by
 unfold word;rw [List.drop_drop]
theorem ZiW (l:List UInt8) (i:Nat) :∀n j,more n l (i+j)=((more n (l.drop i) j).1,i+(more n (l.drop i) j).2)
 | 0,j=>rfl
 | n+1,j=>by
  simp only [more,List.getElem?_drop]
  rw [show i+j+1=i+(j+1) from by omega,ZiF]
  split
  ·split
   ·rw [show i+(j+1)+(word (l.drop i) (j+1)).length=i+(j+1+(word (l.drop i) (j+1)).length) from by omega,ZiW l i n]
   ·simp only [Prod.mk.injEq,true_and];omega
  ·rfl
theorem Zsf {l:List UInt8} (h:l.all Zbn=true):word l 0=l:=by
 have:=(Zeq (p:=Zbn) l).2 h
 have h2:=List.takeWhile_prefix Zbn (l:=l)
 simp only [word,List.drop_zero]
 exact List.IsPrefix.eq_of_length h2 this
theorem Zg9 {a b:List UInt8} {x:UInt8} (hx:Zbn x=false) (h:a.all Zbn=true):word (a ++ x :: b) 0=a:=by
 simp only [word,List.drop_zero]
 induction a with
 | nil=>simp [List.takeWhile,hx]
 | cons c a ih=>
  simp only [List.all_cons,Bool.and_eq_true] at h
  simp only [List.cons_append,List.takeWhile,h.1,ih h.2]
theorem Zg8 {a:List UInt8} (b:List UInt8) (h:a.all Zbn=false):(word (a ++ b) 0).length<a.length∧word (a ++ b) 0=word a 0:=by
 simp only [word,List.drop_zero]
 induction a with
 | nil=>simp at h
 | cons c a ih=>
  cases hc:Zbn c with
  | false=>simp [List.takeWhile,hc]
  | true=>
   have h':a.all Zbn=false:=by simpa [hc] using h
   have:=ih h'
   simp only [List.cons_append,List.takeWhile,hc,List.length_cons]
   exact ⟨by omega,by rw [this.2]⟩
theorem Zvy {a:List UInt8} (b:List UInt8) {k:Nat} (h:k<a.length):(a ++ b)[k]? = a[k]?:=List.getElem?_append_left h
theorem Zic {x:UInt8} {a:List UInt8} (h:x ∉ a) (k:Nat):a[k]?≠some x:=fun e=>h (List.mem_of_getElem? e)
theorem Zqd :∀(n:Nat) (b:List UInt8),(ZdJ (word b 0)=true∧more n b (word b 0).length=(true,b.length))↔((cut 46 b).all Zay=true∧(cut 46 b).length≤n+1):=by
 intro n
 induction n with
 | zero=>
  intro b
  by_cases hd:(46:UInt8)∈b
  ·obtain ⟨a,r,rfl,ha⟩:=ZfP hd
   rw [Zin ha]
   have hlen:(word (a ++ 46 :: r) 0).length≤a.length:=by
    cases hna:a.all Zbn with
    | true=>rw [Zg9 (by decide) hna];exact Nat.le_refl _
    | false=>exact Nat.le_of_lt (Zg8 _ hna).1
   constructor
   ·rintro ⟨_,h2⟩
    simp only [more,Prod.mk.injEq,true_and] at h2
    rw [List.length_append,List.length_cons] at h2
    omega
   ·rintro ⟨_,h2⟩
    have:=ZnV 46 r
    simp only [List.length_cons] at h2
    exact absurd (List.eq_nil_of_length_eq_zero (by omega)) this
  ·rw [Zj3 hd]
   simp only [more,List.all_cons,List.all_nil,Bool.and_true,List.length_cons,List.length_nil,Nat.zero_add,Nat.le_refl,and_true,Prod.mk.injEq,true_and,Zdt,Bool.and_eq_true,decide_eq_true_eq]
 | succ n ih=>
  intro b
  by_cases hd:(46:UInt8)∈b
  ·obtain ⟨a,r,rfl,ha⟩:=ZfP hd
   rw [Zin ha]
   cases hna:a.all Zbn with
   | true=>
    rw [Zg9 (by decide) hna]
    have hg:(a ++ 46 :: r)[a.length]? = some 46:=by simp
    have hdr:(a ++ 46 :: r).drop (a.length+1)=r:=by rw [List.drop_append];simp
    have hw:word (a ++ 46 :: r) (a.length+1)=word r 0:=by
     have:=ZiF (a ++ 46 :: r) (a.length+1) 0
     rw [Nat.add_zero,hdr] at this;exact this
    have hm:more n (a ++ 46 :: r) (a.length+1+(word r 0).length)=((more n r (word r 0).length).1,a.length+1+(more n r (word r 0).length).2):=by
     rw [ZiW,hdr]
    simp only [more,hg,if_true,hw,hm,List.all_cons,Bool.and_eq_true,List.length_cons]
    have hna':Zay a=ZdJ a:=by rw [Zdt,Zsf hna];simp
    have hi:=ih r
    constructor
    ·rintro ⟨h1,h2⟩
     split at h2
     ·rename_i h3
      simp only [Prod.mk.injEq,List.length_append,List.length_cons] at h2
      have:=hi.1 ⟨h3,by ext1;exact h2.1;simp only [];omega⟩
      exact ⟨⟨by rw [hna'];exact h1,this.1⟩,by omega⟩
     ·simp at h2
    ·rintro ⟨⟨h1,h2⟩,h3⟩
     obtain ⟨h4,h5⟩:=hi.2 ⟨h2,by omega⟩
     refine ⟨by rw [← hna'];exact h1,?_⟩
     rw [if_pos h4,h5]
     simp;omega
   | false=>
    obtain ⟨h1,h2⟩:=Zg8 (46 :: r) hna
    have hne:Zay a=false:=by simp [Zay,hna]
    constructor
    ·rintro ⟨_,h3⟩
     rw [ZhW (by rw [Zvy _ h1];exact Zic ha _)] at h3
     simp only [Prod.mk.injEq,true_and,List.length_append,List.length_cons] at h3
     omega
    ·rintro ⟨h3,_⟩
     simp [hne] at h3
  ·rw [Zj3 hd]
   rw [ZhW (Zic hd _)]
   simp only [List.all_cons,List.all_nil,Bool.and_true,List.length_cons,List.length_nil,Prod.mk.injEq,true_and,Zdt,Bool.and_eq_true,decide_eq_true_eq]
   constructor
   ·rintro ⟨h1,h2⟩;exact ⟨⟨h1,h2⟩,by omega⟩
   ·rintro ⟨⟨h1,h2⟩,_⟩;exact ⟨h1,h2⟩
theorem Zlx (b:List UInt8):((dom b 0).1=true∧(dom b 0).2≤20∧(dom b 0).2=b.length)↔Zc0 b=true:=by
 have h:=Zqd 2 b
 simp only [Zc0,Bool.and_eq_true,decide_eq_true_eq]
 constructor
 ·rintro ⟨h1,h2,h3⟩
  cases hw:ZdJ (word b 0) with
  | false=>simp [dom,hw] at h1
  | true=>
   simp only [dom,hw,if_true,Nat.zero_add] at h1 h2 h3
   have:=h.1 ⟨hw,by ext1;exact h1;exact h3⟩
   exact ⟨⟨this.1,this.2⟩,by omega⟩
 ·rintro ⟨⟨h1,h2⟩,h3⟩
  obtain ⟨h4,h5⟩:=h.2 ⟨h1,h2⟩
  simp only [dom,h4,if_true,Nat.zero_add,h5]
  exact ⟨trivial,h3,trivial⟩
end Go.BL
namespace Go.BL
open Go
theorem Za3 {α:Type} {p:α→Prop} {l:List α} {k:Nat} {x:α} (hx:l[k]? = some x) (h :∀y,y∈l.take k→p y) (hp:p x) :∀y,y∈l.take (k+1)→p y:=by
 intro y hy
 rw [List.take_add_one,hx] at hy
 simp only [Option.toList_some,List.mem_append,List.mem_singleton] at hy
 rcases hy with hy | rfl
 ·exact h y hy
 ·exact hp
def Ze3 (us:List DUser) (u:Str):Int:=match us.findIdx? (fun x=>decide (x.name=u)) with | some i=>i | none=>-1
theorem Ztg {us:List DUser} {u:Str} {k:Nat} {x:DUser} (hx:us[k]? = some x) (he:x.name=u) (h :∀y,y∈us.take k→y.name≠u):Ze3 us u=k:=by
 have:us.findIdx? (fun x=>decide (x.name=u))=some k:=by
  rw [List.findIdx?_eq_some_iff_getElem]
  obtain ⟨hk,rfl⟩:=List.getElem?_eq_some_iff.1 hx
  refine ⟨hk,by simpa using he,fun j hj=>?_⟩
  have:=h us[j] (by rw [List.mem_take_iff_getElem];exact ⟨j,by omega,rfl⟩)
  simpa using this
 rw [Ze3,this]
theorem ZqC {us:List DUser} {u:Str} (h :∀y,y∈us→y.name≠u):Ze3 us u = -1:=by
 have:us.findIdx? (fun x=>decide (x.name=u))=none:=by
  rw [List.findIdx?_eq_none_iff]
  intro x hx
  simpa using h x hx
 rw [Ze3,this]
theorem Zbt {α:Type} {as bs:List α} {k:Nat} {x y:α} (hx:as[k]? = some x) (hy:bs[k]? = some y) (e:x=y) (h:as.take k=bs.take k):as.take (k+1)=bs.take (k+1):=by
 rw [List.take_add_one,List.take_add_one,hx,hy,e,h]
theorem Zf4 {α:Type} {as bs:List α} {inst:Decidable (as=bs)} (h : ¬ (as.length:Int)=bs.length):false=decide (as=bs):=by
 symm;rw [decide_eq_false_iff_not];intro e;exact h (by rw [e])
theorem ZeH {α:Type} {as bs:List α} {inst:Decidable (as=bs)} {k:Nat} {x y:α} (hx:as[k]? = some x) (hy:bs[k]? = some y) (e : ¬ x=y):false=decide (as=bs):=by
 symm;rw [decide_eq_false_iff_not];intro h;rw [h,hy] at hx;exact e (Option.some.inj hx).symm
theorem eqT {α:Type} {as bs:List α} {inst:Decidable (as=bs)} {k:Nat} (hl:as.length=bs.length) (hk:k=as.length) (h:as.take k=bs.take k):true=decide (as=bs):=by
 symm;rw [decide_eq_true_eq]
 rw [List.take_of_length_le (by omega),List.take_of_length_le (by omega)] at h;exact h
theorem ZBp {α:Type} {as:List α} {x:α} {inst:Decidable (x∈as)} (h :∀y,y∈as→y≠x):false=decide (x∈as):=by
 symm;rw [decide_eq_false_iff_not];intro hx;exact h x hx rfl
theorem ZBo {α:Type} {as:List α} {x y:α} {inst:Decidable (x∈as)} {k:Nat} (hy:as[k]? = some y) (e:y=x):true=decide (x∈as):=by
 symm;rw [decide_eq_true_eq];subst e;exact List.mem_of_getElem? hy
theorem Zbb {α:Type} {p:α→Prop} {l:List α} {k:Nat} (hk : ¬ (k:Int)<l.length) (h :∀y,y∈l.take k→p y) :∀y,y∈l→p y:=by
 rwa [List.take_of_length_le (by omega)] at h
theorem Zj1 {α:Type} {l:List α} {k:Nat} {x:α} (h:l[k]? = some x):l.drop k=x :: l.drop (k+1):=by
 obtain ⟨hlt,he⟩:=List.getElem?_eq_some_iff.1 h
 rw [List.drop_eq_getElem_cons hlt,he]
theorem Zrv {α:Type} {l:List α} {k:Nat} (h : ¬ (k:Int)<l.length):l.drop k=[]:=List.drop_eq_nil_of_le (by omega)
def Zc1 (l:List Str):Bool:=l.all Zay && decide l.Nodup && decide (l.length≤3)
def ZcR (x:DLetter):Bool:=Zay x.fr && Zc1 x.to_ && decide (0<x.to_.length) && decide (x.text.length≤20)
def Ze1 (x:DItem):Bool:=ZcR ⟨x.fr,x.left,x.text⟩
def Zd1:Int→List DItem→Option Int
 | last,[]=>some last
 | last,x :: r=>if (last+1≤x.id∧x.id≤99)∧Ze1 x=true then Zd1 x.id r else none
def Za6 (q:DQueue):Bool:=match Zd1 0 q.items with
 | some last=>decide (last+1≤q.next) && decide (q.next≤100) && decide (q.items.length≤6)
 | none=>false
theorem Zqc {α:Type} {l:List α} {k:Nat} {x:α} (hx:l[k]? = some x) (h:(l.take k).Nodup) (hn : ¬ x∈l.take k):(l.take (k+1)).Nodup:=by
 rw [List.take_add_one,hx]
 simp only [Option.toList_some]
 rw [List.nodup_append]
 exact ⟨h,by simp,fun a ha b hb=>by rw [List.mem_singleton.1 hb];exact fun e=>hn (e ▸ ha)⟩
theorem Zve {α:Type} {l:List α} {k:Nat} {x:α} (hx:l[k]? = some x) (h:x∈l.take k) : ¬ l.Nodup:=by
 intro hn
 have e:l=l.take k ++ l.drop k:=(List.take_append_drop k l).symm
 rw [e,Zj1 hx,List.nodup_append] at hn
 exact hn.2.2 x h x (List.mem_cons_self ..) rfl
theorem Zhf {l:List Str} {k:Nat} {x:Str} (hx:l[k]? = some x) (h:Zay x=false):false=Zc1 l:=by
 simp [Zc1,ZlM hx h]
theorem Zhe {l:List Str} {k:Nat} {x:Str} (hx:l[k]? = some x) (h:x∈l.take k):false=Zc1 l:=by
 simp [Zc1,Zve hx h]
theorem ZhV {l:List Str} {k:Nat} (hk : ¬ (k:Int)<l.length) (ha:(l.take k).all Zay=true) (hn:(l.take k).Nodup):decide ((l.length:Int)≤3)=Zc1 l:=by
 rw [List.take_of_length_le (by omega)] at ha hn
 rw [Bool.eq_iff_iff];simp only [Zc1,ha,decide_eq_true hn,Bool.true_and,decide_eq_true_eq];omega
def ZbI {α:Type} (p:α→Bool) (xs:List α):Int:=match xs.findIdx? p with | some i=>i | none=>-1
theorem Zhu {α:Type} {p:α→Bool} {xs:List α} {k:Nat} {x:α} (hx:xs[k]? = some x) (he:p x=true) (h :∀y,y∈xs.take k→p y=false):ZbI p xs=k:=by
 have:xs.findIdx? p=some k:=by
  rw [List.findIdx?_eq_some_iff_getElem]
  obtain ⟨hk,rfl⟩:=List.getElem?_eq_some_iff.1 hx
  refine ⟨hk,he,fun j hj=>?_⟩
  have:=h xs[j] (by rw [List.mem_take_iff_getElem];exact ⟨j,by omega,rfl⟩)
  simpa using this
 rw [ZbI,this]
theorem Ze4 {α:Type} {p:α→Bool} {xs:List α} (h :∀y,y∈xs→p y=false):ZbI p xs = -1:=by
 have:xs.findIdx? p=none:=by
  rw [List.findIdx?_eq_none_iff]
  intro x hx
  simpa using h x hx
 rw [ZbI,this]
theorem ZnI {α:Type} {p:α→Bool} {xs:List α} : (0≤ZbI p xs)↔∃x,x∈xs∧p x=true:=by
 cases h:xs.findIdx? p with
 | none=>
  rw [List.findIdx?_eq_none_iff] at h
  simp only [ZbI,List.findIdx?_eq_none_iff.2 h]
  refine ⟨fun e=>absurd e (by omega),fun ⟨x,hx,hp⟩=>?_⟩
  rw [h x hx] at hp;cases hp
 | some i=>
  simp only [ZbI,h]
  rw [List.findIdx?_eq_some_iff_getElem] at h
  obtain ⟨hi,hp,_⟩:=h
  exact ⟨fun _=>⟨_,List.getElem_mem hi,hp⟩,fun _=>by omega⟩
def ZyV (xs:List Str) (v:Str):Int:=ZbI (fun x=>decide (x=v)) xs
theorem Zth {xs:List Str} {v:Str} : (0≤ZyV xs v)↔v∈xs:=by
 rw [ZyV,ZnI];simp
theorem Zny {q:DQueue} (h:Zd1 0 q.items=none):false=Za6 q:=by simp [Za6,h]
theorem Znx {q:DQueue} {last:Int} (h:Zd1 0 q.items=some last):(decide (last+1≤q.next) && decide (q.next≤100) && decide (q.items.length≤6))=Za6 q:=by simp [Za6,h]
theorem ZpW {q:DQueue} {k:Nat} {last:Int} {x:DItem} (hs:Zd1 0 q.items=Zd1 last (q.items.drop k)) (hx:q.items[k]? = some x):Zd1 0 q.items=if (last+1≤x.id∧x.id≤99)∧Ze1 x=true then Zd1 x.id (q.items.drop (k+1)) else none:=by
 rw [hs,Zj1 hx,Zd1]
theorem ZeY (x:DLetter):ZcR x=(Zay x.fr && (decide (1≤x.to_.length) && Zc1 x.to_) && decide ((x.text.length:Int)≤20)):=by
 rw [Bool.eq_iff_iff];simp only [ZcR,Bool.and_eq_true,decide_eq_true_eq]
 constructor
 ·rintro ⟨⟨⟨a,b⟩,c⟩,d⟩;exact ⟨⟨a,by omega,b⟩,by omega⟩
 ·rintro ⟨⟨a,c,b⟩,d⟩;exact ⟨⟨⟨a,b⟩,by omega⟩,by omega⟩
structure Gh (α:Type) where
 k:Nat
 p:Nat
 l:Cells
 a:Option Addr
 c:Nat
 xs:List α
theorem Zbs {α:Type} {l:List α} {k:Nat} {x:α} (hx:l[k]? = some x):l.take (k+1)=l.take k ++ [x]:=by
 rw [List.take_add_one,hx];rfl
theorem ZpX :∀{xs:List DItem} {l r:Int},Zd1 l xs=some r→l≤r
 | [],l,r,h=>by simp only [Zd1,Option.some.injEq] at h;omega
 | x :: xs,l,r,h=>by
  rw [Zd1] at h
  split at h
  ·rename_i e;have:=ZpX h;omega
  ·cases h
theorem Zhc {q:DQueue} (h:Za6 q=true):1≤q.next∧q.next≤100∧q.items.length≤6:=by
 unfold Za6 at h
 split at h
 ·rename_i last e
  have:=ZpX e
  simp only [Bool.and_eq_true,decide_eq_true_eq] at h
  omega
 ·cases h
structure Gh2 (α β:Type) where
 k:Nat
 p:Nat
 l:Cells
 a:Option Addr
 c:Nat
 xs:List α
 e:β
theorem Zru {α:Type} {xs:List α} {j:Nat} {y:α} (h:xs[j]? = some y):xs.drop j=y :: xs.drop (j+1):=by
 obtain ⟨hj,rfl⟩:=List.getElem?_eq_some_iff.1 h
 exact List.drop_eq_getElem_cons hj
structure QOf where
 p:Option Addr
 ys:List DItem
 xs:List DItem
 l:Cells
 q:Option Addr
 c:Nat
 cells:Cells
theorem ZW.slice0 {α:Type} {B:Kn} {l:Cells} {p:Option Addr} {c:Nat} {T:TypeId} {w sz:Nat} {R:Rel α} {xs:List α} (h:ZW B l p c T w R xs):(if c=0 then p else p.map (fun a=>a.add (0*sz)))=p:=by
 obtain ⟨rows,_,_,_,⟨rfl,_,rfl,_⟩ | ⟨b,arr,rfl,_,_,_,_⟩⟩:=h
 ·rfl
 ·split
  ·rfl
  ·rw [Nat.zero_mul];simp [Addr.add_off]
theorem ZgH {q:DQueue} (h : ¬ (q.items.length≤6∧1≤q.next∧q.next≤100)):false=Za6 q:=by
 symm;rw [Bool.eq_false_iff];intro hq
 have:=Zhc hq
 omega
end Go.BL
namespace Go.BL
open Go
def hat (xs:List Int) (k:Nat):Int:=xs.getD k 0
def swp (xs:List Int) (i j:Nat):List Int:=(xs.set i (hat xs j)).set j (hat xs i)
def ZdH (xs:List Int):Prop:=∀k,0<k→k<xs.length→hat xs ((k - 1) / 2)≤hat xs k
def Zga (xs:List Int) (j:Nat):Prop:=(∀k,0<k→k<xs.length→k≠j→hat xs ((k - 1) / 2)≤hat xs k)∧(∀k,0<k→k<xs.length→(k - 1) / 2=j→0<j→hat xs ((j - 1) / 2)≤hat xs k)
theorem Zvx {xs:List Int} {k:Nat} {a:Int} (h:xs[k]? = some a):hat xs k=a:=by simp [hat,List.getD,h]
theorem ZaT {xs:List Int} {k:Nat} (h:k<xs.length):xs[k]? = some (hat xs k):=by simp [hat,List.getD,List.getElem?_eq_getElem h]
theorem Zdp (xs:List Int) (i j:Nat):(swp xs i j).length=xs.length:=by simp [swp]
theorem Ze5 {xs:List Int} {i j:Nat} (hi:i<xs.length) (hj:j<xs.length) (k:Nat):hat (swp xs i j) k=if k=j then hat xs i else if k=i then hat xs j else hat xs k:=by
 simp only [hat,swp,List.getD,List.getElem?_set]
 by_cases h1:k=j
 ·subst h1;simp [hj]
 ·have h1' : ¬j=k:=fun h=>h1 h.symm
  by_cases h2:k=i
  ·subst h2;simp [hi,h1,h1']
  ·have h2' : ¬i=k:=fun h=>h2 h.symm
   simp [h1,h1',h2,h2']
theorem Zgg {xs:List Int} {i j:Nat} (hi:i<xs.length) (hj:j<xs.length):(swp xs i j).Perm xs:=by
 rw [List.perm_iff_count]
 intro a
 unfold swp
 rw [List.count_set (by simpa using hj),List.count_set hi]
 have e1:(xs.set i (hat xs j))[j]'(by simpa using hj)=hat xs j:=by
  rw [List.getElem_set];split
  ·rfl
  ·simp [hat,List.getD,List.getElem?_eq_getElem hj]
 have e2:xs[i]=hat xs i:=by simp [hat,List.getD,List.getElem?_eq_getElem hi]
 rw [e1,e2]
 have hp :∀v,(v == a)=true→v∈xs→0<List.count a xs:=fun v hv hm=>by
  rw [beq_iff_eq] at hv;subst hv;exact List.count_pos_iff.2 hm
 have hm1:hat xs i∈xs:=by rw [← e2];exact List.getElem_mem _
 by_cases h1:(hat xs i == a)=true <;> by_cases h2:(hat xs j == a)=true <;> simp [h1,h2] <;> (try have:=hp _ h1 hm1;omega)
theorem ZuN {xs:List Int} (h:Zga xs 0):ZdH xs:=fun k h0 hk=>h.1 k h0 hk (by omega)
theorem ZuP {xs:List Int} {j:Nat} (h:Zga xs j) (hj:hat xs ((j - 1) / 2)≤hat xs j):ZdH xs:=fun k h0 hk=>by
 by_cases e:k=j
 ·subst e;exact hj
 ·exact h.1 k h0 hk e
theorem ZuO {xs:List Int} {j:Nat} (h0:0<j) (hj:j<xs.length) (h:Zga xs j) (hlt:hat xs j<hat xs ((j - 1) / 2)):Zga (swp xs ((j - 1) / 2) j) ((j - 1) / 2):=by
 have hi:(j - 1) / 2<xs.length:=by omega
 have H:=fun k=>Ze5 hi hj k
 generalize hii:(j - 1) / 2=i at *
 refine ⟨fun k hk0 hk hne=>?_,fun k hk0 hk hpar hi0=>?_⟩
 ·rw [Zdp] at hk
  rw [H,H]
  by_cases e1:k=j
  ·subst e1
   rw [hii];rw [if_neg (by omega),if_pos rfl,if_pos rfl];omega
  ·rw [if_neg e1,if_neg hne]
   by_cases e2:(k - 1) / 2=j
   ·rw [if_pos e2];have:=h.2 k hk0 hk e2 h0;rw [hii] at this;exact this
   ·rw [if_neg e2]
    by_cases e3:(k - 1) / 2=i
    ·rw [if_pos e3];have:=h.1 k hk0 hk e1;rw [e3] at this;omega
    ·rw [if_neg e3];exact h.1 k hk0 hk e1
 ·rw [Zdp] at hk
  rw [H,H]
  have hpi:(i - 1) / 2≠i:=by omega
  have hpj:(i - 1) / 2≠j:=by omega
  rw [if_neg hpj,if_neg hpi]
  have hii2:=h.1 i hi0 hi (by omega)
  by_cases e1:k=j
  ·rw [if_pos e1];exact hii2
  ·rw [if_neg e1,if_neg (by omega)]
   have:=h.1 k hk0 hk e1;rw [hpar] at this;omega
theorem Ztk {xs:List Int} (h:ZdH xs) :∀k,k<xs.length→hat xs 0≤hat xs k:=fun k=>by
 induction k using Nat.strongRecOn with
 | ind k ih=>
  intro hk
  by_cases h0:k=0
  ·subst h0;exact Int.le_refl _
  ·have h1:=ih ((k - 1) / 2) (by omega) (by omega)
   have h2:=h k (by omega) hk
   omega
def Zt3 (xs:List Int) (n:Nat):Prop:=∀k,0<k→k<n→hat xs ((k - 1) / 2)≤hat xs k
def Zfg (xs:List Int) (n i:Nat):Prop:=(∀k,0<k→k<n→(k - 1) / 2≠i→hat xs ((k - 1) / 2)≤hat xs k)∧(∀k,0<k→k<n→(k - 1) / 2=i→0<i→hat xs ((i - 1) / 2)≤hat xs k)
theorem Zrw {xs:List Int} {n i:Nat} (h:Zfg xs n i) (hl:n≤2*i+1):Zt3 xs n:=fun k h0 hk=>h.1 k h0 hk (by omega)
theorem Zil {xs:List Int} {n i:Nat} (h:Zfg xs n i) (hc :∀k,0<k→k<n→(k - 1) / 2=i→hat xs i≤hat xs k):Zt3 xs n:=fun k h0 hk=>by
 by_cases e:(k - 1) / 2=i
 ·rw [e];exact hc k h0 hk e
 ·exact h.1 k h0 hk e
theorem Zik {xs:List Int} {n i j:Nat} (hn:n≤xs.length) (hj0:0<j) (hj:j<n) (hpj:(j - 1) / 2=i) (h:Zfg xs n i) (hmin :∀k,0<k→k<n→(k - 1) / 2=i→hat xs j≤hat xs k) (hlt:hat xs j<hat xs i):Zfg (swp xs i j) n j:=by
 have hi:i<xs.length:=by omega
 have hij:i≠j:=by omega
 have H:=fun k=>Ze5 hi (show j<xs.length by omega) k
 refine ⟨fun k hk0 hk hne=>?_,fun k hk0 hk hpar _=>?_⟩
 ·rw [H,H,if_neg hne]
  by_cases e1:k=j
  ·subst e1;rw [if_pos hpj,if_pos rfl];omega
  ·rw [if_neg e1]
   by_cases e2:(k - 1) / 2=i
   ·rw [if_pos e2,if_neg (by omega)];exact hmin k hk0 hk e2
   ·rw [if_neg e2]
    by_cases e3:k=i
    ·rw [if_pos e3];subst e3;exact h.2 j hj0 hj hpj hk0
    ·rw [if_neg e3];exact h.1 k hk0 hk e2
 ·rw [H,H,hpj,if_neg hij,if_pos rfl,if_neg (by omega),if_neg (by omega)]
  have:=h.1 k hk0 hk (by omega)
  rwa [hpar] at this
theorem Zyu (k:Nat):Int.tdiv ((k:Int) - 1) 2=(((k - 1) / 2:Nat):Int):=by
 cases k with
 | zero=>rfl
 | succ k=>rw [show ((k+1:Nat):Int) - 1=(k:Int) from by omega,Int.tdiv_eq_ediv_of_nonneg (by omega)];simp
theorem ZqJ {xs:List Int} {z:Int} {k:Nat} (h:k<xs.length):hat (xs ++ [z]) k=hat xs k:=by
 simp [hat,List.getD,List.getElem?_append_left h]
theorem ZsH {xs:List Int} {z:Int} (h:ZdH xs):Zga (xs ++ [z]) xs.length:=by
 refine ⟨fun k h0 hk hne=>?_,fun k h0 hk hp _=>?_⟩
 ·rw [List.length_append,List.length_singleton] at hk
  rw [ZqJ (by omega),ZqJ (by omega)]
  exact h k h0 (by omega)
 ·rw [List.length_append,List.length_singleton] at hk
  omega
theorem Zu2 {xs:List Int} (h:ZdH xs) (h0:0<xs.length):Zfg (swp xs 0 (xs.length - 1)) (xs.length - 1) 0:=by
 refine ⟨fun k hk0 hk hne=>?_,fun k hk0 hk hpar hh=>absurd hh (by omega)⟩
 rw [Ze5 h0 (by omega),Ze5 h0 (by omega),if_neg (by omega),if_neg (by omega),if_neg (by omega),if_neg (by omega)]
 exact h k hk0 (by omega)
theorem Zsz {xs:List Int} (h0:0<xs.length):hat (swp xs 0 (xs.length - 1)) (xs.length - 1)=hat xs 0:=by rw [Ze5 h0 (by omega),if_pos rfl]
theorem ZnK {xs:List Int} {n k:Nat} (h:k<n):hat (xs.take n) k=hat xs k:=by simp [hat,List.getD,List.getElem?_take,h]
theorem ZoP {ys:List Int} {n:Nat} (h:Zt3 ys n) (hn:n≤ys.length):ZdH (ys.take n):=fun k h0 hk=>by
 rw [List.length_take] at hk
 rw [ZnK (by omega),ZnK (by omega)]
 exact h k h0 (by omega)
theorem ZsK {xs ys:List Int} (h0:0<ys.length) (hp:ys.Perm xs) {z:Int} (hz:hat ys (ys.length - 1)=z):(z :: ys.take (ys.length - 1)).Perm xs:=by
 refine List.Perm.trans ?_ hp
 have e:ys=ys.take (ys.length - 1) ++ [z]:=by
  have h1:=Zbs (ZaT (xs:=ys) (k:=ys.length - 1) (by omega))
  rw [show ys.length - 1+1=ys.length from by omega,List.take_length] at h1
  rw [hz] at h1;exact h1
 have h2:(z :: ys.take (ys.length - 1)).Perm (ys.take (ys.length - 1) ++ [z]):=(List.perm_append_singleton z _).symm
 rwa [← e] at h2
theorem Ztj:ZdH []:=fun k h0 hk=>by simp at hk
def asc:Int→Int→List Int→Bool
 | _,_,[]=>true
 | b,l,x :: r=>decide (b<x) && decide (x≤l) && asc x l r
theorem ZrO :∀{r:List Int} {b l z:Int},asc b l r=true→z∈r→b<z
 | [],_,_,_,_,hz=>by cases hz
 | x :: r,b,l,z,h,hz=>by
  simp only [asc,Bool.and_eq_true,decide_eq_true_eq] at h
  rcases List.mem_cons.1 hz with rfl | hz
  ·exact h.1.1
  ·have:=ZrO h.2 hz;omega
theorem Zvw {xs:List Int} {k:Nat} (h:k<xs.length):hat xs k∈xs:=List.mem_of_getElem? (ZaT h)
theorem ZtT {b l x:Int} {r ys:List Int} (hp:ys.Perm (x :: r)) (hh:ZdH ys) (hne:hat ys 0≠x):false=asc b l (x :: r):=by
 symm;rw [Bool.eq_false_iff]
 intro h
 have h0:0<ys.length:=by rw [hp.length_eq];simp
 have hm:=hp.mem_iff.1 (Zvw h0)
 simp only [asc,Bool.and_eq_true,decide_eq_true_eq] at h
 rcases List.mem_cons.1 hm with e | hm
 ·exact hne e
 ·have h1:=ZrO h.2 hm
  obtain ⟨k,hk⟩:=List.mem_iff_getElem?.1 (hp.mem_iff.2 (List.mem_cons_self (a:=x) (l:=r)))
  have h2:=Ztk hh k (List.getElem?_eq_some_iff.1 hk).1
  rw [Zvx hk] at h2
  omega
theorem ZtS {b l x:Int} {r:List Int} (h:x≤b):false=asc b l (x :: r):=by simp [asc,show ¬ b<x from by omega]
theorem ZtR {b l x:Int} {r:List Int} (h:l<x):false=asc b l (x :: r):=by simp [asc,show ¬ x≤l from by omega]
theorem ZxT {b l x:Int} {r:List Int} (h : ¬ x≤b) (h2 : ¬ l<x):asc b l (x :: r)=asc x l r:=by simp [asc,show b<x from by omega,show x≤l from by omega]
theorem Znu :∀{xs:List DItem} {b:Int} {l:Int},l≤99→(match Zd1 b xs with | some r=>decide (r≤l) | none=>false)=(decide (b≤l) && xs.all Ze1 && asc b l (xs.map (·.id)))
 | [],b,l,_=>by simp [Zd1,asc]
 | x :: xs,b,l,hl=>by
  have ih:=Znu (xs:=xs) (b:=x.id) hl
  rw [Zd1,List.map_cons,List.all_cons,asc]
  by_cases h1:b+1≤x.id
  ·by_cases h2:Ze1 x=true
   ·by_cases h3:x.id≤99
    ·rw [if_pos ⟨⟨h1,h3⟩,h2⟩,ih,h2]
     by_cases h4:x.id≤l
     ·simp [h4,show b≤l from by omega,show b<x.id from by omega]
     ·simp [h4]
    ·rw [if_neg (fun h=>h3 h.1.2)]
     simp [show ¬ x.id≤l from by omega]
   ·rw [if_neg (fun h=>h2 h.2)]
    simp [h2]
  ·rw [if_neg (fun h=>h1 h.1.1)]
   simp [show ¬ b<x.id from by omega]
theorem ZfU (q:DQueue):Za6 q=(decide (q.items.length≤6) && decide (1≤q.next) && decide (q.next≤100) && q.items.all Ze1 && asc 0 (q.next - 1) (q.items.map (·.id))):=by
 by_cases h:q.next≤100
 ·have:=Znu (xs:=q.items) (b:=0) (l:=q.next - 1) (by omega)
  unfold Za6
  cases hs:Zd1 0 q.items with
  | none=>
   rw [hs] at this
   simp only at this
   rw [Bool.eq_iff_iff]
   simp only [Bool.and_eq_true,decide_eq_true_eq,Bool.false_eq_true,false_iff]
   rintro ⟨⟨⟨⟨_,h1⟩,_⟩,h2⟩,h3⟩
   rw [h2,h3] at this
   simp at this;omega
  | some r=>
   rw [hs] at this
   simp only at this
   rw [Bool.eq_iff_iff] at this ⊢
   simp only [Bool.and_eq_true,decide_eq_true_eq] at this ⊢
   constructor
   ·rintro ⟨⟨h1,h2⟩,h3⟩
    obtain ⟨⟨a,b⟩,c⟩:=this.1 (by omega)
    exact ⟨⟨⟨⟨h3,by omega⟩,h⟩,b⟩,c⟩
   ·rintro ⟨⟨⟨⟨h1,h2⟩,h3⟩,h4⟩,h5⟩
    have:=this.2 ⟨⟨by omega,h4⟩,h5⟩
    omega
 ·unfold Za6
  cases Zd1 0 q.items <;> simp [h]
theorem ZxW {α:Type} {p:α→Bool} {l:List α} {k:Nat} {x:α} (hx:l[k]? = some x) (h:p x=false):l.all p=false:=by
 rw [Bool.eq_false_iff];intro hp
 rw [List.all_eq_true] at hp
 have:=hp x (List.mem_of_getElem? hx)
 rw [h] at this;cases this
theorem ZxV {α:Type} {p:α→Bool} {l:List α} {k:Nat} {x:α} (hx:l[k]? = some x) (h:p x=true) (ha:(l.take k).all p=true):(l.take (k+1)).all p=true:=by
 rw [Zbs hx,List.all_append,ha];simp [h]
theorem Zmf {q:DQueue} {k:Nat} {x:DItem} (hx:q.items[k]? = some x) (h:Ze1 x=false):false=Za6 q:=by
 rw [ZfU,ZxW hx h];simp
theorem Zme {q:DQueue} {k:Nat} (hk : ¬ (k:Int)<q.items.length) (ha:(q.items.take k).all Ze1=true) (h6:q.items.length≤6) (h1:1≤q.next) (h2:q.next≤100):asc 0 (q.next - 1) (q.items.map (·.id))=Za6 q:=by
 rw [List.take_of_length_le (by omega)] at ha
 rw [ZfU,ha];simp [h6,h1,h2]
theorem ZkL {q:DQueue} (h:Za6 q=true) {x:DItem} (hx:x∈q.items):Ze1 x=true:=by
 rw [ZfU] at h
 simp only [Bool.and_eq_true] at h
 exact List.all_eq_true.1 h.1.2 x hx
end Go.BL
namespace Go.BL
open Go
def Zcp (m:DMail):Bool:=(decide (1≤m.uid) && decide (m.uid≤99)) && (decide (0≤m.flags) && decide (m.flags≤31)) && decide (m.text.length≤20)
def scn {α β:Type} (p:β→α→Bool) (nx:β→α→β) (b0:β) (xs:List α):Bool × β:=xs.foldl (fun s x=>(s.1 && p s.2 x,nx s.2 x)) (true,b0)
theorem ZdV {α β:Type} {p:β→α→Bool} {nx:β→α→β} {b0:β} {xs:List α} : scn p nx b0 (xs.take 0)=(true,b0):=by simp [scn]
theorem Znr {α β:Type} {p:β→α→Bool} {nx:β→α→β} {b0:β} {xs:List α} {k:Nat} {x:α} (hx:xs[k]? = some x):scn p nx b0 (xs.take (k+1))=((scn p nx b0 (xs.take k)).1 && p (scn p nx b0 (xs.take k)).2 x,nx (scn p nx b0 (xs.take k)).2 x):=by
 have:xs.take (k+1)=xs.take k ++ [x]:=by rw [List.take_add_one,hx];rfl
 rw [this,scn,List.foldl_append];rfl
theorem ZbO {α β:Type} {p:β→α→Bool} {nx:β→α→β} :∀(xs:List α) (b:β),(xs.foldl (fun (s:Bool × β) x=>(s.1 && p s.2 x,nx s.2 x)) (false,b)).1=false
 | [],_=>rfl
 | x :: xs,b=>by simp only [List.foldl_cons,Bool.false_and];exact ZbO xs _
theorem ZuY {α β:Type} {p:β→α→Bool} {nx:β→α→β} {b0:β} {xs:List α} {k:Nat} (h:(scn p nx b0 (xs.take k)).1=false):(scn p nx b0 xs).1=false:=by
 have e:xs=xs.take k ++ xs.drop k:=(List.take_append_drop k xs).symm
 have:scn p nx b0 xs=(xs.drop k).foldl (fun s x=>(s.1 && p s.2 x,nx s.2 x)) (scn p nx b0 (xs.take k)):=by
  conv=>lhs;rw [e,scn,List.foldl_append]
  rfl
 rw [this]
 rcases hs:scn p nx b0 (xs.take k) with ⟨b,c⟩
 rw [hs] at h
 simp only at h
 subst h
 exact ZbO _ _
theorem ZfS {α β:Type} {p:β→α→Bool} {nx:β→α→β} {b0:β} {xs:List α} {k:Nat} {x:α} (hx:xs[k]? = some x) (h:p (scn p nx b0 (xs.take k)).2 x=false):(scn p nx b0 xs).1=false:=
 ZuY (k:=k+1) (by rw [Znr hx,h,Bool.and_false])
theorem Zbp {α β:Type} {p:β→α→Bool} {nx:β→α→β} {b0 b:β} {xs:List α} {k:Nat} {x:α} (hx:xs[k]? = some x) (hs:scn p nx b0 (xs.take k)=(true,b)) (h:p b x=true):scn p nx b0 (xs.take (k+1))=(true,nx b x):=by
 rw [Znr hx,hs];simp [h]
theorem Zds {α β:Type} {p:β→α→Bool} {nx:β→α→β} {b0 b:β} {xs:List α} {k:Nat} (hs:scn p nx b0 (xs.take k)=(true,b)) (hk:xs.length≤k):scn p nx b0 xs=(true,b):=by
 rwa [List.take_of_length_le hk] at hs
def Zc2 (b:Int) (m:DMail):Bool:=Zcp m && decide (b<m.uid)
def Zda (ms:List DMail):Bool × Int:=scn Zc2 (fun _ m=>m.uid) 0 ms
def Zcj (b:DBox):Bool:=(Zda b.mail).1 && (decide ((Zda b.mail).2+1≤b.next) && decide (b.next≤100)) && decide (b.mail.length≤10)
def ZaJ (ms:List DMail):Nat:=(ms.map (·.text.length)).sum
theorem ZhM {ms:List DMail} {k:Nat} {x:DMail} (hx:ms[k]? = some x):ZaJ (ms.take (k+1))=ZaJ (ms.take k)+x.text.length:=by
 have:ms.take (k+1)=ms.take k ++ [x]:=by rw [List.take_add_one,hx];rfl
 simp [ZaJ,this]
theorem Zgv {b:DBox} (h:(Zda b.mail).1=false):Zcj b=false:=by simp [Zcj,h]
theorem Zfb {b:DBox} {l:Int} (h:Zda b.mail=(true,l)):Zcj b=((decide (l+1≤b.next) && decide (b.next≤100)) && decide (b.mail.length≤10)):=by simp [Zcj,h]
theorem ZiY {m:DMail} (h:Zcp m=true):0≤m.uid∧m.uid≤99:=by
 simp only [Zcp,Bool.and_eq_true,decide_eq_true_eq] at h;omega
theorem ZiP {ms:List DMail} {k n:Nat} (h:n=ZaJ (ms.take k)) (hk:ms.length≤k):n=ZaJ ms:=by rwa [List.take_of_length_le hk] at h
def ZdY (b:DBox):Int:=if Zcj b then (ZaJ b.mail:Int) else -1
def anyone:Str:=[97,110,121,111,110,101]
def Zc5 (u:DUser):Bool:=Zay u.name && decide (u.name≠anyone) && Zay u.pass && (decide (0≤u.quota) && decide (u.quota≤200))
theorem ZbE :∀(a b:Str),Op.bytesLess a b = !(Op.bytesLess b a || decide (b=a))
 | [],[]=>by simp [Op.bytesLess]
 | [],_ :: _=>by simp [Op.bytesLess]
 | _ :: _,[]=>by simp [Op.bytesLess]
 | a :: x,b :: y=>by
  have ih:=ZbE x y
  simp only [Op.bytesLess,ih]
  rcases UInt8.lt_or_lt_of_ne (a:=a) (b:=b) with h
  by_cases e:a=b
  ·subst e
   have : ¬ a<a:=UInt8.lt_irrefl a
   simp [this,ih]
  ·rcases h e with h | h
   ·have h2 : ¬ b<a:=UInt8.lt_asymm h
    simp [h,h2,e,Ne.symm e]
   ·have h2 : ¬ a<b:=UInt8.lt_asymm h
    simp [h,h2,e]
def ZeP (b:Str) (u:DUser):Bool:=Zc5 u && Op.bytesLess b u.name
def Zep (us:List DUser):Bool × Str:=scn ZeP (fun _ u=>u.name) [] us
def ZaE (us:List DUser):Bool:=(Zep us).1 && (decide (1≤us.length) && decide (us.length≤4))
theorem ZfN {us:List DUser} (h:(Zep us).1=false):ZaE us=false:=by simp [ZaE,h]
theorem ZhI {us:List DUser} {b:Str} (h:Zep us=(true,b)):ZaE us=(decide (1≤us.length) && decide (us.length≤4)):=by simp [ZaE,h]
def Zqb:DUser:=⟨[],[],0⟩
def Zf3 (t:DUser→Bool) (us:List DUser):DUser × Bool:=match us.find? t with | some x=>(x,true) | none=>(Zqb,false)
theorem Zlt {α:Type} {t:α→Bool} {xs:List α} (h :∀y,y∈xs→t y=false):xs.find? t=none:=List.find?_eq_none.2 fun y hy=>by simp [h y hy]
theorem Ztx {α:Type} {t:α→Bool} {xs:List α} {k:Nat} {x:α} (hx:xs[k]? = some x) (ht:t x=true) (h :∀y,y∈xs.take k→t y=false):xs.find? t=some x:=by
 have hlt:=(List.getElem?_eq_some_iff.1 hx).1
 have e:xs=xs.take k ++ (x :: xs.drop (k+1)):=by
  rw [← (List.getElem?_eq_some_iff.1 hx).2,← List.drop_eq_getElem_cons hlt,List.take_append_drop]
 rw [e,List.find?_append,Zlt h];simp [ht]
theorem Zrb {t:DUser→Bool} {us:List DUser} {k:Nat} {x:DUser} (hx:us[k]? = some x) (ht:t x=true) (h :∀y,y∈us.take k→t y=false):Zf3 t us=(x,true):=by simp [Zf3,Ztx hx ht h]
theorem ZoV {t:DUser→Bool} {us:List DUser} (h :∀y,y∈us→t y=false):Zf3 t us=(Zqb,false):=by simp [Zf3,Zlt h]
theorem Zjt {B:Kn} {b:Nat} {T:TypeId} {vs:List Value} (h :∀p,p∈ZN b vs T→B.mem p.1=some p.2):Zan B b 0 vs:=fun L j u hu=>
 ⟨rfl,vs.toArray,T,(0,0),.inl (h (b,.cells vs.toArray T) (List.mem_singleton.2 rfl)),by simpa using hu⟩
def ZaM (us:List DUser) (n:Str):DUser × Bool:=if ZaE us then Zf3 (fun y=>decide (y.name=n)) us else (Zqb,false)
def inF (o n:Str) (f:DFolder):Bool:=decide (f.owner=o) && decide (f.name=n)
def Zdc (us:List DUser) (x:DItem):Bool:=(ZaM us x.fr).2 && x.left.all fun n=>(ZaM us n).2
theorem ZbX {α:Type} {p:α→Bool} {xs:List α} {k:Nat} {x:α} (hx:xs[k]? = some x) (h:p x=false):xs.all p=false:=by
 rw [List.all_eq_false];exact ⟨x,List.mem_of_getElem? hx,by simp [h]⟩
theorem ZdP {α:Type} {p:α→Bool} {xs:List α} (h :∀y,y∈xs→p y=true):xs.all p=true:=List.all_eq_true.2 h
def ZeZ (a b:DFolder):Bool:=Op.bytesLess a.owner b.owner || (decide (a.owner=b.owner) && Op.bytesLess a.name b.name)
theorem ZdN (a:Str):Op.bytesLess a a=false:=by
 have:=ZbE a a
 cases h:Op.bytesLess a a with
 | false=>rfl
 | true=>rw [h] at this;simp at this
end Go.BL
namespace Go.BL
open Go
inductive Prev {α β:Type} (f:α→β) (z:β) (xs:List α):Nat→β→Prop
 | zero:Prev f z xs 0 z
 | succ {k:Nat} {x:α} : xs[k]? = some x→Prev f z xs (k+1) (f x)
theorem Prev.at {α β:Type} {f:α→β} {z:β} {xs:List α} {k:Nat} {b:β} {y:α} (h:Prev f z xs k b) (hy:xs[((k:Int) - 1).toNat]? = some y) (hk:0<(k:Int)):b=f y:=by
 cases h with
 | zero=>omega
 | succ hx=>
  rename_i k x
  rw [show (((k+1:Nat):Int) - 1).toNat=k from by omega,hx] at hy
  cases hy;rfl
theorem Prev.at0 {α β:Type} {f:α→β} {z:β} {xs:List α} {k:Nat} {b:β} (h:Prev f z xs k b) (hk:(k:Int)≤0):b=z:=by
 cases h with
 | zero=>rfl
 | succ hx=>omega
theorem Zhq {α β:Type} {p:β→α→Bool} {nx:β→α→β} {b0 b:β} {xs:List α} {k:Nat} {x:α} (hx:xs[k]? = some x) (hs:scn p nx b0 (xs.take k)=(true,b)) (h:p b x=false):(scn p nx b0 xs).1=false:=
 ZfS hx (by rw [congrArg Prod.snd hs];exact h)
theorem Zdn {us:List DUser} {k:Nat} {x:DUser} {nm:Str} (hx:us[k]? = some x) (hs:Zep (us.take k)=(true,nm)) (h:ZeP nm x=false):ZaE us=false:=
 ZfN (Zhq hx hs h)
theorem ZnB {s:Str} (h:0<s.length):Op.bytesLess [] s=true:=by
 cases s with
 | nil=>cases h
 | cons a s=>rfl
theorem ZiV {s:Str} (h:Zay s=true):0<s.length:=by
 cases s with
 | nil=>simp [Zay] at h
 | cons a s=>simp
def Zcf (b:Str) (g:DGrant):Bool:=Zay g.user && (decide (1≤g.rights) && decide (g.rights≤63)) && Op.bytesLess b g.user
def ZcY (gs:List DGrant):Bool × Str:=scn Zcf (fun _ g=>g.user) [] gs
def Zde (gs:List DGrant):Bool:=(ZcY gs).1 && decide (gs.length≤4)
theorem ZdE {gs:List DGrant} {k:Nat} {x:DGrant} {nm:Str} (hx:gs[k]? = some x) (hs:ZcY (gs.take k)=(true,nm)) (h:Zcf nm x=false):Zde gs=false:=by
 rw [Zde,show (ZcY gs).1=false from Zhq hx hs h,Bool.false_and]
theorem ZlN {gs:List DGrant} {b:Str} (h:ZcY gs=(true,b)):Zde gs=decide (gs.length≤4):=by rw [Zde,h,Bool.true_and]
def DFolder.box (f:DFolder):DBox:=⟨f.next,f.mail⟩
def inbox:Str:=[105,110,98,111,120]
def Z7 (us:List DUser) (f:DFolder):Bool:=decide (0≤Ze3 us f.owner) && Zay f.name && Zde f.grants && Zcj f.box
def Zby (us:List DUser) (b:Option DFolder) (f:DFolder):Bool:=Z7 us f && (match b with | none=>true | some y=>ZeZ y f)
def Zdi (us:List DUser) (fs:List DFolder):Bool × Option DFolder:=scn (Zby us) (fun _ f=>some f) none fs
def Zcu (us:List DUser) (fs:List DFolder):Bool:=(Zdi us fs).1 && decide (fs.length≤8)
theorem Zct {us:List DUser} {fs:List DFolder} {k:Nat} {x:DFolder} {b:Option DFolder} (hx:fs[k]? = some x) (hs:Zdi us (fs.take k)=(true,b)) (h:Zby us b x=false):Zcu us fs=false:=by
 rw [Zcu,show (Zdi us fs).1=false from Zhq hx hs h,Bool.false_and]
theorem ZjR {us:List DUser} {fs:List DFolder} {b:Option DFolder} (h:Zdi us fs=(true,b)):Zcu us fs=decide (fs.length≤8):=by rw [Zcu,h,Bool.true_and]
def ZdS (fs:List DFolder) (u:Str):Nat:=(fs.map fun f=>if f.owner=u then ZaJ f.mail else 0).sum
theorem ZiM {fs:List DFolder} {u:Str} {k:Nat} {x:DFolder} (hx:fs[k]? = some x):ZdS (fs.take (k+1)) u=ZdS (fs.take k) u+if x.owner=u then ZaJ x.mail else 0:=by
 have:fs.take (k+1)=fs.take k ++ [x]:=by rw [List.take_add_one,hx];rfl
 simp [ZdS,this]
theorem Zpx {fs:List DFolder} {u:Str} {k n:Nat} (h:n=ZdS (fs.take k) u) (hk:fs.length≤k):n=ZdS fs u:=by rwa [List.take_of_length_le hk] at h
def Zlf (us:List DUser) (ns:List Str):Bool:=ns.all fun n=>decide (0≤Ze3 us n)
def Zba (fs:List DFolder) (u:DUser):Bool:=decide (0≤ZbI (inF u.name inbox) fs) && decide ((ZdS fs u.name:Int)≤u.quota)
def ZaY (us:List DUser) (x:DItem):Bool:=decide (0≤Ze3 us x.fr) && Zlf us x.left
def Zah (h:DHost):Bool:=Zc0 h.domain && ZaE h.users && Za6 h.queue && Zcu h.users h.folders && h.users.all (Zba h.folders) && h.queue.items.all (ZaY h.users)
theorem Zap {B:Kn} {q:Option Addr} {cp:Nat} {ms:List DMail} (h:SlK B q cp 3 Zab ms):ZaJ ms≤4000000000000:=by
 have h1 :∀m,m∈ms→m.text.length≤2000000:=fun m hm=>by
  obtain ⟨i,hi⟩:=List.mem_iff_getElem?.1 hm
  obtain ⟨b,o,row,_,h2,_⟩:=h.rows i m hi
  exact h2.2
 have h2 :∀l:List DMail,(∀m,m∈l→m.text.length≤2000000)→ZaJ l≤l.length*2000000:=by
  intro l
  induction l with
  | nil=>intro _;simp [ZaJ]
  | cons m l ih=>
   intro hl
   have:=ih fun y hy=>hl y (List.mem_cons_of_mem _ hy)
   have:=hl m (List.mem_cons_self ..)
   simp only [ZaJ,List.map_cons,List.sum_cons,List.length_cons] at *
   omega
 have:=h2 ms h1
 have:=h.len
 omega
theorem Zh6 {h:DHost} {k:Nat} {u:DUser} (hu:h.users[k]? = some u) (hf:Zba h.folders u=false):Zah h=false:=by
 rw [Zah,ZbX hu hf,Bool.and_false,Bool.false_and]
theorem Zh7 {h:DHost} {k:Nat} {y:DItem} (hy:h.queue.items[k]? = some y) (hf:ZaY h.users y=false):Zah h=false:=by
 rw [Zah,ZbX hy hf,Bool.and_false]
theorem ZoL {h:DHost} (h1:Zc0 h.domain=true) (h2:ZaE h.users=true) (h3:Za6 h.queue=true) (h4:Zcu h.users h.folders=true) (h5:h.users.all (Zba h.folders)=true) (h6:h.queue.items.all (ZaY h.users)=true):Zah h=true:=by
 rw [Zah,h1,h2,h3,h4,h5,h6];rfl
theorem Zkv {fs:List DFolder} {u:DUser} (h:ZbI (inF u.name inbox) fs<0):Zba fs u=false:=by
 rw [Zba,decide_eq_false (by omega),Bool.false_and]
theorem Zku {fs:List DFolder} {u:DUser} (h:u.quota<ZdS fs u.name):Zba fs u=false:=by
 rw [Zba,decide_eq_false (p:=(ZdS fs u.name:Int)≤u.quota) (by omega),Bool.and_false]
theorem Zkt {fs:List DFolder} {u:DUser} (h:0≤ZbI (inF u.name inbox) fs) (h':(ZdS fs u.name:Int)≤u.quota):Zba fs u=true:=by
 rw [Zba,decide_eq_true h,decide_eq_true h'];rfl
theorem ZjK {us:List DUser} {x:DItem} (h:Ze3 us x.fr<0):ZaY us x=false:=by rw [ZaY,decide_eq_false (by omega),Bool.false_and]
theorem ZjJ {us:List DUser} {x:DItem} (h:Zlf us x.left=false):ZaY us x=false:=by rw [ZaY,h,Bool.and_false]
theorem ZjI {us:List DUser} {x:DItem} (h:0≤Ze3 us x.fr) (h':Zlf us x.left=true):ZaY us x=true:=by rw [ZaY,decide_eq_true h,h'];rfl
theorem Zfm :∀{a b c:Str},Op.bytesLess a b=true→Op.bytesLess b c=true→Op.bytesLess a c=true
 | [],[],_,h,_=>by simp [Op.bytesLess] at h
 | _ :: _,[],_,h,_=>by simp [Op.bytesLess] at h
 | _,_ :: _,[],_,h=>by simp [Op.bytesLess] at h
 | [],_ :: _,_ :: _,_,_=>by simp [Op.bytesLess]
 | a :: x,b :: y,c :: z,h,h'=>by
  simp only [Op.bytesLess,Bool.or_eq_true,decide_eq_true_eq,Bool.and_eq_true,beq_iff_eq] at h h' ⊢
  rcases h with h | ⟨rfl,h⟩
  ·rcases h' with h' | ⟨rfl,h'⟩
   ·exact .inl (UInt8.lt_trans h h')
   ·exact .inl h
  ·rcases h' with h' | ⟨rfl,h'⟩
   ·exact .inl h'
   ·exact .inr ⟨rfl,Zfm h h'⟩
def Ze0 (gs:List DGrant):List (Str × Int):=gs.map fun g=>(g.user,g.rights)
theorem Zhj :∀(xs:List DGrant) (b0 b:Str),xs.foldl (fun s x=>(s.1 && Zcf s.2 x,x.user)) (true,b0)=(true,b)→(∀y,y∈xs→y.user=b∨Op.bytesLess y.user b=true)∧(b=b0∨Op.bytesLess b0 b=true)
 | [],b0,b,h=>by
  cases h;exact ⟨by simp,.inl rfl⟩
 | x :: xs,b0,b,h=>by
  simp only [List.foldl_cons,Bool.true_and] at h
  cases hp:Zcf b0 x with
  | false=>
   rw [hp] at h
   have:=ZbO (p:=Zcf) (nx:=fun _ g=>g.user) xs x.user
   rw [h] at this;cases this
  | true=>
   rw [hp] at h
   obtain ⟨h1,h2⟩:=Zhj xs x.user b h
   have hl:Op.bytesLess b0 x.user=true:=by
    simp only [Zcf,Bool.and_eq_true] at hp;exact hp.2
   refine ⟨fun y hy=>?_,.inr ?_⟩
   ·rcases List.mem_cons.1 hy with rfl | hy
    ·rcases h2 with h2 | h2
     ·exact .inl h2.symm
     ·exact .inr h2
    ·exact h1 y hy
   ·rcases h2 with rfl | h2
    ·exact hl
    ·exact Zfm hl h2
theorem Zs2 {kvs:List (Str × Int)} {k:Str} {v:Int} (h:k ∉ kvs.map (·.1)):mput kvs k v=kvs ++ [(k,v)]:=by
 induction kvs with
 | nil=>rfl
 | cons p r ih=>
  simp only [List.map_cons,List.mem_cons,not_or] at h
  simp only [mput,if_neg h.1,ih h.2,List.cons_append]
theorem Zvn {gs:List DGrant} {k:Nat} {m:DGrant} {nm:Str} (hm:gs[k]? = some m) (hs:ZcY (gs.take k)=(true,nm)) (hl:Op.bytesLess nm m.user=true):mput (Ze0 (gs.take k)) m.user m.rights=Ze0 (gs.take (k+1)):=by
 have h1:=(Zhj _ _ _ hs).1
 rw [Zs2]
 ·rw [Ze0,Ze0,List.take_add_one,hm];simp
 ·intro hc
  simp only [Ze0,List.map_map,List.mem_map,Function.comp] at hc
  obtain ⟨y,hy,e⟩:=hc
  rcases h1 y hy with h | h
  ·rw [← e,h,ZdN] at hl;cases hl
  ·rw [e] at h
   have:=Zfm hl h
   rw [ZdN] at this;cases this
def Znb (gs:List DGrant) (B:Kn):Value→Kn→List Cells→Prop:=fun v B' Ls=>∃m l,v = .tuple #[.map m,.bool (Zde gs)]∧Ls=[l]∧B'=B∧(Zde gs=true→∃b,m=some b∧Zwd l b (Ze0 gs))
theorem Zij {P:PJ} {S:Env} {B:Kn} {L:List Cells} {rs:List ResultVar} {gs:List DGrant} (e:Exit) (he:e = .ret∨e = .normal) (vs:List Value) (hr:ZbP P S B L rs vs) (h:Zde gs=false) (hv:ZcU vs = .tuple #[.map none,.bool false]:=by rfl):Zf8 P rs (Znb gs B) e S [] B L:=
 ZBt e he vs hr ⟨none,[],by rw [hv,h],rfl,rfl,fun hc=>by rw [h] at hc;cases hc⟩
theorem ZvV {P:PJ} {S:Env} {B:Kn} {L:List Cells} {rs:List ResultVar} {gs:List DGrant} (e:Exit) (he:e = .ret∨e = .normal) (vs:List Value) {b:Nat} {l:Cells} {r:List Cells} (hp:ZaB L [0]=some ([l],r)) (hr:ZbP P S B L rs vs) (h:Zde gs=true) (hm:Zwd l b (Ze0 gs)) (hv:ZcU vs = .tuple #[.map (some b),.bool true]:=by rfl):Zf8 P rs (Znb gs B) e S [] B L:=
 ZdI e he vs [0] hp hr ⟨some b,l,by rw [hv,h],rfl,rfl,fun _=>⟨b,rfl,hm⟩⟩
def ZxJ (f:DFolder) (ow nm:Str):Int:=if Lib.compareBytes f.owner ow≠0 then Lib.compareBytes f.owner ow else Lib.compareBytes f.name nm
theorem ZlB (f g:DFolder):0≤ZxJ f g.owner g.name↔ZeZ f g=false:=by
 have h1:=Zm4 f.owner g.owner
 have h2:=Zm4 f.name g.name
 unfold ZxJ ZeZ
 by_cases e:f.owner=g.owner
 ·have e0:=h1.2.2 e
  have e1:Op.bytesLess f.owner g.owner=false:=by rw [e];exact ZdN _
  rw [if_neg (fun h=>h e0),e1,decide_eq_true e,Bool.true_and,Bool.false_or,Bool.eq_false_iff,ne_eq,← h2.1];omega
 ·have e0:Lib.compareBytes f.owner g.owner≠0:=fun h=>e (h1.2.1 h)
  rw [if_pos e0,decide_eq_false e,Bool.false_and,Bool.or_false,Bool.eq_false_iff,ne_eq,← h1.1];omega
def ZfO (fs:List DFolder) (u:Str):Int:=(fs.map fun f=>if f.owner=u then ZdY ⟨f.next,f.mail⟩ else 0).sum
theorem ZiL {fs:List DFolder} {u:Str} {k:Nat} {x:DFolder} (hx:fs[k]? = some x):ZfO (fs.take (k+1)) u=ZfO (fs.take k) u+if x.owner=u then ZdY ⟨x.next,x.mail⟩ else 0:=by
 have:fs.take (k+1)=fs.take k ++ [x]:=by rw [List.take_add_one,hx];rfl
 simp [ZfO,this]
theorem Zpw {fs:List DFolder} {u:Str} {k:Nat} {n:Int} (h:n=ZfO (fs.take k) u) (hk:fs.length≤k):n=ZfO fs u:=by rwa [List.take_of_length_le hk] at h
theorem ZnD :∀(xs:List DMail) (b0 b:Int),xs.foldl (fun s x=>(s.1 && Zc2 s.2 x,x.uid)) (true,b0)=(true,b)→∀y,y∈xs→Zcp y=true
 | [],_,_,_,_,h=>by cases h
 | x :: xs,b0,b,h,y,hy=>by
  simp only [List.foldl_cons,Bool.true_and] at h
  cases hp:Zc2 b0 x with
  | false=>
   rw [hp] at h
   have:=ZbO (p:=Zc2) (nx:=fun _ m=>m.uid) xs x.uid
   rw [h] at this;cases this
  | true=>
   rw [hp] at h
   rcases List.mem_cons.1 hy with rfl | hy
   ·simp only [Zc2,Bool.and_eq_true] at hp;exact hp.1
   ·exact ZnD xs x.uid b h y hy
theorem Zf6 {b:DBox} (h:Zcj b=true):(∀y,y∈b.mail→Zcp y=true)∧b.mail.length≤10:=by
 simp only [Zcj,Bool.and_eq_true,decide_eq_true_eq] at h
 exact ⟨ZnD b.mail 0 (Zda b.mail).2 (Prod.ext h.1.1 rfl),h.2⟩
theorem ZhN :∀l:List DMail,(∀m,m∈l→Zcp m=true)→ZaJ l≤l.length*20
 | [],_=>by simp [ZaJ]
 | m :: l,h=>by
  have h1:=ZhN l fun y hy=>h y (List.mem_cons_of_mem _ hy)
  have h2:=h m (List.mem_cons_self ..)
  simp only [Zcp,Bool.and_eq_true,decide_eq_true_eq] at h2
  simp only [ZaJ,List.map_cons,List.sum_cons,List.length_cons] at *
  omega
theorem Zje (b:DBox) : -1≤ZdY b∧ZdY b≤200:=by
 unfold ZdY
 split
 ·rename_i h
  obtain ⟨h1,h2⟩:=Zf6 h
  have:=ZhN _ h1
  omega
 ·omega
theorem Zsm (fs:List DFolder) (u:Str) : -1*fs.length≤ZfO fs u∧ZfO fs u≤fs.length*200:=by
 induction fs with
 | nil=>simp [ZfO]
 | cons f fs ih=>
  have:=Zje ⟨f.next,f.mail⟩
  simp only [ZfO,List.map_cons,List.sum_cons,List.length_cons] at *
  split <;> omega
def ZeG (x:DHost) (u:Str) (more:Int):Bool:=!(ZaM x.users u).2 || decide ((ZaM x.users u).1.quota<ZfO x.folders u+more)
def ZcQ (x:DHost) (w:DUser):Bool:=decide (0≤ZbI (inF w.name inbox) x.folders) && !ZeG x w.name 0
theorem Zky {x:DHost} {w:DUser} (h:ZbI (inF w.name inbox) x.folders<0):ZcQ x w=false:=by rw [ZcQ,decide_eq_false (by omega),Bool.false_and]
theorem Zkx {x:DHost} {w:DUser} (h:ZeG x w.name 0=true):ZcQ x w=false:=by rw [ZcQ,h];simp
theorem Zkw {x:DHost} {w:DUser} (h:0≤ZbI (inF w.name inbox) x.folders) (h':ZeG x w.name 0=false):ZcQ x w=true:=by rw [ZcQ,h',decide_eq_true h];rfl
def ZhJ (x:DHost):Bool:=x.users.all (ZcQ x)
def Zwf:Rel Bool:=fun _ row x=>row=[.bool x]
def ZaN (us:List DUser) (f:DFolder):Bool:=(ZaM us f.owner).2 && Zay f.name && Zde f.grants && Zcj f.box
theorem Zhr (C i:Nat):(some (ptr (Addr.add ⟨C,0,none⟩ ((i:Int).toNat*1))):Option Value)=some (ptr ⟨C,i,none⟩):=by
 rw [Addr.add_off _ _ rfl];simp
def ZrX (x:DHost) (i:Nat):Value:=.bool (match x.folders[i]? with | some m=>ZaN x.users m | none=>false)
theorem Znl {x:DHost} {i:Nat} {m:DFolder} (h:x.folders[i]? = some m):ZrX x i = .bool (ZaN x.users m):=by simp [ZrX,h]
theorem Zpv {B:Kn} {x:DHost} {C:Nat} {T:TypeId} (hm :∀p,p∈[(C,Obj.cells ((List.range x.folders.length).map (ZrX x)).toArray T (0,0))]→B.mem p.1=some p.2) (hl:x.folders.length≤2000000):SlK B (some ⟨C,0,none⟩) (x.folders.map (ZaN x.users)).length 1 Zwf (x.folders.map (ZaN x.users)):=by
 refine ⟨fun i y hy=>⟨C,0,[.bool y],rfl,rfl,fun j u hu=>?_⟩,by simp,by simpa using hl⟩
 have hj:j=0:=by
  cases j with
  | zero=>rfl
  | succ j=>simp at hu
 subst hj
 simp only [List.getElem?_cons_zero,Option.some.injEq] at hu
 subst hu
 rw [List.getElem?_map] at hy
 obtain ⟨m,hm',rfl⟩:=Option.map_eq_some_iff.1 hy
 have hi:i<x.folders.length:=(List.getElem?_eq_some_iff.1 hm').1
 refine ⟨rfl,_,T,(0,0),.inl (hm _ (List.mem_singleton.2 rfl)),?_⟩
 simp only [Nat.mul_one,Nat.zero_add,Nat.add_zero,List.getElem?_toArray,List.getElem?_map,List.getElem?_range hi,Option.map_some,Znl hm']
theorem Zj9 {us:List DUser} {fs:List DFolder} : (!decide (0≤ZbI (fun y=>decide (false=y)) (fs.map (ZaN us))))=fs.all (ZaN us):=by
 by_cases h :∀f,f∈fs→ZaN us f=true
 ·rw [List.all_eq_true.2 h,Ze4 (fun y hy=>by
   obtain ⟨f,hf,rfl⟩:=List.mem_map.1 hy
   simp [h f hf])]
  rfl
 ·have h2:fs.all (ZaN us)=false:=by
   rw [Bool.eq_false_iff,ne_eq,List.all_eq_true];exact h
  rw [h2]
  have h3 :∃k,(fs.map (ZaN us)).findIdx? (fun y=>decide (false=y))=some k:=by
   cases hk:(fs.map (ZaN us)).findIdx? (fun y=>decide (false=y)) with
   | some k=>exact ⟨k,rfl⟩
   | none=>
    exfalso;apply h
    intro f hf
    have:=List.findIdx?_eq_none_iff.1 hk (ZaN us f) (List.mem_map_of_mem hf)
    cases hq:ZaN us f with
    | true=>rfl
    | false=>rw [hq] at this;simp at this
  obtain ⟨k,hk⟩:=h3
  have e:ZbI (fun y=>decide (false=y)) (fs.map (ZaN us))=(k:Int):=by unfold ZbI;rw [hk]
  rw [e];simp
def ZlQ:List DFolder→Bool
 | []=>true
 | [_]=>true
 | a :: b :: r=>ZeZ a b && ZlQ (b :: r)
def Zdw (x:DHost):Bool:=Zc0 x.domain && ZaE x.users && Za6 x.queue && decide (x.folders.length≤8) && ZlQ x.folders && (x.folders.all (ZaN x.users) && ZhJ x && x.queue.items.all (Zdc x.users))
def Zt1 (fs:List DFolder) (k:Nat):Prop:=∀i a b,i<k→fs[i]? = some a→fs[i+1]? = some b→ZeZ a b=true
theorem Zor {fs:List DFolder} : Zt1 fs 0:=fun i a b h=>by omega
theorem Zos {fs:List DFolder} {k:Nat} {x y:DFolder} (h:Zt1 fs k) (hx:fs[k]? = some x) (hy:fs[k+1]? = some y) (hl:ZeZ x y=true):Zt1 fs (k+1):=fun i a b hi ha hb=>by
 rcases Nat.lt_or_ge i k with h' | h'
 ·exact h i a b h' ha hb
 ·obtain rfl:i=k:=by omega
  rw [hx] at ha;rw [hy] at hb
  cases ha;cases hb;exact hl
theorem Zhs :∀(fs:List DFolder),ZlQ fs=true↔∀i a b,fs[i]? = some a→fs[i+1]? = some b→ZeZ a b=true
 | []=>by simp [ZlQ]
 | [_]=>by simp [ZlQ]
 | x :: y :: r=>by
  rw [ZlQ,Bool.and_eq_true,Zhs (y :: r)]
  constructor
  ·rintro ⟨h1,h2⟩ i a b ha hb
   cases i with
   | zero=>simp at ha hb;rw [← ha,← hb];exact h1
   | succ i=>exact h2 i a b (by simpa using ha) (by simpa using hb)
  ·intro h
   exact ⟨h 0 x y rfl rfl,fun i a b ha hb=>h (i+1) a b (by simpa using ha) (by simpa using hb)⟩
theorem ZsR {fs:List DFolder} {k:Nat} {x y:DFolder} (hx:fs[k]? = some x) (hy:fs[k+1]? = some y) (hl:ZeZ x y=false):ZlQ fs=false:=by
 rw [Bool.eq_false_iff,ne_eq,Zhs]
 intro h
 have:=h k x y hx hy
 rw [hl] at this;cases this
theorem ZsQ {fs:List DFolder} (h :∀i a b,i<fs.length - 1→fs[i]? = some a→fs[i+1]? = some b→ZeZ a b=true):ZlQ fs=true:=
 (Zhs fs).2 fun i a b ha hb=>h i a b (by have:=(List.getElem?_eq_some_iff.1 hb).1;omega) ha hb
theorem ZfT {α:Type} {p:Str→α→Bool} {f:α→Str} (hp :∀b x,p b x=true→Op.bytesLess b (f x)=true) :∀(xs:List α) (b0 b:Str),xs.foldl (fun s x=>(s.1 && p s.2 x,f x)) (true,b0)=(true,b)→(∀y,y∈xs→Op.bytesLess b0 (f y)=true)∧xs.Pairwise (fun x y=>Op.bytesLess (f x) (f y)=true)
 | [],_,_,_=>⟨by simp,.nil⟩
 | x :: xs,b0,b,h=>by
  simp only [List.foldl_cons,Bool.true_and] at h
  cases hq:p b0 x with
  | false=>
   rw [hq] at h
   have:=ZbO (p:=p) (nx:=fun _ g=>f g) xs (f x)
   rw [h] at this;cases this
  | true=>
   rw [hq] at h
   obtain ⟨h1,h2⟩:=ZfT hp xs (f x) b h
   refine ⟨fun y hy=>?_,.cons h1 h2⟩
   rcases List.mem_cons.1 hy with rfl | hy
   ·exact hp _ _ hq
   ·exact Zfm (hp _ _ hq) (h1 y hy)
theorem ZfA {us:List DUser} (h:ZaE us=true):us.Pairwise fun x y=>Op.bytesLess x.name y.name=true:=by
 simp only [ZaE,Bool.and_eq_true] at h
 exact (ZfT (p:=ZeP) (f:=fun u=>u.name) (fun b x hq=>by simp only [ZeP,Bool.and_eq_true] at hq;exact hq.2) us [] (Zep us).2 (Prod.ext h.1 rfl)).2
theorem ZfW {us:List DUser} {u:Str} : 0≤Ze3 us u↔∃x,x∈us∧x.name=u:=by
 unfold Ze3
 cases h:us.findIdx? (fun x=>decide (x.name=u)) with
 | none=>
  have:=List.findIdx?_eq_none_iff.1 h
  simp only [decide_eq_false_iff_not] at this
  exact ⟨fun hc=>absurd hc (by simp only [];omega),fun ⟨x,hx,e⟩=>absurd e (this x hx)⟩
 | some i=>
  rw [List.findIdx?_eq_some_iff_getElem] at h
  obtain ⟨hi,h1,_⟩:=h
  exact ⟨fun _=>⟨us[i],List.getElem_mem hi,by simpa using h1⟩,fun _=>by simp only [];omega⟩
theorem Zra {us:List DUser} {t:DUser→Bool} : (Zf3 t us).2=true↔∃x,x∈us∧t x=true:=by
 unfold Zf3
 cases h:us.find? t with
 | none=>simp only [Bool.false_eq_true,false_iff];rintro ⟨x,hx,e⟩;have:=List.find?_eq_none.1 h x hx;exact this e
 | some x=>simp only [true_iff];exact ⟨x,List.mem_of_find?_eq_some h,List.find?_some h⟩
theorem ZdK {us:List DUser} (h:ZaE us=true) (n:Str):(ZaM us n).2=decide (0≤Ze3 us n):=by
 rw [ZaM,if_pos h,Bool.eq_iff_iff,Zra,decide_eq_true_eq,ZfW];simp
theorem Zf2 :∀{us:List DUser},us.Pairwise (fun x y=>Op.bytesLess x.name y.name=true)→∀w,w∈us→us.find? (fun y=>decide (y.name=w.name))=some w
 | [],_,w,h=>by cases h
 | x :: us,hp,w,h=>by
  cases hp with
  | cons h1 h2=>
   rw [List.find?_cons]
   rcases List.mem_cons.1 h with rfl | h
   ·simp
   ·have hne:x.name≠w.name:=fun e=>by
     have:=h1 w h
     rw [e,ZdN] at this;cases this
    simp only [hne,decide_false]
    exact Zf2 h2 w h
theorem Zjm {us:List DUser} (h:ZaE us=true) {w:DUser} (hw:w∈us):ZaM us w.name=(w,true):=by
 rw [ZaM,if_pos h,Zf3,Zf2 (ZfA h) w hw]
theorem ZoU {us:List DUser} (h:ZaE us=true) (f:DFolder):ZaN us f=Z7 us f:=by
 rw [ZaN,Z7,ZdK h]
theorem ZeM {us:List DUser} :∀(fs:List DFolder) (b0:Option DFolder),(fs.foldl (fun s x=>(s.1 && Zby us s.2 x,some x)) (true,b0)).1=(fs.all (Z7 us) && ZlQ ((match b0 with | none=>[] | some y=>[y]) ++ fs))
 | [],none=>rfl
 | [],some y=>rfl
 | x :: fs,b0=>by
  simp only [List.foldl_cons,Bool.true_and]
  have hstep:(fs.foldl (fun (s:Bool × Option DFolder) x=>(s.1 && Zby us s.2 x,some x)) (Zby us b0 x,some x)).1=(Zby us b0 x && (fs.all (Z7 us) && ZlQ (x :: fs))):=by
   cases hq:Zby us b0 x with
   | false=>rw [Bool.false_and];exact ZbO (p:=Zby us) (nx:=fun _ f=>some f) fs (some x)
   | true=>rw [Bool.true_and];exact ZeM fs (some x)
  rw [hstep]
  cases b0 with
  | none=>
   simp only [Zby,Bool.and_true,List.all_cons,List.nil_append]
   cases Z7 us x <;> simp
  | some y=>
   simp only [Zby,List.all_cons,List.cons_append,List.nil_append,ZlQ]
   cases Z7 us x <;> cases ZeZ y x <;> simp
theorem Ze6 {us:List DUser} {fs:List DFolder} : Zcu us fs=(fs.all (Z7 us) && ZlQ fs && decide (fs.length≤8)):=by
 rw [Zcu,show (Zdi us fs).1=_ from ZeM fs none];rfl
theorem Znm {us:List DUser} {u:Str} :∀{fs:List DFolder},fs.all (Z7 us)=true→ZfO fs u=(ZdS fs u:Int)
 | [],_=>rfl
 | f :: fs,h=>by
  simp only [List.all_cons,Bool.and_eq_true] at h
  have ih:=Znm (u:=u) h.2
  have hb:Zcj ⟨f.next,f.mail⟩=true:=by
   have:=h.1;simp only [Z7,Bool.and_eq_true] at this;exact this.2
  simp only [ZfO,ZdS,List.map_cons,List.sum_cons] at ih ⊢
  rw [ih]
  by_cases he:f.owner=u
  ·simp [he,ZdY,hb]
  ·simp [he]
theorem Zl0 {x:DHost} (hu:ZaE x.users=true) (hf:x.folders.all (Z7 x.users)=true) {w:DUser} (hw:w∈x.users):ZcQ x w=Zba x.folders w:=by
 rw [ZcQ,Zba,ZeG,Zjm hu hw,Znm hf]
 simp only [Bool.not_true,Bool.false_or,Int.add_zero]
 congr 1
 rw [Bool.eq_iff_iff];simp
theorem ZmF {us:List DUser} (h:ZaE us=true) (y:DItem):Zdc us y=ZaY us y:=by
 rw [Zdc,ZaY,ZdK h,Zlf]
 simp only [ZdK h]
theorem ZrQ {α:Type} {p q:α→Bool} {xs:List α} (h :∀x,x∈xs→p x=q x):xs.all p=xs.all q:=by
 rw [Bool.eq_iff_iff,List.all_eq_true,List.all_eq_true]
 exact ⟨fun a x hx=>h x hx ▸ a x hx,fun a x hx=>(h x hx).symm ▸ a x hx⟩
theorem ZoM (x:DHost):Zdw x=Zah x:=by
 cases hu:ZaE x.users with
 | false=>simp [Zdw,Zah,hu]
 | true=>
  have e1:x.folders.all (ZaN x.users)=x.folders.all (Z7 x.users):=ZrQ fun f _=>ZoU hu f
  have e2:x.queue.items.all (Zdc x.users)=x.queue.items.all (ZaY x.users):=ZrQ fun y _=>ZmF hu y
  rw [Zdw,Zah,hu,e1,e2,Ze6]
  cases hf:x.folders.all (Z7 x.users) with
  | false=>simp
  | true=>
   have e3:ZhJ x=x.users.all (Zba x.folders):=ZrQ fun w hw=>Zl0 hu hf hw
   rw [e3]
   cases Zc0 x.domain <;> cases Za6 x.queue <;> cases ZlQ x.folders <;> cases decide (x.folders.length≤8) <;> simp
end Go.BL
namespace Go.BL
open Go
theorem Zhg {x:DHost} (h:Zah x=true):ZaE x.users=true:=by
 simp only [Zah,Bool.and_eq_true] at h;exact h.1.1.1.1.2
theorem ZmK {x:DHost} (h:Zah x=true) (n:Str):(ZaM x.users n).2=decide (0≤Ze3 x.users n):=ZdK (Zhg h) n
theorem Ztw {us:List DUser} {n:Str} (h:0≤Ze3 us n) {x:DUser} (hx:us[(Ze3 us n).toNat]? = some x):Zf3 (fun y=>decide (y.name=n)) us=(x,true):=by
 unfold Ze3 at h hx
 cases hf:us.findIdx? (fun x=>decide (x.name=n)) with
 | none=>rw [hf] at h;simp at h
 | some i=>
  rw [hf] at hx
  simp only [Int.toNat_natCast] at hx
  rw [List.findIdx?_eq_some_iff_getElem] at hf
  obtain ⟨hi,h1,h2⟩:=hf
  rw [List.getElem?_eq_getElem hi] at hx
  cases hx
  have:us.find? (fun y=>decide (y.name=n))=some us[i]:=by
   rw [List.find?_eq_some_iff_getElem]
   exact ⟨h1,i,hi,rfl,fun j hj=>by simpa using h2 j hj⟩
  rw [Zf3,this]
structure DSess where
 user:Str
 owner:Str
 name:Str
deriving DecidableEq
theorem Zvu (us:List DUser) (n:Str):Ze3 us n<us.length∧Ze3 us n ≥ -1:=by
 unfold Ze3
 cases hf:us.findIdx? (fun x=>decide (x.name=n)) with
 | none=>simp only [];omega
 | some i=>
  rw [List.findIdx?_eq_some_iff_getElem] at hf
  obtain ⟨hi,_⟩:=hf
  simp only [];omega
end Go.BL
namespace Go.BL
open Go
def ZcW:DHost:=⟨[],[],[],⟨0,[]⟩⟩
theorem Zjr {α β:Type} {p:β→α→Bool} {nx:β→α→β} :∀(xs:List α) (b:β),(xs.foldl (fun (s:Bool × β) x=>(s.1 && p s.2 x,nx s.2 x)) (true,b)).1=true→∀x,x∈xs→∃b',p b' x=true
 | [],_,_,x,hx=>by cases hx
 | x :: xs,b,h,y,hy=>by
  simp only [List.foldl_cons,Bool.true_and] at h
  cases hq:p b x with
  | false=>
   rw [hq] at h
   have:=ZbO (p:=p) (nx:=nx) xs (nx b x)
   rw [this] at h;cases h
  | true=>
   rw [hq] at h
   rcases List.mem_cons.1 hy with rfl | hy
   ·exact ⟨b,hq⟩
   ·exact Zjr xs _ h y hy
theorem Zkq {us:List DUser} (h:ZaE us=true) {u:DUser} (hu:u∈us):Zc5 u=true:=by
 simp only [ZaE,Bool.and_eq_true] at h
 obtain ⟨b,hb⟩:=Zjr (p:=ZeP) (nx:=fun _ u=>u.name) us [] h.1 u hu
 simp only [ZeP,Bool.and_eq_true] at hb;exact hb.1
theorem Zh5 {α:Type} (p:α→Bool) (xs:List α):ZbI p xs<xs.length∧ZbI p xs ≥ -1:=by
 unfold ZbI
 cases hf:xs.findIdx? p with
 | none=>simp only [];omega
 | some i=>
  rw [List.findIdx?_eq_some_iff_getElem] at hf
  obtain ⟨hi,_⟩:=hf
  simp only [];omega
end Go.BL
namespace Go.BL
open Go
def dig (k:Nat):Str:=[UInt8.ofNat (IntKind.u8.wrap (48+((k % 10:Nat):Int))).toNat]
def digs (k:Nat):Str:=if h:k=0 then [] else digs (k / 10) ++ dig k
termination_by k
decreasing_by omega
theorem Zly:digs 0=[]:=by unfold digs;rfl
theorem ZnT {k:Nat} (h:0<k):digs k=digs (k / 10) ++ dig k:=by
 conv=>lhs;unfold digs
 rw [dif_neg (by omega)]
theorem Zj2 :∀(n k:Nat),k<10 ^ n→(digs k).length≤n
 | n,0,_=>by rw [Zly];simp
 | 0,k+1,h=>by simp at h
 | n+1,k+1,h=>by
  rw [ZnT (by omega),List.length_append]
  have h1:(k+1) / 10<10 ^ n:=by rw [Nat.pow_succ] at h;omega
  have:=Zj2 n _ h1
  simp only [dig,List.length_cons,List.length_nil];omega
def ZY (k:Nat):Str:=if k=0 then [109,48] else 109 :: digs k
theorem Zcq {k:Nat} (h:k≤1000000000000000):(ZY k).length≤20:=by
 unfold ZY
 split
 ·simp
 ·have:=Zj2 16 k (by omega)
  simp only [List.length_cons];omega
theorem Zrx {k0 k:Nat} {t:Str} (h:digs k0=digs k ++ t) (hk:0<k):digs k0=digs (k / 10) ++ (dig k ++ t):=by
 rw [h,ZnT hk,List.append_assoc]
theorem Zv4 {k0 k:Nat} {t:Str} (h0:k0≤1000000000000000) (h:digs k0=digs k ++ t):t.length≤16:=by
 have h1:=Zj2 16 k0 (by omega)
 rw [h,List.length_append] at h1;omega
theorem ZbB {α:Type} {ys:List α} {i:Nat} {c:α} (h:i<ys.length):(ys.set i c).take (i+1)=ys.take i ++ [c]:=by
 rw [List.take_add_one,List.getElem?_set_self h,List.take_set_of_le (Nat.le_refl _)];rfl
def Zb6 (k n:Nat):List DMail:=(List.range n).map fun i=>⟨((k+3*i:Nat):Int),((k+3*i+1:Nat):Int),ZY (k+3*i+1+1)⟩
theorem ZaL (k n:Nat):(Zb6 k n).length=n:=by simp [Zb6]
theorem Zk0 {ys:List DMail} {i k:Nat} {z1 z2 z3:DMail} (ht:ys.take i=Zb6 k i) (h1:ys[i]? = some z1) (h2:(ys.set i ⟨((k+3*i:Nat):Int),z1.flags,z1.text⟩)[i]? = some z2)
  (h3:((ys.set i ⟨((k+3*i:Nat):Int),z1.flags,z1.text⟩).set i ⟨z2.uid,((k+3*i+1:Nat):Int),z2.text⟩)[i]? = some z3) :
  (((ys.set i ⟨((k+3*i:Nat):Int),z1.flags,z1.text⟩).set i ⟨z2.uid,((k+3*i+1:Nat):Int),z2.text⟩).set i ⟨z3.uid,z3.flags,ZY (k+3*i+1+1)⟩).take (i+1)=Zb6 k (i+1):=by
 have hl:=(List.getElem?_eq_some_iff.1 h1).1
 rw [List.getElem?_set_self hl] at h2;cases h2
 rw [List.set_set,List.getElem?_set_self hl] at h3;cases h3
 rw [List.set_set,List.set_set,ZbB hl,ht,Zb6,Zb6,List.range_succ,List.map_append];rfl
def ZaK (k n:Nat):List DGrant:=(List.range n).map fun i=>⟨ZY (k+2*i),((k+2*i+1:Nat):Int)⟩
theorem Zaz (k n:Nat):(ZaK k n).length=n:=by simp [ZaK]
theorem ZjA {ys:List DGrant} {i k:Nat} {z1 z2:DGrant} (ht:ys.take i=ZaK k i) (h1:ys[i]? = some z1) (h2:(ys.set i ⟨ZY (k+2*i),z1.rights⟩)[i]? = some z2) :
  ((ys.set i ⟨ZY (k+2*i),z1.rights⟩).set i ⟨z2.user,((k+2*i+1:Nat):Int)⟩).take (i+1)=ZaK k (i+1):=by
 have hl:=(List.getElem?_eq_some_iff.1 h1).1
 rw [List.getElem?_set_self hl] at h2;cases h2
 rw [List.set_set,ZbB hl,ht,ZaK,ZaK,List.range_succ,List.map_append];rfl
def ZcJ (k n:Nat):List DUser:=(List.range n).map fun i=>⟨ZY (k+3*i),ZY (k+3*i+1),((k+3*i+1+1:Nat):Int)⟩
theorem Zbv (k n:Nat):(ZcJ k n).length=n:=by simp [ZcJ]
theorem ZkY {ys:List DUser} {i k:Nat} {z1 z2 z3:DUser} (ht:ys.take i=ZcJ k i) (h1:ys[i]? = some z1) (h2:(ys.set i ⟨ZY (k+3*i),z1.pass,z1.quota⟩)[i]? = some z2)
  (h3:((ys.set i ⟨ZY (k+3*i),z1.pass,z1.quota⟩).set i ⟨z2.name,ZY (k+3*i+1),z2.quota⟩)[i]? = some z3) :
  (((ys.set i ⟨ZY (k+3*i),z1.pass,z1.quota⟩).set i ⟨z2.name,ZY (k+3*i+1),z2.quota⟩).set i ⟨z3.name,z3.pass,((k+3*i+1+1:Nat):Int)⟩).take (i+1)=ZcJ k (i+1):=by
 have hl:=(List.getElem?_eq_some_iff.1 h1).1
 rw [List.getElem?_set_self hl] at h2;cases h2
 rw [List.set_set,List.getElem?_set_self hl] at h3;cases h3
 rw [List.set_set,List.set_set,ZbB hl,ht,ZcJ,ZcJ,List.range_succ,List.map_append];rfl
def Zdu (k n:Nat):List Str:=(List.range n).map fun i=>ZY (k+1*i)
theorem Zbm (k n:Nat):(Zdu k n).length=n:=by simp [Zdu]
theorem Zmm {ys:List Str} {i k:Nat} {z1:Str} (ht:ys.take i=Zdu k i) (h1:ys[i]? = some z1):(ys.set i (ZY (k+1*i))).take (i+1)=Zdu k (i+1):=by
 have hl:=(List.getElem?_eq_some_iff.1 h1).1
 rw [ZbB hl,ht,Zdu,Zdu,List.range_succ,List.map_append];rfl
theorem ZkX {α:Type} {ys zs:List α} {i:Nat} (h:ys.take i=zs) (hi:ys.length≤i):ys=zs:=by rwa [List.take_of_length_le hi] at h
end Go.BL
namespace Go.BL
open Go
def Zbd (k:Nat):Int:=([1,2,4,8,16,32]:List Int).getD k 0
theorem ZrM {k:Nat} (h:k<6):(k=0∧Zbd k=1)∨(k=1∧Zbd k=2)∨(k=2∧Zbd k=4)∨(k=3∧Zbd k=8)∨(k=4∧Zbd k=16)∨(k=5∧Zbd k=32):=by
 have:k=0∨k=1∨k=2∨k=3∨k=4∨k=5:=by omega
 rcases this with rfl | rfl | rfl | rfl | rfl | rfl <;> simp [Zbd]
theorem Zj7 {k:Nat} (h:k<6):0<Zbd k∧Zbd k≤32:=by rcases ZrM h with h | h | h | h | h | h <;> omega
theorem Zdd {α:Type} {p:α→Bool} {xs:List α} {k:Nat} {x:α} (hx:xs[k]? = some x):(xs.take (k+1)).any p=((xs.take k).any p || p x):=by
 rw [Zbs hx,List.any_append];simp
theorem ZrP {α:Type} {p:α→Bool} {xs:List α} {k:Nat} {b:Bool} (h:b=(xs.take k).any p) (hk:xs.length≤k):b=xs.any p:=by rwa [List.take_of_length_le hk] at h
def onB (u:Str) (b:Int) (g:DGrant):Bool:=(decide (g.user=u) || decide (g.user=anyone)) && decide (Int.tmod (Int.tdiv g.rights b) 2=1)
def ZfI (gs:List DGrant) (u:Str):Nat→Int
 | 0=>0
 | k+1=>if gs.any (onB u (Zbd k))=true then ZfI gs u k+Zbd k else ZfI gs u k
theorem Zir (gs:List DGrant) (u:Str) :∀k,k≤6→0≤ZfI gs u k∧ZfI gs u k≤100*k
 | 0,_=>by simp [ZfI]
 | k+1,h=>by
  have:=Zir gs u k (by omega)
  have:=Zj7 (k:=k) (by omega)
  simp only [ZfI]
  split <;> omega
def Zbq (gs:List DGrant) (u:Str):Int:=ZfI gs u 6
def ZlF (f:DFolder) (u:Str) (r:Int):Bool:=decide (u=f.owner) || decide (Int.tmod (Int.tdiv (Zbq f.grants u) r) 2=1)
def ZlD (us:List DUser) (fs:List DFolder) (u:Str) (k:Int) (r:Int):Int:=
 if Ze3 us u<0∨k<0 then 1 else match fs[k.toNat]? with
  | none=>1
  | some f=>if ZlF f u 1=false then 1 else if ZlF f u r=false then 2 else 0
theorem Zj5 {us:List DUser} {fs:List DFolder} {u:Str} {k r:Int} (h:Ze3 us u<0∨k<0):ZlD us fs u k r=1:=by rw [ZlD,if_pos h]
theorem ZrF {us:List DUser} {fs:List DFolder} {u:Str} {k r:Int} {f:DFolder} (h : ¬ (Ze3 us u<0∨k<0)) (hf:fs[k.toNat]? = some f):ZlD us fs u k r=if ZlF f u 1=false then 1 else if ZlF f u r=false then 2 else 0:=by
 rw [ZlD,if_neg h,hf]
theorem ZrE (us:List DUser) (fs:List DFolder) (u:Str) (k r:Int):ZlD us fs u k r=0∨ZlD us fs u k r=1∨ZlD us fs u k r=2:=by
 unfold ZlD
 split
 ·simp
 ·split
  ·simp
  ·split
   ·simp
   ·split <;> simp
theorem ZlC {us:List DUser} {fs:List DFolder} {u:Str} {k r:Int} (h:ZlD us fs u k r=0):0≤Ze3 us u∧0≤k∧∃f,fs[k.toNat]? = some f∧ZlF f u 1=true∧ZlF f u r=true:=by
 unfold ZlD at h
 split at h
 ·cases h
 ·split at h
  ·cases h
  ·rename_i f hf
   split at h
   ·cases h
   ·split at h
    ·cases h
    ·rename_i h1 h2 h3
     exact ⟨by omega,by omega,f,hf,by simpa using h2,by simpa using h3⟩
def ZBf (b:DBox) (fl:Int) (t:Str):DBox × Bool:=if 10≤b.mail.length∨99<b.next then (b,false) else (⟨b.next+1,b.mail ++ [⟨b.next,fl,t⟩]⟩,true)
def DFolder.withBox (f:DFolder) (b:DBox):DFolder:=⟨f.owner,f.name,f.grants,b.next,b.mail⟩
def DHost.withFolders (x:DHost) (fs:List DFolder):DHost:=⟨x.domain,x.users,fs,x.queue⟩
def Zju (us:List DUser) (n:Str):Int:=match us[(Ze3 us n).toNat]? with | some w=>w.quota | none=>0
def Zp3 (x:DHost) (k:Nat) (fl:Int) (t:Str):DHost × Int:=
 match x.folders[k]? with
 | none=>(x,0)
 | some f=>if Zju x.users f.owner<(ZdS x.folders f.owner:Int)+t.length then (x,3)
  else if (ZBf f.box fl t).2=true then (x.withFolders (x.folders.set k (f.withBox (ZBf f.box fl t).1)),0) else (x,4)
def ZU (n:Int):Bool:=decide (0≤n) && decide (n≤31)
def ZeV (s:DSpan):Bool:=(decide (0≤s.low) && decide (s.low≤99)) && (decide (0≤s.high) && decide (s.high≤99))
def ZdU (s:List DSpan):Bool:=s.all ZeV && (decide (1≤s.length) && decide (s.length≤6))
def ZcH (last n:Int) (s:DSpan):Bool:=decide (min (if s.low=0 then last else s.low) (if s.high=0 then last else s.high)≤n) && decide (n≤max (if s.low=0 then last else s.low) (if s.high=0 then last else s.high))
def ZeK (s:List DSpan) (last n:Int):Bool:=s.any (ZcH last n)
def ZcB (s:List DSpan) (last:Int):Nat→List Int
 | 0=>[]
 | n+1=>if ZeK s last (n+1:Nat)=true then ZcB s last n ++ [((n+1:Nat):Int)] else ZcB s last n
def Z6 (s:List DSpan) (last:Int):List Int:=if ZdU s=true then ZcB s (min last 99) (min last 99).toNat else []
def Zjg (n:Int) (k:Nat):Int:=Int.tmod (Int.tdiv n (Zbd k)) 2
def Zfa (fl how ot:Int) (k:Nat):Bool:=(decide (how=1) && decide (0<Zjg fl k+Zjg ot k)) || (decide (how = -1) && decide (Zjg fl k=1) && decide (Zjg ot k=0)) || (decide (how=0) && decide (Zjg ot k=1))
def Zio (fl how ot:Int):Nat→Int
 | 0=>0
 | k+1=>if Zfa fl how ot k=true then Zio fl how ot k+Zbd k else Zio fl how ot k
theorem ZnW (fl how ot:Int) :∀k,k≤5→0≤Zio fl how ot k∧Zio fl how ot k≤100*k
 | 0,_=>by simp [Zio]
 | k+1,h=>by
  have:=ZnW fl how ot k (by omega)
  have:=Zj7 (k:=k) (by omega)
  simp only [Zio]
  split <;> omega
def chg (fl how ot:Int):Int:=Zio fl how ot 5
theorem ZrG (fl how ot:Int):0≤chg fl how ot∧chg fl how ot≤31:=by
 unfold chg
 simp only [Zio,show Zbd 0=1 from rfl,show Zbd 1=2 from rfl,show Zbd 2=4 from rfl,show Zbd 3=8 from rfl,show Zbd 4=16 from rfl]
 split <;> split <;> split <;> split <;> split <;> omega
def Zgo (n:Nat) (b x:Int):Bool:=(decide (1≤x) && decide (x≤n)) && decide (b<x)
def ZbD (n:Nat) (xs:List Int):Bool × Int:=scn (Zgo n) (fun _ x=>x) 0 xs
def Zc7 (n:Nat) (xs:List Int):Bool:=(ZbD n xs).1
def ZeD (ms:List DMail) (how fl:Int) (acc:List DMail) (n:Int):List DMail:=
 match acc[(n - 1).toNat]?,ms[(n - 1).toNat]? with
 | some a,some m=>acc.set (n - 1).toNat ⟨a.uid,chg m.flags how fl,a.text⟩
 | _,_=>acc
def Zbo (ms:List DMail) (how fl:Int) (ns:List Int):List DMail:=ns.foldl (ZeD ms how fl) ms
def ZcX (how:Int):Bool:=decide (-1≤how) && decide (how≤1)
def ZP (b:DBox) (ns:List Int) (how fl:Int):DBox × Bool:=
 if Zcj b=true∧Zc7 b.mail.length ns=true∧ZcX how=true∧ZU fl=true then (⟨b.next,Zbo b.mail how fl ns⟩,true) else (⟨0,[]⟩,false)
def atF (x:DHost) (s:DSess) (r:Int):Int × Int:=
 if ZlD x.users x.folders s.user (ZbI (inF s.owner s.name) x.folders) 2≠0 then (ZbI (inF s.owner s.name) x.folders,ZlD x.users x.folders s.user (ZbI (inF s.owner s.name) x.folders) 2)
 else (ZbI (inF s.owner s.name) x.folders,ZlD x.users x.folders s.user (ZbI (inF s.owner s.name) x.folders) r)
def Zfx (x:DHost) (k:Nat):DBox:=match x.folders[k]? with | some f=>f.box | none=>⟨0,[]⟩
def Zgj (x:DHost) (k:Nat) (b:DBox):DHost:=match x.folders[k]? with | some f=>x.withFolders (x.folders.set k (f.withBox b)) | none=>x
def ZI (x:DHost) (s:DSess) (set:List DSpan) (how fl:Int):DHost × Int:=
 if ¬ (Zah x=true∧ZdU set=true∧ZU fl=true∧ZcX how=true) then (ZcW,5)
 else if (atF x s 4).2≠0 then (x,(atF x s 4).2)
 else (Zgj x (atF x s 4).1.toNat (ZP (Zfx x (atF x s 4).1.toNat) (Z6 set (Zfx x (atF x s 4).1.toNat).mail.length) how fl).1,0)
end Go.BL
namespace Go.BL
open Go
theorem Zdh {x:DHost} : Zah x=true↔(Zc0 x.domain=true∧ZaE x.users=true∧Za6 x.queue=true)∧((∀f,f∈x.folders→Z7 x.users f=true)∧ZlQ x.folders=true∧x.folders.length≤8)∧(∀u,u∈x.users→Zba x.folders u=true)∧(∀y,y∈x.queue.items→ZaY x.users y=true):=by
 simp only [Zah,Ze6,Bool.and_eq_true,decide_eq_true_eq,List.all_eq_true]
 constructor
 ·rintro ⟨⟨⟨⟨⟨h1,h2⟩,h3⟩,⟨h4,h5⟩,h6⟩,h7⟩,h8⟩
  exact ⟨⟨h1,h2,h3⟩,⟨h4,h5,h6⟩,h7,h8⟩
 ·rintro ⟨⟨h1,h2,h3⟩,⟨h4,h5,h6⟩,h7,h8⟩
  exact ⟨⟨⟨⟨⟨h1,h2⟩,h3⟩,⟨h4,h5⟩,h6⟩,h7⟩,h8⟩
theorem Zib {α:Type} {fs:List α} {k i:Nat} {y g:α} (h:(fs.set k y)[i]? = some g):(i=k∧g=y∧k<fs.length)∨(i≠k∧fs[i]? = some g):=by
 have hi:=(List.getElem?_eq_some_iff.1 h).1
 rw [List.length_set] at hi
 rw [List.getElem?_set] at h
 split at h
 ·rename_i e
  subst e
  simp [hi] at h
  exact .inl ⟨rfl,h.symm,hi⟩
 ·rename_i e
  exact .inr ⟨fun e'=>e e'.symm,h⟩
theorem Zkz :∀{fs:List DFolder} {k:Nat} {f:DFolder} (f':DFolder) (u:Str),fs[k]? = some f→ZdS (fs.set k f') u+(if f.owner=u then ZaJ f.mail else 0)=ZdS fs u+(if f'.owner=u then ZaJ f'.mail else 0)
 | [],_,_,_,_,h=>by simp at h
 | g :: fs,0,f,f',u,h=>by
  simp only [List.getElem?_cons_zero,Option.some.injEq] at h
  subst h
  simp only [List.set_cons_zero,ZdS,List.map_cons,List.sum_cons]
  omega
 | g :: fs,k+1,f,f',u,h=>by
  have:=Zkz (fs:=fs) (k:=k) f' u (by simpa using h)
  simp only [ZdS] at this
  simp only [List.set_cons_succ,ZdS,List.map_cons,List.sum_cons]
  omega
theorem Zla {a b a' b':DFolder} (h1:a.owner=a'.owner) (h2:a.name=a'.name) (h3:b.owner=b'.owner) (h4:b.name=b'.name):ZeZ a b=ZeZ a' b':=by simp only [ZeZ,h1,h2,h3,h4]
theorem ZsP {fs:List DFolder} {k:Nat} {f f':DFolder} (h:ZlQ fs=true) (hf:fs[k]? = some f) (ho:f'.owner=f.owner) (hn:f'.name=f.name):ZlQ (fs.set k f')=true:=by
 rw [Zhs] at h ⊢
 intro i a b ha hb
 rcases Zib ha with ⟨e1,e2,_⟩ | ⟨hi,ha'⟩
 ·rcases Zib hb with ⟨e,_,_⟩ | ⟨_,hb'⟩
  ·omega
  ·rw [e2,Zla ho hn rfl rfl];exact h i _ _ (by rw [e1];exact hf) hb'
 ·rcases Zib hb with ⟨e,e2,_⟩ | ⟨_,hb'⟩
  ·rw [e2,Zla rfl rfl ho hn];exact h i _ _ ha' (by rw [e];exact hf)
  ·exact h _ _ _ ha' hb'
theorem Zvt {fs:List DFolder} {k:Nat} {f f':DFolder} {o n:Str} (hf:fs[k]? = some f) (ho:f'.owner=f.owner) (hn:f'.name=f.name) (h:0≤ZbI (inF o n) fs):0≤ZbI (inF o n) (fs.set k f'):=by
 rw [ZnI] at h ⊢
 obtain ⟨y,hy,hp⟩:=h
 obtain ⟨i,hi⟩:=List.mem_iff_getElem?.1 hy
 by_cases e:i=k
 ·subst e
  rw [hf] at hi;cases hi
  refine ⟨f',List.mem_iff_getElem?.2 ⟨i,?_⟩,by simp only [inF,ho,hn] at hp ⊢;exact hp⟩
  have:=(List.getElem?_eq_some_iff.1 hf).1
  simp [List.getElem?_set,this]
 ·exact ⟨y,List.mem_iff_getElem?.2 ⟨i,by rw [List.getElem?_set,if_neg (fun e'=>e e'.symm)];exact hi⟩,hp⟩
theorem Zon {us:List DUser} (h:ZaE us=true) {w:DUser} (hw:w∈us):Zju us w.name=w.quota:=by
 have h0:0≤Ze3 us w.name:=ZfW.2 ⟨w,hw,rfl⟩
 have h1:=Zvu us w.name
 obtain ⟨v,hv⟩ :∃v,us[(Ze3 us w.name).toNat]? = some v:=⟨_,List.getElem?_eq_getElem (by omega)⟩
 have h2:=Ztw h0 hv
 rw [Zf3,Zf2 (ZfA h) w hw] at h2
 cases h2
 simp only [Zju,hv]
theorem ZoK {x:DHost} {k:Nat} {f f':DFolder} (h:Zah x=true) (hf:x.folders[k]? = some f) (ho:f'.owner=f.owner) (hn:f'.name=f.name) (hi:Z7 x.users f'=true)
  (hq:(ZdS x.folders f.owner:Int)+ZaJ f'.mail≤Zju x.users f.owner+ZaJ f.mail∨ZaJ f'.mail≤ZaJ f.mail):Zah (x.withFolders (x.folders.set k f'))=true:=by
 rw [Zdh] at h ⊢
 obtain ⟨⟨h1,h2,h3⟩,⟨h4,h5,h6⟩,h7,h8⟩:=h
 refine ⟨⟨h1,h2,h3⟩,⟨?_,ZsP h5 hf ho hn,by simpa [DHost.withFolders] using h6⟩,?_,h8⟩
 ·intro g hg
  obtain ⟨i,hg⟩:=List.mem_iff_getElem?.1 hg
  rcases Zib hg with ⟨_,rfl,_⟩ | ⟨_,hg⟩
  ·exact hi
  ·exact h4 g (List.mem_of_getElem? hg)
 ·intro w hw
  have:=h7 w hw
  simp only [Zba,Bool.and_eq_true,decide_eq_true_eq] at this ⊢
  refine ⟨Zvt hf ho hn this.1,?_⟩
  have hu:=Zkz f' w.name hf
  simp only [DHost.withFolders]
  by_cases e:f.owner=w.name
  ·rw [if_pos e,if_pos (ho.trans e)] at hu
   rw [e,Zon h2 hw] at hq
   omega
  ·rw [if_neg e,if_neg (fun e'=>e (ho ▸ e'))] at hu
   omega
theorem Zjf {b:DBox} (h:Zcj b=true) :∃l,Zda b.mail=(true,l)∧l+1≤b.next∧b.next≤100∧b.mail.length≤10:=by
 simp only [Zcj,Bool.and_eq_true,decide_eq_true_eq] at h
 exact ⟨(Zda b.mail).2,Prod.ext h.1.1 rfl,h.1.2.1,h.1.2.2,h.2⟩
theorem Znt :∀(xs:List DMail) (b0 b:Int),xs.foldl (fun (s:Bool × Int) x=>(s.1 && Zc2 s.2 x,x.uid)) (true,b0)=(true,b)→b0≤b
 | [],b0,b,h=>by cases h;omega
 | x :: xs,b0,b,h=>by
  simp only [List.foldl_cons,Bool.true_and] at h
  cases hp:Zc2 b0 x with
  | false=>
   rw [hp] at h
   have:=ZbO (p:=Zc2) (nx:=fun _ m=>m.uid) xs x.uid
   rw [h] at this;cases this
  | true=>
   rw [hp] at h
   have:=Znt xs x.uid b h
   simp only [Zc2,Bool.and_eq_true,decide_eq_true_eq] at hp
   omega
theorem Zlq {us:List DUser} {f:DFolder} {b:DBox} (h:Z7 us f=true) (hb:Zcj b=true):Z7 us (f.withBox b)=true:=by
 simp only [Z7,Bool.and_eq_true,decide_eq_true_eq] at h ⊢
 exact ⟨⟨⟨h.1.1.1,h.1.1.2⟩,h.1.2⟩,hb⟩
theorem Zgs {x:DHost} {k:Nat} {f:DFolder} (h:Zah x=true) (hf:x.folders[k]? = some f):Z7 x.users f=true:=(Zdh.1 h).2.1.1 f (List.mem_of_getElem? hf)
theorem ZgT {us:List DUser} {f:DFolder} (h:Z7 us f=true):Zcj f.box=true:=by simp only [Z7,Bool.and_eq_true] at h;exact h.2
theorem Zfl {x:DHost} {k:Nat} {fl:Int} {t:Str} : (Zp3 x k fl t).1.users=x.users∧(Zp3 x k fl t).1.queue=x.queue∧(Zp3 x k fl t).1.domain=x.domain∧(Zp3 x k fl t).1.folders.length=x.folders.length:=by
 unfold Zp3
 split
 ·exact ⟨rfl,rfl,rfl,rfl⟩
 ·split
  ·exact ⟨rfl,rfl,rfl,rfl⟩
  ·split
   ·exact ⟨rfl,rfl,rfl,by simp [DHost.withFolders]⟩
   ·exact ⟨rfl,rfl,rfl,rfl⟩
theorem ZpU {x:DHost} {k:Nat} {b:DBox} (h:Zah x=true) (hb :∀f,x.folders[k]? = some f→Zcj b=true∧ZaJ b.mail≤ZaJ f.mail):Zah (Zgj x k b)=true:=by
 unfold Zgj
 split
 ·rename_i f hf
  exact ZoK h hf rfl rfl (Zlq (Zgs h hf) (hb f hf).1) (.inr (hb f hf).2)
 ·exact h
def Like (ms ms':List DMail):Prop:=ms'.length=ms.length∧∀(i:Nat) (a b:DMail),ms[i]? = some a→ms'[i]? = some b→b.uid=a.uid∧b.text=a.text∧(b.flags=a.flags∨(0≤b.flags∧b.flags≤31))
theorem Like.refl (ms:List DMail):Like ms ms:=⟨rfl,fun i a b h1 h2=>by rw [h1] at h2;cases h2;exact ⟨rfl,rfl,.inl rfl⟩⟩
theorem Like.set {ms acc:List DMail} {k:Nat} {a:DMail} {fl:Int} (h:Like ms acc) (ha:acc[k]? = some a) (hf:0≤fl∧fl≤31):Like ms (acc.set k ⟨a.uid,fl,a.text⟩):=by
 refine ⟨by rw [List.length_set];exact h.1,fun i c d hc hd=>?_⟩
 rcases Zib hd with ⟨rfl,rfl,_⟩ | ⟨_,hd⟩
 ·have:=h.2 _ _ _ hc ha
  exact ⟨this.1,this.2.1,.inr hf⟩
 ·exact h.2 _ _ _ hc hd
theorem Zls {ms acc:List DMail} {how fl n:Int} (h:Like ms acc):Like ms (ZeD ms how fl acc n):=by
 unfold ZeD
 split
 ·rename_i a m ha hm;exact h.set ha (ZrG _ _ _)
 ·exact h
theorem Ze8 {ms:List DMail} {how fl:Int} :∀(ns:List Int) {acc:List DMail},Like ms acc→Like ms (ns.foldl (ZeD ms how fl) acc)
 | [],_,h=>h
 | n :: ns,_,h=>Ze8 ns (Zls h)
theorem Zk9 :∀{ms ms':List DMail} (b0 b:Int),Like ms ms'→ms.foldl (fun (s:Bool × Int) x=>(s.1 && Zc2 s.2 x,x.uid)) (true,b0)=(true,b)→ms'.foldl (fun (s:Bool × Int) x=>(s.1 && Zc2 s.2 x,x.uid)) (true,b0)=(true,b)∧ZaJ ms'=ZaJ ms
 | [],ms',b0,b,h,hs=>by
  have:ms'=[]:=List.length_eq_zero_iff.1 h.1
  subst this;exact ⟨hs,rfl⟩
 | x :: ms,[],b0,b,h,hs=>by cases h.1
 | x :: ms,y :: ms',b0,b,h,hs=>by
  obtain ⟨h1,h2⟩:=h
  obtain ⟨e1,e2,e3⟩:=h2 0 x y rfl rfl
  simp only [List.foldl_cons,Bool.true_and] at hs ⊢
  cases hp:Zc2 b0 x with
  | false=>
   rw [hp] at hs
   have:=ZbO (p:=Zc2) (nx:=fun _ m=>m.uid) ms x.uid
   rw [hs] at this;cases this
  | true=>
   rw [hp] at hs
   have hq:Zc2 b0 y=true:=by
    simp only [Zc2,Zcp,Bool.and_eq_true,decide_eq_true_eq] at hp ⊢
    rw [e1,e2]
    rcases e3 with e3 | e3
    ·rw [e3];exact hp
    ·omega
   rw [hq,e1]
   obtain ⟨h3,h4⟩:=Zk9 (ms:=ms) (ms':=ms') x.uid b ⟨by simpa using h1,fun i a c ha hc=>h2 (i+1) a c (by simpa using ha) (by simpa using hc)⟩ hs
   refine ⟨h3,?_⟩
   simp only [ZaJ,List.map_cons,List.sum_cons,e2] at h4 ⊢
   omega
theorem Zs8 {b:DBox} {ms:List DMail} (h:Zcj b=true) (hl:Like b.mail ms):Zcj ⟨b.next,ms⟩=true∧ZaJ ms=ZaJ b.mail:=by
 obtain ⟨l,hs,h1,h2,h3⟩:=Zjf h
 obtain ⟨h4,h5⟩:=Zk9 0 l hl hs
 refine ⟨?_,h5⟩
 rw [Zfb (b:=⟨b.next,ms⟩) h4]
 simp only [Bool.and_eq_true,decide_eq_true_eq,hl.1];omega
theorem ZgZ {x:DHost} {k:Nat} {f:DFolder} (h:x.folders[k]? = some f):Zfx x k=f.box:=by simp only [Zfx,h]
theorem ZtP {x:DHost} {s:DSess} {r:Int} (h:(atF x s r).2=0):(atF x s r).1=ZbI (inF s.owner s.name) x.folders∧0≤(atF x s r).1∧0≤Ze3 x.users s.user∧∃f,x.folders[(atF x s r).1.toNat]? = some f∧ZlF f s.user 1=true∧ZlF f s.user 2=true∧ZlF f s.user r=true:=by
 unfold atF at h ⊢
 split at h
 ·rename_i h1;exact absurd h h1
 ·rename_i h1
  rw [if_neg h1]
  obtain ⟨h2,h3,f,hf,h4,h5⟩:=ZlC h
  obtain ⟨_,_,f',hf',_,h6⟩:=ZlC (Decidable.not_not.1 h1)
  rw [hf] at hf';cases hf'
  exact ⟨rfl,h3,h2,f,hf,h4,h6,h5⟩
theorem ZqK {x:DHost} {s:DSess} {set:List DSpan} {how fl:Int} (h:Zah x=true):(ZI x s set how fl).2=5∨Zah (ZI x s set how fl).1=true∨(Zc7 (Zfx x (atF x s 4).1.toNat).mail.length (Z6 set (Zfx x (atF x s 4).1.toNat).mail.length)=false):=by
 unfold ZI
 split
 ·exact .inl rfl
 ·rename_i h1
  split
  ·exact .inr (.inl h)
  ·rename_i h2
   cases hn:Zc7 (Zfx x (atF x s 4).1.toNat).mail.length (Z6 set (Zfx x (atF x s 4).1.toNat).mail.length) with
   | false=>exact .inr (.inr rfl)
   | true=>
    refine .inr (.inl (ZpU h fun f hf=>?_))
    simp only [h,true_and,Decidable.not_not] at h1
    have hb:=ZgT (Zgs h hf)
    rw [ZgZ hf] at hn ⊢
    rw [ZP,if_pos ⟨hb,hn,h1.2.2,h1.2.1⟩]
    obtain ⟨h4,h5⟩:=Zs8 hb (Ze8 (how:=how) (fl:=fl) (Z6 set f.box.mail.length) (Like.refl f.box.mail))
    exact ⟨h4,Nat.le_of_eq h5⟩
theorem ZkT {m:Nat} {xs:List Int} {b y:Int} (h:ZbD m xs=(true,b)) (hy:Zgo m b y=true):ZbD m (xs ++ [y])=(true,y):=by
 rw [ZbD,scn,List.foldl_append]
 have:xs.foldl (fun (s:Bool × Int) x=>(s.1 && Zgo m s.2 x,x)) (true,0)=(true,b):=h
 rw [this];simp [hy]
theorem ZhT (s:List DSpan) (last:Int) (m:Nat) :∀n,n≤m→∃b,ZbD m (ZcB s last n)=(true,b)∧b≤n
 | 0,_=>⟨0,rfl,by simp⟩
 | n+1,h=>by
  obtain ⟨b,h1,h2⟩:=ZhT s last m n (by omega)
  simp only [ZcB]
  split
  ·exact ⟨_,ZkT h1 (by simp only [Zgo,Bool.and_eq_true,decide_eq_true_eq];omega),by omega⟩
  ·exact ⟨b,h1,by omega⟩
theorem ZkU (s:List DSpan) (m:Nat):Zc7 m (Z6 s m)=true:=by
 unfold Z6
 split
 ·obtain ⟨b,h,_⟩:=ZhT s (min (m:Int) 99) m (min (m:Int) 99).toNat (by omega)
  rw [Zc7,h]
 ·rfl
end Go.BL
namespace Go.BL
open Go
theorem ZsJ {k:Nat} {e:Int} (h:([1,2,4,8,16,32]:List Int)[k]? = some e):e=Zbd k:=by rw [Zbd,List.getD_eq_getElem?_getD,h];rfl
theorem Zp4 {k:Nat} {e:Int} (h:([1,2,4,8,16]:List Int)[k]? = some e):e=Zbd k:=by
 have hk:=(List.getElem?_eq_some_iff.1 h).1
 simp only [List.length_cons,List.length_nil] at hk
 have:k=0∨k=1∨k=2∨k=3∨k=4:=by omega
 rcases this with rfl | rfl | rfl | rfl | rfl <;> simp at h <;> rw [← h] <;> rfl
theorem ZkK {a b:Int} (h0:0≤a) (h1:a≤1000000) (hb:0<b):IntKind.i64.wrap (Int.tdiv a b)=Int.tdiv a b:=
 Zcy (Int.le_trans (by decide) (Int.tdiv_nonneg h0 (by omega))) (Int.le_trans (Int.tdiv_le_self _ h0) (by omega))
theorem Zfe {gs:List DGrant} (h:Zde gs=true) :∀y,y∈gs→0≤y.rights∧y.rights≤63:=by
 intro y hy
 simp only [Zde,Bool.and_eq_true] at h
 obtain ⟨b,hb⟩:=Zjr (p:=Zcf) (nx:=fun _ g=>g.user) gs [] h.1 y hy
 simp only [Zcf,Bool.and_eq_true,decide_eq_true_eq] at hb;omega
def Zhz (fs:List DFolder):Prop:=∀f,f∈fs→∀y,y∈f.grants→0≤y.rights∧y.rights≤63
theorem ZjM {x:DHost} (h:Zah x=true):Zhz x.folders:=fun f hf=>by
 have:=(Zdh.1 h).2.1.1 f hf
 simp only [Z7,Bool.and_eq_true] at this
 exact Zfe this.1.2
theorem Zmc (gs:List DGrant) (u:Str):0≤Zbq gs u∧Zbq gs u≤600:=Zir gs u 6 (Nat.le_refl _)
theorem ZgY {b:DBox} (h:Zcj b=true):1≤b.next∧b.next≤100∧b.mail.length≤10:=by
 obtain ⟨l,hs,h1,h2,h3⟩:=Zjf h
 have:=Znt b.mail 0 l hs
 omega
structure GHC where
 q1:Option Addr
 c1:Nat
 q3:Option Addr
 c3:Nat
 b:Nat
theorem ZrR {gs:List DGrant} (h:Zde gs=true):gs.length≤4:=by simp only [Zde,Bool.and_eq_true,decide_eq_true_eq] at h;exact h.2
theorem Zd5 {n:Nat} {xs:List Int} {k:Nat} {x b:Int} (hx:xs[k]? = some x) (hs:ZbD n (xs.take k)=(true,b)) (h:Zgo n b x=false):Zc7 n xs=false:=Zhq hx hs h
theorem ZiU {n:Nat} {xs:List Int} {b:Int} (h:ZbD n xs=(true,b)):Zc7 n xs=true:=by rw [Zc7,h]
theorem Zow {n:Nat} {xs:List Int} (h:Zc7 n xs=true) :∀y,y∈xs→1≤y∧y≤n:=by
 intro y hy
 obtain ⟨b,hb⟩:=Zjr (p:=Zgo n) (nx:=fun _ x=>x) xs 0 h y hy
 simp only [Zgo,Bool.and_eq_true,decide_eq_true_eq] at hb;omega
theorem Zhn {ms:List DMail} {how fl:Int} {ns:List Int} {k:Nat} {y:Int} {a m:DMail} (hy:ns[k]? = some y) (ha:(Zbo ms how fl (ns.take k))[(y - 1).toNat]? = some a) (hm:ms[(y - 1).toNat]? = some m) :
  Zbo ms how fl (ns.take (k+1))=(Zbo ms how fl (ns.take k)).set (y - 1).toNat ⟨a.uid,chg m.flags how fl,a.text⟩:=by
 have e:Zbo ms how fl (ns.take (k+1))=ZeD ms how fl (Zbo ms how fl (ns.take k)) y:=by rw [Zbs hy,Zbo,List.foldl_append];rfl
 rw [e,ZeD,ha,hm]
theorem Zm6 {b:DBox} (h:Zcj b=true) {m:DMail} (hm:m∈b.mail):0≤m.flags∧m.flags≤31:=by
 have:=(Zf6 h).1 m hm
 simp only [Zcp,Bool.and_eq_true,decide_eq_true_eq] at this;exact this.1.2
theorem ZiT {s:List DSpan} {last:Int} {n:Nat} (h:ZeK s last (n+1:Nat)=true):ZcB s last (n+1)=ZcB s last n ++ [((n+1:Nat):Int)]:=by simp only [ZcB,h,if_true]
theorem ZkS {s:List DSpan} {last:Int} {n:Nat} (h:ZeK s last (n+1:Nat)=false):ZcB s last (n+1)=ZcB s last n:=by simp only [ZcB,h];rfl
theorem Zoi {s:List DSpan} (h:ZdU s=true) :∀y,y∈s→ZeV y=true:=by simp only [ZdU,Bool.and_eq_true,List.all_eq_true] at h;exact h.1
theorem ZhO {x:DHost} {k:Nat} {b:DBox} {f:DFolder} (h:x.folders[k]? = some f):Zgj x k b=x.withFolders (x.folders.set k (f.withBox b)):=by simp only [Zgj,h]
theorem Zb9 {b:DBox} {ns:List Int} {how fl:Int} (h : ¬ (Zcj b=true∧Zc7 b.mail.length ns=true∧ZcX how=true∧ZU fl=true)):ZP b ns how fl=(⟨0,[]⟩,false):=by rw [ZP,if_neg h]
theorem Zfc {b:DBox} {ns:List Int} {how fl:Int} (h:Zcj b=true∧Zc7 b.mail.length ns=true∧ZcX how=true∧ZU fl=true):ZP b ns how fl=(⟨b.next,Zbo b.mail how fl ns⟩,true):=by rw [ZP,if_pos h]
end Go.BL
namespace Go.BL
open Go
def Zkb (gs:List DGrant) (o u:Str):Int:=
 if ¬ (Zde gs=true∧Zay o=true∧Zay u=true) then -1 else if u=o then 63 else orI ((mget (Ze0 gs) u).getD 0) ((mget (Ze0 gs) anyone).getD 0)
theorem Zka {gs:List DGrant} {o u:Str} (h : ¬ (Zde gs=true∧Zay o=true∧Zay u=true)):Zkb gs o u = -1:=by rw [Zkb,if_pos h]
theorem ZtY {gs:List DGrant} {o u:Str} (h1:Zde gs=true) (h2:Zay o=true) (h3:Zay u=true):Zkb gs o u=if u=o then 63 else orI ((mget (Ze0 gs) u).getD 0) ((mget (Ze0 gs) anyone).getD 0):=by rw [Zkb,if_neg (fun h=>h ⟨h1,h2,h3⟩)]
def Zqm (us:List DUser) (f:DFolder) (u:Str) (r:Int):Bool:=(ZaM us u).2 && (decide (0≤Zkb f.grants f.owner u) && !decide (ZxU (Zkb f.grants f.owner u) r=0))
theorem Zo7 {gs:List DGrant} (h:Zde gs=true):gs.Pairwise fun x y=>Op.bytesLess x.user y.user=true:=by
 simp only [Zde,Bool.and_eq_true] at h
 exact (ZfT (p:=Zcf) (f:=fun u=>u.user) (fun b x hq=>by simp only [Zcf,Bool.and_eq_true] at hq;exact hq.2) gs [] (ZcY gs).2 (Prod.ext h.1 rfl)).2
def Zis (r b:Int):Bool:=decide (Int.tmod (Int.tdiv r b) 2=1)
theorem ZjB (u:Str) (b:Int) (h0:Zis 0 b=false) :∀{gs:List DGrant},gs.Pairwise (fun x y=>Op.bytesLess x.user y.user=true)→(gs.any fun g=>decide (g.user=u) && Zis g.rights b)=Zis ((mget (Ze0 gs) u).getD 0) b
 | [],_=>by simp [Ze0,mget,h0]
 | g :: gs,hp=>by
  obtain ⟨h1,h2⟩:=List.pairwise_cons.1 hp
  have ih:=ZjB u b h0 h2
  simp only [Ze0,List.map_cons,mget,List.any_cons] at ih ⊢
  by_cases hu:u=g.user
  ·subst hu
   have hn:(gs.any fun x=>decide (x.user=g.user) && Zis x.rights b)=false:=by
    rw [List.any_eq_false]
    intro x hx hc
    simp only [Bool.and_eq_true,decide_eq_true_eq] at hc
    have:=h1 x hx
    rw [hc.1,ZdN] at this;cases this
   simp [hn]
  ·rw [if_neg hu,decide_eq_false (Ne.symm hu),← ih];simp
theorem Zmp (u:Str) :∀{gs:List DGrant},(∀y,y∈gs→0≤y.rights∧y.rights≤63)→0≤(mget (Ze0 gs) u).getD 0∧(mget (Ze0 gs) u).getD 0≤63
 | [],_=>by simp [Ze0,mget]
 | g :: gs,h=>by
  have ih:=Zmp u (gs:=gs) fun y hy=>h y (List.mem_cons_of_mem _ hy)
  simp only [Ze0,List.map_cons,mget] at ih ⊢
  by_cases hu:u=g.user
  ·rw [if_pos hu];exact h g (List.mem_cons_self ..)
  ·rw [if_neg hu];exact ih
theorem Zw1 :∀a,a<64→∀b,b<64→0≤orI (a:Nat) (b:Nat)∧orI (a:Nat) (b:Nat)≤63∧(∀k,k<6→(!decide (ZxU (orI (a:Nat) (b:Nat)) (Zbd k)=0))=(Zis (a:Nat) (Zbd k) || Zis (b:Nat) (Zbd k)))∧(!decide (Int.tmod (orI (a:Nat) (b:Nat)) 2=0))=(Zis (a:Nat) 1 || Zis (b:Nat) 1)∧(!decide (Int.tmod (Int.tdiv (orI (a:Nat) (b:Nat)) 2) 2=0))=(Zis (a:Nat) 2 || Zis (b:Nat) 2):=by
 decide +kernel
theorem Zu6 :∀k,k<6→(!decide (ZxU 63 (Zbd k)=0))=true:=by decide +kernel
def ZBe (b0 b1 b2 b3 b4 b5:Bool):Int:=
 let s0:Int:=if b0=true then 0+Zbd 0 else 0
 let s1:=if b1=true then s0+Zbd 1 else s0
 let s2:=if b2=true then s1+Zbd 2 else s1
 let s3:=if b3=true then s2+Zbd 3 else s2
 let s4:=if b4=true then s3+Zbd 4 else s3
 if b5=true then s4+Zbd 5 else s4
theorem ZtO :∀b0 b1 b2 b3 b4 b5:Bool,∀k,k<6→Zis (ZBe b0 b1 b2 b3 b4 b5) (Zbd k)=[b0,b1,b2,b3,b4,b5].getD k false:=by decide +kernel
theorem Zol {gs:List DGrant} {u:Str} {k:Nat} (hk:k<6):Zis (Zbq gs u) (Zbd k)=gs.any (onB u (Zbd k)):=by
 have e:Zbq gs u=ZBe (gs.any (onB u (Zbd 0))) (gs.any (onB u (Zbd 1))) (gs.any (onB u (Zbd 2))) (gs.any (onB u (Zbd 3))) (gs.any (onB u (Zbd 4))) (gs.any (onB u (Zbd 5))):=rfl
 rw [e,ZtO _ _ _ _ _ _ k hk]
 have:k=0∨k=1∨k=2∨k=3∨k=4∨k=5:=by omega
 rcases this with rfl | rfl | rfl | rfl | rfl | rfl <;> rfl
theorem Zvc {gs:List DGrant} {u:Str} {b:Int} : gs.any (onB u b)=((gs.any fun g=>decide (g.user=u) && Zis g.rights b) || (gs.any fun g=>decide (g.user=anyone) && Zis g.rights b)):=by
 induction gs with
 | nil=>rfl
 | cons g gs ih=>
  simp only [List.any_cons,ih,onB,Zis]
  cases decide (g.user=u) <;> cases decide (g.user=anyone) <;> cases decide (Int.tmod (Int.tdiv g.rights b) 2=1) <;> simp
theorem Znd {k:Nat} (hk:k<6):Zis 0 (Zbd k)=false:=by
 have:k=0∨k=1∨k=2∨k=3∨k=4∨k=5:=by omega
 rcases this with rfl | rfl | rfl | rfl | rfl | rfl <;> rfl
theorem ZpZ {gs:List DGrant} {u:Str} (h:Zde gs=true) {k:Nat} (hk:k<6):(!decide (ZxU (orI ((mget (Ze0 gs) u).getD 0) ((mget (Ze0 gs) anyone).getD 0)) (Zbd k)=0))=Zis (Zbq gs u) (Zbd k)∧0≤orI ((mget (Ze0 gs) u).getD 0) ((mget (Ze0 gs) anyone).getD 0)∧orI ((mget (Ze0 gs) u).getD 0) ((mget (Ze0 gs) anyone).getD 0)≤63∧(!decide (Int.tmod (orI ((mget (Ze0 gs) u).getD 0) ((mget (Ze0 gs) anyone).getD 0)) 2=0))=Zis (Zbq gs u) 1∧(!decide (Int.tmod (Int.tdiv (orI ((mget (Ze0 gs) u).getD 0) ((mget (Ze0 gs) anyone).getD 0)) 2) 2=0))=Zis (Zbq gs u) 2:=by
 obtain ⟨a0,a1⟩:=Zmp u (Zfe h)
 obtain ⟨b0,b1⟩:=Zmp anyone (Zfe h)
 have hs:=Zo7 h
 have e1 :∀k,k<6→Zis (Zbq gs u) (Zbd k)=(Zis ((mget (Ze0 gs) u).getD 0) (Zbd k) || Zis ((mget (Ze0 gs) anyone).getD 0) (Zbd k)):=fun k hk=>by
  rw [Zol hk,Zvc,ZjB u _ (Znd hk) hs,ZjB anyone _ (Znd hk) hs]
 generalize (mget (Ze0 gs) u).getD 0=a at *
 generalize (mget (Ze0 gs) anyone).getD 0=b at *
 obtain ⟨n,rfl⟩:=Int.eq_ofNat_of_zero_le a0
 obtain ⟨m,rfl⟩:=Int.eq_ofNat_of_zero_le b0
 obtain ⟨t1,t2,t3,t4,t5⟩:=Zw1 n (by omega) m (by omega)
 have h0:=e1 0 (by omega)
 exact ⟨by rw [t3 k hk,e1 k hk],t1,t2,by rw [t4];exact h0.symm,by rw [t5];exact (e1 1 (by omega)).symm⟩
theorem Zks {x:DHost} {u:Str} (h:Zah x=true) (hu:0≤Ze3 x.users u):Zay u=true:=by
 obtain ⟨w,hw,rfl⟩:=ZfW.1 hu
 have:=Zkq (Zhg h) hw
 simp only [Zc5,Bool.and_eq_true] at this
 exact this.1.1.1
theorem ZtX {x:DHost} {f:DFolder} {u:Str} (h:Zah x=true) (hf:f∈x.folders) (hu:0≤Ze3 x.users u):Zkb f.grants f.owner u=if u=f.owner then 63 else orI ((mget (Ze0 f.grants) u).getD 0) ((mget (Ze0 f.grants) anyone).getD 0):=by
 have hi:=(Zdh.1 h).2.1.1 f hf
 simp only [Z7,Bool.and_eq_true,decide_eq_true_eq] at hi
 rw [Zkb,if_neg (fun hc=>hc ⟨hi.1.2,Zks h hi.1.1.1,Zks h hu⟩)]
theorem ZxY {x:DHost} {f:DFolder} (h:Zah x=true) (hf:f∈x.folders):Zde f.grants=true:=by
 have hi:=(Zdh.1 h).2.1.1 f hf
 simp only [Z7,Bool.and_eq_true] at hi
 exact hi.1.2
theorem Zql {x:DHost} {f:DFolder} {u:Str} {k:Nat} (h:Zah x=true) (hf:f∈x.folders) (hk:k<6):Zqm x.users f u (Zbd k)=(decide (0≤Ze3 x.users u) && ZlF f u (Zbd k)):=by
 rw [Zqm,ZmK h]
 by_cases hu:0≤Ze3 x.users u
 ·rw [ZtX h hf hu,ZlF]
  obtain ⟨r1,r2,r3,r4,r5⟩:=ZpZ (gs:=f.grants) (u:=u) (ZxY h hf) hk
  by_cases ho:u=f.owner
  ·rw [if_pos ho,decide_eq_true ho,Zu6 k hk];simp
  ·rw [if_neg ho,decide_eq_false ho,r1,decide_eq_true r2];simp [Zis]
 ·simp [hu]
end Go.BL
namespace Go.BL
open Go
def ZbM (f:DFolder):Nat:=3+2*f.grants.length+3*f.mail.length
def mkF (k:Nat) (f:DFolder):DFolder:=⟨ZY k,ZY (k+1),ZaK (k+1+1) f.grants.length,((k+1+1+2*f.grants.length:Nat):Int),Zb6 (k+1+1+2*f.grants.length+1) f.mail.length⟩
def Zch (x:DItem):Nat:=3+x.left.length
def mkI (k:Nat) (x:DItem):DItem:=⟨((k:Nat):Int),ZY (k+1),ZY (k+1+1),Zdu (k+1+1+1) x.left.length⟩
def kL {α:Type} (st:α→Nat) (k:Nat) (xs:List α):Nat:=k+(xs.map st).sum
def mkL {α:Type} (st:α→Nat) (mk:Nat→α→α):Nat→List α→List α
 | _,[]=>[]
 | k,x :: xs=>mk k x :: mkL st mk (k+st x) xs
theorem ZnG {α:Type} {st:α→Nat} {k:Nat} : kL st k []=k:=by simp [kL]
theorem ZjH {α:Type} {st:α→Nat} {k:Nat} {x:α} {xs:List α} : kL st k (x :: xs)=kL st (k+st x) xs:=by simp [kL];omega
theorem Zh1 {α:Type} {st:α→Nat} {k i:Nat} {xs:List α} {x:α} (hx:xs[i]? = some x):kL st k (xs.take (i+1))=kL st k (xs.take i)+st x:=by
 rw [Zbs hx,kL,kL,List.map_append,List.sum_append];simp;omega
theorem Zvq {α:Type} {st:α→Nat} {c:Nat} :∀{xs:List α} (k:Nat),(∀x,x∈xs→st x≤c)→kL st k xs≤k+xs.length*c
 | [],k,_=>by simp [kL]
 | x :: xs,k,h=>by
  have h1:=Zvq (st:=st) (c:=c) (xs:=xs) (k+st x) fun y hy=>h y (List.mem_cons_of_mem _ hy)
  have h2:=h x (List.mem_cons_self ..)
  rw [ZjH,List.length_cons,Nat.succ_mul];omega
theorem ZnC {α:Type} {st:α→Nat} {mk:Nat→α→α} {x:α} :∀{xs:List α} (k:Nat),mkL st mk k (xs ++ [x])=mkL st mk k xs ++ [mk (kL st k xs) x]
 | [],k=>by simp [mkL,kL]
 | y :: xs,k=>by
  rw [List.cons_append,mkL,ZnC (xs:=xs) (k+st y),mkL,ZjH,List.cons_append]
theorem Zew {α:Type} {st:α→Nat} {mk:Nat→α→α} :∀{xs:List α} (k:Nat),(mkL st mk k xs).length=xs.length
 | [],k=>rfl
 | y :: xs,k=>by rw [mkL,List.length_cons,Zew (k+st y),List.length_cons]
theorem Zs4 {α:Type} {st:α→Nat} {mk:Nat→α→α} {xs ys:List α} {i k:Nat} {x:α} (ht:ys.take i=mkL st mk k (xs.take i)) (hx:xs[i]? = some x) (hl:ys.length=xs.length):(ys.set i (mk (kL st k (xs.take i)) x)).take (i+1)=mkL st mk k (xs.take (i+1)):=by
 have hi:=(List.getElem?_eq_some_iff.1 hx).1
 rw [ZbB (by omega),Zbs hx,ZnC,ht]
theorem Zqk {α:Type} {st:α→Nat} {mk:Nat→α→α} {xs ys:List α} {i k:Nat} (ht:ys.take i=mkL st mk k (xs.take i)) (hl:ys.length=xs.length) (hi:xs.length≤i):ys=mkL st mk k xs:=by
 rwa [List.take_of_length_le (by omega),List.take_of_length_le hi] at ht
theorem Zmo {α:Type} {st:α→Nat} {mk:Nat→α→α} :∀{xs:List α} {i:Nat} {x:α} (k:Nat),xs[i]? = some x→(mkL st mk k xs)[i]? = some (mk (kL st k (xs.take i)) x)
 | [],i,x,k,h=>by simp at h
 | y :: xs,0,x,k,h=>by
  simp only [List.getElem?_cons_zero,Option.some.injEq] at h
  subst h;simp [mkL,kL]
 | y :: xs,i+1,x,k,h=>by
  rw [mkL,List.getElem?_cons_succ,Zmo (k+st y) (by simpa using h),List.take_succ_cons,ZjH]
theorem ZnQ {α:Type} {xs ys:List α} {i:Nat} {z:α} (hd:ys.drop i=xs.drop i):(ys.set i z).drop (i+1)=xs.drop (i+1):=by
 rw [List.drop_set_of_lt (by omega),← List.drop_drop,← List.drop_drop,hd]
theorem ZnR {α:Type} {xs ys:List α} {i:Nat} (hd:ys.drop i=xs.drop i):ys[i]? = xs[i]?:=by
 have:=congrArg (fun l=>l[0]?) hd
 simpa using this
theorem Zmn {k n g:Nat} (h:g<n):(Zb6 k n)[g]? = some ⟨((k+3*g:Nat):Int),((k+3*g+1:Nat):Int),ZY (k+3*g+1+1)⟩:=by simp [Zb6,h]
theorem Zk2 {k n g:Nat} (h:g<n):(ZaK k n)[g]? = some ⟨ZY (k+2*g),((k+2*g+1:Nat):Int)⟩:=by simp [ZaK,h]
theorem Zml {k n g:Nat} (h:g<n):(ZcJ k n)[g]? = some ⟨ZY (k+3*g),ZY (k+3*g+1),((k+3*g+1+1:Nat):Int)⟩:=by simp [ZcJ,h]
theorem ZoA {k n g:Nat} (h:g<n):(Zdu k n)[g]? = some (ZY (k+1*g)):=by simp [Zdu,h]
theorem Zeu {α:Type} {xs:List α} {k:Nat} {x z:α} (h:xs[k]? = some x):(xs.set k z)[k]? = some z:=List.getElem?_set_self (List.getElem?_eq_some_iff.1 h).1
theorem Ztc {α:Type} {st:α→Nat} {k i:Nat} {xs:List α} {x:α} (hx:xs[i]? = some x):kL st k (xs.take i)+st x≤kL st k xs:=by
 have e:xs=xs.take (i+1) ++ xs.drop (i+1):=(List.take_append_drop _ _).symm
 have h1:=Zh1 (st:=st) (k:=k) hx
 have h2:kL st k xs=kL st k (xs.take (i+1))+((xs.drop (i+1)).map st).sum:=by
  conv=>lhs;rw [e]
  simp only [kL,List.map_append,List.sum_append];omega
 omega
theorem ZnH {α:Type} {st:α→Nat} {k i:Nat} {xs:List α} (h:xs.length≤i):kL st k (xs.take i)=kL st k xs:=by rw [List.take_of_length_le h]
theorem Ztb {α:Type} {st:α→Nat} {k:Nat} {xs:List α} : k≤kL st k xs:=by simp [kL]
theorem Znn {α:Type} {xs ys:List α} {i:Nat} {z:α} (h:ys.length=xs.length):(ys.set i z).length=xs.length:=by rw [List.length_set,h]
theorem Zxh {α:Type} {st sz:α→Nat} {xs:List α} (k:Nat) (h :∀x,x∈xs→st x≤3+3*sz x):kL st k xs≤k+3*(xs.length+(xs.map sz).sum):=by
 induction xs generalizing k with
 | nil=>simp [kL]
 | cons x xs ih=>
  rw [ZjH]
  have h1:=ih (k+st x) fun y hy=>h y (List.mem_cons_of_mem _ hy)
  have h2:=h x (List.mem_cons_self ..)
  simp only [List.length_cons,List.map_cons,List.sum_cons];omega
theorem Zk1 {α:Type} {st:α→Nat} {mk:Nat→α→α} {xs ys:List α} {i k m:Nat} {x:α} (ht:ys.take i=mkL st mk k (xs.take i)) (hx:xs[i]? = some x) (hl:ys.length=xs.length) (hs:m=kL st k (xs.take i)):(ys.set i (mk m x)).take (i+1)=mkL st mk k (xs.take (i+1)):=by
 subst hs;exact Zs4 ht hx hl
end Go.BL
namespace Go.BL
open Go
theorem ZyU {k:Nat} {fs:List DFolder} : kL ZbM k fs≤k+3*szL ZaG fs:=Zxh k fun x _=>by simp only [ZbM,ZaG,szL];omega
theorem ZyR {k:Nat} {xs:List DItem} : kL Zch k xs≤k+3*szL ZbL xs:=Zxh k fun x _=>by simp only [Zch,ZbL,ZfB,szL];omega
def kH (k:Nat) (x:DHost):Nat:=kL Zch (kL ZbM (k+3*x.users.length) x.folders) x.queue.items
theorem ZyT {x:DHost} (h:Zc6 x≤1048576):kH 1 x≤10000000:=by
 have h1:=@ZyR (kL ZbM (1+3*x.users.length) x.folders) x.queue.items
 have h2:=@ZyU (1+3*x.users.length) x.folders
 unfold Zc6 at h
 have h3:x.users.length≤szL Zdo x.users:=by simp only [szL];omega
 unfold kH;omega
end Go.BL
namespace Go.BL
open Go
def Zdj (us:List DUser) (fs:List DFolder) (u o n:Str) (r:Int):Nat:=
 if ZbI (inF o n) fs<0 then 1 else match fs[(ZbI (inF o n) fs).toNat]? with
  | none=>1
  | some f=>if Zqm us f u 1=false then 1 else if Zqm us f u r=false then 2 else 0
theorem ZrB {us:List DUser} {fs:List DFolder} {u o n:Str} {r:Int} (h:ZbI (inF o n) fs<0):Zdj us fs u o n r=1:=by rw [Zdj,if_pos h]
theorem Zj4 {us:List DUser} {fs:List DFolder} {u o n:Str} {r:Int} {f:DFolder} (h : ¬ ZbI (inF o n) fs<0) (hf:fs[(ZbI (inF o n) fs).toNat]? = some f):Zdj us fs u o n r=if Zqm us f u 1=false then 1 else if Zqm us f u r=false then 2 else 0:=by
 rw [Zdj,if_neg h,hf]
theorem ZrC (us:List DUser) (fs:List DFolder) (u o n:Str) (r:Int):Zdj us fs u o n r<3:=by
 unfold Zdj
 split
 ·omega
 ·split
  ·omega
  ·split
   ·omega
   ·split <;> omega
theorem ZrD {x:DHost} {u o n:Str} {k:Nat} (h:Zah x=true) (hk:k<6):((Zdj x.users x.folders u o n (Zbd k):Nat):Int)=ZlD x.users x.folders u (ZbI (inF o n) x.folders) (Zbd k):=by
 by_cases h0:ZbI (inF o n) x.folders<0
 ·rw [ZrB h0,Zj5 (.inr h0)];rfl
 ·have hl:=Zh5 (inF o n) x.folders
  obtain ⟨f,hf⟩:=Ztu (xs:=x.folders) (i:=ZbI (inF o n) x.folders) (by omega) (by omega)
  have hm:=List.mem_of_getElem? hf
  rw [Zj4 h0 hf]
  have e1:Zqm x.users f u 1=(decide (0≤Ze3 x.users u) && ZlF f u 1):=Zql (k:=0) h hm (by omega)
  rw [e1,Zql h hm hk]
  by_cases hu:Ze3 x.users u<0
  ·rw [Zj5 (.inl hu),decide_eq_false (by omega)];rfl
  ·rw [ZrF (by omega) hf,decide_eq_true (by omega)]
   cases ZlF f u 1 <;> cases ZlF f u (Zbd k) <;> rfl
theorem ZtL {x:DHost} {u o n:Str} (h:Zah x=true):((Zdj x.users x.folders u o n 2:Nat):Int)=ZlD x.users x.folders u (ZbI (inF o n) x.folders) 2:=ZrD (k:=1) h (by omega)
end Go.BL
namespace Go.BL
open Go
end Go.BL
namespace Go.BL
open Go
end Go.BL
namespace Go.BL
open Go
end Go.BL
namespace Go.BL
open Go
end Go.BL
namespace Go.BL
open Go
theorem Zw.perm {P:PJ} {f:FuncId} {args:List Value} {B:Kn} {Ls Ls':List Cells} {Post:Value→Kn→List Cells→Prop} (hp:Ls.flatten.Perm Ls'.flatten) (h:Zw P f args B Ls' Post):Zw P f args B Ls Post:=fun X kind c cs F hk hA=>by
 refine X.drop (r:=Ls'.flatten ++ F) (gl:=[]) ?_ (h X kind c cs F hk hA)
 rw [List.append_nil];exact hp.append_right F
theorem MLst.one {TL Tn:TypeId} {b bn:Nat} {m:DMail} {s:Cells} (hm:m.text.length≤2000000) (hp:s.Perm (ZN b [Go.BL.ptr ⟨bn,0,none⟩,Go.BL.ptr ⟨bn,0,none⟩,.int .i64 1] TL ++ ZN bn (Zfu m (.pointer none)) Tn)):MLst TL Tn b [m] s:=
 .inr ⟨_,bn,m,[],hp.trans (by simp),Zkd.init hm⟩
theorem MLst.add {TL Tn:TypeId} {b bl bn:Nat} {v0:Value} {x m:DMail} {rest s:Cells} {xs:List DMail} {k:Int} (h:Zkd Tn v0 bl x rest xs) (hm:m.text.length≤2000000) (hk:k=xs.length+1)
  (hp:s.Perm (ZN b [v0,Go.BL.ptr ⟨bn,0,none⟩,.int .i64 k] TL ++ (ZN bn (Zfu m (.pointer none)) Tn ++ (rest ++ ZN bl (Zfu x (Go.BL.ptr ⟨bn,0,none⟩)) Tn)))):MLst TL Tn b (xs ++ [m]) s:=by
 refine .inr ⟨v0,bn,m,rest ++ ZN bl (Zfu x (Go.BL.ptr ⟨bn,0,none⟩)) Tn,hp.trans ?_,h.step hm⟩
 rw [hk,List.length_append]
 simp
theorem ZAY {P:PJ} {S:Env} {B:Kn} {L:List Cells} {rs:List ResultVar} {Post:Value→Kn→List Cells→Prop} (e:Exit) (he:e = .ret∨e = .normal) (vs:List Value) (js:List Nat) {ss r:List Cells} (hp:ZaB L js=some (ss,r)) (hr:ZbP P S B L rs vs) (hq:Post (ZcU vs) B [ss.flatten]):Zf8 P rs Post e S [] B L:=
 ⟨he,rfl,vs,[ss.flatten],hr,⟨r.flatten,by simpa using Zal js L ss r hp⟩,hq⟩
structure MOf where
 p:Option Addr
 ys:List DMail
 xs:List DMail
 l:Cells
 q:Option Addr
 c:Nat
 cells:Cells
end Go.BL
namespace Go.BL
open Go
theorem ZBl {B:Kn} {L:List Cells} {b o:Nat} {row vs:List Value} {a:Addr} (hc :∀(m:Nat) (u:Value),row[m]? = some u→Za0 B L.flatten ⟨b,o+m,none⟩ u) (off:Nat) (ha:a=⟨b,o+off,none⟩) (hv:(row.drop off).take vs.length=vs):ZrV B L a vs:=by
 intro i v hi
 subst ha
 rw [Addr.add_off _ _ rfl]
 have hlt:i<vs.length:=(List.getElem?_eq_some_iff.1 hi).1
 have:row[off+i]? = some v:=by
  have e:=congrArg (fun l=>l[i]?) hv
  simp only [List.getElem?_take,if_pos hlt,List.getElem?_drop] at e
  rw [e,hi]
 have:=hc _ v this
 rwa [show o+(off+i)=o+off+i from by omega] at this
theorem ZaV.cellA {α:Type} {l:Cells} {p:Option Addr} {c:Nat} {T:TypeId} {w:Nat} {R:Zg2 α} {xs:List α} (h:ZaV l p c T w R xs) {i:Nat} {x:α} (hx:xs[i]? = some x) :
∃b row li lr,p=some ⟨b,0,none⟩∧R row x li∧row.length=w∧l.Perm (li ++ lr)∧(∀(B:Kn) (L:List Cells) (j:Nat),L[j]? = some l→∀(m:Nat) (u:Value),row[m]? = some u→Za0 B L.flatten ⟨b,i*w+m,none⟩ u)∧(∀(B:Kn) (L:List Cells) (j:Nat),L[j]? = some lr→∀(m:Nat) (u:Value),row[m]? = some u→Za0 B L.flatten ⟨b,i*w+m,none⟩ u)∧∀x' li',R row x' li'→ZaV (li' ++ lr) p c T w R (xs.set i x'):=by
 obtain ⟨b,arr,row,li,lr,e1,e2,e3,e4,e5,e6⟩:=h.open1 hx
 refine ⟨b,row,li,ZN b arr T ++ lr,e1,e2,e3,e4,fun B L j hj m u hm=>⟨rfl,arr.toArray,T,(0,0),.inr ?_,by simpa using e5 m u hm⟩,fun B L j hj m u hm=>⟨rfl,arr.toArray,T,(0,0),.inr ?_,by simpa using e5 m u hm⟩,e6⟩
 ·exact List.mem_flatten.2 ⟨l,List.mem_of_getElem? hj,e4.mem_iff.2 (List.mem_append_right _ (List.mem_append_left _ (List.mem_singleton.2 rfl)))⟩
 ·exact List.mem_flatten.2 ⟨_,List.mem_of_getElem? hj,List.mem_append_left _ (List.mem_singleton.2 rfl)⟩
theorem ZtM {x:DHost} {u o n:Str} {r:Int} (h:Zdj x.users x.folders u o n r=0):0≤ZbI (inF o n) x.folders:=by
 unfold Zdj at h
 split at h
 ·cases h
 ·omega
end Go.BL
namespace Go.BL
open Go
end Go.BL
namespace Go.BL
open Go
end Go.BL
namespace Go.BL
open Go
def usN (x:DHost) (u o n:Str) (r:Int) (k:Nat):Nat:=if Zdj x.users x.folders u o n 2=0 then (if Zdj x.users x.folders u o n r=0 then k else Zdj x.users x.folders u o n r) else Zdj x.users x.folders u o n 2
def usX {α:Type} (x:DHost) (u o n:Str) (r:Int) (A B:α):α:=if Zdj x.users x.folders u o n 2=0∧Zdj x.users x.folders u o n r=0 then A else B
theorem ZwI {x:DHost} {u o n:Str} {r:Int} {k:Nat} (hk:k<5):usN x u o n r k<5:=by
 unfold usN
 have h2:=ZrC x.users x.folders u o n 2
 have hr:=ZrC x.users x.folders u o n r
 split <;> (try split) <;> omega
theorem Zuj {x:DHost} {u o n:Str} {r:Int} (h:Zdj x.users x.folders u o n 2≠0) (k:Nat):usN x u o n r k=Zdj x.users x.folders u o n 2∧∀{α:Type} (A B:α),usX x u o n r A B=B:=⟨by rw [usN,if_neg h],fun A B=>by rw [usX,if_neg (fun hh=>h hh.1)]⟩
theorem Zui {x:DHost} {u o n:Str} {r:Int} (h2:Zdj x.users x.folders u o n 2=0) (h:Zdj x.users x.folders u o n r≠0) (k:Nat):usN x u o n r k=Zdj x.users x.folders u o n r∧∀{α:Type} (A B:α),usX x u o n r A B=B:=⟨by rw [usN,if_pos h2,if_neg h],fun A B=>by rw [usX,if_neg (fun hh=>h hh.2)]⟩
theorem Zuh {x:DHost} {u o n:Str} {r:Int} (h2:Zdj x.users x.folders u o n 2=0) (h:Zdj x.users x.folders u o n r=0) (k:Nat):usN x u o n r k=k∧∀{α:Type} (A B:α),usX x u o n r A B=A:=⟨by rw [usN,if_pos h2,if_pos h],fun A B=>by rw [usX,if_pos ⟨h2,h⟩]⟩
end Go.BL
namespace Go.BL
open Go
def ZhY (s:List DSpan) (L:Int) (k n:Nat):Bool:=(decide (1≤n) && decide ((n:Int)≤L)) && (s.take k).any (ZcH L n)
def ZjW (f:Nat→Bool) (a j:Int) (n:Nat):Bool:=f n || (decide (a≤(n:Int)) && decide ((n:Int)<j))
theorem Zqn (s:List DSpan) (L:Int):(fun _:Nat=>false)=ZhY s L 0:=funext fun n=>by simp [ZhY]
theorem Zi8 (f:Nat→Bool) (a:Int):f=ZjW f a a:=funext fun n=>by
 have:(decide (a≤(n:Int)) && decide ((n:Int)<a))=false:=by rw [Bool.and_eq_false_iff];simp;omega
 simp [ZjW,this]
theorem Zi9 {f F:Nat→Bool} {a j:Int} (h:F=ZjW f a j) (h0:0≤j) (ha:a≤j):(fun n=>if n=j.toNat then true else F n)=ZjW f a (j+1):=by
 subst h
 funext n
 simp only [ZjW]
 by_cases e:n=j.toNat
 ·rw [if_pos e]
  have h1:decide (a≤(n:Int))=true:=by simp;omega
  have h2:decide ((n:Int)<j+1)=true:=by simp;omega
  simp [h1,h2]
 ·rw [if_neg e]
  have:decide ((n:Int)<j)=decide ((n:Int)<j+1):=by rw [decide_eq_decide];omega
  rw [this]
theorem Zk4 {s:List DSpan} {L a e j lo hi:Int} {k:Nat} {m:DSpan} {F:Nat→Bool} (hm:s[k]? = some m) (hlo:lo=if m.low=0 then L else m.low) (hhi:hi=if m.high=0 then L else m.high) (ha:a=min lo hi) (he:e=max lo hi) (ha1:1≤a) (hF:F=ZjW (ZhY s L k) a j)
  (h1:min e L<j) (h2:a≤j) (h3:j≤min e L+1∨j=a):F=ZhY s L (k+1):=by
 subst hF
 funext n
 have hs:ZcH L n m=(decide (a≤(n:Int)) && decide ((n:Int)≤e)):=by simp only [ZcH,← hlo,← hhi,← ha,← he]
 simp only [ZjW,ZhY,Zdd hm,hs]
 have key:(decide (a≤(n:Int)) && decide ((n:Int)<j))=((decide (1≤n) && decide ((n:Int)≤L)) && (decide (a≤(n:Int)) && decide ((n:Int)≤e))):=by
  rw [Bool.eq_iff_iff]
  simp only [Bool.and_eq_true,decide_eq_true_eq]
  omega
 rw [key,← Bool.and_or_distrib_left]
theorem Zs5 {s:List DSpan} {L:Int} {k:Nat} (h:ZhY s L s.length k=true):ZcB s L (min k L.toNat)=ZcB s L (min (k - 1) L.toNat) ++ [(k:Int)]:=by
 simp only [ZhY,List.take_length,Bool.and_eq_true,decide_eq_true_eq] at h
 obtain ⟨⟨h1,h2⟩,h3⟩:=h
 obtain ⟨m,rfl⟩ :∃m,k=m+1:=⟨k - 1,by omega⟩
 rw [show min (m+1) L.toNat=m+1 from by omega,show min (m+1 - 1) L.toNat=m from by omega,ZiT (show ZeK s L (m+1:Nat)=true from h3)]
theorem Zvg {s:List DSpan} {L:Int} {k:Nat} (h:ZhY s L s.length k=false):ZcB s L (min k L.toNat)=ZcB s L (min (k - 1) L.toNat):=by
 by_cases h1:k=0
 ·subst h1;rfl
 ·by_cases h2:(k:Int)≤L
  ·obtain ⟨m,rfl⟩ :∃m,k=m+1:=⟨k - 1,by omega⟩
   have h3:ZeK s L (m+1:Nat)=false:=by
    simp only [ZhY,List.take_length] at h
    rw [show decide (1≤m+1)=true from by simp,show decide (((m+1:Nat):Int)≤L)=true from by simpa using h2] at h
    simpa [ZeK] using h
   rw [show min (m+1) L.toNat=m+1 from by omega,show min (m+1 - 1) L.toNat=m from by omega,ZkS h3]
  ·rw [show min k L.toNat=L.toNat from by omega,show min (k - 1) L.toNat=L.toNat from by omega]
theorem Zox {s:List DSpan} {last:Int} (h:ZdU s=true):Z6 s last=ZcB s (min last 99) (min last 99).toNat:=by rw [Z6,if_pos h]
theorem ZkV {s:List DSpan} {last:Int} (h:ZdU s=false∨last<1):Z6 s last=[]:=by
 rw [Z6]
 split
 ·rcases h with h | h
  ·rename_i e;rw [h] at e;cases e
  ·rw [show (min last 99).toNat=0 from by omega];rfl
 ·rfl
end Go.BL
namespace Go.BL
open Go
theorem ZrA {x:DHost} {u o n:Str} {r:Int} (h:Zdj x.users x.folders u o n r=0) :∃(k:Nat) (f:DFolder),ZbI (inF o n) x.folders=(k:Int)∧x.folders[k]? = some f:=by
 have h0:=ZtM h
 obtain ⟨k,hk⟩ :∃k:Nat,ZbI (inF o n) x.folders=(k:Int):=⟨_,(Int.toNat_of_nonneg h0).symm⟩
 have hl:=Zh5 (inF o n) x.folders
 exact ⟨k,x.folders[k]'(by omega),hk,List.getElem?_eq_getElem (by omega)⟩
end Go.BL
namespace Go.BL
open Go
def ZgL (k n:Nat):List DSpan:=(List.range n).map fun i=>⟨((k+2*i:Nat):Int),((k+2*i+1:Nat):Int)⟩
theorem ZkZ {ys:List DSpan} {i k:Nat} {z1 z2:DSpan} (ht:ys.take i=ZgL k i) (h1:ys[i]? = some z1) (h2:(ys.set i ⟨((k+2*i:Nat):Int),z1.high⟩)[i]? = some z2) :
  ((ys.set i ⟨((k+2*i:Nat):Int),z1.high⟩).set i ⟨z2.low,((k+2*i+1:Nat):Int)⟩).take (i+1)=ZgL k (i+1):=by
 have hl:=(List.getElem?_eq_some_iff.1 h1).1
 rw [List.getElem?_set_self hl] at h2;cases h2
 rw [List.set_set,ZbB hl,ht,ZgL,ZgL,List.range_succ,List.map_append];rfl
end Go.BL
namespace Go.BL
open Go
end Go.BL
namespace Go.BL
open Go
end Go.BL
namespace Go.BL
open Go
def fchg (a how o:Int):Int:=if (ZcX how && (ZU a && ZU o))=true then (if how=1 then orI a o else if how=0 then o else Zx4 a o) else -1
theorem Ze9 {a how o:Int} (h:(ZcX how && (ZU a && ZU o))=false):fchg a how o = -1:=by rw [fchg,if_neg (by simp [h])]
theorem Zty :∀m k:Fin 32,(orI ((m:Nat):Int) ((k:Nat):Int)=chg ((m:Nat):Int) 1 ((k:Nat):Int))∧(((k:Nat):Int)=chg ((m:Nat):Int) 0 ((k:Nat):Int))∧(Zx4 ((m:Nat):Int) ((k:Nat):Int)=chg ((m:Nat):Int) (-1) ((k:Nat):Int)):=by decide +kernel
theorem Zrd {a how o:Int} (hh:ZcX how=true) (ha:ZU a=true) (ho:ZU o=true):fchg a how o=chg a how o:=by
 rw [fchg,if_pos (by simp [hh,ha,ho])]
 simp only [ZU,ZcX,Bool.and_eq_true,decide_eq_true_eq] at hh ha ho
 obtain ⟨m,rfl⟩ :∃n:Nat,a=(n:Int):=⟨a.toNat,by omega⟩
 obtain ⟨k,rfl⟩ :∃n:Nat,o=(n:Int):=⟨o.toNat,by omega⟩
 obtain ⟨h1,h2,h3⟩:=Zty ⟨m,by omega⟩ ⟨k,by omega⟩
 have h4:how=1∨how=0∨how = -1:=by omega
 rcases h4 with rfl | rfl | rfl
 ·rw [if_pos rfl];exact h1
 ·rw [if_neg (by decide),if_pos rfl];exact h2
 ·rw [if_neg (by decide),if_neg (by decide)];exact h3
theorem Zfq {how o:Int} : 0≤fchg 0 how o↔ZcX how=true∧ZU o=true:=by
 by_cases h:ZcX how=true∧ZU o=true
 ·rw [Zrd h.1 (by decide) h.2]
  exact ⟨fun _=>h,fun _=>(ZrG _ _ _).1⟩
 ·rw [Ze9 (by cases h1:ZcX how <;> cases h2:ZU o <;> simp_all)]
  exact ⟨fun h'=>by omega,fun h'=>absurd h' h⟩
theorem Zf1 (ms:List DMail) (how fl:Int) (ns:List Int):(Zbo ms how fl ns).length=ms.length:=(Ze8 ns (Like.refl ms)).1
theorem Zlr {ms:List DMail} {how fl:Int} {n:Nat} {ns:List Int} :∀{b:Int},ZbD n ns=(true,b)→∀j:Nat,b≤j→(Zbo ms how fl ns)[j]? = ms[j]?:=by
 have key :∀(ns:List Int) (acc:List DMail) (b:Int),0≤b→∀b',scn (Zgo n) (fun _ x=>x) b ns=(true,b')→b≤b'∧∀j:Nat,b'≤j→(ns.foldl (ZeD ms how fl) acc)[j]? = acc[j]?:=by
  intro ns
  induction ns with
  | nil=>intro acc b h0 b' h;cases h;exact ⟨Int.le_refl _,fun _ _=>rfl⟩
  | cons y r ih=>
   intro acc b h0 b' h
   have e:scn (Zgo n) (fun _ x=>x) b (y :: r)=r.foldl (fun (s:Bool × Int) x=>(s.1 && Zgo n s.2 x,x)) (Zgo n b y,y):=by simp [scn]
   rw [e] at h
   have hy:Zgo n b y=true:=by
    cases hp:Zgo n b y with
    | true=>rfl
    | false=>
     rw [hp] at h
     have h3:=ZbO (p:=Zgo n) (nx:=fun _ x=>x) r y
     rw [h] at h3;cases h3
   rw [hy] at h
   replace h:scn (Zgo n) (fun _ x=>x) y r=(true,b'):=h
   simp only [Zgo,Bool.and_eq_true,decide_eq_true_eq] at hy
   obtain ⟨h1,h2⟩:=ih (ZeD ms how fl acc y) y (by omega) b' h
   refine ⟨by omega,fun j hj=>?_⟩
   rw [List.foldl_cons,h2 j hj]
   unfold ZeD
   split
   ·rw [List.getElem?_set_ne (by omega)]
   ·rfl
 intro b h j hj
 exact (key ns ms 0 (Int.le_refl _) b h).2 j hj
theorem Ztv {x:DBox} {how fl:Int} {ns:List Int} {k:Nat} {y b:Int} {don rest:List DMail} {m:DMail} (hok:Zcj x=true) (hh:ZcX how=true) (hf:ZU fl=true) (hy:ns[k]? = some y) (hs:ZbD x.mail.length (ns.take k)=(true,b)) (hp:Zgo x.mail.length b y=true)
  (hd:don ++ m :: rest=Zbo x.mail how fl (ns.take k)) (hl:(don.length:Int)+1=y):don ++ ⟨m.uid,fchg m.flags how fl,m.text⟩ :: rest=Zbo x.mail how fl (ns.take (k+1)):=by
 simp only [Zgo,Bool.and_eq_true,decide_eq_true_eq] at hp
 have hj:(y - 1).toNat=don.length:=by omega
 have ha:(Zbo x.mail how fl (ns.take k))[(y - 1).toNat]? = some m:=by rw [← hd,hj];simp
 have hm:x.mail[(y - 1).toNat]? = some m:=by
  rw [← Zlr (how:=how) (fl:=fl) hs _ (by omega)];exact ha
 have hmo:=(Zf6 hok).1 m (List.mem_of_getElem? hm)
 have hfo:ZU m.flags=true:=by
  simp only [Zcp,Bool.and_eq_true,decide_eq_true_eq] at hmo
  simp only [ZU,Bool.and_eq_true,decide_eq_true_eq];exact hmo.1.2
 rw [Zhn hy ha hm,← hd,hj,Zrd hh hfo hf]
 simp
theorem Zq9 {x:DBox} {how fl:Int} {ns:List Int} {don xs:List DMail} (hd:don ++ xs=Zbo x.mail how fl ns):don.length+xs.length=x.mail.length:=by
 have:=congrArg List.length hd
 rwa [List.length_append,Zf1] at this
end Go.BL
namespace Go.BL
open Go
structure GX where
 b:Nat
 q1:Option Addr
 c1:Nat
 q2:Option Addr
 c2:Nat
 q3:Option Addr
 c3:Nat
 q4:Option Addr
 c4:Nat
 l1:Cells
 l2:Cells
 l3:Cells
 l4:Cells
theorem ZyS {y:DHost} (h:Zah y=true):kH 1 y≤700000000000000∧y.users.length≤2000000∧y.folders.length≤2000000∧y.queue.items.length≤2000000:=by
 obtain ⟨⟨_,h2,h3⟩,⟨h4,_,h6⟩,_⟩:=Zdh.1 h
 have hu:y.users.length≤4:=by
  simp only [ZaE,Bool.and_eq_true,decide_eq_true_eq] at h2;exact h2.2.2
 have hq:=(Zhc h3).2.2
 have hf:=Zvq (st:=ZbM) (c:=41) (xs:=y.folders) (1+3*y.users.length) fun f hf=>by
  have e:=h4 f hf
  simp only [Z7,Bool.and_eq_true,decide_eq_true_eq] at e
  have e1:f.grants.length≤4:=ZrR e.1.2
  have e2:f.mail.length≤10:=(ZgY e.2).2.2
  simp only [ZbM];omega
 have hi:=Zvq (st:=Zch) (c:=6) (xs:=y.queue.items) (kL ZbM (1+3*y.users.length) y.folders) fun z hz=>by
  have e:=ZkL h3 hz
  have e2:z.left.length≤3:=by
   simp only [Ze1,ZcR,Zc1,Bool.and_eq_true,decide_eq_true_eq] at e;exact e.1.1.2.2
  simp only [Zch];omega
 have h8:y.folders.length*41≤8*41:=Nat.mul_le_mul_right _ h6
 have h9:y.queue.items.length*6≤6*6:=Nat.mul_le_mul_right _ hq
 refine ⟨?_,by omega,by omega,by omega⟩
 unfold kH;omega
theorem Zxj:kH 1 ZcW≤700000000000000∧ZcW.users.length≤2000000∧ZcW.folders.length≤2000000∧ZcW.queue.items.length≤2000000:=by
 refine ⟨?_,?_,?_,?_⟩ <;> simp [ZcW,kH,kL]
theorem Zxi {x y:DHost} (h1:Zah x=false→y=ZcW) (h2:Zah x=true→y=ZcW∨Zah y=true):kH 1 y≤700000000000000∧y.users.length≤2000000∧y.folders.length≤2000000∧y.queue.items.length≤2000000:=by
 cases hx:Zah x with
 | false=>rw [h1 hx];exact Zxj
 | true=>
  rcases h2 hx with e | e
  ·rw [e];exact Zxj
  ·exact ZyS e
theorem ZtQ (x:DHost) (s:DSess) (r:Int):(atF x s r).2=0∨(atF x s r).2=1∨(atF x s r).2=2:=by
 unfold atF
 split <;> exact ZrE ..
theorem ZAI {x:DHost} {u o n:Str} {r:Int} {k:Nat} (hr:r=Zbd k) (hk:k<6) (h:Zah x=true):(atF x ⟨u,o,n⟩ r)=(ZbI (inF o n) x.folders,if Zdj x.users x.folders u o n 2≠0 then ((Zdj x.users x.folders u o n 2:Nat):Int) else ((Zdj x.users x.folders u o n r:Nat):Int)):=by
 have e:=ZtL (u:=u) (o:=o) (n:=n) h
 have e2:((Zdj x.users x.folders u o n r:Nat):Int)=ZlD x.users x.folders u (ZbI (inF o n) x.folders) r:=by rw [hr];exact ZrD h hk
 unfold atF
 dsimp only at e ⊢
 by_cases h2:Zdj x.users x.folders u o n 2=0
 ·rw [if_neg (by omega),if_neg (by omega),e2]
 ·rw [if_pos (by omega),if_pos h2,e]
end Go.BL
namespace Go.BL
open Go
theorem Znp {x:DHost} {u o n:Str} {set:List DSpan} {how fl:Int} {ar:Bool} (har:ar=true↔ZdU set=true∧ZcX how=true∧ZU fl=true) {R:DHost}
  (hR:R=Zgj x (ZbI (inF o n) x.folders).toNat (ZP (Zfx x (ZbI (inF o n) x.folders).toNat) (Z6 set (Zfx x (ZbI (inF o n) x.folders).toNat).mail.length) how fl).1) :
  ((if ar=true∧Zah x=true then (usX x u o n 4 R x,((usN x u o n 4 0:Nat):Int)) else (ZcW,5)):DHost × Int)=ZI x ⟨u,o,n⟩ set how fl:=by
 subst hR
 by_cases hc:ar=true∧Zah x=true
 ·obtain ⟨h1,h2,h3⟩:=har.1 hc.1
  rw [if_pos hc,ZI,if_neg (fun h=>h ⟨hc.2,h1,h3,h2⟩),ZAI (r:=4) (k:=2) rfl (by omega) hc.2]
  by_cases c2:Zdj x.users x.folders u o n 2=0
  ·simp only [c2,ne_eq,not_true_eq_false,if_false]
   by_cases c4:Zdj x.users x.folders u o n 4=0
   ·obtain ⟨e1,e2⟩:=Zuh c2 c4 0
    rw [e1,e2,if_neg (by omega)];rfl
   ·obtain ⟨e1,e2⟩:=Zui c2 c4 0
    rw [e1,e2,if_pos (by omega)]
  ·obtain ⟨e1,e2⟩:=Zuj (r:=4) c2 0
   rw [e1,e2]
   simp only [c2,ne_eq,not_false_eq_true,if_true]
   rw [if_pos (by omega)]
 ·rw [if_neg hc,ZI,if_pos (fun h=>hc ⟨har.2 ⟨h.2.1,h.2.2.2,h.2.2.1⟩,h.1⟩)]
theorem ZqL {x:DHost} {s:DSess} {set:List DSpan} {how fl:Int} (h:Zah x=false):(ZI x s set how fl).1=ZcW:=by rw [ZI,if_pos (by simp [h])]
theorem Zvp {x:DHost} {s:DSess} {set:List DSpan} {how fl:Int} : kH 1 (ZI x s set how fl).1≤700000000000000∧(ZI x s set how fl).1.users.length≤2000000∧(ZI x s set how fl).1.folders.length≤2000000∧(ZI x s set how fl).1.queue.items.length≤2000000:=
 Zxi (x:=x) ZqL fun h=>by
  by_cases h1:ZdU set=true∧ZU fl=true∧ZcX how=true
  ·rcases ZqK (s:=s) (set:=set) (how:=how) (fl:=fl) h with e | e | e
   ·have h2:=ZtQ x s 4
    exfalso
    unfold ZI at e
    rw [if_neg (fun hh=>hh ⟨h,h1⟩)] at e
    split at e
    ·simp only at e;omega
    ·simp only at e;omega
   ·exact .inr e
   ·rw [ZkU] at e;cases e
  ·left;rw [ZI,if_pos (fun hh=>h1 hh.2)]
end Go.BL
namespace Go.BL
open Go
end Go.BL
namespace Go.BL
open Go
end Go.BL
namespace Go.BL
open Go
theorem ZlH (b:DBox) (ns:List Int) (how fl:Int):(ZP b ns how fl).1.mail.length≤b.mail.length:=by
 unfold ZP
 split
 ·exact Nat.le_of_eq (Zf1 ..)
 ·simp
theorem Zei.live {Tn:TypeId} {p:Option Addr} {xs:List DMail} {s:Cells} (h:Zei Tn (.pointer p) xs s) (hx:0<xs.length):p.isNone=false:=by
 cases e:p.isNone with
 | false=>rfl
 | true=>rw [h.done e] at hx;simp at hx
theorem Zqa {n:Nat} {ns:List Int} {k:Nat} {y b:Int} (h:Zc7 n ns=true) (hy:ns[k]? = some y) (hs:ZbD n (ns.take k)=(true,b)):Zgo n b y=true:=by
 cases e:Zgo n b y with
 | true=>rfl
 | false=>rw [Zd5 hy hs e] at h;cases h
theorem Zvd {n:Nat} {b y:Int} (h:Zgo n b y=true):1≤y∧y≤n∧b<y:=by
 simp only [Zgo,Bool.and_eq_true,decide_eq_true_eq] at h;exact ⟨h.1.1,h.1.2,h.2⟩
end Go.BL
namespace Go.BL
section
variable {P:PJ} {n:Nat} {ops:Array Oper} {i:Nat} {K:Zai} {S:Env} {D:List Deferred} {B:Kn} {L:List Cells}
variable {dst:Option Tmp} {ty:TypeId} {pos:String} {after:Array Edge} {g:Option (Nat × Bool)}
end
end Go.BL
