/-
  THE WALK'S LOGIC: owned cells and known cells, goroutines started and awaited, calls, loops, data, and plain laws on lists: no program in sight.
-/
import Derived.Test.YtbebcagblefhcaaGreatDoorB0
set_option linter.unusedVariables false
set_option linter.unusedSimpArgs false
set_option linter.unusedSectionVars false
namespace Go.BL
open Go.Conc (G)
def Z4 (Tg Tm:TypeId):ZgD DFolder:=fun row x ins=>∃q c q' c' i1 i2,row=[str x.owner,str x.name,.slice q x.grants.length c,.int .i64 x.next,.slice q' x.mail.length c']∧ins=i1 ++ i2∧ZU Kn.none i1 q c Tg 2 Z1 x.grants∧ZU Kn.none i2 q' c' Tm 3 Zao x.mail∧
 x.owner.length≤2000000∧x.name.length≤2000000∧x.grants.length≤2000000∧x.mail.length≤2000000
theorem Z4.known {Tg Tm:TypeId} {B:Kn} {row:List Value} {x:DFolder} {ins:Cells} (h:Z4 Tg Tm row x ins) (hm :∀q,q∈ins→B.mem q.1=some q.2):ZG B row x:=by
 obtain ⟨q,c,q',c',i1,i2,h1,rfl,h2,h3,h4,h5,h6,h7⟩:=h
 exact ⟨q,c,q',c',h1,⟨h2.rowsF Z1.any fun p hp=>hm p (List.mem_append.2 (.inl hp)),h2.cap,h6⟩,⟨h3.rowsF Zao.any fun p hp=>hm p (List.mem_append.2 (.inr hp)),h3.cap,h7⟩,h4,h5⟩
theorem All3.set {α:Type} {R:ZgD α} {rows:List (List Value)} {xs:List α} {s:Cells} (h:All3 R rows xs s) {row:List Value} {z:α} {ins:Cells} (hz:R row z ins) :∀k,k<xs.length→∃s' gl,All3 R (rows.set k row) (xs.set k z) s'∧(s ++ ins).Perm (s' ++ gl):=by
 induction h with
 | nil=>intro k hk;simp at hk
 | @cons row0 x ins0 rest rows xs h1 h2 ih=>
  intro k hk
  cases k with
  | zero=>
   refine ⟨ins ++ rest,ins0,.cons hz h2,?_⟩
   exact Zu4 fun f g h0 ha hc=>by simp only [ha];omega
  | succ k=>
   obtain ⟨s',gl,h3,h4⟩:=ih k (by simpa using hk)
   refine ⟨ins0 ++ s',gl,.cons h1 h3,?_⟩
   rw [List.append_assoc,List.append_assoc]
   exact List.Perm.append_left _ h4
theorem All3.zeros {α:Type} {R:ZgD α} {row:List Value} {d:α} (h:R row d []) :∀m,All3 R (List.replicate m row) (List.replicate m d) []
 | 0=>.nil
 | m+1=>by rw [List.replicate_succ,List.replicate_succ];exact All3.cons (ins:=[]) h (All3.zeros h m)
theorem ZaM.zeros {α:Type} {b:Nat} {T:TypeId} {R:ZgD α} {zs:List Value} {d:α} {m c w:Nat} (hw:zs.length=w) (hR:R zs d []) (hmc:m≤c):ZaM (ZN b (zrow zs c) T) (some ⟨b,0,Option.none⟩) c T w R (List.replicate m d):=by
 refine ⟨List.replicate m zs,_,[],All3.zeros hR m,fun r hr=>by rw [(List.mem_replicate.1 hr).2];exact hw,by rw [List.append_nil],?_,.inr ⟨b,_,rfl,by rw [ZbF,hw],?_,rfl,by rw [List.length_replicate];exact hmc⟩⟩
 ·rw [List.length_replicate]
  exact (ZbF (z:=zs) (c:=m)).trans (by rw [hw])
 ·rw [List.length_replicate]
  have e:zrow zs c=zrow zs m ++ zrow zs (c - m):=by
   simp only [zrow,← List.flatten_append,List.replicate_append_replicate]
   rw [show m+(c - m)=c from by omega]
  rw [e,List.take_append_of_le_length (by rw [ZbF,hw];exact Nat.le_refl _),List.take_of_length_le (by rw [ZbF,hw];exact Nat.le_refl _)]
  rfl
theorem ZfM :∀{l vs:List Value},l.length=vs.length→Z6 l 0 vs=vs
 | l,[],h=>by rw [Zbi];exact List.eq_nil_of_length_eq_zero h
 | [],v :: vs,h=>by simp at h
 | x :: l,v :: vs,h=>by
  have:=ZfM (l:=l) (vs:=vs) (by simpa using h)
  simp [Z6,this]
section
variable {P:PJ} {n:Nat} {ops:Array Oper} {i:Nat} {K:Zaz} {S:Env} {D:List Deferred} {B:Kn} {L:List Cells} {Q:Exit→Z8}
variable {dst:Option Tmp} {ty:TypeId} {pos:String} {after:Array Edge} {g:Option (Nat × Bool)}
theorem ZoG {o:Oper} {L':List Cells} {K':Zaz} (hp:L.flatten.Perm L'.flatten) (h:opX P n ops i o K' S D B L') (hk :∀v D' B' L₁,B.le B'→K' v D' B' L₁→∃L₂ gl,L₁.flatten.Perm (L₂.flatten ++ gl)∧K v D' B' L₂):opX P n ops i o K S D B L:=⟨h.1,fun C todo k T ho hn hT hA=>
 C.X.perm (hp.append_right _) (h.2 C todo k T ho hn hT fun v D' B' L₁ hle hK=>by
  obtain ⟨L₂,gl,hp2,hK2⟩:=hk v D' B' L₁ hle hK
  refine C.X.drop (r:=L₂.flatten ++ C.F) (gl:=gl) ((hp2.append_right _).trans ?_) (hA v D' B' L₂ hle hK2)
  rw [List.append_assoc,List.append_assoc]
  exact List.Perm.append_left _ List.perm_append_comm)⟩
theorem Zuo {α:Type} {R:ZgD α} {xs:List α} (z:α) {t T:TypeId} {x y:Operand} {v:Value} {row:List Value} {sz k c b:Nat} {l:Cells} {p:Option Addr} {inss r:List Cells} (j:Nat) (ks:List Nat) (hpk:Zaw L (j :: ks)=some (l :: inss,r)) (hnd:Zea (j :: ks)=true) (hv:ZaM l p c T sz R xs) (hp:p=some ⟨b,0,Option.none⟩) (hk:k<xs.length) (hg:Zj ops S g=some true) (hd:Zr n dst=true) (hsz:ZH P t=some sz)
  (hx:ev S x=some (ptr ⟨b,k*sz,Option.none⟩)) (hy:ev S y=some v) (hvc:v.cells=row.toArray) (ho:row.all Zhw=true) (hrl:row.length=sz) (ins0:Cells) (hi0:inss.flatten=ins0) (hr:R row z ins0)
  (h :∀l',ZaM l' p c T sz R (xs.set k z)→K undef D B (Zce r (j :: ks) (l' :: inss.map fun _=>[]))):opX P n ops i ⟨dst,.store t x y,ty,pos,after,g⟩ K S D B L:=by
 subst hp
 subst hi0
 obtain ⟨rows,blk,ins,h1,h2,h3,hl1,⟨hc,_⟩ | ⟨b',arr,e,ha,ht,rfl,hmc⟩⟩:=hv
 ·cases hc
 ·cases e
  have hpp:=Zaf (j :: ks) L (l :: inss) r hpk
  have hb1:k*sz+row.length≤arr.length:=by
   have:(k+1)*sz≤c*sz:=Nat.mul_le_mul_right sz (by omega)
   rw [Nat.succ_mul] at this;omega
  obtain ⟨s',gl,a1,a2⟩:=h1.set hr k hk
  refine ZoG (L':=[ZN b arr T ++ ins,inss.flatten ++ r.flatten]) (K':=fun u D' B' L₁=>u=undef∧D'=D∧B'=B∧L₁=[ZN b (Z6 arr (k*sz) row) T ++ ins,inss.flatten ++ r.flatten]) ?_ ?_ ?_
  ·refine hpp.trans ?_
   simp only [List.flatten_cons,List.flatten_nil,List.append_nil,List.append_assoc]
   refine (h3.append_right _).trans ?_
   rw [List.append_assoc]
  ·exact ZaC row 0 (Z6 arr (k*sz) row) hg hd (by rw [hrl];exact hsz) hx hy hvc ho (T:=T) (r:=ins) rfl rfl (by rw [Nat.ble_eq];exact hb1) rfl ⟨rfl,rfl,rfl,rfl⟩
  ·rintro u D' B' L₁ hle ⟨rfl,rfl,rfl,rfl⟩
   have hlen:k<rows.length:=by rw [h1.len];exact hk
   have hnew:ZaM (ZN b (Z6 arr (k*sz) row) T ++ s') (some ⟨b,0,Option.none⟩) c T sz R (xs.set k z):=by
    refine ⟨rows.set k row,_,s',a1,fun r' hr'=>?_,.refl _,?_,.inr ⟨b,_,rfl,by rw [ZZ];exact ha,?_,rfl,by rw [List.length_set];exact hmc⟩⟩
    ·rcases List.mem_or_eq_of_mem_set hr' with hr' | rfl
     ·exact h2 r' hr'
     ·exact hrl
    ·rw [Zdd (w:=sz),List.length_set,List.length_set,h1.len]
     intro r' hr'
     rcases List.mem_or_eq_of_mem_set hr' with hr' | rfl
     ·exact h2 r' hr'
     ·exact hrl
    ·rw [List.length_set]
     have hr1:rows[k]? = some rows[k]:=List.getElem?_eq_getElem hlen
     have hrow0:rows[k].length=sz:=h2 _ (List.getElem_mem hlen)
     have e:=Zde (us:=row) (off:=0) h2 hr1 (by omega)
     rw [ZfM (by rw [hrow0,hrl]),Nat.add_zero] at e
     have hb2:k*sz+row.length≤xs.length*sz:=by
      have:(k+1)*sz≤xs.length*sz:=Nat.mul_le_mul_right sz hk
      rw [Nat.succ_mul] at this;omega
     have hb3:xs.length*sz≤arr.length:=by rw [ha];exact Nat.mul_le_mul_right sz hmc
     rw [ZdD _ _ _ _ hb2 hb3,ht,e]
   refine ⟨_,gl,?_,h _ hnew⟩
   have hq:=ZbZ ((ZN b (Z6 arr (k*sz) row) T ++ s') :: inss.map fun _=>[]) r (j :: ks) (Zb1 hnd) (fun jj hj=>Zb0 (j :: ks) L (l :: inss) r hpk jj (.inr hj))
   have hnil:((inss.map fun _=>([]:Cells))).flatten=[]:=by
    clear hpk hpp hq hr h
    induction inss with
    | nil=>rfl
    | cons a as ih=>simp
   rw [List.flatten_cons,hnil,List.append_nil] at hq
   simp only [List.flatten_cons,List.flatten_nil,List.append_nil]
   refine List.Perm.trans ?_ (hq.append_right gl)
   have e1:(ZN b (Z6 arr (k*sz) row) T ++ ins ++ (inss.flatten ++ r.flatten)).Perm (ZN b (Z6 arr (k*sz) row) T ++ ((ins ++ inss.flatten) ++ r.flatten)):=by simp only [List.append_assoc];exact .refl _
   have e2:(ZN b (Z6 arr (k*sz) row) T ++ ((ins ++ inss.flatten) ++ r.flatten)).Perm (ZN b (Z6 arr (k*sz) row) T ++ ((s' ++ gl) ++ r.flatten)):=List.Perm.append_left _ (a2.append_right _)
   refine (e1.trans e2).trans ?_
   exact Zu4 fun f g h0 ha hc=>by simp only [ha];omega
end
section
variable {P:PJ} {n:Nat} {ops:Array Oper} {i:Nat} {K:Zaz} {S:Env} {D:List Deferred} {B BV:Kn} {L:List Cells}
variable {dst:Option Tmp} {ty:TypeId} {pos:String} {after:Array Edge} {g:Option (Nat × Bool)}
theorem ZnK {α:Type} {R:Rel α} {xs:List α} (z:α) {t T:TypeId} {x y:Operand} {v:Value} {row:List Value} {l:Cells} {p:Option Addr} {c sz k b:Nat} (j:Nat) (hj:L[j]? = some l) (hv:ZU BV l p c T sz R xs) (hp:p=some ⟨b,0,none⟩) (hk:k<xs.length) (hg:Zj ops S g=some true) (hd:Zr n dst=true) (hsz:ZH P t=some sz)
  (hx:ev S x=some (ptr ⟨b,k*sz,none⟩)) (hy:ev S y=some v) (hvc:v.cells=row.toArray) (ho:row.all Zhw=true) (hrl:row.length=sz) (hr:R BV row z)
  (h :∀l',ZU BV l' p c T sz R (xs.set k z)→K undef D B (L.set j l')):opX P n ops i ⟨dst,.store t x y,ty,pos,after,g⟩ K S D B L:=by
 obtain ⟨rows,h1,h2,h3,⟨rfl,_,_,_⟩ | ⟨b',arr,rfl,ha,ht,rfl,hmc⟩⟩:=hv
 ·cases hp
 ·cases hp
  have hlen:k<rows.length:=by rw [h1.len];exact hk
  have hr1:rows[k]? = some rows[k]:=List.getElem?_eq_getElem hlen
  have hrow0:rows[k].length=sz:=h2 _ (List.getElem_mem hlen)
  have hb1:k*sz+row.length≤xs.length*sz:=by
   have:(k+1)*sz≤xs.length*sz:=Nat.mul_le_mul_right sz hk
   rw [Nat.succ_mul] at this;omega
  have hb2:xs.length*sz≤arr.length:=by rw [ha];exact Nat.mul_le_mul_right sz hmc
  refine ZaC row j (Z6 arr (k*sz) row) hg hd (by rw [hrl];exact hsz) hx hy hvc ho (r:=[]) hj rfl (by rw [Nat.ble_eq];show k*sz+row.length≤arr.length;omega) rfl (h _ ?_)
  have e:=Zde (us:=row) (off:=0) h2 hr1 (by omega)
  rw [ZfM (by rw [hrow0,hrl]),Nat.add_zero] at e
  refine ⟨rows.set k row,h1.set hr k,fun r hr'=>?_,?_,.inr ⟨b,_,rfl,by rw [ZZ];exact ha,?_,rfl,by rw [List.length_set];exact hmc⟩⟩
  ·rcases List.mem_or_eq_of_mem_set hr' with hr' | rfl
   ·exact h2 r hr'
   ·exact hrl
  ·rw [← e,ZZ,List.length_set];exact h3
  ·rw [List.length_set,ZdD _ _ _ _ hb1 hb2,ht,e]
end
def fill {α:Type} (xs:List α) (d:α) (k:Nat):List α:=xs.take k ++ List.replicate (xs.length - k) d
theorem ZdN {α:Type} {xs:List α} {d:α} {k:Nat} (h:k≤xs.length):(fill xs d k).length=xs.length:=by
 rw [fill,List.length_append,List.length_take,List.length_replicate];omega
theorem ZcL {α:Type} {xs:List α} {d:α} : fill xs d 0=List.replicate xs.length d:=by simp [fill]
theorem ZdO {α:Type} {xs:List α} {d:α} {k:Nat} (h:xs.length≤k):fill xs d k=xs:=by
 rw [fill,List.take_of_length_le h,show xs.length - k=0 from by omega];simp
theorem ZcM {α:Type} {xs:List α} {d z:α} {k:Nat} (hz:xs[k]? = some z):(fill xs d k).set k z=fill xs d (k+1):=by
 have hk:=(List.getElem?_eq_some_iff.1 hz).1
 have e1:(xs.take k).length=k:=by rw [List.length_take];omega
 rw [fill,fill,List.set_append_right _ _ (by omega),e1,Nat.sub_self,List.take_add_one,hz,show xs.length - k=(xs.length - (k+1))+1 from by omega,List.replicate_succ]
 simp
theorem Zx.borrowL {P:PJ} {f:FuncId} {args:List Value} {B:Kn} {ls Ls:List Cells} {Post:Value→Kn→List Cells→Prop}
  (h:(∀p,p∈ls.flatten→(B.add ls.flatten).mem p.1=some p.2)→Zx P f args (B.add ls.flatten) Ls Post) :
  Zx P f args B (ls ++ Ls) (fun v B' Ls'=>∃B₂ Ls₂,Ls'=ls ++ Ls₂∧B'=B₂.minus ls.flatten∧(B.add ls.flatten).le B₂∧(∀p,p∈ls.flatten→(B.add ls.flatten).mem p.1=some p.2)∧(B.add ls.flatten).minus ls.flatten=B∧Post v B₂ Ls₂):=fun X kind c cs F hk hA=>by
 have key:=Zx.borrow (l:=ls.flatten) (Ls:=Ls) h X kind c cs F hk fun v B' Ls' hle ⟨B₂,Ls₂,h1,h2,h3,h4,h5,h6⟩=>by
  have:=hA v B' (ls ++ Ls₂) hle ⟨B₂,Ls₂,rfl,h2,h3,h4,h5,h6⟩
  subst h1
  rw [List.flatten_cons]
  rwa [List.flatten_append] at this
 rw [List.flatten_cons] at key
 rwa [List.flatten_append]
section
variable {P:PJ} {C:Cx P} {k:List Item} {n:Nat} {ops:Array Oper} {i:Nat} {S:Env} {D:List Deferred} {B BV:Kn} {L:List Cells} {Q:Exit→Z8}
variable {α:Type} {xs:List α} {l:Cells} {p:Option Addr} {cp:Nat} {T:TypeId} {w:Nat}
theorem Zyr {R:Rel α} {B':Kn} (hv:ZU BV l p cp T w R xs) (hA:ZnD R) (hl:xs.length≤2000000) (hm :∀q,q∈l→B'.mem q.1=some q.2):SlK B' p cp w R xs:=⟨hv.rowsF hA hm,hv.cap,hl⟩
theorem ZuZ {R:Rel α} {o:Oper} {K:Z8} (j:Nat) (hj:L[j]? = some l) (hv:ZU BV l p cp T w R xs) (hA:ZnD R) (hl:xs.length≤2000000) (h :∀B',B.le B'→SlK B' p cp w R xs→opW P n ops i o K S D B' (L.set j [])):opW P n ops i o K S D B L:=fun C todo k T ho hn hT hA'=>by
 obtain ⟨r,h1,h2⟩:=ZS C.F [] hj
 exact C.X.publish rfl h1 fun B' hle hm=>C.X.perm (by simpa using h2.symm) (h B' hle (Zyr hv hA hl hm) C todo k T ho hn hT fun S' D' B'' L' T' hle' hq=>hA' S' D' B'' L' T' (hle.trans hle') hq)
theorem Zku {R:Rel α} {I:Kn→List Cells→Prop} {ℓ:List Nat} {K:Z8} (j:Nat) (hj:L[j]? = some l) (hv:ZU BV l p cp T w R xs) (hA:ZnD R) (hl:xs.length≤2000000) (hI' :∀B',B.le B'→I B' (L.set j []))
  (h :∀B',B.le B'→SlK B' p cp w R xs→Za9 C k n ops I ℓ K S D B' (L.set j [])):Za9 C k n ops I ℓ K S D B L:=fun T ex pend π a1 a2 a3 a4 a5 a6 a7 a8 a9 hI hA'=>by
 obtain ⟨r,h1,h2⟩:=ZS C.F [] hj
 exact C.X.publish rfl h1 fun B' hle hm=>C.X.perm (by simpa using h2.symm) (h B' hle (Zyr hv hA hl hm) T ex pend π a1 a2 a3 a4 a5 a6 a7 a8 a9 (hI' B' hle) fun S' D' B'' L' T' hle' hq=>hA' S' D' B'' L' T' (hle.trans hle') hq)
theorem Zif {R:ZgD α} {R':Rel α} {I:Kn→List Cells→Prop} {ℓ:List Nat} {K:Z8} (j:Nat) (hj:L[j]? = some l) (hv:ZaM l p cp T w R xs) (hR :∀{B:Kn} {row:List Value} {x:α} {ins:Cells},R row x ins→(∀q,q∈ins→B.mem q.1=some q.2)→R' B row x) (hM:Mono R') (hl:xs.length≤2000000) (hI' :∀B',B.le B'→I B' (L.set j []))
  (h :∀B',B.le B'→SlK B' p cp w R' xs→Za9 C k n ops I ℓ K S D B' (L.set j [])):Za9 C k n ops I ℓ K S D B L:=fun T ex pend π a1 a2 a3 a4 a5 a6 a7 a8 a9 hI hA'=>by
 obtain ⟨r,h1,h2⟩:=ZS C.F [] hj
 exact C.X.publish rfl h1 fun B' hle hm=>C.X.perm (by simpa using h2.symm) (h B' hle (hv.known (fun _ _ _ a b=>hR a b) hM hm hl) T ex pend π a1 a2 a3 a4 a5 a6 a7 a8 a9 (hI' B' hle) fun S' D' B'' L' T' hle' hq=>hA' S' D' B'' L' T' (hle.trans hle') hq)
end
end Go.BL
namespace Go.BL
open Go.ChangeShapes Go.WideShapes Go.ChangeAt Go.RowKit
theorem ZjT {α β:Type} {f:α→Option β} :∀{xs:List α} {ys:List β},xs.mapM f=some ys→ys.length=xs.length∧∀(i:Nat) (x:α),xs[i]? = some x→f x=ys[i]?
 | [],ys,h=>by
  simp only [List.mapM_nil,Option.pure_def,Option.some.injEq] at h
  subst h;simp
 | x :: xs,ys,h=>by
  simp only [List.mapM_cons,Option.bind_eq_bind,Option.pure_def,Option.bind_eq_some_iff,Option.some.injEq] at h
  obtain ⟨y,hy,zs,hz,rfl⟩:=h
  obtain ⟨h1,h2⟩:=ZjT hz
  refine ⟨by simp [h1],fun i z hi=>?_⟩
  cases i with
  | zero=>simp only [List.getElem?_cons_zero,Option.some.injEq] at hi;subst hi;simpa using hy
  | succ i=>simpa using h2 i z (by simpa using hi)
theorem Zp5 {w:World} {a:Addr} {n:Nat} {cs:List Value} (h:w.cells? 0 a n=some cs):cs.length=n∧∀i,i<n→w.cell? (a.add i)=cs[i]?:=by
 unfold World.cells? at h
 rw [if_pos (Nat.zero_le _)] at h
 obtain ⟨h1,h2⟩:=ZjT h
 exact ⟨by simpa using h1,fun i hi=>h2 i i (by simp [hi])⟩
section
variable {H:Type} (enc:TypeId × Value→H) (P:Program) (W:World)
def Zen (t:TypeId) (p:List Value→Prop):Prop:=∀(fuel:Nat) (cs:List Value) (d:DataW H) (ps:List MemPlace),DataW.trod enc P W 0 (fun _=>true) true fuel t cs=some (d,ps)→(∀m,m∈d.weights P t→m≤reachBytes)→p cs
def ZbO {α:Type} (t:TypeId) (R:Rel α):Prop:=Zen enc P W t fun cs=>∃x,R (ZaH W) cs x
def Zc6 {α:Type} (w:Nat) (R:Rel α):Rel (List α):=fun B row xs=>∃q cp,row=[.slice q xs.length cp]∧SlB B q cp w R xs
def Parts:List (List Value→Prop)→List Value→Prop
 | [],cs=>cs=[]
 | p :: ps,cs=>∃a b,cs=a ++ b∧p a∧Parts ps b
def Zey (P:Program):List Field→Nat→Nat→Bool
 | [],off,n=>off == n
 | f :: fs,off,n=>f.offset == off && Zey P fs (off+P.cellsOf f.type) n
end
section
variable {H:Type} {enc:TypeId × Value→H} {P:Program} {W:World}
theorem ZoD {t:TypeId} (ht:P.underlying t=some (.int .i64)):ZbO enc P W t Zb7:=fun fuel cs d ps h _=>by
 cases fuel with
 | zero=>simp [DataW.trod] at h
 | succ n=>
  unfold DataW.trod at h
  rw [ht] at h
  split at h <;> simp_all
  rename_i he
  subst he
  exact ⟨_,rfl⟩
theorem ZoC {t:TypeId} (ht:P.underlying t=some .string):ZbO enc P W t Zig:=fun fuel cs d ps h hw=>by
 cases fuel with
 | zero=>simp [DataW.trod] at h
 | succ n=>
  unfold DataW.trod at h
  rw [ht] at h
  split at h <;> simp_all
  rename_i s
  obtain ⟨_,rfl,_⟩:=h
  have h1:=hw s.data.toList.length (by simp [DataW.weights])
  refine ⟨s.data.toList,rfl,?_⟩
  unfold reachBytes at h1
  omega
theorem Zq7 {fs:List Field} {ps:List (List Value→Prop)} {n off:Nat} (hf:Zey P fs off n=true) {cs:List Value} (hl:cs.length=n) (hlen:fs.length=ps.length)
  (h :∀(i:Nat) (f:Field) (p:List Value→Prop),fs[i]? = some f→ps[i]? = some p→p ((cs.drop f.offset).take (P.cellsOf f.type))):Parts ps (cs.drop off):=by
 induction fs generalizing ps off with
 | nil=>
  simp only [Zey,beq_iff_eq] at hf
  cases ps with
  | nil=>show cs.drop off=[];rw [List.drop_eq_nil_iff];omega
  | cons p ps=>simp at hlen
 | cons f fs ih=>
  simp only [Zey,Bool.and_eq_true,beq_iff_eq] at hf
  cases ps with
  | nil=>simp at hlen
  | cons p ps=>
   refine ⟨(cs.drop off).take (P.cellsOf f.type),(cs.drop off).drop (P.cellsOf f.type),(List.take_append_drop _ _).symm,?_,?_⟩
   ·have:=h 0 f p rfl rfl
    rwa [hf.1] at this
   ·rw [List.drop_drop]
    exact ih hf.2 (by simpa using hlen) fun i f' p' h1 h2=>h (i+1) f' p' (by simpa using h1) (by simpa using h2)
theorem ZcD :∀{ts:List TypeId} {ds:List (DataW H)} {i:Nat} {t:TypeId} {d:DataW H},ts[i]? = some t→ds[i]? = some d→∀m,m∈d.weights P t→m∈DataW.weightsEach P ts ds
 | t :: ts,d :: ds,0,t',d',h1,h2,m,hm=>by
  simp only [List.getElem?_cons_zero,Option.some.injEq] at h1 h2
  subst h1;subst h2
  simp only [DataW.weightsEach,List.mem_append];exact .inl hm
 | t :: ts,d :: ds,i+1,t',d',h1,h2,m,hm=>by
  simp only [DataW.weightsEach,List.mem_append];exact .inr (ZcD (by simpa using h1) (by simpa using h2) m hm)
 | [],_,_,_,_,h1,_,_,_=>by simp at h1
 | _ :: _,[],_,_,_,_,h2,_,_=>by simp at h2
theorem ZeH {e:TypeId} :∀{ds:List (DataW H)} {i:Nat} {d:DataW H},ds[i]? = some d→∀m,m∈d.weights P e→m∈DataW.weightsAll P e ds
 | d :: ds,0,d',h2,m,hm=>by
  simp only [List.getElem?_cons_zero,Option.some.injEq] at h2
  subst h2
  simp only [DataW.weightsAll,List.mem_append];exact .inl hm
 | d :: ds,i+1,d',h2,m,hm=>by
  simp only [DataW.weightsAll,List.mem_append];exact .inr (ZeH (by simpa using h2) m hm)
 | [],_,_,h2,_,_=>by simp at h2
theorem ZjF {t:TypeId} {fs:Array Field} (ht:P.underlying t=some (.struct fs)) (ps:List (List Value→Prop)) (hf:Zey P fs.toList 0 (P.cellsOf t)=true) (hlen:fs.toList.length=ps.length)
  (h :∀(i:Nat) (f:Field) (p:List Value→Prop),fs.toList[i]? = some f→ps[i]? = some p→Zen enc P W f.type p):Zen enc P W t (Parts ps):=fun fuel cs d pl htr hw=>by
 obtain ⟨xs,n,rfl,hx,hl,hxl,hel⟩:=DataW.trod_struct ht htr
 simp only [Prod.mk.injEq] at hx
 obtain ⟨rfl,_⟩:=hx
 have:=Zq7 (ps:=ps) hf hl hlen fun i f p h1 h2=>by
  have h3:=hel i f (by simpa using h1)
  have hi:i<xs.length:=by
   have:=(List.getElem?_eq_some_iff.1 h1).1
   simp only [Array.length_toList] at this
   omega
  rw [List.getElem?_eq_getElem hi] at h3
  rcases hxi:xs[i] with ⟨d,pl'⟩
  refine h i f p h1 h2 n _ d pl' (by rw [h3,hxi]) fun m hm=>hw m ?_
  simp only [DataW.weights,ht]
  exact ZcD (i:=i) (t:=f.type) (d:=d) (by simp [h1]) (by simp [List.getElem?_eq_getElem hi,hxi]) m hm
 simpa using this
theorem Zbv {α:Type} {t e:TypeId} {w:Nat} {R:Rel α} (ht:P.underlying t=some (.slice e)) (hc:P.cellsOf e=w) (hb:0<P.bytesOf e) (hw0:0<w) (h:ZbO enc P W e R):ZbO enc P W t (Zc6 w R):=fun fuel cs d pl htr hw=>by
 rcases DataW.trod_slice ht htr with ⟨rfl,_⟩ | ⟨a,len,cap,elems,rest,n,rfl,rfl,hx,_,hl,hm,hlen,hel,_,_⟩
 ·exact ⟨[],none,0,rfl,⟨fun i x hi=>by simp at hi,Nat.le_refl _,Nat.zero_le _⟩⟩
 ·simp only [Prod.mk.injEq] at hx
  obtain ⟨rfl,_⟩:=hx
  have hlen2:len≤140737488355328:=by
   have:=hw ((elems.length+rest.length)*P.bytesOf e) (by simp [DataW.weights,ht])
   have h2:elems.length+rest.length≤(elems.length+rest.length)*P.bytesOf e:=Nat.le_mul_of_pos_right _ hb
   unfold reachBytes at this
   omega
  have each :∀i,i<len→∃x row,R (ZaH W) row x∧row.length=w∧∀j,j<w→W.cell? ((a.add (i*w)).add j)=row[j]?:=fun i hi=>by
   have h1:=hel i hi
   have hi':i<elems.length:=by omega
   rw [List.getElem?_eq_getElem hi'] at h1
   obtain ⟨row,hr1,hr2⟩:=Option.bind_eq_some_iff.1 h1
   rw [hc] at hr1
   obtain ⟨hr3,hr4⟩:=Zp5 hr1
   rcases hxi:elems[i] with ⟨d,pl'⟩
   obtain ⟨x,hx⟩:=h n row d pl' (by rw [hr2,hxi]) fun m hm=>hw m (by
    simp only [DataW.weights,ht,List.mem_cons,List.mem_append]
    exact .inr (.inl (ZeH (i:=i) (d:=d) (by simp [List.getElem?_eq_getElem hi',hxi]) m hm)))
   exact ⟨x,row,hx,hr3,hr4⟩
  have hsp:0<len→a.spot=none:=fun h0=>by
   obtain ⟨x,row,_,hr,hj⟩:=each 0 h0
   have h1:=hj 0 hw0
   rw [List.getElem?_eq_getElem (by omega)] at h1
   have:=(Zhp h1).1
   simpa [Addr.add] using this
  refine ⟨(List.range len).attach.map fun i=>(each i.1 (List.mem_range.1 i.2)).choose,some a,cap,by simp,⟨fun i x hi=>?_,by simpa using hl,by simpa using hlen2⟩⟩
  have hi':i<len:=by
   have:=(List.getElem?_eq_some_iff.1 hi).1
   simpa using this
  have hxx:x=(each i hi').choose:=by
   simp [hi'] at hi
   exact hi.symm
  obtain ⟨row,hr1,hr2,hr3⟩:=(each i hi').choose_spec
  have hs:=hsp (by omega)
  refine ⟨a.block,a.off,row,?_,by rw [hxx];exact hr1,fun j u hj=>?_⟩
  ·obtain ⟨b,o,s⟩:=a;simp only at hs;subst hs;rfl
  ·have hjw:j<w:=by rw [← hr2];exact (List.getElem?_eq_some_iff.1 hj).1
   have h4:=hr3 j hjw
   rw [hj] at h4
   have:=Zhp h4
   have ea:(a.add (i*w)).add j=⟨a.block,a.off+i*w+j,none⟩:=by
    rw [Addr.add_off _ _ (by rw [Addr.add_off _ _ hs]),Addr.add_off _ _ hs]
   rwa [ea] at this
def Zsg (enc:TypeId × Value→H) (P:Program) (W:World):List Field→List (List Value→Prop)→Prop
 | [],[]=>True
 | f :: fs,p :: ps=>Zen enc P W f.type p∧Zsg enc P W fs ps
 | _,_=>False
theorem ZjG :∀{fs:List Field} {ps:List (List Value→Prop)},Zsg enc P W fs ps→fs.length=ps.length
 | [],[],_=>rfl
 | _ :: _,_ :: _,h=>by simp only [List.length_cons,ZjG h.2]
 | [],_ :: _,h=>h.elim
 | _ :: _,[],h=>h.elim
theorem ZjH :∀{fs:List Field} {ps:List (List Value→Prop)},Zsg enc P W fs ps→∀(i:Nat) (f:Field) (p:List Value→Prop),fs[i]? = some f→ps[i]? = some p→Zen enc P W f.type p
 | _ :: _,_ :: _,h,0,f,p,h1,h2=>by
  simp only [List.getElem?_cons_zero,Option.some.injEq] at h1 h2
  subst h1;subst h2;exact h.1
 | _ :: _,_ :: _,h,i+1,f,p,h1,h2=>ZjH h.2 i f p (by simpa using h1) (by simpa using h2)
 | [],_,_,i,f,p,h1,h2=>by simp at h1
 | _ :: _,[],h,_,_,_,_,_=>h.elim
theorem Zbj {t:TypeId} {fs:Array Field} (ht:P.underlying t=some (.struct fs)) (ps:List (List Value→Prop)) (hf:Zey P fs.toList 0 (P.cellsOf t)=true) (h:Zsg enc P W fs.toList ps):Zen enc P W t (Parts ps):=
 ZjF ht ps hf (ZjG h) (ZjH h)
theorem Zis {t:TypeId} {v:Value} {d:DataW H} {ps:List MemPlace} {p:List Value→Prop} (h:DataW.Trod enc P W 0 (fun _=>true) true t v d ps) (ho:Zen enc P W t p) (hw :∀m,m∈d.weights P t→m≤reachBytes):p v.cells.toList:=by
 obtain ⟨n,hn⟩:=h;exact ho n _ _ _ hn hw
theorem weigh {ts:List TypeId} {ds:List (DataW H)} (h:(DataW.weightsEach P ts ds).all (·≤reachBytes)=true) {i:Nat} {t:TypeId} {d:DataW H} (h1:ts[i]? = some t) (h2:ds[i]? = some d) :∀m,m∈d.weights P t→m≤reachBytes:=fun m hm=>by
 have:=List.all_eq_true.1 h m (ZcD h1 h2 m hm)
 simpa using this
end
end Go.BL
namespace Go.BL
section
variable {P:PJ} {n:Nat} {ops:Array Oper} {i:Nat} {K:Zaz} {S:Env} {D:List Deferred} {B:Kn} {L:List Cells}
variable {dst:Option Tmp} {ty:TypeId} {pos:String} {after:Array Edge} {g:Option (Nat × Bool)}
theorem Znh {P:Program} {B:Kn} {L:Cells} {q:Addr} {cp:Nat} {b:Int} (hs:Zcy B L (some q) [.int .u8 b]) {Q:Value→Kn→Cells→Prop} (h:Q (str [UInt8.ofNat b.toNat]) B L):hb P (Conv.bytesToString (.slice (some q) 1 cp)) Q B L:=by
 simp only [Conv.bytesToString,Zi,loadCells]
 refine Zbq [.int .u8 b] 0 #[] (fun j v hj=>by simpa using hs j v hj) ?_
 have e:Q (Value.string (ByteArray.empty.push (UInt8.ofNat b.toNat))) B L:=h
 simpa [Zo,Zi] using e
theorem ZnW {s d e:TypeId} {x:Operand} {q:Addr} {cp:Nat} {b:Int} (hg:Zj ops S g=some true) (hd:Zr n dst=true) (hs:P.underlying s=some (.slice e)) (hd':P.underlying d=some .string) (he:P.underlying e=some (.int .u8))
  (hx:ev S x=some (.slice (some q) 1 cp)) (hc:Zcy B L.flatten (some q) [.int .u8 b]) (h:K (str [UInt8.ofNat b.toNat]) D B L):opX P n ops i ⟨dst,.convert s d x,ty,pos,after,g⟩ K S D B L:=
 ZD hg hd (fun ρ hρ Q F q'=>by
  simp only [execOp,convert,hρ x _ hx,Zi,Zp hs,Zp hd',Zp he]
  exact Znh hc.app q') h
end
end Go.BL
namespace Go.BL
theorem All3.at {α:Type} {R:ZgD α} {rows:List (List Value)} {xs:List α} {s:Cells} (h:All3 R rows xs s) :∀{i:Nat} {x:α},xs[i]? = some x→∃row li lr,rows[i]? = some row∧R row x li∧s.Perm (li ++ lr)∧∀x' li',R row x' li'→∃s',All3 R rows (xs.set i x') s'∧s'.Perm (li' ++ lr):=by
 induction h with
 | nil=>intro i x hx;simp at hx
 | @cons row0 x0 ins0 rest rows xs h1 h2 ih=>
  intro i x hx
  cases i with
  | zero=>
   simp only [List.getElem?_cons_zero,Option.some.injEq] at hx
   subst hx
   exact ⟨row0,ins0,rest,rfl,h1,.refl _,fun x' li' hr=>⟨li' ++ rest,.cons hr h2,.refl _⟩⟩
  | succ i=>
   obtain ⟨row,li,lr,e1,e2,e3,e4⟩:=ih (by simpa using hx)
   refine ⟨row,li,ins0 ++ lr,by simpa using e1,e2,?_,fun x' li' hr=>?_⟩
   ·exact (List.Perm.append_left ins0 e3).trans (by rw [← List.append_assoc,← List.append_assoc];exact List.Perm.append_right lr List.perm_append_comm)
   ·obtain ⟨s',f1,f2⟩:=e4 x' li' hr
    exact ⟨ins0 ++ s',.cons h1 f1,(List.Perm.append_left ins0 f2).trans (by rw [← List.append_assoc,← List.append_assoc];exact List.Perm.append_right lr List.perm_append_comm)⟩
theorem ZaM.open1 {α:Type} {l:Cells} {p:Option Addr} {c:Nat} {T:TypeId} {w:Nat} {R:ZgD α} {xs:List α} (h:ZaM l p c T w R xs) {i:Nat} {x:α} (hx:xs[i]? = some x) :
∃b arr row li lr,p=some ⟨b,0,none⟩∧R row x li∧row.length=w∧l.Perm (li ++ (ZN b arr T ++ lr))∧(∀(j:Nat) (u:Value),row[j]? = some u→arr[i*w+j]? = some u)∧
∀x' li',R row x' li'→ZaM (li' ++ (ZN b arr T ++ lr)) p c T w R (xs.set i x'):=by
 obtain ⟨rows,blk,ins,h1,h2,h3,hvl⟩:=h
 have hlt:=(List.getElem?_eq_some_iff.1 hx).1
 obtain ⟨hl0,⟨_,h0,_,_⟩ | ⟨b,arr,rfl,ha,ht,rfl,hm⟩⟩:=hvl
 ·omega
 ·obtain ⟨row,li,lr,e1,e2,e3,e4⟩:=h1.at hx
  refine ⟨b,arr,row,li,lr,rfl,e2,h2 row (List.mem_of_getElem? e1),?_,fun j u hj=>?_,fun x' li' hr=>?_⟩
  ·refine h3.trans ((List.Perm.append_left _ e3).trans ?_)
   rw [← List.append_assoc,← List.append_assoc];exact List.Perm.append_right lr List.perm_append_comm
  ·have hu:=Zfe h2 e1 hj
   rw [← ht,List.getElem?_take] at hu
   split at hu
   ·exact hu
   ·cases hu
  ·obtain ⟨s',f1,f2⟩:=e4 x' li' hr
   refine ⟨rows,ZN b arr T,s',f1,h2,?_,by rw [List.length_set];exact hl0,.inr ⟨b,arr,rfl,ha,by rw [List.length_set];exact ht,rfl,by rw [List.length_set];exact hm⟩⟩
   refine List.Perm.trans ?_ (List.Perm.append_left _ f2.symm)
   rw [← List.append_assoc,← List.append_assoc];exact List.Perm.append_right lr List.perm_append_comm
section
variable {P:PJ} {n:Nat} {Q:Exit→Z8} {S:Env} {D:List Deferred} {B:Kn} {L:List Cells} {c:Code}
theorem Zsl {L':List Cells} (hp:L.flatten.Perm L'.flatten) (h:wpS P n c Q S D B L'):wpS P n c Q S D B L:=fun C k T hn hT hA=>by
 refine C.X.drop (r:=L'.flatten ++ C.F) (gl:=[]) ?_ (h C k T hn hT hA)
 rw [List.append_nil];exact hp.append_right C.F
theorem ZeT {a b:Cells} (j m:Nat) (hj:L[j]? = some a) (hm:L[m]? = some b) (hne:j≠m) (h:wpS P n c Q S D B ((L.set j (b ++ a)).set m [])):wpS P n c Q S D B L:=by
 refine Zsl ?_ h
 obtain ⟨r,h1,h2⟩:=ZS [] (b ++ a) hj
 have hm':(L.set j (b ++ a))[m]? = some b:=by rw [List.getElem?_set_ne hne];exact hm
 obtain ⟨r2,h3,h4⟩:=ZS [] [] hm'
 rw [List.append_nil] at h1 h2 h3 h4
 rw [List.nil_append] at h4
 have h5:(b ++ (a ++ r)).Perm (b ++ r2):=by rw [← List.append_assoc];exact h2.symm.trans h3
 exact h1.trans (((List.perm_append_left_iff b).1 h5).trans h4.symm)
end
end Go.BL
namespace Go.BL
theorem All3.row {α:Type} {R:ZgD α} {rows:List (List Value)} {xs:List α} {s:Cells} (h:All3 R rows xs s) {z x:α} (f:List Value→List Value) (hf :∀row li,R row x li→R (f row) z li) :∀{k:Nat},xs[k]? = some x→∃row,rows[k]? = some row∧All3 R (rows.set k (f row)) (xs.set k z) s:=by
 induction h with
 | nil=>intro k hx;simp at hx
 | @cons row0 x0 ins0 rest rows xs h1 h2 ih=>
  intro k hx
  cases k with
  | zero=>
   simp only [List.getElem?_cons_zero,Option.some.injEq] at hx
   subst hx
   exact ⟨row0,rfl,.cons (hf _ _ h1) h2⟩
  | succ k=>
   obtain ⟨row,e1,e2⟩:=ih (k:=k) (by simpa using hx)
   exact ⟨row,by simpa using e1,.cons h1 e2⟩
theorem ZaM.cell {α:Type} {l:Cells} {p:Option Addr} {c:Nat} {T:TypeId} {w:Nat} {R:ZgD α} {xs:List α} (h:ZaM l p c T w R xs) {i:Nat} {x:α} (hx:xs[i]? = some x) {B:Kn} {L:List Cells} (j:Nat) (hj:L[j]? = some l) :
∃b row li lr,p=some ⟨b,0,none⟩∧R row x li∧row.length=w∧l.Perm (li ++ lr)∧(∀(m:Nat) (u:Value),row[m]? = some u→ZaI B L.flatten ⟨b,i*w+m,none⟩ u)∧∀x' li',R row x' li'→ZaM (li' ++ lr) p c T w R (xs.set i x'):=by
 obtain ⟨b,arr,row,li,lr,e1,e2,e3,e4,e5,e6⟩:=h.open1 hx
 refine ⟨b,row,li,ZN b arr T ++ lr,e1,e2,e3,e4,fun m u hm=>⟨rfl,arr.toArray,T,(0,0),.inr ?_,by simpa using e5 m u hm⟩,e6⟩
 obtain ⟨r,h1,h2⟩:=ZS [] [] hj
 rw [List.append_nil] at h1
 rw [h1.mem_iff]
 refine List.mem_append_left _ (e4.mem_iff.2 (List.mem_append_right _ (List.mem_append_left _ ?_)))
 exact List.mem_singleton.2 rfl
section
variable {P:PJ} {n:Nat} {ops:Array Oper} {i:Nat} {K:Zaz} {S:Env} {D:List Deferred} {B:Kn} {L:List Cells}
variable {dst:Option Tmp} {ty:TypeId} {pos:String} {after:Array Edge} {g:Option (Nat × Bool)}
theorem ZhH {α:Type} {R:ZgD α} {xs:List α} {x0:α} (z:α) {t T:TypeId} {x y:Operand} {v:Value} {us:List Value} {sz k c b:Nat} (off:Nat) {l:Cells} {p:Option Addr} (j:Nat) (hj:L[j]? = some l) (hv:ZaM l p c T sz R xs) (hp:p=some ⟨b,0,Option.none⟩) (hx0:xs[k]? = some x0) (hg:Zj ops S g=some true) (hd:Zr n dst=true) (hsz:ZH P t=some us.length)
  (hx:ev S x=some (ptr ⟨b,k*sz+off,Option.none⟩)) (hy:ev S y=some v) (hvc:v.cells=us.toArray) (ho:us.all Zhw=true) (hoff:off+us.length≤sz) (hr :∀row li,R row x0 li→R (Z6 row off us) z li)
  (h :∀l',ZaM l' p c T sz R (xs.set k z)→K undef D B (L.set j l')):opX P n ops i ⟨dst,.store t x y,ty,pos,after,g⟩ K S D B L:=by
 subst hp
 obtain ⟨rows,blk,ins,h1,h2,h3,hl1,⟨hc,_⟩ | ⟨b',arr,e,ha,ht,rfl,hmc⟩⟩:=hv
 ·cases hc
 ·cases e
  have hk:=(List.getElem?_eq_some_iff.1 hx0).1
  obtain ⟨row,hrow,a1⟩:=h1.row (fun row=>Z6 row off us) hr hx0
  have hw:row.length=sz:=h2 row (List.mem_of_getElem? hrow)
  have hsz1:(k+1)*sz≤xs.length*sz:=Nat.mul_le_mul_right sz hk
  have hcs:xs.length*sz≤c*sz:=Nat.mul_le_mul_right sz hmc
  rw [Nat.succ_mul] at hsz1
  have hb1:k*sz+off+us.length≤arr.length:=by omega
  refine ZoG (L':=L.set j (ZN b arr T ++ ins)) (K':=fun u D' B' L₁=>u=undef∧D'=D∧B'=B∧L₁=(L.set j (ZN b arr T ++ ins)).set j (ZN b (Z6 arr (k*sz+off) us) T ++ ins)) ?_ ?_ ?_
  ·obtain ⟨r,e1,e2⟩:=ZS [] (ZN b arr T ++ ins) hj
   rw [List.append_nil] at e1 e2
   exact e1.trans ((h3.append_right r).trans e2.symm)
  ·have hj':(L.set j (ZN b arr T ++ ins))[j]? = some (ZN b arr T ++ ins):=by
    rw [List.getElem?_set_self (List.getElem?_eq_some_iff.1 hj).1]
   exact ZaC us j (Z6 arr (k*sz+off) us) hg hd hsz hx hy hvc ho (T:=T) (r:=ins) hj' rfl (by rw [Nat.ble_eq];exact hb1) rfl ⟨rfl,rfl,rfl,rfl⟩
  ·rintro u D' B' L₁ hle ⟨rfl,rfl,rfl,rfl⟩
   have hnew:ZaM (ZN b (Z6 arr (k*sz+off) us) T ++ ins) (some ⟨b,0,Option.none⟩) c T sz R (xs.set k z):=by
    have hsl:(Z6 row off us).length=sz:=by rw [ZZ];exact hw
    have hwide:wide sz (rows.set k (Z6 row off us)):=fun r' hr'=>by
     rcases List.mem_or_eq_of_mem_set hr' with hr' | rfl
     ·exact h2 r' hr'
     ·exact hsl
    refine ⟨rows.set k (Z6 row off us),_,ins,a1,hwide,.refl _,?_,.inr ⟨b,_,rfl,by rw [ZZ];exact ha,?_,rfl,by rw [List.length_set];exact hmc⟩⟩
    ·rw [Zdd hwide,List.length_set,List.length_set,h1.len]
    ·rw [List.length_set]
     have e:=Zde (us:=us) (off:=off) h2 hrow hoff
     rw [ZdD _ _ _ _ (by omega) (by omega),ht,e]
   refine ⟨L.set j (ZN b (Z6 arr (k*sz+off) us) T ++ ins),[],?_,h _ hnew⟩
   rw [List.set_set,List.append_nil]
end
end Go.BL
namespace Go.BL
open Go.Conc (G)
section
variable {P:PJ} {n:Nat} {ops:Array Oper} {i:Nat} {K:Zaz} {S:Env} {D:List Deferred} {B:Kn} {L:List Cells}
variable {dst:Option Tmp} {ty:TypeId} {pos:String} {after:Array Edge} {g:Option (Nat × Bool)}
theorem Zs2 {α:Type} {R:ZgD α} {xs:List α} (z:α) {t u e:TypeId} {x y:Operand} {sz by_ m c c2:Nat} {p q:Option Addr} {row:List Value} {l:Cells} {inss r:List Cells} (j:Nat) (ks:List Nat) (hpk:Zaw L (j :: ks)=some (l :: inss,r)) (hnd:Zea (j :: ks)=true) (hv:ZaM l p c e sz R xs) (hm:m=xs.length) (hg:Zj ops S g=some true) (hd:Zr n dst=true)
  (he:ZbN P t e sz by_=true) (hu:(match P.underlying u with | some (.slice _)=>true | _=>false)=true) (hx:ev S x=some (.slice p m c)) (hy:ev S y=some (.slice q 1 c2)) (hs:Zcy B L.flatten q row) (hone:row.all Zhw=true) (hrl:row.length=sz) (ins0:Cells) (hi0:inss.flatten=ins0) (hr:R row z ins0) (hb1:(xs.length+1)*by_≤140737488355328)
  (h :∀l' p' c',ZaM l' p' c' e sz R (xs ++ [z])→K (.slice p' (xs ++ [z]).length c') D B (Zce r (j :: ks) (l' :: inss.map fun _=>[]))):opX P n ops i ⟨dst,.call ⟨.builtin .append,#[x,y],#[t,u]⟩,ty,pos,after,g⟩ K S D B L:=by
 subst hm
 subst hi0
 obtain ⟨rows,blk,inn,h1,h2,h3,h4⟩:=hv
 have hpp:=Zaf (j :: ks) L (l :: inss) r hpk
 have p1:L.flatten.Perm (blk ++ (inn ++ (inss.flatten ++ r.flatten))):=by
  refine hpp.trans ?_
  simp only [List.flatten_cons,List.append_assoc]
  refine (h3.append_right _).trans ?_
  rw [List.append_assoc]
 refine Zl7 (L':=[blk,inn ++ (inss.flatten ++ r.flatten)]) (K':=fun v D' B' L₁=>∃blk' p' c',L₁=[blk',inn ++ (inss.flatten ++ r.flatten)]∧v = .slice p' (xs.length+1) c'∧D'=D∧B'=B∧Zhx blk' p' (xs.length+1) c' e sz (rows.flatten ++ row)) ?_ ?_ ?_
 ·simpa using p1
 ·refine Zeq 0 rfl h4 hg hd he hu hx hy ?_ (by rw [hrl,Nat.one_mul]) hone hb1 fun l' p' c' hv'=>⟨l',p',c',rfl,rfl,rfl,rfl,hv'⟩
  cases q with
  | none=>exact hs
  | some a=>
   intro jj v hjj
   exact (hs jj v hjj).perm (by simpa using p1)
 ·rintro v D' B' L₁ hle ⟨blk',p',c',rfl,rfl,rfl,rfl,hv'⟩
  have hnew:ZaM (blk' ++ (inn ++ inss.flatten)) p' c' e sz R (xs ++ [z]):=⟨rows ++ [row],blk',inn ++ inss.flatten,h1.snoc hr,fun r' hr'=>by
   rcases List.mem_append.1 hr' with hr' | hr'
   ·exact h2 r' hr'
   ·rw [List.mem_singleton.1 hr'];exact hrl,.refl _,by rw [List.length_append,List.flatten_append];simpa using hv'⟩
  refine ⟨_,?_,by have:=h _ _ _ hnew;rwa [List.length_append] at this⟩
  have hq:=ZbZ ((blk' ++ (inn ++ inss.flatten)) :: inss.map fun _=>[]) r (j :: ks) (Zb1 hnd) (fun jj hj=>Zb0 (j :: ks) L (l :: inss) r hpk jj (.inr hj))
  have hnil:((inss.map fun _=>([]:Cells))).flatten=[]:=by
   clear hpk hpp h hnew hs h3 p1 hq
   induction inss with
   | nil=>rfl
   | cons a as ih=>simp
  rw [List.flatten_cons,hnil,List.append_nil] at hq
  refine List.Perm.trans ?_ hq
  simp only [List.flatten_cons,List.flatten_nil,List.append_nil,List.append_assoc]
  exact .refl _
theorem Z0.borrowL {f:FuncId} {args:List Value} {ls:List Cells} {v:Value} (h:(∀p,p∈ls.flatten→(B.add ls.flatten).mem p.1=some p.2)→Z0 P f args (B.add ls.flatten) v):Zx P f args B ls (fun v' B' Ls=>v'=v∧B'=B∧Ls=ls):=by
 have:=(Zx.borrowL (P:=P) (Ls:=[]) h).mono (Post':=fun v' B' Ls=>v'=v∧B'=B∧Ls=ls) fun v' B' Ls' _ ⟨B₂,Ls₂,a1,a2,_,_,a3,a4,a5,a6⟩=>by subst a5;subst a6;exact ⟨a4,a2.trans a3,by rw [a1,List.append_nil]⟩
 rwa [List.append_nil] at this
theorem ZnL {f:FuncId} {xs:List Operand} {vs:List Value} {ats:Array TypeId} {v:Value} {ls r:List Cells} (js:List Nat) (hp:Zaw L js=some (ls,r)) (hput:Zce r js ls=L) (hn:Zea js=true) (hg:Zj ops S g=some true) (hd:Zr n dst=true) (he:enters P f=true) (ha:evs S xs=some vs)
  (hc:Zx P f vs B ls (fun v' B' Ls=>v'=v∧B'=B∧Ls=ls)) (h:K v D B L):opX P n ops i ⟨dst,.call ⟨.value (.func f),xs.toArray,ats⟩,ty,pos,after,g⟩ K S D B L:=
 ZbG js hp hn hg hd he ha hc fun v' B' Ls' hle ⟨h1,h2,h3⟩=>by subst h1;subst h2;subst h3;rw [hput];exact h
end
theorem Zx.borrowK {P:PJ} {B:Kn} {f:FuncId} {args:List Value} {Ls:List Cells} {Post:Value→Kn→List Cells→Prop} (k:Nat)
  (h:(∀p,p∈(Ls.take k).flatten→(B.add (Ls.take k).flatten).mem p.1=some p.2)→Zx P f args (B.add (Ls.take k).flatten) (Ls.drop k) Post) :
  Zx P f args B Ls (fun v B' Ls'=>∃B₂ Ls₂,Ls'=Ls.take k ++ Ls₂∧B'=B₂.minus (Ls.take k).flatten∧(B.add (Ls.take k).flatten).le B₂∧(∀p,p∈(Ls.take k).flatten→(B.add (Ls.take k).flatten).mem p.1=some p.2)∧(B.add (Ls.take k).flatten).minus (Ls.take k).flatten=B∧Post v B₂ Ls₂):=by
 have:=Zx.borrowL (P:=P) (ls:=Ls.take k) (Ls:=Ls.drop k) h
 rwa [List.take_append_drop] at this
theorem ZoY {B:Kn} {ls:List Cells} {l:Cells} (hm :∀p,p∈ls.flatten→B.mem p.1=some p.2) (k:Nat) (hk:ls[k]? = some l) :∀q,q∈l→B.mem q.1=some q.2:=fun q hq=>hm q (List.mem_flatten.2 ⟨l,List.mem_of_getElem? hk,hq⟩)
theorem ZU.lendK {α:Type} {B BV:Kn} {l:Cells} {ls:List Cells} {p:Option Addr} {c:Nat} {T:TypeId} {w:Nat} {R:Rel α} {xs:List α} (h:ZU BV l p c T w R xs) (hR:ZnD R) (k:Nat) (hk:ls[k]? = some l) (hm :∀q,q∈ls.flatten→(B.add ls.flatten).mem q.1=some q.2) (hl:xs.length≤2000000):SlK (B.add ls.flatten) p c w R xs:=⟨h.rowsF hR (ZoY hm k hk),h.cap,hl⟩
theorem ZaM.lendK {α:Type} {B:Kn} {l:Cells} {ls:List Cells} {p:Option Addr} {c:Nat} {T:TypeId} {w:Nat} {R:ZgD α} {R':Rel α} {xs:List α} (h:ZaM l p c T w R xs) (hR :∀{B:Kn} {row:List Value} {x:α} {ins:Cells},R row x ins→(∀q,q∈ins→B.mem q.1=some q.2)→R' B row x) (hM:Mono R') (k:Nat) (hk:ls[k]? = some l) (hm :∀q,q∈ls.flatten→(B.add ls.flatten).mem q.1=some q.2) (hl:xs.length≤2000000):SlK (B.add ls.flatten) p c w R' xs:=h.known (fun _ _ _ a b=>hR a b) hM (ZoY hm k hk) hl
theorem Zu5 {l a lr:Cells} (h:l.Perm (a ++ lr)):l.Perm (lr ++ ([a]:List Cells).flatten):=by
 simpa using h.trans List.perm_append_comm
theorem ZoB {l a b lr:Cells} (h:l.Perm (a ++ b ++ lr)):l.Perm (lr ++ ([a,b]:List Cells).flatten):=by
 simpa using h.trans List.perm_append_comm
theorem ZuD {P:PJ} {n:Nat} {Q:Exit→Z8} {S:Env} {D:List Deferred} {B:Kn} {L:List Cells} {c:Code} (es:List Cells) (he:es.flatten=[]) (h:wpS P n c Q S D B (L ++ es)):wpS P n c Q S D B L:=
 Zsl (by rw [List.flatten_append,he,List.append_nil]) h
end Go.BL
namespace Go.BL
open Go.Conc (G)
def errv (tE:TypeId) (a:Nat→Addr):Nat→Value
 | 0=>.nilIface
 | k+1=>.iface tE (.pointer (some (a k)))
structure ErrsB (tE:TypeId) (gs:List Nat) (B:Kn) (a:Nat→Addr):Prop where
 row :∀k,k<4→Zai B (gs.getD k 0) 0 [.iface tE (.pointer (some (a k)))]
 cell :∀k,k<4→∃cs T,B.mem (a k).block=some (.cells cs T (0,0))
 ne :∀i j,i<4→j<4→i≠j→a i≠a j
theorem ErrsB.mono {tE:TypeId} {gs:List Nat} {B B':Kn} {a:Nat→Addr} (h:ErrsB tE gs B a) (hle:B.le B'):ErrsB tE gs B' a:=
 ⟨fun k hk=>(h.row k hk).mono hle,fun k hk=>let ⟨cs,T,e⟩:=h.cell k hk;⟨cs,T,hle _ _ e⟩,h.ne⟩
section
variable {P:Program}
theorem ZrD {a:Addr} {B:Kn} {L:Cells} {Q:Bool→Kn→Cells→Prop} (q:Q true B L):hb P (sameAddr a a) Q B L:=by
 have e:sameAddr a a=pure true:=by simp [sameAddr]
 rw [e];exact q
theorem Zgl {x:Addr} {cx:Array Value} {tx:TypeId} {B:Kn} {L:Cells} {Q:Bool→Kn→Cells→Prop} (hx:Zih B L x.block (.cells cx tx (0,0))) (q:Q false B L):hb P (stringish x) Q B L:=by
 unfold stringish
 rw [Zi]
 refine ⟨_,hx,?_⟩
 simp only [Zbc,Zo,ZaV,Nat.not_lt_zero,decide_false,Bool.and_false,Bool.false_eq_true,if_false]
 rw [Zi]
 refine ⟨_,hx,?_⟩
 simp only [Zim,Zo,ZaV]
 refine ⟨_,hx,?_⟩
 simp only [Zbc,Nat.not_lt_zero,decide_false,Bool.and_false]
 exact q
theorem Zj5 {x:Addr} {cx:Array Value} {tx:TypeId} {B:Kn} {L:Cells} {Q:Unit→Kn→Cells→Prop} (hx:Zih B L x.block (.cells cx tx (0,0))) (q:Q () B L):hb P (noView x) Q B L:=by
 unfold noView viewAt
 simp only [Zi]
 refine ⟨_,hx,?_⟩
 simp only [Zim,Option.isSome_some,if_true,Zo,ZaV]
 exact q
theorem ZrE {a b:Addr} {ca cb:Array Value} {ta tb:TypeId} {B:Kn} {L:Cells} {Q:Bool→Kn→Cells→Prop} (hne:a≠b) (ha:Zih B L a.block (.cells ca ta (0,0))) (hb':Zih B L b.block (.cells cb tb (0,0))) (q:Q false B L):hb P (sameAddr a b) Q B L:=by
 unfold sameAddr
 by_cases h:a.block=b.block
 ·have e1:(a.block == b.block)=true:=by simpa using h
  have e2:(a == b)=false:=by simpa using hne
  simp only [e1,if_true,e2];exact q
 ·have e1:(a.block == b.block)=false:=by simpa using h
  simp only [e1,Bool.false_eq_true,if_false,Zi]
  refine ⟨_,ha,?_⟩
  have f1:Zbc a.off (.cells ca ta (0,0))=false:=by simp [Zbc]
  simp only [f1,Zo,ZaV,Bool.false_eq_true,if_false,Bool.false_and,Zi]
  refine ⟨_,hb',?_⟩
  simp only [Zo,ZaV,Zi]
  refine Zj5 ha ?_
  rw [Zi]
  refine Zj5 hb' ?_
  unfold mayBeOne
  simp only [Zi]
  refine Zgl ha ?_
  rw [Zi]
  refine Zgl hb' ?_
  simp only [Zi]
  refine ⟨_,ha,?_⟩
  simp only [Zo,ZaV,Zi]
  refine ⟨_,hb',?_⟩
  simp only [Bool.false_and,Bool.or_false,Bool.false_eq_true,if_false,Zo,ZaV]
  exact q
theorem Zvp {tI tE te:TypeId} {ms:Array (String × TypeId)} {i:TypeInfo} {d:Nat} {x y:Addr} {B:Kn} {L:Cells} {Q:Bool→Kn→Cells→Prop} (hi:P.underlying tI=some (.interface ms)) (hp:P.underlying tE=some (.pointer te)) (hinfo:P.info? tE=some i) (hc:i.comparable=true) (hs:ZH P te=some (d+1))
  (h:hb P (sameAddr x y) Q B L):hb P (Op.equal tI (.iface tE (.pointer (some x))) (.iface tE (.pointer (some y)))) Q B L:=by
 show hb P (Op.equalIn (9999+1) tI _ _) Q B L
 rw [Op.equalIn,Zi,Zp hi]
 simp only [ne_eq,not_true_eq_false,if_false,Zi,Za6 hinfo,hc,Bool.not_true,Bool.false_eq_true]
 show hb P (Op.equalIn (9998+1) tE _ _) Q B L
 rw [Op.equalIn,Zi,Zp hp]
 simp only [Zi,Zah hs,ne_eq,Nat.add_eq_zero_iff,Nat.one_ne_zero,and_false,not_false_eq_true,if_true]
 exact h
theorem ZpH {tE:TypeId} {gs:List Nat} {B:Kn} {a:Nat→Addr} (h:ErrsB tE gs B a) {k:Nat} (hk:k<4) (L:Cells) :∃cs T,Zih B L (a k).block (.cells cs T (0,0)):=
 let ⟨cs,T,e⟩:=h.cell k hk;⟨cs,T,.inl e⟩
theorem Zvq {tI tE te:TypeId} {ms:Array (String × TypeId)} {i:TypeInfo} {d:Nat} {c k:Nat} {gs:List Nat} {a:Nat→Addr} {B:Kn} {L:Cells} {Q:Bool→Kn→Cells→Prop} (hE:ErrsB tE gs B a) (hcb:c<5) (hkb:k<4) (hi:P.underlying tI=some (.interface ms)) (hp:P.underlying tE=some (.pointer te)) (hinfo:P.info? tE=some i) (hc:i.comparable=true) (hs:ZH P te=some (d+1))
  (h:Q (decide (c=k+1)) B L):hb P (Op.equal tI (errv tE a c) (errv tE a (k+1))) Q B L:=by
 cases c with
 | zero=>
  show hb P (Op.equalIn (9999+1) tI .nilIface _) Q B L
  rw [Op.equalIn,Zi,Zp hi]
  simp only [errv,Zo]
  simpa using h
 | succ c=>
  refine Zvp hi hp hinfo hc hs ?_
  by_cases e:c=k
  ·subst e
   exact ZrD (by simpa using h)
  ·obtain ⟨cs,T,h1⟩:=ZpH hE (k:=c) (by omega) L
   obtain ⟨cs',T',h2⟩:=ZpH hE hkb L
   exact ZrE (hE.ne c k (by omega) hkb e) h1 h2 (by simpa [e] using h)
end
section
variable {P:PJ} {n:Nat} {ops:Array Oper} {i:Nat} {K:Zaz} {S:Env} {D:List Deferred} {B:Kn} {L:List Cells}
variable {dst:Option Tmp} {ty:TypeId} {pos:String} {after:Array Edge} {g:Option (Nat × Bool)}
theorem ZlP {t u:TypeId} {x:Operand} {tE:TypeId} {a:Nat→Addr} {c:Nat} {ms:Array (String × TypeId)} (hg:Zj ops S g=some true) (hd:Zr n dst=true) (hu:P.underlying t=some (.interface ms)) (hx:ev S x=some (errv tE a c)) (h:K (.bool (decide (c=0))) D B L):opX P n ops i ⟨dst,.binOp .eql t x (.const .nilIface) u,ty,pos,after,g⟩ K S D B L:=
 ZD hg hd (fun ρ hρ Q F q=>by
  have e0:ρ (.const .nilIface) = .nilIface:=hρ (.const .nilIface) _ rfl
  simp only [execOp,hρ x _ hx,e0,Zi]
  cases c with
  | zero=>
   simp only [errv,eqGuard,binOp,Bool.not_true,Bool.false_eq_true,if_false,Bool.or_true,if_true,Zo,Zi]
   show hb P (Op.equalIn (9999+1) t .nilIface .nilIface) _ B _
   rw [Op.equalIn,Zi,Zp hu]
   simp only [Zo]
   simpa using q
  | succ c=>
   simp only [errv,eqGuard,binOp,Bool.not_true,Bool.false_eq_true,if_false,Bool.or_true,if_true,Zo,Zi]
   show hb P (Op.equalIn (9999+1) t (.iface tE _) .nilIface) _ B _
   rw [Op.equalIn,Zi,Zp hu]
   simp only [Zo]
   simpa using q) h
theorem Zso {t u:TypeId} {x:Operand} {tE:TypeId} {a:Nat→Addr} {c:Nat} {ms:Array (String × TypeId)} (hg:Zj ops S g=some true) (hd:Zr n dst=true) (hu:P.underlying t=some (.interface ms)) (hx:ev S x=some (errv tE a c)) (h:K (.bool (decide (c≠0))) D B L):opX P n ops i ⟨dst,.binOp .neq t x (.const .nilIface) u,ty,pos,after,g⟩ K S D B L:=
 ZD hg hd (fun ρ hρ Q F q=>by
  have e0:ρ (.const .nilIface) = .nilIface:=hρ (.const .nilIface) _ rfl
  simp only [execOp,hρ x _ hx,e0,Zi]
  cases c with
  | zero=>
   simp only [errv,eqGuard,binOp,Bool.not_true,Bool.false_eq_true,if_false,Bool.or_true,if_true,Zo,Zi]
   show hb P (Op.equalIn (9999+1) t .nilIface .nilIface) _ B _
   rw [Op.equalIn,Zi,Zp hu]
   simp only [Zo]
   simpa using q
  | succ c=>
   simp only [errv,eqGuard,binOp,Bool.not_true,Bool.false_eq_true,if_false,Bool.or_true,if_true,Zo,Zi]
   show hb P (Op.equalIn (9999+1) t (.iface tE _) .nilIface) _ B _
   rw [Op.equalIn,Zi,Zp hu]
   simp only [Zo]
   simpa using q) h
theorem ZnT {t u:TypeId} {x y:Operand} {tE te:TypeId} {gs:List Nat} {a:Nat→Addr} {c k:Nat} {ms:Array (String × TypeId)} (hE:ErrsB tE gs B a) (hcb:c<5) (hkb:k<4) (hg:Zj ops S g=some true) (hd:Zr n dst=true) (hu:P.underlying t=some (.interface ms)) (hp:P.underlying tE=some (.pointer te)) (hinf:(P.info? tE).map (·.comparable)=some true) (hs:ZH P te=some 1)
  (hx:ev S x=some (errv tE a c)) (hy:ev S y=some (errv tE a (k+1))) (h:K (.bool (decide (c=k+1))) D B L):opX P n ops i ⟨dst,.binOp .eql t x y u,ty,pos,after,g⟩ K S D B L:=
 ZD hg hd (fun ρ hρ Q F q=>by
  obtain ⟨inf,hinfo,hc⟩:=Option.map_eq_some_iff.1 hinf
  have hpl:Zf3 (errv tE a c) (errv tE a (k+1))=true:=by cases c <;> rfl
  simp only [execOp,hρ x _ hx,hρ y _ hy,Zi,Ze6 hpl,Zko (.inl hpl)]
  exact Zvq hE hcb hkb hu hp hinfo hc hs q) h
theorem ZgM {x:Operand} {xt t asserted:TypeId} {v:Value} {want:Array (String × TypeId)} (hg:Zj ops S g=some true) (hd:Zr n dst=true) (hu:P.underlying asserted=some (.interface want)) (hl:(P.info? t).map (fun i=>(lacking want i.methods).isEmpty)=some false) (hz:Z3 P asserted=some .nilIface)
  (hx:ev S x=some (.iface t v)) (h:K (.tuple #[.nilIface,.bool false]) D B L):opX P n ops i ⟨dst,.typeAssert x xt asserted true,ty,pos,after,g⟩ K S D B L:=
 ZD hg hd (fun ρ hρ Q F q=>by
  obtain ⟨j,hj,hm⟩:=Option.map_eq_some_iff.1 hl
  obtain ⟨m,hm⟩:=missingMethod_some (want:=want) (got:=j.methods) (fun e=>by rw [e] at hm;cases hm)
  simp only [execOp,Instr.typeAssert,hρ x _ hx,Zi,Zp hu,Za6 hj,hm,if_true,Za5 hz,Zo]
  exact q) h
theorem ZuB {f:FuncId} {fn:Func} {ext:Array Value→Sem Value} {x:Operand} {ats:Array TypeId} {v r:Value} (hg:Zj ops S g=some true) (hd:Zr n dst=true) (hf:P.funcs[f]? = some fn) (hname:(fn.name == "runtime.NumGoroutine")=false) (hb0:fn.body.isNone=true) (hn:Extern.findNext fn=none) (he:Extern.find fn=some ext)
  (hx:ev S x=some v) (hr :∀(Q:Value→Kn→Cells→Prop) B L,hb P (ext #[v]) Q B L=Q r B L) (h:K r D B L):opX P n ops i ⟨dst,.call ⟨.value (.func f),#[x],ats⟩,ty,pos,after,g⟩ K S D B L:=
 Zdh hg hd fun ρ hρ F=>by
  have e0:ρ (.func f) = .func (.func f) #[] #[]:=hρ (.func f) _ rfl
  simp only [execOp,resolve,e0,Deferred.ofValue,Zi,Zo,invoke,List.map_toArray,List.map_cons,List.map_nil,hρ x _ hx]
  have e:(#[] ++ #[v]:Array Value) ++ #[] = #[v]:=by simp
  rw [e]
  simp only [callFunc,Zi,ZbC,hf,hname,Bool.false_eq_true,if_false,hb0,if_true,hn,he]
  refine ⟨rfl,?_⟩
  simp only [ZaV,Zo,Zi,hr]
  exact ⟨L,.of (.refl _),h⟩
theorem Zuy {f:FuncId} {fn:Func} {ext:Array Value→Sem Value} {x:Operand} {t:TypeId} {name:String} {ats:Array TypeId} {v u r:Value} (hg:Zj ops S g=some true) (hd:Zr n dst=true) (hf:P.funcs[f]? = some fn) (hname:(fn.name == "runtime.NumGoroutine")=false) (hb0:fn.body.isNone=true) (hn:Extern.findNext fn=none) (he:Extern.find fn=some ext)
  (hx:ev S x=some (.iface t v)) (hm :∀(k:Nat) (Q:FuncId × Value→Kn→Cells→Prop) B L,hb P (method (k+1) t v name) Q B L=Q (f,u) B L) (hr :∀(Q:Value→Kn→Cells→Prop) B L,hb P (ext #[u]) Q B L=Q r B L) (h:K r D B L):opX P n ops i ⟨dst,.call ⟨.invoke x name,#[],ats⟩,ty,pos,after,g⟩ K S D B L:=
 Zdh hg hd fun ρ hρ F=>by
  have e1:(#[Value.iface t v] ++ #[])[0]? = some (.iface t v):=by simp
  have e2:(#[Value.iface t v] ++ #[]).extract 1 (#[Value.iface t v] ++ #[]).size = #[]:=by apply Array.ext';simp
  have e3 : #[u] ++ #[] = #[u]:=by simp
  simp only [execOp,resolve,hρ x _ hx,Zi,Zo,invoke,List.map_toArray,List.map_nil,e1,e2,callMethod,ZbC]
  have hpos:0<Made.depth:=by decide
  obtain ⟨d,hd'⟩ :∃d,P.types.size+Made.depth=d+1:=⟨P.types.size+Made.depth - 1,by omega⟩
  rw [hd',hm]
  simp only [e3,callFunc,Zi,ZbC,hf,hname,Bool.false_eq_true,if_false,hb0,if_true,hn,he]
  refine ⟨rfl,?_⟩
  simp only [ZaV,Zo,Zi,hr]
  exact ⟨L,.of (.refl _),h⟩
end
end Go.BL
namespace Go.BL
open Go.ChangeShapes Go.WideShapes Go.ChangeAt Go.RowKit Go.Conc
section
variable {H:Type} {enc:TypeId × Value→H} {P:Program}
theorem ZmE {t:TypeId} {ms:Array (String × TypeId)} (hu:P.underlying t=some (.interface ms)) {W W':World} {sp sp':Nat→Bool} {fuel:Nat} {cs:List Value} : DataW.trod enc P W 0 sp true fuel t cs=DataW.trod enc P W' 0 sp' true fuel t cs:=by
 cases fuel with
 | zero=>simp [DataW.trod]
 | succ n=>
  cases cs with
  | nil=>simp [DataW.trod,hu]
  | cons x xs=>
   cases xs with
   | nil=>cases x <;> simp [DataW.trod,hu]
   | cons y ys=>cases x <;> simp [DataW.trod,hu]
theorem ZqJ {W W':World} (hk:Kept W W') {n:String} {g:Nat} {cs:Array Value} (hg:P.globalNamed n=some g) (hlt:g<W.heap.size) (h:W.var? P n=some cs):W'.var? P n=some cs:=by
 simp only [World.var?,hg,Option.bind_some] at h ⊢
 rw [hk.1 g hlt];exact h
theorem Zjy {W W':World} (hk:Kept W W') {sp sp':Nat→Bool} :∀{ns:List String} {gs:List (DataW H)} {ps:List MemPlace},(∀n,n∈ns→∀g t,P.globalNamed n=some g→(P.globals[g]?).map (·.type)=some t→∃ms,P.underlying t=some (.interface ms))→
  DataW.TrodVars enc P W sp ns gs ps→(∀n,n∈ns→∀g,P.globalNamed n=some g→g<W.heap.size)→DataW.TrodVars enc P W' sp' ns gs ps
 | [],[],_,_,h,_=>h
 | n :: ns,d :: ds,ps,ht,⟨g,t,cs,fuel,p,q,hg,hty,hv,hd,hr,e⟩,hlt=>by
  obtain ⟨ms,hu⟩:=ht n (List.mem_cons_self ..) g t hg hty
  exact ⟨g,t,cs,fuel,p,q,hg,hty,ZqJ hk hg (hlt n (List.mem_cons_self ..) g hg) hv,(ZmE hu).trans hd,
   Zjy hk (fun n hn=>ht n (List.mem_cons_of_mem _ hn)) hr (fun n hn=>hlt n (List.mem_cons_of_mem _ hn)),e⟩
 | [],_ :: _,_,_,h,_=>h.elim
 | _ :: _,[],_,_,h,_=>h.elim
theorem ZnY {W:World} {sp:Nat→Bool} :∀{ns:List String} {gs:List (DataW H)} {ps:List MemPlace},DataW.TrodVars enc P W sp ns gs ps→∀n,n∈ns→∀g,P.globalNamed n=some g→g<W.heap.size
 | [],_,_,_,n,hn,_,_=>by cases hn
 | m :: ns,d :: ds,ps,⟨g,t,cs,fuel,p,q,hg,hty,hv,hd,hr,e⟩,n,hn,g',hg'=>by
  rcases List.mem_cons.1 hn with rfl | hn
  ·obtain rfl:=Option.some.inj (hg.symm.trans hg')
   simp only [World.var?,hg,Option.bind_some] at hv
   rcases Nat.lt_or_ge g W.heap.size with h | h
   ·exact h
   ·rw [Array.getElem?_eq_none h] at hv;cases hv
  ·exact ZnY hr n hn g' hg'
 | _ :: _,[],_,h,_,_,_,_=>h.elim
theorem ZlR {W:World} {sp:Nat→Bool} :∀{ns:List String} {gs:List (DataW H)} {ps:List MemPlace},DataW.TrodVars enc P W sp ns gs ps→gs.length=ns.length
 | [],[],_,_=>rfl
 | n :: ns,d :: ds,ps,⟨g,t,cs,fuel,p,q,hg,hty,hv,hd,hr,e⟩=>by rw [List.length_cons,List.length_cons,ZlR hr]
 | [],_ :: _,_,h=>h.elim
 | _ :: _,[],_,h=>h.elim
theorem ZoZ {f:Func} {s:ChangeSpec} {apart fresh handsOn again:Bool} {W W':World} {args:Array Value} {ds gs:List (DataW H)} {before:List MemPlace} {tb:TypeId}
  (hl:laidOutB P=true) (hts:(f.params.toList.all fun t=>P.readableRec t && decide (t<P.types.size))=true) (hres:f.resultTypes.toList=[tb]) (hb:P.underlying tb=some .bool)
  (hvars :∀n,n∈s.vars→∀g t,P.globalNamed n=some g→(P.globals[g]?).map (·.type)=some t→∃ms,P.underlying t=some (.interface ms))
  (hW:DataW.Whole enc P f.params.toList s.vars apart W args.toList ds gs before) (hfn :∀ds' gs',gs'.length=s.vars.length→ds'.length=f.params.toList.length→s.fn H (ds' ++ gs') = { results:=[.lit (.bool true)],args:=ds',vars:=gs' })
  (hk:Kept W W'):s.post enc P f apart fresh handsOn again W args (.bool true) W':=by
 have hlt:=hW.lt
 have hW':=hW
 obtain ⟨p,q,hA0,hV,rfl,hfz,hnd⟩:=hW
 have hlen:=(trodAll_length hA0).2
 have hvl:gs.length=s.vars.length:=ZlR hV
 have hf2:=hfn ds gs hvl hlen
 have hr2:f.resultTypes = #[tb]:=by apply Array.ext';rw [hres]
 refine post_of_same (pa:=p) (pv:=q) hW' (fun b sp hd=>?_) (fun sp hsp=>?_) (fun sp hsp=>?_) rfl (hk.2.frame _) hk.2.2.1 ?_
 ·rw [hf2,hr2]
  exact trodAll_cons_mk (shut_bool hb _) trodAll_mk0
 ·rw [hf2]
  exact Zl2 hl hk hts hA0 (fun x hx=>hlt x (List.mem_append_left _ hx)) (fun x hx=>hsp x (List.mem_append_left _ hx))
 ·rw [hf2]
  exact Zjy hk hvars hV (ZnY hV)
 ·intro j t r h1 h2
  rw [hr2] at h1 h2
  cases j with
  | zero=>
   simp only [List.getElem?_toArray,List.getElem?_cons_zero,Option.some.injEq] at h1
   simp [Value.resultList] at h2
   subst h1;subst h2
   exact okWide_bool_mk hb _
  | succ j=>simp at h1
theorem ZkE {ns:List String} (h:(ns.all fun n=>match P.globalNamed n with | some g=>(match (P.globals[g]?).map (·.type) with | some t=>(match P.underlying t with | some (.interface _)=>true | _=>false) | none=>true) | none=>true)=true) :
∀n,n∈ns→∀g t,P.globalNamed n=some g→(P.globals[g]?).map (·.type)=some t→∃ms,P.underlying t=some (.interface ms):=fun n hn g t hg ht=>by
 have h1:=List.all_eq_true.1 h n hn
 simp only [hg,ht] at h1
 split at h1
 ·exact ⟨_,by assumption⟩
 ·cases h1
theorem ZqX {ts:Array TypeId} (h:(ts.toList.all fun t=>!P.wantsStandIn t)=true) {j:Nat} {t:TypeId} (ht:ts[j]? = some t):P.wantsStandIn t=false:=by
 have:=List.all_eq_true.1 h t (by
  rw [← Array.getElem?_toList] at ht
  exact List.mem_of_getElem? ht)
 simpa using this
theorem ZjA {a:Assume} {C:Checked} {os:Os} {f:FuncId} {fn:Func} {s:ChangeSpec} {conds:List PathCond} {apart fresh handsOn again:Bool} {laid:List (String × DataW Unit)}
  (own:ownKnob C.prog.godebug=none) (started:os.Started) (hfn:C.prog.funcs[f]? = some fn)
  (witness :∃(w:World) (tape:Tape) (i:Input),w.os=os∧(w.forCall tape i).Shaped C.prog∧i.vars=[]∧Input.okWide C.prog (w.forCall tape i) .any w.heap.size f i∧
   ((s.pre enc C.prog fn conds apart (w.forCall tape i).memory i.args∧laidMetH C.prog laid (w.forCall tape i).memory)∧sizedMet enc C.prog fn (OpenSpec.ofChange s) apart (w.forCall tape i).memory i.args)∧a.holds C.prog (lone (Frame.enter C.prog f i.args .normal) [] (w.forCall tape i)))
  (runs :∀(W:World) (base:Nat) (args:Array Value) (ds gs:List (DataW H)) (before:List MemPlace),
   (∀(j:Nat) t v,fn.params[j]? = some t→args[j]? = some v→Value.okWide C.prog W .any base t v)→
   DataW.Whole enc C.prog fn.params.toList s.vars apart W args.toList ds gs before→
   (DataW.weightsEach C.prog (fn.params.toList ++ s.plain.varTypes C.prog) (ds ++ gs)).all (·≤reachBytes)=true→
   laidMetH C.prog laid W→
∃M last o w' t',runNT C.prog (M+1) (solo (G (Frame.enter C.prog f args .normal) []) W) #[]=(.ended o w',t')∧runN C.prog M (solo (G (Frame.enter C.prog f args .normal) []) W) = .next last∧
    step C.prog last = .ended o w'∧Conc.Good C.prog (fun v W'=>s.post enc C.prog fn apart fresh handsOn again W args v W') last o w' t') :
  ReturnsInLeavingWide a C os f .any (fun w args=>(s.pre enc C.prog fn conds apart w args∧laidMetH C.prog laid w)∧sizedMet enc C.prog fn (OpenSpec.ofChange s) apart w args) (s.post enc C.prog fn apart fresh handsOn again):=by
 refine returnsInLeavingWide_of_good own started witness ?_
 intro w tape i _ _ _ hok hpre hholds
 obtain ⟨_,_,_,fn',hfn',_,_,_,_,hval⟩:=hok
 have e:fn'=fn:=Option.some.inj (hfn'.symm.trans hfn)
 subst e
 obtain ⟨⟨⟨ds,gs,before,hw,hc⟩,hL⟩,hz⟩:=hpre
 have hw':=DataW.Whole.of_heap (w':=w.forCall tape i) (by rfl) hw
 have hL':=hL.of_heap (w':=w.forCall tape i) (by rfl)
 obtain ⟨M,last,o,w',t',h1,h2,h3,h4⟩:=runs (w.forCall tape i) w.heap.size i.args ds gs before hval hw' (hz.weights hw) hL'
 exact ⟨M,last,o,w',t',h1,h2,h3,h4.mono fun v hp=>ChangeSpec.post_blind hp⟩
theorem ZpI {n0 n1 n2 n3 nm:String} {x0 x1 x2 x3:List UInt8} {r:List (String × DataW Unit)} {W:World} {k0 k1 k2 k3:Nat} {ti tp te ts:TypeId} {ms:Array (String × TypeId)} {f:Field}
  (h:laidMet P ((n0,.iface nm (.ptr (.agg [.lit (.string x0)]))) :: (n1,.iface nm (.ptr (.agg [.lit (.string x1)]))) :: (n2,.iface nm (.ptr (.agg [.lit (.string x2)]))) :: (n3,.iface nm (.ptr (.agg [.lit (.string x3)]))) :: r) W)
  (hg0:P.globalNamed n0=some k0) (hg1:P.globalNamed n1=some k1) (hg2:P.globalNamed n2=some k2) (hg3:P.globalNamed n3=some k3) (hy0:(P.globals[k0]?).map (·.type)=some ti) (hy1:(P.globals[k1]?).map (·.type)=some ti) (hy2:(P.globals[k2]?).map (·.type)=some ti) (hy3:(P.globals[k3]?).map (·.type)=some ti)
  (hi:P.underlying ti=some (.interface ms)) (hrow :∀u,P.typeName? 3 u=some nm→u=tp)
  (hp:P.underlying tp=some (.pointer te)) (he:P.underlying te=some (.struct #[f])) (hft:f.type=ts) (hfo:f.offset=0) (hs:P.underlying ts=some .string) (hc:P.cellsOf te=1) (hcs:P.cellsOf ts=1) :
∃a:Nat→Addr,ErrsB tp [k0,k1,k2,k3] (ZaH W) a:=by
 obtain ⟨ps,⟨g0,t0,cs0,f0,p0,q0,hg0',ht0',hv0,hd0,⟨g1,t1,cs1,f1,p1,q1,hg1',ht1',hv1,hd1,⟨g2,t2,cs2,f2,p2,q2,hg2',ht2',hv2,hd2,⟨g3,t3,cs3,f3,p3,q3,hg3',ht3',hv3,hd3,_,e3⟩,e2⟩,e1⟩,e0⟩,hnd,hrows⟩:=h
 obtain rfl:=Option.some.inj (hg0.symm.trans hg0')
 obtain rfl:=Option.some.inj (hg1.symm.trans hg1')
 obtain rfl:=Option.some.inj (hg2.symm.trans hg2')
 obtain rfl:=Option.some.inj (hg3.symm.trans hg3')
 obtain rfl:=Option.some.inj (hy0.symm.trans ht0')
 obtain rfl:=Option.some.inj (hy1.symm.trans ht1')
 obtain rfl:=Option.some.inj (hy2.symm.trans ht2')
 obtain rfl:=Option.some.inj (hy3.symm.trans ht3')
 subst e3
 subst e2
 subst e1
 subst e0
 obtain ⟨l0⟩:=cs0
 obtain ⟨l1⟩:=cs1
 obtain ⟨l2⟩:=cs2
 obtain ⟨l3⟩:=cs3
 have ok0 :∀u v,l0=[.iface u v]→Value.okWide P W .any 0 u v:=fun u v e=>by
  subst e
  exact (hrows k0 0 (by simp [MemPlace.row])).2 u v (by simpa using World.var?_cell hg0' hv0 0)
 have ok1 :∀u v,l1=[.iface u v]→Value.okWide P W .any 0 u v:=fun u v e=>by
  subst e
  exact (hrows k1 0 (by simp [MemPlace.row])).2 u v (by simpa using World.var?_cell hg1' hv1 0)
 have ok2 :∀u v,l2=[.iface u v]→Value.okWide P W .any 0 u v:=fun u v e=>by
  subst e
  exact (hrows k2 0 (by simp [MemPlace.row])).2 u v (by simpa using World.var?_cell hg2' hv2 0)
 have ok3 :∀u v,l3=[.iface u v]→Value.okWide P W .any 0 u v:=fun u v e=>by
  subst e
  exact (hrows k3 0 (by simp [MemPlace.row])).2 u v (by simpa using World.var?_cell hg3' hv3 0)
 obtain ⟨a0,s0,rfl,hc0,hs0,hz0,rfl⟩:=errorString_of_trod hi hrow hp he hft hfo hs hc hcs hd0 ok0
 obtain ⟨a1,s1,rfl,hc1,hs1,hz1,rfl⟩:=errorString_of_trod hi hrow hp he hft hfo hs hc hcs hd1 ok1
 obtain ⟨a2,s2,rfl,hc2,hs2,hz2,rfl⟩:=errorString_of_trod hi hrow hp he hft hfo hs hc hcs hd2 ok2
 obtain ⟨a3,s3,rfl,hc3,hs3,hz3,rfl⟩:=errorString_of_trod hi hrow hp he hft hfo hs hc hcs hd3 ok3
 have b0:=(hrows a0.block a0.off (by simp [MemPlace.row])).1
 have b1:=(hrows a1.block a1.off (by simp [MemPlace.row])).1
 have b2:=(hrows a2.block a2.off (by simp [MemPlace.row])).1
 have b3:=(hrows a3.block a3.off (by simp [MemPlace.row])).1
 have row :∀(g:Nat) (v:Value) (n:String),P.globalNamed n=some g→W.var? P n=some #[v]→Zai (ZaH W) g 0 [v]:=fun g v n hg hv L j u hj=>by
  cases j with
  | zero=>
   simp only [List.getElem?_cons_zero,Option.some.injEq] at hj
   subst hj
   have:=Zhp (by simpa using World.var?_cell hg hv 0:W.cell? ⟨g,0,none⟩=some v)
   obtain ⟨h1,cs,T,fr,h2,h3⟩:=this
   exact ⟨h1,cs,T,fr,h2.elim .inl (fun h=>by cases h),h3⟩
  | succ j=>simp at hj
 refine ⟨fun k=>if k=0 then a0 else if k=1 then a1 else if k=2 then a2 else a3,fun k hk=>?_,fun k hk=>?_,fun i j hi' hj' hne=>?_⟩
 ·match k,hk with
  | 0,_=>exact row k0 _ _ hg0 hv0
  | 1,_=>exact row k1 _ _ hg1 hv1
  | 2,_=>exact row k2 _ _ hg2 hv2
  | 3,_=>exact row k3 _ _ hg3 hv3
 ·match k,hk with
  | 0,_=>exact b0
  | 1,_=>exact b1
  | 2,_=>exact b2
  | 3,_=>exact b3
 ·have h01:a0≠a1:=by rintro rfl;simp [MemPlace.row] at hnd
  have h02:a0≠a2:=by rintro rfl;simp [MemPlace.row] at hnd
  have h03:a0≠a3:=by rintro rfl;simp [MemPlace.row] at hnd
  have h12:a1≠a2:=by rintro rfl;simp [MemPlace.row] at hnd
  have h13:a1≠a3:=by rintro rfl;simp [MemPlace.row] at hnd
  have h23:a2≠a3:=by rintro rfl;simp [MemPlace.row] at hnd
  match i,j,hi',hj',hne with
  | 0,1,_,_,_=>exact h01
  | 0,2,_,_,_=>exact h02
  | 0,3,_,_,_=>exact h03
  | 1,0,_,_,_=>exact h01.symm
  | 1,2,_,_,_=>exact h12
  | 1,3,_,_,_=>exact h13
  | 2,0,_,_,_=>exact h02.symm
  | 2,1,_,_,_=>exact h12.symm
  | 2,3,_,_,_=>exact h23
  | 3,0,_,_,_=>exact h03.symm
  | 3,1,_,_,_=>exact h13.symm
  | 3,2,_,_,_=>exact h23.symm
  | 0,0,_,_,h=>exact (h rfl).elim
  | 1,1,_,_,h=>exact (h rfl).elim
  | 2,2,_,_,h=>exact (h rfl).elim
  | 3,3,_,_,h=>exact (h rfl).elim
end
theorem Zp6 (Lk:Looks) {p:Pinned} {s:OpenSpec} {c:OpenClaim} (kinds:List LaidKind) (tests:Bool) (har:Bool × String) (lk:Bool)
  (hc:c.holds p s) (hw:c.wfByText s=true) (htie:c.laidByTextAt Lk p kinds tests)
  (hst:c.start = .entering) (hnb:c.noBlocks=false∧c.again=false) (hm:p.checked.prog.mainIs=some (har.1,har.2.toList)) (hn:(!har.1 && har.2.isEmpty && !lk)=false)
  (hl :∀f fn,p.checked.prog.funcNamed c.func=some f→p.checked.prog.funcs[f]? = some fn→lk=p.checked.prog.looks []∧∀(j:Nat) t,fn.params[j]? = some t→p.checked.prog.wantsStandIn t=false)
  (hg:true=c.goesBy p.checked.prog) :
  Claim7.holds p (.plain s) { stood:={ row:=c,standIns:=[],harness:=har,looks:=lk },kinds:=[],alts:=[],goes:=true,laidByText:=true,laidKinds:=kinds,laidTests:=tests,laidLooks:=Lk }:=by
 have h6 :∀r:OpenClaim,Claim7.isSixth { stood:={ row:=r,standIns:=[],harness:=har,looks:=lk },kinds:=[] } = false:=fun r=>by simpa [Claim7.isSixth] using hn
 refine ⟨Claim7.tied_new_at Lk kinds tests (Claim7.new_of_sixth hc har lk hst hnb hm (h6 c) hl) hw,(fun D hD=>by cases hD),htie,(fun h=>by cases h),hg⟩
end Go.BL
namespace Go.BL
open Go.Conc (G)
section
variable {P:PJ} {n:Nat} {ops:Array Oper} {i:Nat} {K:Zaz} {S:Env} {D:List Deferred} {B:Kn} {L:List Cells}
variable {dst:Option Tmp} {ty:TypeId} {pos:String} {after:Array Edge} {g:Option (Nat × Bool)}
theorem Zs0 {f:FuncId} {x:Operand} {cap:Array Value} {xs:List Operand} {vs:List Value} {ats:Array TypeId} {Post:Value→Kn→List Cells→Prop} (js:List Nat) {ss r:List Cells} (hp:Zaw L js=some (ss,r)) (hn:Zea js=true) (hg:Zj ops S g=some true) (hd:Zr n dst=true) (he:enters P f=true) (hx:ev S x=some (.func (.func f) #[] cap)) (ha:evs S xs=some vs) (hc:Zx P f (vs ++ cap.toList) B ss Post)
  (h :∀v B' Ls',B.le B'→Post v B' Ls'→K v D B' (Zce r js Ls')):opX P n ops i ⟨dst,.call ⟨.value x,xs.toArray,ats⟩,ty,pos,after,g⟩ K S D B L:=
 Zdi (o:=⟨dst,.call ⟨.value x,xs.toArray,ats⟩,ty,pos,after,g⟩) (vs:=vs ++ cap.toList) hg (fun ρ hρ Q F q=>by
   have:=ZdQ (P:=P) (B:=B) (L:=L) (dst:=dst) (ty:=ty) (pos:=pos) (after:=after) (g:=g) (x:=x) (first:=#[]) (cap:=cap) (ats:=ats) he hx ha ρ hρ Q F
   exact this (by simpa using q)) hd (Ls:=ss) (Lk:=r) (Zaf js L ss r hp) hc
  fun v' B' Ls' hle hq=>⟨Zce r js Ls',ZbZ Ls' r js (Zb1 hn) (fun j hj=>Zb0 js L ss r hp j (.inr hj)),h v' B' Ls' hle hq⟩
end
theorem ZyV {B:Kn} {ls:List Cells} {b:Nat} {row:List Value} {T:TypeId} (k:Nat) (hk:ls[k]? = some (ZN b row T)) (hm :∀q,q∈ls.flatten→(B.add ls.flatten).mem q.1=some q.2):Zai (B.add ls.flatten) b 0 row:=Za4 (ZoY hm k hk)
end Go.BL
namespace Go.BL
open Go.Conc (G)
end Go.BL
namespace Go.BL
section
variable {P:PJ} {n:Nat} {ops:Array Oper} {i:Nat} {K:Zaz} {S:Env} {D:List Deferred} {B:Kn} {L:List Cells}
variable {dst:Option Tmp} {ty:TypeId} {pos:String} {after:Array Edge} {g:Option (Nat × Bool)}
theorem ZlN {x y:Operand} {ats:Array TypeId} {a b:Int} {k k':IntKind} (hg:Zj ops S g=some true) (hd:Zr n dst=true) (hx:ev S x=some (.int k a)) (hy:ev S y=some (.int k' b)) (h:K (.int k (max a b)) D B L):opX P n ops i ⟨dst,.call ⟨.builtin .max,#[x,y],ats⟩,ty,pos,after,g⟩ K S D B L:=
 ZD hg hd (fun ρ hρ Q F q=>by
  have e:(if b > a then b else a)=max a b:=by rw [Int.max_def];split <;> split <;> omega
  simp only [execOp,resolve,Zi,Zo,invoke,builtin,Builtin.max_,List.map_toArray,List.map_cons,List.map_nil,hρ x _ hx,hρ y _ hy,List.foldlM_cons,List.foldlM_nil,Builtin.max2,e]
  exact q) h
theorem Zfg {x y:Operand} {ats:Array TypeId} {a b:Int} {k k':IntKind} (hg:Zj ops S g=some true) (hd:Zr n dst=true) (hx:ev S x=some (.int k a)) (hy:ev S y=some (.int k' b)) (h:K (.int k (min a b)) D B L):opX P n ops i ⟨dst,.call ⟨.builtin .min,#[x,y],ats⟩,ty,pos,after,g⟩ K S D B L:=
 ZD hg hd (fun ρ hρ Q F q=>by
  have e:(if b<a then b else a)=min a b:=by rw [Int.min_def];split <;> split <;> omega
  simp only [execOp,resolve,Zi,Zo,invoke,builtin,Builtin.min_,List.map_toArray,List.map_cons,List.map_nil,hρ x _ hx,hρ y _ hy,List.foldlM_cons,List.foldlM_nil,Builtin.min2,e]
  exact q) h
end
end Go.BL
namespace Go.BL
section
variable {P:PJ} {n:Nat} {ops:Array Oper} {i:Nat} {K:Zaz} {S:Env} {D:List Deferred} {B:Kn} {L:List Cells}
variable {dst:Option Tmp} {ty:TypeId} {pos:String} {after:Array Edge} {g:Option (Nat × Bool)}
variable {α:Type} {R:Rel α} {xs:List α}
end
end Go.BL
namespace Go.BL
theorem Znz {P:PJ} {n:Nat} {Q:Exit→Z8} {S:Env} {D:List Deferred} {B:Kn} {L:List Cells} {c:Code} (L':List Cells) (hl:L=L') (h:wpS P n c Q S D B L'):wpS P n c Q S D B L:=by subst hl;exact h
theorem sQ:(∀(p:Prop) [Decidable p],(decide p=true)=p)∧(∀(p:Prop) [Decidable p],(decide p=false) = ¬p)∧(∀b:Bool,((!b)=true)=(b=false))∧(∀b:Bool,((!b)=false)=(b=true))∧(∀(p:Prop) [Decidable p],(decide (¬p)) = !decide p)∧(∀(p:Prop) [Decidable p],(¬¬p)=p)∧(∀a b:Int,(¬a<b)=(b≤a))∧(∀a b:Int,(¬a≤b)=(b<a)):=
 ⟨fun p _=>by simp,fun p _=>by simp,by simp,by simp,fun p _=>by simp,fun p _=>by simp,by simp,by simp⟩
end Go.BL
namespace Go.BL
def orI (a b:Int):Int:=IntKind.i64.wrap (BitVec.ofInt 64 a ||| BitVec.ofInt 64 b).toNat
def ZvR (a b:Int):Int:=IntKind.i64.wrap (BitVec.ofInt 64 a &&& BitVec.ofInt 64 b).toNat
section
variable {P:PJ} {n:Nat} {ops:Array Oper} {i:Nat} {K:Zaz} {S:Env} {D:List Deferred} {B:Kn} {L:List Cells}
variable {dst:Option Tmp} {ty:TypeId} {pos:String} {after:Array Edge} {g:Option (Nat × Bool)}
theorem ZlO {t kt et:TypeId} {x y:Operand} {b:Nat} {l:Cells} {kvs:KV} {k:List UInt8} (j:Nat) (hj:L[j]? = some l) (hl:Zue l b kvs) (hg:Zj ops S g=some true) (hd:Zr n dst=true) (hu:P.underlying t=some (.map kt et)) (hk:P.underlying kt=some .string)
  (hz:Z3 P et=some (.int .i64 0)) (hx:ev S x=some (.map (some b))) (hy:ev S y=some (str k)) (h:K (.int .i64 ((mget kvs k).getD 0)) D B L):opX P n ops i ⟨dst,.lookup t x y false,ty,pos,after,g⟩ K S D B L:=
 Zdh hg hd fun ρ hρ F=>by
  obtain ⟨es,clock,rfl,ok⟩:=hl
  have hin:(b,Obj.map es clock)∈L.flatten ++ F:=by
   rw [((ZS F [] hj).choose_spec.1).mem_iff];simp
  simp only [execOp,Instr.lookup,hρ x _ hx,hρ y _ hy,Zi,Zp hu]
  refine ⟨_,.inr hin,rfl,rfl,?_⟩
  simp only [ZaV,Zi,Zo]
  refine Zhc hk ?_
  rw [Zi]
  refine Zh2 hk ok.ent ?_
  cases hm:mlook kvs k 0 with
  | none=>
   obtain ⟨_,_,_,m4⟩:=ZfR hm
   simp only [Za5 hz,Zo,Zi,Zpd,Bool.false_eq_true,if_false]
   rw [m4] at h
   exact ⟨L,.of (List.Perm.refl _),h⟩
  | some p=>
   obtain ⟨jj,u⟩:=p
   obtain ⟨m,w,rfl,rfl,m3,m4,_,m6⟩:=ZfQ hm
   simp only [Zo,Zi,Bool.false_eq_true,if_false]
   rw [m6] at h
   exact ⟨L,.of (List.Perm.refl _),h⟩
section
variable {t u:TypeId} {x y:Operand} {a b r:Int}
theorem Zwm (hg:Zj ops S g=some true) (hd:Zr n dst=true) (hx:ev S x=some (.int .i64 a)) (hy:ev S y=some (.int .i64 b)) (h:K (.int .i64 (orI a b)) D B L):opX P n ops i ⟨dst,.binOp .or t x y u,ty,pos,after,g⟩ K S D B L:=
 ZD hg hd (fun ρ hρ Q F q=>by
  simp only [execOp,hρ x _ hx,hρ y _ hy,Zi,Z5,binOp,ne_eq,not_true_eq_false,if_false,Op.intBits,Zo];exact q) h
theorem ZuH (hg:Zj ops S g=some true) (hd:Zr n dst=true) (hx:ev S x=some (.int .i64 a)) (hy:ev S y=some (.int .i64 b)) (h:K (.int .i64 (ZvR a b)) D B L):opX P n ops i ⟨dst,.binOp .and t x y u,ty,pos,after,g⟩ K S D B L:=
 ZD hg hd (fun ρ hρ Q F q=>by
  simp only [execOp,hρ x _ hx,hρ y _ hy,Zi,Z5,binOp,ne_eq,not_true_eq_false,if_false,Op.intBits,Zo];exact q) h
end
end
end Go.BL
namespace Go.BL
theorem om {p:Prop} (h:p:=by first | omega | (simp;done) | (simp;omega)):p:=h
theorem om2 {p:Prop} (h:p:=by first | assumption | omega | (simp;done) | (simp;omega)):p:=h
theorem oz {p:Prop} (h:p:=by omega):p:=h
theorem kr {p:Prop} (h:p:=by kernel_rfl):p:=h
theorem so {p:Prop} (h:p:=by simp only [];omega):p:=h
theorem so2 {p:Prop} (h:p:=by first | omega | (simp only [];omega)):p:=h
theorem oa {p:Prop} (h:p:=by first | assumption | omega):p:=h
theorem oy {p:Prop} (h:p:=by assumption):p:=h
theorem om3 {p:Prop} (h:p:=by first | omega | decide | (simp;done) | (simp;omega)):p:=h
theorem t1 {α0:Sort _} {a0:α0} : a0=a0∧True:=⟨rfl,trivial⟩
theorem t2 {α0 α1:Sort _} {a0:α0} {a1:α1} : a0=a0∧a1=a1∧True:=⟨rfl,rfl,trivial⟩
theorem t3 {α0 α1 α2:Sort _} {a0:α0} {a1:α1} {a2:α2} : a0=a0∧a1=a1∧a2=a2∧True:=⟨rfl,rfl,rfl,trivial⟩
theorem t4 {α0 α1 α2 α3:Sort _} {a0:α0} {a1:α1} {a2:α2} {a3:α3} : a0=a0∧a1=a1∧a2=a2∧a3=a3∧True:=⟨rfl,rfl,rfl,rfl,trivial⟩
theorem t5 {α0 α1 α2 α3 α4:Sort _} {a0:α0} {a1:α1} {a2:α2} {a3:α3} {a4:α4} : a0=a0∧a1=a1∧a2=a2∧a3=a3∧a4=a4∧True:=⟨rfl,rfl,rfl,rfl,rfl,trivial⟩
theorem t6 {α0 α1 α2 α3 α4 α5:Sort _} {a0:α0} {a1:α1} {a2:α2} {a3:α3} {a4:α4} {a5:α5} : a0=a0∧a1=a1∧a2=a2∧a3=a3∧a4=a4∧a5=a5∧True:=⟨rfl,rfl,rfl,rfl,rfl,rfl,trivial⟩
theorem t7 {α0 α1 α2 α3 α4 α5 α6:Sort _} {a0:α0} {a1:α1} {a2:α2} {a3:α3} {a4:α4} {a5:α5} {a6:α6} : a0=a0∧a1=a1∧a2=a2∧a3=a3∧a4=a4∧a5=a5∧a6=a6∧True:=⟨rfl,rfl,rfl,rfl,rfl,rfl,rfl,trivial⟩
theorem t8 {α0 α1 α2 α3 α4 α5 α6 α7:Sort _} {a0:α0} {a1:α1} {a2:α2} {a3:α3} {a4:α4} {a5:α5} {a6:α6} {a7:α7} : a0=a0∧a1=a1∧a2=a2∧a3=a3∧a4=a4∧a5=a5∧a6=a6∧a7=a7∧True:=⟨rfl,rfl,rfl,rfl,rfl,rfl,rfl,rfl,trivial⟩
theorem t9 {α0 α1 α2 α3 α4 α5 α6 α7 α8:Sort _} {a0:α0} {a1:α1} {a2:α2} {a3:α3} {a4:α4} {a5:α5} {a6:α6} {a7:α7} {a8:α8} : a0=a0∧a1=a1∧a2=a2∧a3=a3∧a4=a4∧a5=a5∧a6=a6∧a7=a7∧a8=a8∧True:=⟨rfl,rfl,rfl,rfl,rfl,rfl,rfl,rfl,rfl,trivial⟩
theorem t10 {α0 α1 α2 α3 α4 α5 α6 α7 α8 α9:Sort _} {a0:α0} {a1:α1} {a2:α2} {a3:α3} {a4:α4} {a5:α5} {a6:α6} {a7:α7} {a8:α8} {a9:α9} : a0=a0∧a1=a1∧a2=a2∧a3=a3∧a4=a4∧a5=a5∧a6=a6∧a7=a7∧a8=a8∧a9=a9∧True:=⟨rfl,rfl,rfl,rfl,rfl,rfl,rfl,rfl,rfl,rfl,trivial⟩
theorem t11 {α0 α1 α2 α3 α4 α5 α6 α7 α8 α9 α10:Sort _} {a0:α0} {a1:α1} {a2:α2} {a3:α3} {a4:α4} {a5:α5} {a6:α6} {a7:α7} {a8:α8} {a9:α9} {a10:α10} : a0=a0∧a1=a1∧a2=a2∧a3=a3∧a4=a4∧a5=a5∧a6=a6∧a7=a7∧a8=a8∧a9=a9∧a10=a10∧True:=⟨rfl,rfl,rfl,rfl,rfl,rfl,rfl,rfl,rfl,rfl,rfl,trivial⟩
theorem t12 {α0 α1 α2 α3 α4 α5 α6 α7 α8 α9 α10 α11:Sort _} {a0:α0} {a1:α1} {a2:α2} {a3:α3} {a4:α4} {a5:α5} {a6:α6} {a7:α7} {a8:α8} {a9:α9} {a10:α10} {a11:α11} : a0=a0∧a1=a1∧a2=a2∧a3=a3∧a4=a4∧a5=a5∧a6=a6∧a7=a7∧a8=a8∧a9=a9∧a10=a10∧a11=a11∧True:=⟨rfl,rfl,rfl,rfl,rfl,rfl,rfl,rfl,rfl,rfl,rfl,rfl,trivial⟩
theorem t14 {α0 α1 α2 α3 α4 α5 α6 α7 α8 α9 α10 α11 α12 α13:Sort _} {a0:α0} {a1:α1} {a2:α2} {a3:α3} {a4:α4} {a5:α5} {a6:α6} {a7:α7} {a8:α8} {a9:α9} {a10:α10} {a11:α11} {a12:α12} {a13:α13} : a0=a0∧a1=a1∧a2=a2∧a3=a3∧a4=a4∧a5=a5∧a6=a6∧a7=a7∧a8=a8∧a9=a9∧a10=a10∧a11=a11∧a12=a12∧a13=a13∧True:=⟨rfl,rfl,rfl,rfl,rfl,rfl,rfl,rfl,rfl,rfl,rfl,rfl,rfl,rfl,trivial⟩
theorem t15 {α0 α1 α2 α3 α4 α5 α6 α7 α8 α9 α10 α11 α12 α13 α14:Sort _} {a0:α0} {a1:α1} {a2:α2} {a3:α3} {a4:α4} {a5:α5} {a6:α6} {a7:α7} {a8:α8} {a9:α9} {a10:α10} {a11:α11} {a12:α12} {a13:α13} {a14:α14} : a0=a0∧a1=a1∧a2=a2∧a3=a3∧a4=a4∧a5=a5∧a6=a6∧a7=a7∧a8=a8∧a9=a9∧a10=a10∧a11=a11∧a12=a12∧a13=a13∧a14=a14∧True:=⟨rfl,rfl,rfl,rfl,rfl,rfl,rfl,rfl,rfl,rfl,rfl,rfl,rfl,rfl,rfl,trivial⟩
section
variable {P:PJ} {n:Nat} {ops:Array Oper} {i:Nat} {K:Z8} {S:Env} {D:List Deferred} {B:Kn} {L:List Cells}
variable {dst:Option Tmp} {ty:TypeId} {pos:String} {after:Array Edge} {g:Option (Nat × Bool)} {t u:TypeId} {x y:Operand}
theorem xM {x:Operand} {v:Value} (hg:Zj ops S g=some true:=by exact rfl) (hd:Zr n dst=true:=by exact rfl) (hx:ev S x=some v:=by exact rfl) (h:K (Zbd S dst v) D B L):opW P n ops i ⟨dst,.move x,ty,pos,after,g⟩ K S D B L:=Zk (Zbf hg hd hx h)
theorem xA {x:Operand} {v:Value} (hg:Zj ops S g=some true:=by exact rfl) (hd:Zr n dst=true:=by exact rfl) (hx:ev S x=some v:=by exact rfl) (h:K (Zbd S dst v) D B L):opW P n ops i ⟨dst,.assign x,ty,pos,after,g⟩ K S D B L:=Zk (Zbo hg hd hx h)
theorem xP  {dst:Option Tmp} {op:Op} {t:TypeId} {pos:String} {after:Array Edge} {g:Option (Nat × Bool)}   (hg:Zj ops S g=some false:=by exact rfl) (hd:Zr n dst=true:=by exact rfl) (h:K (Zbd S dst undef) D B L):opW P n ops i ⟨dst,op,t,pos,after,g⟩ K S D B L:=Zk (Zsm  hg hd h)
theorem xT  {c:Operand} {a:Operand} {b:Operand} {v:Value}   (hg:Zj ops S g=some true:=by exact rfl) (hd:Zr n dst=true:=by exact rfl) (hc:ev S c=some (.bool true):=by exact rfl) (hx:ev S a=some v:=by exact rfl) (h:K (Zbd S dst v) D B L):opW P n ops i ⟨dst,.pick c a b,ty,pos,after,g⟩ K S D B L:=Zk (ZnO  hg hd hc hx h)
theorem xF  {c:Operand} {a:Operand} {b:Operand} {v:Value}   (hg:Zj ops S g=some true:=by exact rfl) (hd:Zr n dst=true:=by exact rfl) (hc:ev S c=some (.bool false):=by exact rfl) (hx:ev S b=some v:=by exact rfl) (h:K (Zbd S dst v) D B L):opW P n ops i ⟨dst,.pick c a b,ty,pos,after,g⟩ K S D B L:=Zk (ZnP  hg hd hc hx h)
theorem xE  {x:Operand} {ix:Nat} {vs:List Value} {v:Value}   (hg:Zj ops S g=some true:=by exact rfl) (hd:Zr n dst=true:=by exact rfl) (hx:ev S x=some (.tuple vs.toArray):=by exact rfl) (hi:vs[ix]? = some v:=by exact rfl) (h:K (Zbd S dst v) D B L):opW P n ops i ⟨dst,.extract x ix,ty,pos,after,g⟩ K S D B L:=Zk (Zjf  hg hd hx hi h)
theorem xN  {x:Operand} {b:Bool} {t:TypeId}   (hg:Zj ops S g=some true:=by exact rfl) (hd:Zr n dst=true:=by exact rfl) (hx:ev S x=some (.bool b):=by exact rfl) (h:K (Zbd S dst (.bool (!b))) D B L):opW P n ops i ⟨dst,.unOp .not t x,ty,pos,after,g⟩ K S D B L:=Zk (Zuq  hg hd hx h)
theorem xW  {s:TypeId} {x:Operand} {fi:Nat} {off:Nat} {a:Addr}  (hf:Zq P s fi=some off) (hg:Zj ops S g=some true:=by exact rfl) (hd:Zr n dst=true:=by exact rfl) (hx:ev S x=some (ptr a):=by exact rfl) (h:K (Zbd S dst (ptr (a.add off))) D B L):opW P n ops i ⟨dst,.fieldAddr s x fi,ty,pos,after,g⟩ K S D B L:=Zk (Zae  hg hd hf hx h)
theorem xD  {k:IntKind} {a b r:Int}   (hg:Zj ops S g=some true:=by exact rfl) (hd:Zr n dst=true:=by exact rfl) (hx:ev S x=some (.int k a):=by exact rfl) (hy:ev S y=some (.int k b):=by exact rfl) (hr:k.wrap (a+b)=r:=by first | exact ZbP (by first | omega | (simp;done) | (simp;omega)) (by first | omega | (simp;done) | (simp;omega)) | exact rfl) (h:K (Zbd S dst (.int k r)) D B L):opW P n ops i ⟨dst,.binOp .add t x y u,ty,pos,after,g⟩ K S D B L:=Zk (ZfG  hg hd hx hy hr h)
theorem xU  {k:IntKind} {a b r:Int}   (hg:Zj ops S g=some true:=by exact rfl) (hd:Zr n dst=true:=by exact rfl) (hx:ev S x=some (.int k a):=by exact rfl) (hy:ev S y=some (.int k b):=by exact rfl) (hr:k.wrap (a - b)=r:=by first | exact ZbP (by first | omega | (simp;done) | (simp;omega)) (by first | omega | (simp;done) | (simp;omega)) | exact rfl) (h:K (Zbd S dst (.int k r)) D B L):opW P n ops i ⟨dst,.binOp .sub t x y u,ty,pos,after,g⟩ K S D B L:=Zk (Zii  hg hd hx hy hr h)
theorem ZB  {k:IntKind} {a b:Int}   (hg:Zj ops S g=some true:=by exact rfl) (hd:Zr n dst=true:=by exact rfl) (hx:ev S x=some (.int k a):=by exact rfl) (hy:ev S y=some (.int k b):=by exact rfl) (h:K (Zbd S dst (.bool (decide (a<b)))) D B L):opW P n ops i ⟨dst,.binOp .lss t x y u,ty,pos,after,g⟩ K S D B L:=Zk (Zuu  hg hd hx hy h)
theorem Zbs  {k:IntKind} {a b:Int}   (hg:Zj ops S g=some true:=by exact rfl) (hd:Zr n dst=true:=by exact rfl) (hx:ev S x=some (.int k a):=by exact rfl) (hy:ev S y=some (.int k b):=by exact rfl) (h:K (Zbd S dst (.bool (decide (a≤b)))) D B L):opW P n ops i ⟨dst,.binOp .leq t x y u,ty,pos,after,g⟩ K S D B L:=Zk (Zuv  hg hd hx hy h)
theorem Zd4  {k:IntKind} {a b:Int}   (hg:Zj ops S g=some true:=by exact rfl) (hd:Zr n dst=true:=by exact rfl) (hx:ev S x=some (.int k a):=by exact rfl) (hy:ev S y=some (.int k b):=by exact rfl) (h:K (Zbd S dst (.bool (decide (b<a)))) D B L):opW P n ops i ⟨dst,.binOp .gtr t x y u,ty,pos,after,g⟩ K S D B L:=Zk (Zuz  hg hd hx hy h)
theorem ZdY  {k:IntKind} {a b:Int}   (hg:Zj ops S g=some true:=by exact rfl) (hd:Zr n dst=true:=by exact rfl) (hx:ev S x=some (.int k a):=by exact rfl) (hy:ev S y=some (.int k b):=by exact rfl) (h:K (Zbd S dst (.bool (decide (b≤a)))) D B L):opW P n ops i ⟨dst,.binOp .geq t x y u,ty,pos,after,g⟩ K S D B L:=Zk (ZuA  hg hd hx hy h)
theorem ZgI  {k:IntKind} {a b:Int}   (hg:Zj ops S g=some true:=by exact rfl) (hd:Zr n dst=true:=by exact rfl) (hx:ev S x=some (.int k a):=by exact rfl) (hy:ev S y=some (.int k b):=by exact rfl) (h:K (Zbd S dst (.bool (decide (a=b)))) D B L):opW P n ops i ⟨dst,.binOp .eql t x y u,ty,pos,after,g⟩ K S D B L:=Zk (Zst  hg hd hx hy h)
theorem Zar  {k:IntKind} {a b:Int}   (hg:Zj ops S g=some true:=by exact rfl) (hd:Zr n dst=true:=by exact rfl) (hx:ev S x=some (.int k a):=by exact rfl) (hy:ev S y=some (.int k b):=by exact rfl) (h:K (Zbd S dst (.bool (decide (a≠b)))) D B L):opW P n ops i ⟨dst,.binOp .neq t x y u,ty,pos,after,g⟩ K S D B L:=Zk (ZnQ  hg hd hx hy h)
theorem Zdc  {a b:List UInt8}   (hg:Zj ops S g=some true:=by exact rfl) (hd:Zr n dst=true:=by exact rfl) (hx:ev S x=some (str a):=by exact rfl) (hy:ev S y=some (str b):=by exact rfl) (h:K (Zbd S dst (.bool (decide (a=b)))) D B L):opW P n ops i ⟨dst,.binOp .eql t x y u,ty,pos,after,g⟩ K S D B L:=Zk (Zss  hg hd hx hy h)
theorem Zd3  {a b:List UInt8}   (hg:Zj ops S g=some true:=by exact rfl) (hd:Zr n dst=true:=by exact rfl) (hx:ev S x=some (str a):=by exact rfl) (hy:ev S y=some (str b):=by exact rfl) (h:K (Zbd S dst (.bool (decide (a≠b)))) D B L):opW P n ops i ⟨dst,.binOp .neq t x y u,ty,pos,after,g⟩ K S D B L:=Zk (Zsn  hg hd hx hy h)
theorem Zsj  {a b:List UInt8}   (hg:Zj ops S g=some true:=by exact rfl) (hd:Zr n dst=true:=by exact rfl) (hx:ev S x=some (str a):=by exact rfl) (hy:ev S y=some (str b):=by exact rfl) (h:K (Zbd S dst (.bool (Op.bytesLess a b))) D B L):opW P n ops i ⟨dst,.binOp .lss t x y u,ty,pos,after,g⟩ K S D B L:=Zk (Zut  hg hd hx hy h)
theorem xV  {x:Operand} {t:TypeId} {e:TypeId} {p:Option Addr} {len:Nat} {cap:Nat}  (hu:P.underlying t=some (.slice e)) (hg:Zj ops S g=some true:=by exact rfl) (hd:Zr n dst=true:=by exact rfl) (hx:ev S x=some (.slice p len cap):=by exact rfl) (h:K (Zbd S dst (.int .i64 len)) D B L):opW P n ops i ⟨dst,.call ⟨.builtin .len,#[x],#[t]⟩,ty,pos,after,g⟩ K S D B L:=Zk (Zuw  hg hd hu hx h)
theorem xVs  {x:Operand} {t:TypeId} {l:List UInt8}  (hu:P.underlying t=some .string) (hg:Zj ops S g=some true:=by exact rfl) (hd:Zr n dst=true:=by exact rfl) (hx:ev S x=some (str l):=by exact rfl) (h:K (Zbd S dst (.int .i64 l.length)) D B L):opW P n ops i ⟨dst,.call ⟨.builtin .len,#[x],#[t]⟩,ty,pos,after,g⟩ K S D B L:=Zk (Zsq  hg hd hu hx h)
theorem xNc  {x:Operand} {a:Addr}   (hg:Zj ops S g=some true:=by exact rfl) (hd:Zr n dst=true:=by exact rfl) (hx:ev S x=some (.pointer (some a)):=by exact rfl) (h:K (Zbd S dst (.pointer (some a))) D B L):opW P n ops i ⟨dst,.nilCheck x,ty,pos,after,g⟩ K S D B L:=Zk (Zau  hg hd hx h)
theorem x1  {t:TypeId} {x:Operand} {a:Addr} {v:Value} {l:List Value} {T:TypeId} {fr:Nat × Nat} {r:Cells}  (hl:lk P t=some none) (j:Nat) (hg:Zj ops S g=some true:=by exact rfl) (hd:Zr n dst=true:=by exact rfl) (hx:ev S x=some (ptr a):=by exact rfl) (hj:L[j]? = some ((a.block,.cells l.toArray T fr) :: r):=by exact rfl) (hs:a.spot=none:=by exact rfl) (hv:l[a.off]? = some v:=by exact rfl) (h:K (Zbd S dst v) D B L):opW P n ops i ⟨dst,.load t x,ty,pos,after,g⟩ K S D B L:=Zk (Zn  hg hd hl hx (atL j hj hs hv) h)
theorem xL  {t:TypeId} {x:Operand} {a:Addr} {l:List Value} {T:TypeId} {fr:Nat × Nat} {r:Cells}  (vs:List Value) (hl:lk P t=some (some vs.length)) (j:Nat) (hg:Zj ops S g=some true:=by exact rfl) (hd:Zr n dst=true:=by exact rfl) (hx:ev S x=some (ptr a):=by exact rfl) (hj:L[j]? = some ((a.block,.cells l.toArray T fr) :: r):=by exact rfl) (hs:a.spot=none:=by exact rfl) (hv:(l.drop a.off).take vs.length=vs:=by exact rfl) (h:K (Zbd S dst (.agg vs.toArray)) D B L):opW P n ops i ⟨dst,.load t x,ty,pos,after,g⟩ K S D B L:=Zk (ZR  vs hg hd hl hx (Zct j hj hs hv) h)
theorem y1  {t:TypeId} {x:Operand} {a:Addr} {v:Value} {b o:Nat} {row:List Value}  (hl:lk P t=some none) (hc:Zai B b o row) (off:Nat) (hg:Zj ops S g=some true:=by exact rfl) (hd:Zr n dst=true:=by exact rfl) (hx:ev S x=some (ptr a):=by exact rfl) (ha:a=⟨b,o+off,none⟩:=by exact rfl) (hv:row[off]? = some v:=by exact rfl) (h:K (Zbd S dst v) D B L):opW P n ops i ⟨dst,.load t x,ty,pos,after,g⟩ K S D B L:=Zk (Zn  hg hd hl hx (by subst ha;exact hc _ off _ hv) h)
theorem yL  {t:TypeId} {x:Operand} {a:Addr} {b o:Nat} {row:List Value}  (vs:List Value) (hl:lk P t=some (some vs.length)) (hc:Zai B b o row) (off:Nat) (hg:Zj ops S g=some true:=by exact rfl) (hd:Zr n dst=true:=by exact rfl) (hx:ev S x=some (ptr a):=by exact rfl) (ha:a=⟨b,o+off,none⟩:=by exact rfl) (hv:(row.drop off).take vs.length=vs:=by exact rfl) (h:K (Zbd S dst (.agg vs.toArray)) D B L):opW P n ops i ⟨dst,.load t x,ty,pos,after,g⟩ K S D B L:=Zk (ZR  vs hg hd hl hx (Zi8 hc off ha hv) h)
theorem xS  {t:TypeId} {x:Operand} {y:Operand} {a:Addr} {v:Value} {l:List Value} {T:TypeId} {r:Cells}  (vs:List Value) (j:Nat) (l':List Value) (hsz:ZH P t=some vs.length) (hg:Zj ops S g=some true:=by exact rfl) (hd:Zr n dst=true:=by exact rfl) (hx:ev S x=some (ptr a):=by exact rfl) (hy:ev S y=some v:=by exact rfl) (hv:v.cells=vs.toArray:=by exact rfl) (ho:vs.all Zhw=true:=by exact rfl) (hj:L[j]? = some ((a.block,.cells l.toArray T (0,0)) :: r):=by exact rfl) (hs:a.spot=none:=by exact rfl) (hlen:Nat.ble (a.off+vs.length) l.length=true:=by exact rfl) (hl':Z6 l a.off vs=l':=by exact rfl) (h:K (Zbd S dst undef) D B (L.set j ((a.block,.cells l'.toArray T (0,0)) :: r))):opW P n ops i ⟨dst,.store t x y,ty,pos,after,g⟩ K S D B L:=Zk (ZaC  vs j l' hg hd hsz hx hy hv ho hj hs hlen hl' h)
theorem xB  {t:TypeId} {z:Value} {pl:List (Nat × Nat)} {vs:List Value} (parts:List (Nat × Operand)) (zl l':List Value) (hpl:Za2 P t=some pl) (hz:Z3 P t=some z) (hg:Zj ops S g=some true:=by exact rfl) (hd:Zr n dst=true:=by exact rfl) (hzl:z.cells.toList=zl:=by exact rfl) (ha:evs S (parts.map (·.2))=some vs:=by exact rfl) (hf:ZhD (fun i=>pl[i]?) zl ((parts.map (·.1)).zip vs)=some l':=by exact rfl) (h:K (Zbd S dst (.agg l'.toArray)) D B L):opW P n ops i ⟨dst,.build t parts.toArray,ty,pos,after,g⟩ K S D B L:=Zk (ZcE (parts:=parts) zl l' hg hd hpl hz hzl ha hf h)
theorem xAl  {t:TypeId} {z:Value} (l:List Value) (hz:Z3 P t=some z) (hg:Zj ops S g=some true:=by exact rfl) (hd:Zr n dst=true:=by exact rfl) (hl:z.cells=l.toArray:=by exact rfl) (h :∀b,K (Zbd S dst (ptr ⟨b,0,none⟩)) D B (L ++ [ZN b l t])):opW P n ops i ⟨dst,.alloc t,ty,pos,after,g⟩ K S D B L:=Zk (Zdw (l:=l) hg hd hz hl h)
theorem xBx  {t:TypeId} {x:Operand} {v:Value} (l:List Value)  (hg:Zj ops S g=some true:=by exact rfl) (hd:Zr n dst=true:=by exact rfl) (hx:ev S x=some v:=by exact rfl) (hl:v.cells=l.toArray:=by exact rfl) (h :∀b,K (Zbd S dst (ptr ⟨b,0,none⟩)) D B (L ++ [ZN b l t])):opW P n ops i ⟨dst,.box t x,ty,pos,after,g⟩ K S D B L:=Zk (ZnX (l:=l) hg hd hx hl h)
theorem xIx  {t:TypeId} {e:TypeId} {x:Operand} {y:Operand} {k:IntKind} {b:Nat} {o:Nat} {len:Nat} {cap:Nat} {sz:Nat} {ix:Int}  (hu:P.underlying t=some (.slice e)) (hsz:ZH P e=some sz) (hg:Zj ops S g=some true:=by exact rfl) (hd:Zr n dst=true:=by exact rfl) (hx:ev S x=some (.slice (some ⟨b,o,none⟩) len cap):=by exact rfl) (hy:ev S y=some (.int k ix):=by exact rfl) (h0:0≤ix:=by first | omega | (simp;done) | (simp;omega)) (h1:ix<len:=by first | omega | (simp;done) | (simp;omega)) (h:K (Zbd S dst (ptr ⟨b,o+ix.toNat*sz,none⟩)) D B L):opW P n ops i ⟨dst,.indexAddr t x y,ty,pos,after,g⟩ K S D B L:=Zk (Zux  hg hd hu hsz hx hy h0 h1 h)
theorem xIp  {t:TypeId} {e:TypeId} {x:Operand} {y:Operand} {k:IntKind} {p:Option Addr} {b:Nat} {len:Nat} {cap:Nat} {sz:Nat} {ix:Int}  (hp:p=some ⟨b,0,none⟩) (hu:P.underlying t=some (.slice e)) (hsz:ZH P e=some sz) (hg:Zj ops S g=some true:=by exact rfl) (hd:Zr n dst=true:=by exact rfl) (hx:ev S x=some (.slice p len cap):=by exact rfl) (hy:ev S y=some (.int k ix):=by exact rfl) (h0:0≤ix:=by first | omega | (simp;done) | (simp;omega)) (h1:ix<len:=by first | omega | (simp;done) | (simp;omega)) (h:K (Zbd S dst (ptr ⟨b,ix.toNat*sz,none⟩)) D B L):opW P n ops i ⟨dst,.indexAddr t x y,ty,pos,after,g⟩ K S D B L:=Zk (ZkC  hp hg hd hu hsz hx hy h0 h1 h)
theorem xR  {f:FuncId} {xs:List Operand} {vs:List Value} {ats:Array TypeId} {v:Value}  (he:enters P f=true) (ha:evs S xs=some vs) (hc:Z0 P f vs B v) (hg:Zj ops S g=some true:=by exact rfl) (hd:Zr n dst=true:=by exact rfl) (h:K (Zbd S dst v) D B L):opW P n ops i ⟨dst,.call ⟨.value (.func f),xs.toArray,ats⟩,ty,pos,after,g⟩ K S D B L:=Zk (Zaa  hg hd he ha hc h)
theorem xC  {f:FuncId} {xs:List Operand} {vs:List Value} {ats:Array TypeId} {Post:Value→Kn→List Cells→Prop}  (he:enters P f=true) (ha:evs S xs=some vs) (hc:Zx P f vs B [] Post) (hg:Zj ops S g=some true:=by exact rfl) (hd:Zr n dst=true:=by exact rfl) (h :∀v B' Ls',B.le B'→Post v B' Ls'→K (Zbd S dst v) D B' (L ++ Ls')):opW P n ops i ⟨dst,.call ⟨.value (.func f),xs.toArray,ats⟩,ty,pos,after,g⟩ K S D B L:=Zk (Zck  hg hd he ha hc h)
theorem xQ  {f:FuncId} {xs:List Operand} {vs:List Value} {ats:Array TypeId} {Post:Value→Kn→Prop}  (he:enters P f=true) (ha:evs S xs=some vs) (hc:Zx P f vs B [] (fun v B' Ls=>Ls=[]∧Post v B')) (hg:Zj ops S g=some true:=by exact rfl) (hd:Zr n dst=true:=by exact rfl) (h :∀v B',B.le B'→Post v B'→K (Zbd S dst v) D B' L):opW P n ops i ⟨dst,.call ⟨.value (.func f),xs.toArray,ats⟩,ty,pos,after,g⟩ K S D B L:=Zk (ZnV  hg hd he ha hc h)
theorem xK  {f:FuncId} {xs:List Operand} {vs:List Value} {ats:Array TypeId} {Post:Value→Kn→List Cells→Prop} {ss:List Cells} {r:List Cells}  (js:List Nat) (hp:Zaw L js=some (ss,r)) (he:enters P f=true) (ha:evs S xs=some vs) (hc:Zx P f vs B ss Post) (hn:Zea js=true:=by exact rfl) (hg:Zj ops S g=some true:=by exact rfl) (hd:Zr n dst=true:=by exact rfl) (h :∀v B' Ls',B.le B'→Post v B' Ls'→K (Zbd S dst v) D B' (Zce r js Ls')):opW P n ops i ⟨dst,.call ⟨.value (.func f),xs.toArray,ats⟩,ty,pos,after,g⟩ K S D B L:=Zk (ZbG  js hp hn hg hd he ha hc h)
theorem xBs  {t:TypeId} {e:TypeId} {len:Nat} {sz:Nat} {z:Value} {vs:List Value} (parts:List (Nat × Operand)) (l':List Value) (hu:P.underlying t=some (.slice e)) (hsz:ZH P e=some sz) (hz:Z3 P e=some z) (hg:Zj ops S g=some true:=by exact rfl) (hd:Zr n dst=true:=by exact rfl) (hbig:Nat.ble (len*sz) 1024=true:=by exact rfl) (hidx:parts.map (·.1)=List.range len:=by exact rfl) (ha:evs S (parts.map (·.2))=some vs:=by exact rfl) (hall:vs.all (fun v=>Nat.beq v.cells.toList.length sz)=true:=by exact rfl) (hl':(vs.map fun v=>v.cells.toList).flatten=l':=by exact rfl) (h :∀b,K (Zbd S dst (.slice (some ⟨b,0,none⟩) len len)) D B (L ++ [ZN b l' e])):opW P n ops i ⟨dst,.buildSlice t len parts.toArray,ty,pos,after,g⟩ K S D B L:=Zk (Zbx (parts:=parts) l' hg hd hu hsz hz hbig hidx ha hall hl' h)
end
section
variable {P:PJ} {n:Nat} {ops:Array Oper} {K:Z8} {S:Env} {D:List Deferred} {B:Kn} {L:List Cells}
variable {dst:Option Tmp} {ty:TypeId} {pos:String} {after:Array Edge} {g:Option (Nat × Bool)} {t u:TypeId} {x y:Operand}
theorem aT {C:Cx P} {k':List Item} {I:Kn→List Cells→Prop} {ℓ:List Nat} (i:Nat) {o:Oper} {v:Value} (hi:ops[i]? = some o) (hq:quiet P n ops I i o v (sel (o.looksAt ops) S)) (hr:(Zav ops ℓ).contains i=true:=by kernel_rfl) (hd:Zr n o.dst=true:=by exact rfl) (hp:Zh1 o=false:=by rfl) (h:Za9 C k' n ops I (i :: ℓ) K (Zbd S o.dst v) D B L):Za9 C k' n ops I ℓ K S D B L:=Zr8 i hi hr hd hq h hp
theorem r4 {α β γ δ:Type} {a:α} {b:β} {c:γ} {d:δ} : a=a∧b=b∧c=c∧d=d:=⟨rfl,rfl,rfl,rfl⟩
variable {C:Cx P} {k':List Item} {I:Kn→List Cells→Prop} {ℓ:List Nat}
theorem aM  {x:Operand} {v:Value} (i:Nat) (hii:ops[i]? = some ⟨dst,.move x,ty,pos,after,g⟩)  (hrr:(Zav ops ℓ).contains i=true:=by kernel_rfl) (hdd:Zr n dst=true:=by exact rfl) (hg:Zj ops (sel ((⟨dst,.move x,ty,pos,after,g⟩:Oper).looksAt ops) S) g=some true:=by exact rfl) (hd:Zr n dst=true:=by exact rfl) (hx:ev (sel ((⟨dst,.move x,ty,pos,after,g⟩:Oper).looksAt ops) S) x=some v:=by exact rfl) (h:Za9 C k' n ops I (i :: ℓ) K (Zbd S dst v) D B L):Za9 C k' n ops I ℓ K S D B L:=Zad i hii hrr hdd (fun _ _ _=>Zbf hg hd hx ⟨rfl,rfl,rfl,rfl⟩) h
theorem aA  {x:Operand} {v:Value} (i:Nat) (hii:ops[i]? = some ⟨dst,.assign x,ty,pos,after,g⟩)  (hrr:(Zav ops ℓ).contains i=true:=by kernel_rfl) (hdd:Zr n dst=true:=by exact rfl) (hg:Zj ops (sel ((⟨dst,.assign x,ty,pos,after,g⟩:Oper).looksAt ops) S) g=some true:=by exact rfl) (hd:Zr n dst=true:=by exact rfl) (hx:ev (sel ((⟨dst,.assign x,ty,pos,after,g⟩:Oper).looksAt ops) S) x=some v:=by exact rfl) (h:Za9 C k' n ops I (i :: ℓ) K (Zbd S dst v) D B L):Za9 C k' n ops I ℓ K S D B L:=Zad i hii hrr hdd (fun _ _ _=>Zbo hg hd hx ⟨rfl,rfl,rfl,rfl⟩) h
theorem aZ  {dst:Option Tmp} {op:Op} {t:TypeId} {pos:String} {after:Array Edge} {g:Option (Nat × Bool)} (i:Nat) (hii:ops[i]? = some ⟨dst,op,t,pos,after,g⟩)  (hrr:(Zav ops ℓ).contains i=true:=by kernel_rfl) (hdd:Zr n dst=true:=by exact rfl) (hg:Zj ops (sel ((⟨dst,op,t,pos,after,g⟩:Oper).looksAt ops) S) g=some false:=by exact rfl) (hd:Zr n dst=true:=by exact rfl) (h:Za9 C k' n ops I (i :: ℓ) K (Zbd S dst undef) D B L):Za9 C k' n ops I ℓ K S D B L:=Zad i hii hrr hdd (fun _ _ _=>Zsm hg hd ⟨rfl,rfl,rfl,rfl⟩) h
theorem aPT  {c:Operand} {a:Operand} {b:Operand} {v:Value} (i:Nat) (hii:ops[i]? = some ⟨dst,.pick c a b,ty,pos,after,g⟩)  (hrr:(Zav ops ℓ).contains i=true:=by kernel_rfl) (hdd:Zr n dst=true:=by exact rfl) (hg:Zj ops (sel ((⟨dst,.pick c a b,ty,pos,after,g⟩:Oper).looksAt ops) S) g=some true:=by exact rfl) (hd:Zr n dst=true:=by exact rfl) (hc:ev (sel ((⟨dst,.pick c a b,ty,pos,after,g⟩:Oper).looksAt ops) S) c=some (.bool true):=by exact rfl) (hx:ev (sel ((⟨dst,.pick c a b,ty,pos,after,g⟩:Oper).looksAt ops) S) a=some v:=by exact rfl) (h:Za9 C k' n ops I (i :: ℓ) K (Zbd S dst v) D B L):Za9 C k' n ops I ℓ K S D B L:=Zad i hii hrr hdd (fun _ _ _=>ZnO hg hd hc hx ⟨rfl,rfl,rfl,rfl⟩) h
theorem aPF  {c:Operand} {a:Operand} {b:Operand} {v:Value} (i:Nat) (hii:ops[i]? = some ⟨dst,.pick c a b,ty,pos,after,g⟩)  (hrr:(Zav ops ℓ).contains i=true:=by kernel_rfl) (hdd:Zr n dst=true:=by exact rfl) (hg:Zj ops (sel ((⟨dst,.pick c a b,ty,pos,after,g⟩:Oper).looksAt ops) S) g=some true:=by exact rfl) (hd:Zr n dst=true:=by exact rfl) (hc:ev (sel ((⟨dst,.pick c a b,ty,pos,after,g⟩:Oper).looksAt ops) S) c=some (.bool false):=by exact rfl) (hx:ev (sel ((⟨dst,.pick c a b,ty,pos,after,g⟩:Oper).looksAt ops) S) b=some v:=by exact rfl) (h:Za9 C k' n ops I (i :: ℓ) K (Zbd S dst v) D B L):Za9 C k' n ops I ℓ K S D B L:=Zad i hii hrr hdd (fun _ _ _=>ZnP hg hd hc hx ⟨rfl,rfl,rfl,rfl⟩) h
theorem aE  {x:Operand} {ix:Nat} {vs:List Value} {v:Value} (i:Nat) (hii:ops[i]? = some ⟨dst,.extract x ix,ty,pos,after,g⟩)  (hrr:(Zav ops ℓ).contains i=true:=by kernel_rfl) (hdd:Zr n dst=true:=by exact rfl) (hg:Zj ops (sel ((⟨dst,.extract x ix,ty,pos,after,g⟩:Oper).looksAt ops) S) g=some true:=by exact rfl) (hd:Zr n dst=true:=by exact rfl) (hx:ev (sel ((⟨dst,.extract x ix,ty,pos,after,g⟩:Oper).looksAt ops) S) x=some (.tuple vs.toArray):=by exact rfl) (hi:vs[ix]? = some v:=by exact rfl) (h:Za9 C k' n ops I (i :: ℓ) K (Zbd S dst v) D B L):Za9 C k' n ops I ℓ K S D B L:=Zad i hii hrr hdd (fun _ _ _=>Zjf hg hd hx hi ⟨rfl,rfl,rfl,rfl⟩) h
theorem aW  {s:TypeId} {x:Operand} {fi:Nat} {off:Nat} {a:Addr} (i:Nat) (hii:ops[i]? = some ⟨dst,.fieldAddr s x fi,ty,pos,after,g⟩) (hf:Zq P s fi=some off) (hrr:(Zav ops ℓ).contains i=true:=by kernel_rfl) (hdd:Zr n dst=true:=by exact rfl) (hg:Zj ops (sel ((⟨dst,.fieldAddr s x fi,ty,pos,after,g⟩:Oper).looksAt ops) S) g=some true:=by exact rfl) (hd:Zr n dst=true:=by exact rfl) (hx:ev (sel ((⟨dst,.fieldAddr s x fi,ty,pos,after,g⟩:Oper).looksAt ops) S) x=some (ptr a):=by exact rfl) (h:Za9 C k' n ops I (i :: ℓ) K (Zbd S dst (ptr (a.add off))) D B L):Za9 C k' n ops I ℓ K S D B L:=Zad i hii hrr hdd (fun _ _ _=>Zae hg hd hf hx ⟨rfl,rfl,rfl,rfl⟩) h
theorem aN  {x:Operand} {b:Bool} {t:TypeId} (i:Nat) (hii:ops[i]? = some ⟨dst,.unOp .not t x,ty,pos,after,g⟩)  (hrr:(Zav ops ℓ).contains i=true:=by kernel_rfl) (hdd:Zr n dst=true:=by exact rfl) (hg:Zj ops (sel ((⟨dst,.unOp .not t x,ty,pos,after,g⟩:Oper).looksAt ops) S) g=some true:=by exact rfl) (hd:Zr n dst=true:=by exact rfl) (hx:ev (sel ((⟨dst,.unOp .not t x,ty,pos,after,g⟩:Oper).looksAt ops) S) x=some (.bool b):=by exact rfl) (h:Za9 C k' n ops I (i :: ℓ) K (Zbd S dst (.bool (!b))) D B L):Za9 C k' n ops I ℓ K S D B L:=Zad i hii hrr hdd (fun _ _ _=>Zuq hg hd hx ⟨rfl,rfl,rfl,rfl⟩) h
theorem aNc  {x:Operand} {a:Addr} (i:Nat) (hii:ops[i]? = some ⟨dst,.nilCheck x,ty,pos,after,g⟩)  (hrr:(Zav ops ℓ).contains i=true:=by kernel_rfl) (hdd:Zr n dst=true:=by exact rfl) (hg:Zj ops (sel ((⟨dst,.nilCheck x,ty,pos,after,g⟩:Oper).looksAt ops) S) g=some true:=by exact rfl) (hd:Zr n dst=true:=by exact rfl) (hx:ev (sel ((⟨dst,.nilCheck x,ty,pos,after,g⟩:Oper).looksAt ops) S) x=some (.pointer (some a)):=by exact rfl) (h:Za9 C k' n ops I (i :: ℓ) K (Zbd S dst (.pointer (some a))) D B L):Za9 C k' n ops I ℓ K S D B L:=Zad i hii hrr hdd (fun _ _ _=>Zau hg hd hx ⟨rfl,rfl,rfl,rfl⟩) h
theorem Zse  {k:IntKind} {a b:Int} (i:Nat) (hii:ops[i]? = some ⟨dst,.binOp .lss t x y u,ty,pos,after,g⟩)  (hrr:(Zav ops ℓ).contains i=true:=by kernel_rfl) (hdd:Zr n dst=true:=by exact rfl) (hg:Zj ops (sel ((⟨dst,.binOp .lss t x y u,ty,pos,after,g⟩:Oper).looksAt ops) S) g=some true:=by exact rfl) (hd:Zr n dst=true:=by exact rfl) (hx:ev (sel ((⟨dst,.binOp .lss t x y u,ty,pos,after,g⟩:Oper).looksAt ops) S) x=some (.int k a):=by exact rfl) (hy:ev (sel ((⟨dst,.binOp .lss t x y u,ty,pos,after,g⟩:Oper).looksAt ops) S) y=some (.int k b):=by exact rfl) (h:Za9 C k' n ops I (i :: ℓ) K (Zbd S dst (.bool (decide (a<b)))) D B L):Za9 C k' n ops I ℓ K S D B L:=Zad i hii hrr hdd (fun _ _ _=>Zuu hg hd hx hy ⟨rfl,rfl,rfl,rfl⟩) h
theorem Zud  {k:IntKind} {a b:Int} (i:Nat) (hii:ops[i]? = some ⟨dst,.binOp .leq t x y u,ty,pos,after,g⟩)  (hrr:(Zav ops ℓ).contains i=true:=by kernel_rfl) (hdd:Zr n dst=true:=by exact rfl) (hg:Zj ops (sel ((⟨dst,.binOp .leq t x y u,ty,pos,after,g⟩:Oper).looksAt ops) S) g=some true:=by exact rfl) (hd:Zr n dst=true:=by exact rfl) (hx:ev (sel ((⟨dst,.binOp .leq t x y u,ty,pos,after,g⟩:Oper).looksAt ops) S) x=some (.int k a):=by exact rfl) (hy:ev (sel ((⟨dst,.binOp .leq t x y u,ty,pos,after,g⟩:Oper).looksAt ops) S) y=some (.int k b):=by exact rfl) (h:Za9 C k' n ops I (i :: ℓ) K (Zbd S dst (.bool (decide (a≤b)))) D B L):Za9 C k' n ops I ℓ K S D B L:=Zad i hii hrr hdd (fun _ _ _=>Zuv hg hd hx hy ⟨rfl,rfl,rfl,rfl⟩) h
theorem Zqf  {k:IntKind} {a b:Int} (i:Nat) (hii:ops[i]? = some ⟨dst,.binOp .gtr t x y u,ty,pos,after,g⟩)  (hrr:(Zav ops ℓ).contains i=true:=by kernel_rfl) (hdd:Zr n dst=true:=by exact rfl) (hg:Zj ops (sel ((⟨dst,.binOp .gtr t x y u,ty,pos,after,g⟩:Oper).looksAt ops) S) g=some true:=by exact rfl) (hd:Zr n dst=true:=by exact rfl) (hx:ev (sel ((⟨dst,.binOp .gtr t x y u,ty,pos,after,g⟩:Oper).looksAt ops) S) x=some (.int k a):=by exact rfl) (hy:ev (sel ((⟨dst,.binOp .gtr t x y u,ty,pos,after,g⟩:Oper).looksAt ops) S) y=some (.int k b):=by exact rfl) (h:Za9 C k' n ops I (i :: ℓ) K (Zbd S dst (.bool (decide (b<a)))) D B L):Za9 C k' n ops I ℓ K S D B L:=Zad i hii hrr hdd (fun _ _ _=>Zuz hg hd hx hy ⟨rfl,rfl,rfl,rfl⟩) h
theorem Zyp  {k:IntKind} {a b:Int} (i:Nat) (hii:ops[i]? = some ⟨dst,.binOp .geq t x y u,ty,pos,after,g⟩)  (hrr:(Zav ops ℓ).contains i=true:=by kernel_rfl) (hdd:Zr n dst=true:=by exact rfl) (hg:Zj ops (sel ((⟨dst,.binOp .geq t x y u,ty,pos,after,g⟩:Oper).looksAt ops) S) g=some true:=by exact rfl) (hd:Zr n dst=true:=by exact rfl) (hx:ev (sel ((⟨dst,.binOp .geq t x y u,ty,pos,after,g⟩:Oper).looksAt ops) S) x=some (.int k a):=by exact rfl) (hy:ev (sel ((⟨dst,.binOp .geq t x y u,ty,pos,after,g⟩:Oper).looksAt ops) S) y=some (.int k b):=by exact rfl) (h:Za9 C k' n ops I (i :: ℓ) K (Zbd S dst (.bool (decide (b≤a)))) D B L):Za9 C k' n ops I ℓ K S D B L:=Zad i hii hrr hdd (fun _ _ _=>ZuA hg hd hx hy ⟨rfl,rfl,rfl,rfl⟩) h
theorem Zqh  {k:IntKind} {a b:Int} (i:Nat) (hii:ops[i]? = some ⟨dst,.binOp .eql t x y u,ty,pos,after,g⟩)  (hrr:(Zav ops ℓ).contains i=true:=by kernel_rfl) (hdd:Zr n dst=true:=by exact rfl) (hg:Zj ops (sel ((⟨dst,.binOp .eql t x y u,ty,pos,after,g⟩:Oper).looksAt ops) S) g=some true:=by exact rfl) (hd:Zr n dst=true:=by exact rfl) (hx:ev (sel ((⟨dst,.binOp .eql t x y u,ty,pos,after,g⟩:Oper).looksAt ops) S) x=some (.int k a):=by exact rfl) (hy:ev (sel ((⟨dst,.binOp .eql t x y u,ty,pos,after,g⟩:Oper).looksAt ops) S) y=some (.int k b):=by exact rfl) (h:Za9 C k' n ops I (i :: ℓ) K (Zbd S dst (.bool (decide (a=b)))) D B L):Za9 C k' n ops I ℓ K S D B L:=Zad i hii hrr hdd (fun _ _ _=>Zst hg hd hx hy ⟨rfl,rfl,rfl,rfl⟩) h
theorem ZvW  {k:IntKind} {a b:Int} (i:Nat) (hii:ops[i]? = some ⟨dst,.binOp .neq t x y u,ty,pos,after,g⟩)  (hrr:(Zav ops ℓ).contains i=true:=by kernel_rfl) (hdd:Zr n dst=true:=by exact rfl) (hg:Zj ops (sel ((⟨dst,.binOp .neq t x y u,ty,pos,after,g⟩:Oper).looksAt ops) S) g=some true:=by exact rfl) (hd:Zr n dst=true:=by exact rfl) (hx:ev (sel ((⟨dst,.binOp .neq t x y u,ty,pos,after,g⟩:Oper).looksAt ops) S) x=some (.int k a):=by exact rfl) (hy:ev (sel ((⟨dst,.binOp .neq t x y u,ty,pos,after,g⟩:Oper).looksAt ops) S) y=some (.int k b):=by exact rfl) (h:Za9 C k' n ops I (i :: ℓ) K (Zbd S dst (.bool (decide (a≠b)))) D B L):Za9 C k' n ops I ℓ K S D B L:=Zad i hii hrr hdd (fun _ _ _=>ZnQ hg hd hx hy ⟨rfl,rfl,rfl,rfl⟩) h
theorem Zqg  {a b:List UInt8} (i:Nat) (hii:ops[i]? = some ⟨dst,.binOp .eql t x y u,ty,pos,after,g⟩)  (hrr:(Zav ops ℓ).contains i=true:=by kernel_rfl) (hdd:Zr n dst=true:=by exact rfl) (hg:Zj ops (sel ((⟨dst,.binOp .eql t x y u,ty,pos,after,g⟩:Oper).looksAt ops) S) g=some true:=by exact rfl) (hd:Zr n dst=true:=by exact rfl) (hx:ev (sel ((⟨dst,.binOp .eql t x y u,ty,pos,after,g⟩:Oper).looksAt ops) S) x=some (str a):=by exact rfl) (hy:ev (sel ((⟨dst,.binOp .eql t x y u,ty,pos,after,g⟩:Oper).looksAt ops) S) y=some (str b):=by exact rfl) (h:Za9 C k' n ops I (i :: ℓ) K (Zbd S dst (.bool (decide (a=b)))) D B L):Za9 C k' n ops I ℓ K S D B L:=Zad i hii hrr hdd (fun _ _ _=>Zss hg hd hx hy ⟨rfl,rfl,rfl,rfl⟩) h
theorem ZsS  {a b:List UInt8} (i:Nat) (hii:ops[i]? = some ⟨dst,.binOp .neq t x y u,ty,pos,after,g⟩)  (hrr:(Zav ops ℓ).contains i=true:=by kernel_rfl) (hdd:Zr n dst=true:=by exact rfl) (hg:Zj ops (sel ((⟨dst,.binOp .neq t x y u,ty,pos,after,g⟩:Oper).looksAt ops) S) g=some true:=by exact rfl) (hd:Zr n dst=true:=by exact rfl) (hx:ev (sel ((⟨dst,.binOp .neq t x y u,ty,pos,after,g⟩:Oper).looksAt ops) S) x=some (str a):=by exact rfl) (hy:ev (sel ((⟨dst,.binOp .neq t x y u,ty,pos,after,g⟩:Oper).looksAt ops) S) y=some (str b):=by exact rfl) (h:Za9 C k' n ops I (i :: ℓ) K (Zbd S dst (.bool (decide (a≠b)))) D B L):Za9 C k' n ops I ℓ K S D B L:=Zad i hii hrr hdd (fun _ _ _=>Zsn hg hd hx hy ⟨rfl,rfl,rfl,rfl⟩) h
theorem aD  {k:IntKind} {a b r:Int} (i:Nat) (hii:ops[i]? = some ⟨dst,.binOp .add t x y u,ty,pos,after,g⟩)  (hrr:(Zav ops ℓ).contains i=true:=by kernel_rfl) (hdd:Zr n dst=true:=by exact rfl) (hg:Zj ops (sel ((⟨dst,.binOp .add t x y u,ty,pos,after,g⟩:Oper).looksAt ops) S) g=some true:=by exact rfl) (hd:Zr n dst=true:=by exact rfl) (hx:ev (sel ((⟨dst,.binOp .add t x y u,ty,pos,after,g⟩:Oper).looksAt ops) S) x=some (.int k a):=by exact rfl) (hy:ev (sel ((⟨dst,.binOp .add t x y u,ty,pos,after,g⟩:Oper).looksAt ops) S) y=some (.int k b):=by exact rfl) (hr:k.wrap (a+b)=r:=by first | exact ZbP (by first | omega | (simp;done) | (simp;omega)) (by first | omega | (simp;done) | (simp;omega)) | exact rfl) (h:Za9 C k' n ops I (i :: ℓ) K (Zbd S dst (.int k r)) D B L):Za9 C k' n ops I ℓ K S D B L:=Zad i hii hrr hdd (fun _ _ _=>ZfG hg hd hx hy hr ⟨rfl,rfl,rfl,rfl⟩) h
theorem aU  {k:IntKind} {a b r:Int} (i:Nat) (hii:ops[i]? = some ⟨dst,.binOp .sub t x y u,ty,pos,after,g⟩)  (hrr:(Zav ops ℓ).contains i=true:=by kernel_rfl) (hdd:Zr n dst=true:=by exact rfl) (hg:Zj ops (sel ((⟨dst,.binOp .sub t x y u,ty,pos,after,g⟩:Oper).looksAt ops) S) g=some true:=by exact rfl) (hd:Zr n dst=true:=by exact rfl) (hx:ev (sel ((⟨dst,.binOp .sub t x y u,ty,pos,after,g⟩:Oper).looksAt ops) S) x=some (.int k a):=by exact rfl) (hy:ev (sel ((⟨dst,.binOp .sub t x y u,ty,pos,after,g⟩:Oper).looksAt ops) S) y=some (.int k b):=by exact rfl) (hr:k.wrap (a - b)=r:=by first | exact ZbP (by first | omega | (simp;done) | (simp;omega)) (by first | omega | (simp;done) | (simp;omega)) | exact rfl) (h:Za9 C k' n ops I (i :: ℓ) K (Zbd S dst (.int k r)) D B L):Za9 C k' n ops I ℓ K S D B L:=Zad i hii hrr hdd (fun _ _ _=>Zii hg hd hx hy hr ⟨rfl,rfl,rfl,rfl⟩) h
theorem aIx  {t:TypeId} {e:TypeId} {x:Operand} {y:Operand} {k:IntKind} {b:Nat} {o:Nat} {len:Nat} {cap:Nat} {sz:Nat} {ix:Int} (i:Nat) (hii:ops[i]? = some ⟨dst,.indexAddr t x y,ty,pos,after,g⟩) (hu:P.underlying t=some (.slice e)) (hsz:ZH P e=some sz) (hrr:(Zav ops ℓ).contains i=true:=by kernel_rfl) (hdd:Zr n dst=true:=by exact rfl) (hg:Zj ops (sel ((⟨dst,.indexAddr t x y,ty,pos,after,g⟩:Oper).looksAt ops) S) g=some true:=by exact rfl) (hd:Zr n dst=true:=by exact rfl) (hx:ev (sel ((⟨dst,.indexAddr t x y,ty,pos,after,g⟩:Oper).looksAt ops) S) x=some (.slice (some ⟨b,o,none⟩) len cap):=by exact rfl) (hy:ev (sel ((⟨dst,.indexAddr t x y,ty,pos,after,g⟩:Oper).looksAt ops) S) y=some (.int k ix):=by exact rfl) (h0:0≤ix:=by first | omega | (simp;done) | (simp;omega)) (h1:ix<len:=by first | omega | (simp;done) | (simp;omega)) (h:Za9 C k' n ops I (i :: ℓ) K (Zbd S dst (ptr ⟨b,o+ix.toNat*sz,none⟩)) D B L):Za9 C k' n ops I ℓ K S D B L:=Zad i hii hrr hdd (fun _ _ _=>Zux hg hd hu hsz hx hy h0 h1 ⟨rfl,rfl,rfl,rfl⟩) h
end
section
variable {P:PJ} {n:Nat} {Q:Exit→Z8} {S:Env} {D:List Deferred} {B:Kn} {L:List Cells}
theorem tL1 {c:Code} {x0:Cells} (h:wpS P n c Q S D B [x0]):wpS P n c Q S D B [x0]:=h
theorem tL2 {c:Code} {x0 x1:Cells} (h:wpS P n c Q S D B [x0,x1]):wpS P n c Q S D B [x0,x1]:=h
theorem tL3 {c:Code} {x0 x1 x2:Cells} (h:wpS P n c Q S D B [x0,x1,x2]):wpS P n c Q S D B [x0,x1,x2]:=h
theorem tL4 {c:Code} {x0 x1 x2 x3:Cells} (h:wpS P n c Q S D B [x0,x1,x2,x3]):wpS P n c Q S D B [x0,x1,x2,x3]:=h
theorem tL5 {c:Code} {x0 x1 x2 x3 x4:Cells} (h:wpS P n c Q S D B [x0,x1,x2,x3,x4]):wpS P n c Q S D B [x0,x1,x2,x3,x4]:=h
theorem tL6 {c:Code} {x0 x1 x2 x3 x4 x5:Cells} (h:wpS P n c Q S D B [x0,x1,x2,x3,x4,x5]):wpS P n c Q S D B [x0,x1,x2,x3,x4,x5]:=h
theorem tL8 {c:Code} {x0 x1 x2 x3 x4 x5 x6 x7:Cells} (h:wpS P n c Q S D B [x0,x1,x2,x3,x4,x5,x6,x7]):wpS P n c Q S D B [x0,x1,x2,x3,x4,x5,x6,x7]:=h
theorem tL9 {c:Code} {x0 x1 x2 x3 x4 x5 x6 x7 x8:Cells} (h:wpS P n c Q S D B [x0,x1,x2,x3,x4,x5,x6,x7,x8]):wpS P n c Q S D B [x0,x1,x2,x3,x4,x5,x6,x7,x8]:=h
theorem Zqm {c:Code} {x0 x1 x2 x3 x4 x5 x6 x7 x8 x9:Cells} (h:wpS P n c Q S D B [x0,x1,x2,x3,x4,x5,x6,x7,x8,x9]):wpS P n c Q S D B [x0,x1,x2,x3,x4,x5,x6,x7,x8,x9]:=h
theorem Zy1 {c:Code} {x0 x1 x2 x3 x4 x5 x6 x7 x8 x9 x10:Cells} (h:wpS P n c Q S D B [x0,x1,x2,x3,x4,x5,x6,x7,x8,x9,x10]):wpS P n c Q S D B [x0,x1,x2,x3,x4,x5,x6,x7,x8,x9,x10]:=h
theorem Zy0 {c:Code} {x0 x1 x2 x3 x4 x5 x6 x7 x8 x9 x10 x11:Cells} (h:wpS P n c Q S D B [x0,x1,x2,x3,x4,x5,x6,x7,x8,x9,x10,x11]):wpS P n c Q S D B [x0,x1,x2,x3,x4,x5,x6,x7,x8,x9,x10,x11]:=h
theorem ZyZ {c:Code} {x0 x1 x2 x3 x4 x5 x6 x7 x8 x9 x10 x11 x12 x13 x14:Cells} (h:wpS P n c Q S D B [x0,x1,x2,x3,x4,x5,x6,x7,x8,x9,x10,x11,x12,x13,x14]):wpS P n c Q S D B [x0,x1,x2,x3,x4,x5,x6,x7,x8,x9,x10,x11,x12,x13,x14]:=h
theorem wSk {K:Z8} (h:K S D B L):wpS P n .skip (thn K Q) S D B L:=ZL (Zm h)
theorem eR {rs:List ResultVar} {Post:Value→Kn→List Cells→Prop} {v:Value} (hr:Zby P S B L rs [v]) (hp:Post v B []):ZfD P rs Post .ret S [] B L:=ZpQ .ret (.inl rfl) [v] hr hp
theorem eN {rs:List ResultVar} {Post:Value→Kn→List Cells→Prop} {v:Value} (js:List Nat) {ss r:List Cells} (hp:Zaw L js=some (ss,r)) (hr:Zby P S B L rs [v]) (hq:Post v B ss):ZfD P rs Post .ret S [] B L:=ZeG .ret (.inl rfl) [v] js hp hr hq
theorem e1 {rs:List ResultVar} {Post:Value→Kn→List Cells→Prop} {v:Value} (j:Nat) {s:Cells} (hj:L[j]? = some s) (hr:Zby P S B L rs [v]) (hp:Post v B [s]):ZfD P rs Post .ret S [] B L:=Zt2 .ret (.inl rfl) [v] j hj hr hp
end
theorem mT {α:Type} {R:Rel α} (h:Mono R:=by first | exact ZJ.mono | exact ZG.mono | exact ZaA.mono | exact Zao.mono | exact Z1.mono | exact Zak.mono | exact Zdt.mono | exact Zb7.mono):Mono R:=h
theorem up1 {B B':Kn} {α1:Type} {q1:Option Addr} {c1 w1:Nat} {R1:Rel α1} {x1:List α1} (hle:B.le B') (h1:SlK B q1 c1 w1 R1 x1) (g1:Mono R1:=by exact mT):SlK B' q1 c1 w1 R1 x1:=h1.mono g1 hle
theorem up2 {B B':Kn} {α1:Type} {q1:Option Addr} {c1 w1:Nat} {R1:Rel α1} {x1:List α1} {α2:Type} {q2:Option Addr} {c2 w2:Nat} {R2:Rel α2} {x2:List α2} (hle:B.le B') (h1:SlK B q1 c1 w1 R1 x1) (h2:SlK B q2 c2 w2 R2 x2) (g1:Mono R1:=by exact mT) (g2:Mono R2:=by exact mT):SlK B' q1 c1 w1 R1 x1∧SlK B' q2 c2 w2 R2 x2:=⟨h1.mono g1 hle,h2.mono g2 hle⟩
theorem up3 {B B':Kn} {α1:Type} {q1:Option Addr} {c1 w1:Nat} {R1:Rel α1} {x1:List α1} {α2:Type} {q2:Option Addr} {c2 w2:Nat} {R2:Rel α2} {x2:List α2} {α3:Type} {q3:Option Addr} {c3 w3:Nat} {R3:Rel α3} {x3:List α3} (hle:B.le B') (h1:SlK B q1 c1 w1 R1 x1) (h2:SlK B q2 c2 w2 R2 x2) (h3:SlK B q3 c3 w3 R3 x3) (g1:Mono R1:=by exact mT) (g2:Mono R2:=by exact mT) (g3:Mono R3:=by exact mT):SlK B' q1 c1 w1 R1 x1∧SlK B' q2 c2 w2 R2 x2∧SlK B' q3 c3 w3 R3 x3:=⟨h1.mono g1 hle,h2.mono g2 hle,h3.mono g3 hle⟩
theorem up4 {B B':Kn} {α1:Type} {q1:Option Addr} {c1 w1:Nat} {R1:Rel α1} {x1:List α1} {α2:Type} {q2:Option Addr} {c2 w2:Nat} {R2:Rel α2} {x2:List α2} {α3:Type} {q3:Option Addr} {c3 w3:Nat} {R3:Rel α3} {x3:List α3} {α4:Type} {q4:Option Addr} {c4 w4:Nat} {R4:Rel α4} {x4:List α4} (hle:B.le B') (h1:SlK B q1 c1 w1 R1 x1) (h2:SlK B q2 c2 w2 R2 x2) (h3:SlK B q3 c3 w3 R3 x3) (h4:SlK B q4 c4 w4 R4 x4) (g1:Mono R1:=by exact mT) (g2:Mono R2:=by exact mT) (g3:Mono R3:=by exact mT) (g4:Mono R4:=by exact mT):SlK B' q1 c1 w1 R1 x1∧SlK B' q2 c2 w2 R2 x2∧SlK B' q3 c3 w3 R3 x3∧SlK B' q4 c4 w4 R4 x4:=⟨h1.mono g1 hle,h2.mono g2 hle,h3.mono g3 hle,h4.mono g4 hle⟩
theorem up5 {B B':Kn} {α1:Type} {q1:Option Addr} {c1 w1:Nat} {R1:Rel α1} {x1:List α1} {α2:Type} {q2:Option Addr} {c2 w2:Nat} {R2:Rel α2} {x2:List α2} {α3:Type} {q3:Option Addr} {c3 w3:Nat} {R3:Rel α3} {x3:List α3} {α4:Type} {q4:Option Addr} {c4 w4:Nat} {R4:Rel α4} {x4:List α4} {α5:Type} {q5:Option Addr} {c5 w5:Nat} {R5:Rel α5} {x5:List α5} (hle:B.le B') (h1:SlK B q1 c1 w1 R1 x1) (h2:SlK B q2 c2 w2 R2 x2) (h3:SlK B q3 c3 w3 R3 x3) (h4:SlK B q4 c4 w4 R4 x4) (h5:SlK B q5 c5 w5 R5 x5) (g1:Mono R1:=by exact mT) (g2:Mono R2:=by exact mT) (g3:Mono R3:=by exact mT) (g4:Mono R4:=by exact mT) (g5:Mono R5:=by exact mT):SlK B' q1 c1 w1 R1 x1∧SlK B' q2 c2 w2 R2 x2∧SlK B' q3 c3 w3 R3 x3∧SlK B' q4 c4 w4 R4 x4∧SlK B' q5 c5 w5 R5 x5:=⟨h1.mono g1 hle,h2.mono g2 hle,h3.mono g3 hle,h4.mono g4 hle,h5.mono g5 hle⟩
theorem up6 {B B':Kn} {α1:Type} {q1:Option Addr} {c1 w1:Nat} {R1:Rel α1} {x1:List α1} {α2:Type} {q2:Option Addr} {c2 w2:Nat} {R2:Rel α2} {x2:List α2} {α3:Type} {q3:Option Addr} {c3 w3:Nat} {R3:Rel α3} {x3:List α3} {α4:Type} {q4:Option Addr} {c4 w4:Nat} {R4:Rel α4} {x4:List α4} {α5:Type} {q5:Option Addr} {c5 w5:Nat} {R5:Rel α5} {x5:List α5} {α6:Type} {q6:Option Addr} {c6 w6:Nat} {R6:Rel α6} {x6:List α6} (hle:B.le B') (h1:SlK B q1 c1 w1 R1 x1) (h2:SlK B q2 c2 w2 R2 x2) (h3:SlK B q3 c3 w3 R3 x3) (h4:SlK B q4 c4 w4 R4 x4) (h5:SlK B q5 c5 w5 R5 x5) (h6:SlK B q6 c6 w6 R6 x6) (g1:Mono R1:=by exact mT) (g2:Mono R2:=by exact mT) (g3:Mono R3:=by exact mT) (g4:Mono R4:=by exact mT) (g5:Mono R5:=by exact mT) (g6:Mono R6:=by exact mT):SlK B' q1 c1 w1 R1 x1∧SlK B' q2 c2 w2 R2 x2∧SlK B' q3 c3 w3 R3 x3∧SlK B' q4 c4 w4 R4 x4∧SlK B' q5 c5 w5 R5 x5∧SlK B' q6 c6 w6 R6 x6:=⟨h1.mono g1 hle,h2.mono g2 hle,h3.mono g3 hle,h4.mono g4 hle,h5.mono g5 hle,h6.mono g6 hle⟩
theorem cB {P:PJ} {f:FuncId} {fn:Func} {code:Code} {rs:List ResultVar} (n:Nat) (hf:P.funcs[f]? = some fn) (hb:fn.body=some code:=by exact rfl) (hn:fn.ntmps=n:=by exact rfl) (hrs:fn.results.toList=rs:=by exact rfl) {args:List Value} (ha:args.length≤n:=by exact Nat.le_of_ble_eq_true rfl) {B:Kn} {Ls:List Cells} {Post:Value→Kn→List Cells→Prop} (h:wpS P n code (ZfD P rs Post) (ZcP args 0) [] B Ls):Zx P f args B Ls Post:=Zb5 n hf hb hn hrs ha h
end Go.BL
namespace Go.BL
open Go.Conc (G)
def bitv (f:Nat→Bool):List Value:=(List.range 100).map (fun n=>.bool (f n))
theorem ZeC (f:Nat→Bool):(bitv f).length=100:=by simp [bitv]
theorem Zi2 {f:Nat→Bool} {k:Nat} (h:k<100):(bitv f)[k]? = some (.bool (f k)):=by simp [bitv,h]
theorem Zr2 {f:Nat→Bool} {k:Nat} (h:k<100) (v:Bool):Z6 (bitv f) k [.bool v]=bitv (fun n=>if n=k then v else f n):=by
 rw [Zor (by rw [ZeC];exact h)]
 apply List.ext_getElem?
 intro n
 rw [List.getElem?_set]
 by_cases hn:n<100
 ·by_cases e:k=n
  ·subst e
   rw [if_pos rfl,if_pos (by rw [ZeC];exact h),Zi2 h,if_pos rfl]
  ·rw [if_neg e,Zi2 hn,Zi2 hn,if_neg (fun h=>e h.symm)]
 ·rw [if_neg (by omega),List.getElem?_eq_none (by rw [ZeC];omega),List.getElem?_eq_none (by rw [ZeC];omega)]
section
variable {P:PJ} {n:Nat} {ops:Array Oper} {i:Nat} {K:Zaz} {S:Env} {D:List Deferred} {B:Kn} {L:List Cells}
variable {dst:Option Tmp} {ty:TypeId} {pos:String} {after:Array Edge} {g:Option (Nat × Bool)}
theorem ZnS {t e:TypeId} {x y:Operand} {k:IntKind} {b len:Nat} {ix:Int} (hg:Zj ops S g=some true) (hd:Zr n dst=true) (hu:P.underlying t=some (.array len e)) (hsz:ZH P e=some 1)
  (hx:ev S x=some (ptr ⟨b,0,none⟩)) (hy:ev S y=some (.int k ix)) (h0:0≤ix) (h1:ix<len) (h:K (ptr ⟨b,ix.toNat,none⟩) D B L):opX P n ops i ⟨dst,.indexAddr t x y,ty,pos,after,g⟩ K S D B L:=
 ZmC hg hd hu hsz hx hy h0 h1 (by
  have e:(⟨b,0,none⟩:Addr).add (ix.toNat*1)=⟨b,ix.toNat,none⟩:=by simp [Addr.add];omega
  rw [e];exact h)
theorem ZlM {t:TypeId} {x y:Operand} {b k:Nat} {v:Bool} {f:Nat→Bool} {T:TypeId} (j:Nat) (hg:Zj ops S g=some true) (hd:Zr n dst=true) (hsz:ZH P t=some 1)
  (hx:ev S x=some (ptr ⟨b,k,none⟩)) (hy:ev S y=some (.bool v)) (hj:L[j]? = some (ZN b (bitv f) T)) (hk:k<100)
  (h:K undef D B (L.set j (ZN b (bitv (fun n=>if n=k then v else f n)) T))):opX P n ops i ⟨dst,.store t x y,ty,pos,after,g⟩ K S D B L:=
 ZaC [.bool v] j (bitv (fun n=>if n=k then v else f n)) hg hd hsz hx hy rfl rfl hj rfl (Nat.ble_eq_true_of_le (by rw [ZeC];simp;omega)) (Zr2 hk v) h
theorem ZqG {t:TypeId} {x:Operand} {b:Nat} {f:Nat→Bool} {T:TypeId} (j:Nat) (hg:Zj ops S g=some true) (hd:Zr n dst=true) (hl:lk P t=some (some 100)) (hx:ev S x=some (ptr ⟨b,0,none⟩)) (hj:L[j]? = some (ZN b (bitv f) T))
  (h:K (.agg (bitv f).toArray) D B L):opX P n ops i ⟨dst,.load t x,ty,pos,after,g⟩ K S D B L:=
 ZR (bitv f) hg hd (by rw [ZeC];exact hl) hx (Zct j hj rfl (by simp)) h
theorem ZqH {t e:TypeId} {x y:Operand} {k:IntKind} {f:Nat→Bool} {len:Nat} {ix:Int} (hg:Zj ops S g=some true) (hd:Zr n dst=true) (hu:P.underlying t=some (.array len e)) (hl:lk P e=some none) (hsz:ZH P e=some 1)
  (hx:ev S x=some (.agg (bitv f).toArray)) (hy:ev S y=some (.int k ix)) (h0:0≤ix) (h1:ix<len) (h2:ix<100) (h:K (.bool (f ix.toNat)) D B L):opX P n ops i ⟨dst,.index t x y,ty,pos,after,g⟩ K S D B L:=
 ZD hg hd (fun ρ hρ Q F q=>by
  have e:(bitv f).toArray[ix.toNat*1]? = some (.bool (f ix.toNat)):=by rw [List.getElem?_toArray,Nat.mul_one,Zi2 (by omega)]
  simp only [execOp,Instr.index,asIntOf,hρ x _ hx,hρ y _ hy,Zi,Zo,Zp hu,h0,h1,and_self,if_true,Zah hsz,part,ZoW hl,Bool.false_eq_true,if_false,e]
  exact q) h
end
end Go.BL
namespace Go.BL
structure DLine where
 place:Int
 uid:Int
 flags:Int
 text:Str
deriving DecidableEq
def ZX:Rel DLine:=fun _ row x=>row=[.int .i64 x.place,.int .i64 x.uid,.int .i64 x.flags,str x.text]∧x.text.length≤2000000
theorem ZX.mono:Mono ZX:=fun _ _ _ h=>h
theorem ZX.any:ZnD ZX:=fun h=>h
end Go.BL
namespace Go.BL
open Go.Conc Go.ConcN
variable {H:Type} {enc:TypeId × Value→H}
theorem ZqD {C:Checked} {os:Os} {f:FuncId} {fn:Func} {s:ChangeSpec} {conds:List PathCond} {apart:Bool} {X:World→Array Value→Prop} (w0:World) (args:Array Value) (fuel:Nat) (hos:w0.os=os)
  (hsh:(w0.forCall (fun _ _=>0) ⟨#[],args,[]⟩).Shaped C.prog)
  (hok:Input.okWideB C.prog (w0.forCall (fun _ _=>0) ⟨#[],args,[]⟩) f ⟨#[],args,[]⟩=true)
  (hpre:s.preB enc C.prog fn conds apart (w0.forCall (fun _ _=>0) ⟨#[],args,[]⟩).memory args fuel=true)
  (hsz:s.sizedB enc C.prog fn apart (w0.forCall (fun _ _=>0) ⟨#[],args,[]⟩).memory args fuel=true)
  (hx:X (w0.forCall (fun _ _=>0) ⟨#[],args,[]⟩).memory args) :
∃(w:World) (tape:Tape) (i:Input),w.os=os∧(w.forCall tape i).Shaped C.prog∧i.vars=[]∧Input.okWide C.prog (w.forCall tape i) .any w.heap.size f i∧
   ((s.pre enc C.prog fn conds apart (w.forCall tape i).memory i.args∧X (w.forCall tape i).memory i.args)∧sizedMet enc C.prog fn (OpenSpec.ofChange s) apart (w.forCall tape i).memory i.args)∧({ calm:=true } : Assume).holds C.prog (lone (Frame.enter C.prog f i.args .normal) [] (w.forCall tape i)):=
 ⟨w0,fun _ _=>0,⟨#[],args,[]⟩,hos,hsh,(Input.okWide_of_okWideB (base:=0) hok).1,(Input.okWide_of_okWideB hok).2,⟨⟨ChangeSpec.pre_of_preB hpre,hx⟩,sizedMet_of_sizedB hsz⟩,by
  simp only [Assume.holds]
  exact ⟨by simp,fun _ _ _ _=>rfl,by simp,by simp,by simp⟩⟩
theorem ZoA {P:Program} {f:Func} {s:ChangeSpec} {F:Stop.Interp} {apart fresh handsOn:Bool} {W W':World} {args:Array Value} {v:Value} (h:s.post enc P f apart fresh handsOn false W args v W') :
  (OpenSpec.ofChange s).postWith enc P f F (outsideKept [.timePasses]) apart fresh handsOn W args v W':=by
 have e:W'.os=W.os:=by
  obtain ⟨_,_,_,_,_,_,_,_,_,_,h5,_⟩:=h
  exact h5.1
 have e2:({ W' with os:=W.os } : World)=W':=by rw [← e]
 exact postWith_of_post (by rw [e2];exact h) ⟨0,e⟩
theorem Zlf {a:Assume} {C:Checked} {os:Os} {f:FuncId} {fn:Func} {s:ChangeSpec} {apart fresh handsOn:Bool} {Pre:World→Array Value→Prop} {F:Stop.Interp} (h:ReturnsInLeavingWide a C os f .any Pre (s.post enc C.prog fn apart fresh handsOn false)) :
  ReturnsInLeavingWide a C os f .any Pre ((OpenSpec.ofChange s).postWith enc C.prog fn F (outsideKept [.timePasses]) apart fresh handsOn):=fun enter=>by
 obtain ⟨x1,x2,x3,x4,x5⟩:=h enter
 refine ⟨x1,x2,x3,x4,fun w tape i hf=>?_⟩
 obtain ⟨n,v,w',r1,r2,r3,r4,r5⟩:=x5 w tape i hf
 exact ⟨n,v,w',r1,r2,r3,ZoA r4,r5⟩
end Go.BL
namespace Go.BL
open Go
def ZaY (c:UInt8):Bool:=(decide (97≤c.toNat) && decide (c.toNat≤122)) || (decide (48≤c.toNat) && decide (c.toNat≤57))
def Zag (l:List UInt8):Bool:=l.all ZaY && decide (1≤l.length) && decide (l.length≤8)
theorem Zr9 {l:List UInt8} {k:Nat} {c:UInt8} (hc:l[k]? = some c) (h:ZaY c=false):l.all ZaY=false:=by
 rw [Bool.eq_false_iff];intro ha
 have:=List.all_eq_true.1 ha c (List.mem_of_getElem? hc)
 rw [h] at this;cases this
theorem Zmv {l:List UInt8} {k:Nat} {c:UInt8} (hc:l[k]? = some c) (h:ZaY c=true) (ha:(l.take k).all ZaY=true):(l.take (k+1)).all ZaY=true:=by
 rw [List.take_add_one,hc];simp only [Option.toList_some,List.all_append,ha,List.all_cons,h,List.all_nil];rfl
def word (l:List UInt8) (i:Nat):List UInt8:=(l.drop i).takeWhile ZaY
def ZcV (w:List UInt8):Bool:=decide (1≤w.length) && decide (w.length≤8)
theorem Zop {o:Option UInt8} {f:UInt8→Bool} (h:(match o with | some c=>f c | none=>false)=true) :∃c,o=some c∧f c=true:=by
 cases o with
 | none=>cases h
 | some c=>exact ⟨c,rfl,h⟩
theorem Zbm {α:Type} {l:List α} {k:Nat} {c:α} (h:l[k]? = some c):k<l.length:=(List.getElem?_eq_some_iff.1 h).1
theorem Zfj {p:UInt8→Bool} :∀{m:List UInt8} {k:Nat},(m.take k).all p=true→(∀c,m[k]? = some c→p c=false)→m.takeWhile p=m.take k
 | [],k,_,_=>by simp
 | c :: m,0,_,h=>by simp [List.takeWhile,h c rfl]
 | c :: m,k+1,ha,h=>by
  simp only [List.take_succ_cons,List.all_cons,Bool.and_eq_true] at ha
  simp only [List.takeWhile,ha.1,List.take_succ_cons]
  rw [Zfj ha.2 (fun c hc=>h c (by simpa using hc))]
theorem ZqB {l:List UInt8} {i k:Nat} (ha:((l.drop i).take k).all ZaY=true) (h :∀c,l[i+k]? = some c→ZaY c=false):word l i=(l.drop i).take k:=
 Zfj ha (fun c hc=>h c (by simpa using hc))
theorem ZeP {l:List UInt8} {i k:Nat} : (l.take (i+k)).drop i=(l.drop i).take k:=by
 rw [List.drop_take,Nat.add_sub_cancel_left]
theorem ZhK {a b c d:Value} (h:a=c) (h':b=d):Value.tuple #[a,b]=Value.tuple #[c,d]:=by rw [h,h']
def more:Nat→List UInt8→Nat→Bool × Nat
 | 0,_,i=>(true,i)
 | n+1,l,i=>if l[i]? = some 46 then (if ZcV (word l (i+1))=true then more n l (i+1+(word l (i+1)).length) else (false,i+1+(word l (i+1)).length)) else (true,i)
def dom (l:List UInt8) (i:Nat):Bool × Nat:=if ZcV (word l i)=true then more 2 l (i+(word l i).length) else (false,i+(word l i).length)
def Zhm (l:List UInt8) (i:Nat):List UInt8:=if (dom l i).1=true then (l.take (dom l i).2).drop i else []
def Zly (l:List UInt8) (i:Nat):Bool:=(dom l i).1 && decide ((dom l i).2 - i≤20)
theorem Zlx {l:List UInt8} {i:Nat} (h:ZcV (word l i)=false):dom l i=(false,i+(word l i).length):=by simp [dom,h]
theorem ZrX {l:List UInt8} {i:Nat} (h:ZcV (word l i)=true):dom l i=more 2 l (i+(word l i).length):=by simp [dom,h]
theorem ZgJ {l:List UInt8} {i:Nat} (h:i≤l.length):i+(word l i).length≤l.length:=by
 have:=List.IsPrefix.length_le (List.takeWhile_prefix ZaY (l:=l.drop i))
 rw [List.length_drop] at this
 unfold word;omega
theorem ZgZ {l:List UInt8} {n j:Nat} (h : ¬ l[j]? = some 46):more n l j=(true,j):=by
 cases n with
 | zero=>rfl
 | succ n=>rw [more,if_neg h]
theorem Zrl {l:List UInt8} {n j:Nat} (hn:1≤n) (h:l[j]? = some 46) (hw:ZcV (word l (j+1))=false):more n l j=(false,j+1+(word l (j+1)).length):=by
 cases n with
 | zero=>omega
 | succ n=>rw [more,if_pos h,if_neg (by simp [hw])]
theorem ZoP {l:List UInt8} {n j:Nat} (hn:1≤n) (h:l[j]? = some 46) (hw:ZcV (word l (j+1))=true):more n l j=more (n - 1) l (j+1+(word l (j+1)).length):=by
 cases n with
 | zero=>omega
 | succ n=>rw [more,if_pos h,if_pos hw];rfl
theorem Zdy {p:UInt8→Bool} :∀l:List UInt8,(l.takeWhile p).length=l.length↔l.all p=true
 | []=>by simp
 | c :: l=>by
  have h:=Zdy (p:=p) l
  cases hc:p c with
  | true=>simp [List.takeWhile,hc] at h ⊢;exact h
  | false=>simp [List.takeWhile,hc]
theorem ZcJ {l:List UInt8} : Zag l=(ZcV (word l 0) && decide ((word l 0).length=l.length)):=by
 have h:=Zdy (p:=ZaY) l
 have e:word l 0=l.takeWhile ZaY:=by simp [word]
 rw [Bool.eq_iff_iff]
 simp only [Zag,ZcV,e,Bool.and_eq_true,decide_eq_true_eq]
 constructor
 ·rintro ⟨⟨h1,h2⟩,h3⟩
  have:=h.2 h1
  omega
 ·rintro ⟨⟨h1,h2⟩,h3⟩
  exact ⟨⟨h.1 h3,by omega⟩,by omega⟩
theorem ZoO {l:List UInt8} :∀(n j:Nat),j≤l.length→(more n l j).2≤l.length
 | 0,j,h=>h
 | n+1,j,h=>by
  rw [more]
  split
  ·rename_i e
   have:=Zbm e
   have h2:=ZgJ (l:=l) (i:=j+1) (by omega)
   split
   ·exact ZoO n _ h2
   ·exact h2
  ·exact h
theorem ZvK {l:List UInt8} {i:Nat} (h:i≤l.length):(dom l i).2≤l.length:=by
 unfold dom
 have h2:=ZgJ h
 split
 ·exact ZoO 2 _ h2
 ·exact h2
def glue (a:List UInt8):List (List UInt8)→List (List UInt8)
 | []=>[a]
 | p :: ps=>(a ++ p) :: ps
def cut (x:UInt8):List UInt8→List (List UInt8)
 | []=>[[]]
 | c :: r=>if c=x then [] :: cut x r else glue [c] (cut x r)
theorem Zmu (x:UInt8) :∀l,cut x l≠[]
 | []=>by simp [cut]
 | c :: r=>by
  rw [cut]
  split
  ·simp
  ·cases cut x r <;> simp [glue]
theorem Zmg {m:List (List UInt8)} (h:m≠[]):glue [] m=m:=by
 cases m with
 | nil=>exact absurd rfl h
 | cons p ps=>rfl
theorem Zpg (a b:List UInt8) (m:List (List UInt8)):glue a (glue b m)=glue (a ++ b) m:=by
 cases m <;> simp [glue]
structure CutSt where
 i:Nat
 f:Nat
 m:Nat
 ps:List (List UInt8)
 q:Option Addr
 cp:Nat
 s:Cells
theorem Zwr {a b:UInt8} (h:(a.toNat:Int)=b.toNat):a=b:=UInt8.toNat_inj.1 (by exact_mod_cast h)
theorem Zt8 {l:List UInt8} {x c:UInt8} {i:Nat} (h:l[i]? = some c) (e:c=x):cut x (l.drop i)=[] :: cut x (l.drop (i+1)):=by
 obtain ⟨hlt,he⟩:=List.getElem?_eq_some_iff.1 h
 rw [List.drop_eq_getElem_cons hlt,he,cut,if_pos e]
theorem ZrZ {l:List UInt8} {x c:UInt8} {i:Nat} (h:l[i]? = some c) (e:c≠x):cut x (l.drop i)=glue [c] (cut x (l.drop (i+1))):=by
 obtain ⟨hlt,he⟩:=List.getElem?_eq_some_iff.1 h
 rw [List.drop_eq_getElem_cons hlt,he,cut,if_neg e]
theorem Zwq {a b:UInt8} (h : ¬ (a.toNat:Int)=b.toNat):a≠b:=fun e=>h (by rw [e])
theorem Zn9 {l:List UInt8} {c:UInt8} {i f:Nat} (h:l[i]? = some c) (hf:f≤i):(l.take i).drop f ++ [c]=(l.take (i+1)).drop f:=by
 have hlt:=Zbm h
 rw [List.take_add_one,h]
 simp only [Option.toList_some]
 rw [List.drop_append_of_le_length (by rw [List.length_take];omega)]
theorem ZrJ (a:List UInt8) (m:List (List UInt8)):glue a ([] :: m)=a :: m:=by simp [glue]
def Zch (l:List UInt8):Bool:=(cut 46 l).all Zag && decide ((cut 46 l).length≤3) && decide (l.length≤20)
theorem ZrI {a:List UInt8} {m:List (List UInt8)} {n:Nat} (h :∀p,p∈m→p.length≤n) :∀p,p∈glue a m→p.length≤a.length+n:=by
 cases m with
 | nil=>intro p hp;simp [glue] at hp;subst hp;omega
 | cons q qs=>
  intro p hp
  simp only [glue,List.mem_cons] at hp
  rcases hp with rfl | hp
  ·rw [List.length_append];have:=h q (List.mem_cons_self ..);omega
  ·have:=h p (List.mem_cons_of_mem _ hp);omega
theorem Zlz (x:UInt8) :∀(l p:List UInt8),p∈cut x l→p.length≤l.length
 | [],p,h=>by simp [cut] at h;subst h;simp
 | c :: r,p,h=>by
  rw [cut] at h
  split at h
  ·rcases List.mem_cons.1 h with rfl | h
   ·simp
   ·have:=Zlz x r p h;simp;omega
  ·have:=ZrI (Zlz x r) p h;simp at this ⊢;omega
theorem Zks {l:List (List UInt8)} {k:Nat} {c:List UInt8} (hc:l[k]? = some c) (h:Zag c=false):l.all Zag=false:=by
 rw [Bool.eq_false_iff];intro ha
 have:=List.all_eq_true.1 ha c (List.mem_of_getElem? hc)
 rw [h] at this;cases this
theorem Zht {l:List (List UInt8)} {k:Nat} {c:List UInt8} (hc:l[k]? = some c) (h:Zag c=true) (ha:(l.take k).all Zag=true):(l.take (k+1)).all Zag=true:=by
 rw [List.take_add_one,hc];simp only [Option.toList_some,List.all_append,ha,List.all_cons,h,List.all_nil];rfl
theorem Zki (x:UInt8) :∀l:List UInt8,(cut x l).length≤l.length+1
 | []=>by simp [cut]
 | c :: r=>by
  have h:=Zki x r
  rw [cut]
  split
  ·simp;omega
  ·cases hq:cut x r with
   | nil=>exact absurd hq (Zmu x r)
   | cons p ps=>rw [hq] at h;simp [glue] at h ⊢;omega
end Go.BL
namespace Go.BL
open Go
theorem ZiZ {x:UInt8} :∀{l:List UInt8},x ∉ l→cut x l=[l]
 | [],_=>rfl
 | c :: r,h=>by
  rw [cut,if_neg (fun e=>h (by rw [e];exact List.mem_cons_self ..)),ZiZ (fun hm=>h (List.mem_cons_of_mem _ hm))]
  rfl
theorem Zhn {x:UInt8} {b:List UInt8} :∀{a:List UInt8},x ∉ a→cut x (a ++ x :: b)=a :: cut x b
 | [],_=>by simp [cut]
 | c :: r,h=>by
  rw [List.cons_append,cut,if_neg (fun e=>h (by rw [e];exact List.mem_cons_self ..)),Zhn (fun hm=>h (List.mem_cons_of_mem _ hm))]
  rfl
theorem ZeY {x:UInt8} :∀{l:List UInt8},x∈l→∃a b,l=a ++ x :: b∧x ∉ a
 | c :: r,h=>by
  by_cases e:c=x
  ·exact ⟨[],r,by simp [e],by simp⟩
  ·have hr:x∈r:=(List.mem_cons.1 h).resolve_left (Ne.symm e)
   obtain ⟨a,b,h1,h2⟩:=ZeY hr
   exact ⟨c :: a,b,by simp [h1],by simp [Ne.symm e,h2]⟩
theorem ZhF (l:List UInt8) (i j:Nat):word l (i+j)=word (l.drop i) j:=by
 unfold word;rw [List.drop_drop]
theorem ZhV (l:List UInt8) (i:Nat) :∀n j,more n l (i+j)=((more n (l.drop i) j).1,i+(more n (l.drop i) j).2)
 | 0,j=>rfl
 | n+1,j=>by
  simp only [more,List.getElem?_drop]
  rw [show i+j+1=i+(j+1) from by omega,ZhF]
  split
  ·split
   ·rw [show i+(j+1)+(word (l.drop i) (j+1)).length=i+(j+1+(word (l.drop i) (j+1)).length) from by omega,ZhV l i n]
   ·simp only [Prod.mk.injEq,true_and];omega
  ·rfl
theorem ZqC {l:List UInt8} (h:l.all ZaY=true):word l 0=l:=by
 have:=(Zdy (p:=ZaY) l).2 h
 have h2:=List.takeWhile_prefix ZaY (l:=l)
 simp only [word,List.drop_zero]
 exact List.IsPrefix.eq_of_length h2 this
theorem Zgd {a b:List UInt8} {x:UInt8} (hx:ZaY x=false) (h:a.all ZaY=true):word (a ++ x :: b) 0=a:=by
 simp only [word,List.drop_zero]
 induction a with
 | nil=>simp [List.takeWhile,hx]
 | cons c a ih=>
  simp only [List.all_cons,Bool.and_eq_true] at h
  simp only [List.cons_append,List.takeWhile,h.1,ih h.2]
theorem Zgc {a:List UInt8} (b:List UInt8) (h:a.all ZaY=false):(word (a ++ b) 0).length<a.length∧word (a ++ b) 0=word a 0:=by
 simp only [word,List.drop_zero]
 induction a with
 | nil=>simp at h
 | cons c a ih=>
  cases hc:ZaY c with
  | false=>simp [List.takeWhile,hc]
  | true=>
   have h':a.all ZaY=false:=by simpa [hc] using h
   have:=ih h'
   simp only [List.cons_append,List.takeWhile,hc,List.length_cons]
   exact ⟨by omega,by rw [this.2]⟩
theorem ZtI {a:List UInt8} (b:List UInt8) {k:Nat} (h:k<a.length):(a ++ b)[k]? = a[k]?:=List.getElem?_append_left h
theorem Zhd {x:UInt8} {a:List UInt8} (h:x ∉ a) (k:Nat):a[k]?≠some x:=fun e=>h (List.mem_of_getElem? e)
theorem ZoJ :∀(n:Nat) (b:List UInt8),(ZcV (word b 0)=true∧more n b (word b 0).length=(true,b.length))↔((cut 46 b).all Zag=true∧(cut 46 b).length≤n+1):=by
 intro n
 induction n with
 | zero=>
  intro b
  by_cases hd:(46:UInt8)∈b
  ·obtain ⟨a,r,rfl,ha⟩:=ZeY hd
   rw [Zhn ha]
   have hlen:(word (a ++ 46 :: r) 0).length≤a.length:=by
    cases hna:a.all ZaY with
    | true=>rw [Zgd (by decide) hna];exact Nat.le_refl _
    | false=>exact Nat.le_of_lt (Zgc _ hna).1
   constructor
   ·rintro ⟨_,h2⟩
    simp only [more,Prod.mk.injEq,true_and] at h2
    rw [List.length_append,List.length_cons] at h2
    omega
   ·rintro ⟨_,h2⟩
    have:=Zmu 46 r
    simp only [List.length_cons] at h2
    exact absurd (List.eq_nil_of_length_eq_zero (by omega)) this
  ·rw [ZiZ hd]
   simp only [more,List.all_cons,List.all_nil,Bool.and_true,List.length_cons,List.length_nil,Nat.zero_add,Nat.le_refl,and_true,Prod.mk.injEq,true_and,ZcJ,Bool.and_eq_true,decide_eq_true_eq]
 | succ n ih=>
  intro b
  by_cases hd:(46:UInt8)∈b
  ·obtain ⟨a,r,rfl,ha⟩:=ZeY hd
   rw [Zhn ha]
   cases hna:a.all ZaY with
   | true=>
    rw [Zgd (by decide) hna]
    have hg:(a ++ 46 :: r)[a.length]? = some 46:=by simp
    have hdr:(a ++ 46 :: r).drop (a.length+1)=r:=by rw [List.drop_append];simp
    have hw:word (a ++ 46 :: r) (a.length+1)=word r 0:=by
     have:=ZhF (a ++ 46 :: r) (a.length+1) 0
     rw [Nat.add_zero,hdr] at this;exact this
    have hm:more n (a ++ 46 :: r) (a.length+1+(word r 0).length)=((more n r (word r 0).length).1,a.length+1+(more n r (word r 0).length).2):=by
     rw [ZhV,hdr]
    simp only [more,hg,if_true,hw,hm,List.all_cons,Bool.and_eq_true,List.length_cons]
    have hna':Zag a=ZcV a:=by rw [ZcJ,ZqC hna];simp
    have hi:=ih r
    constructor
    ·rintro ⟨h1,h2⟩
     split at h2
     ·rename_i h3
      simp only [Prod.mk.injEq,List.length_append,List.length_cons] at h2
      have:=hi.1 ⟨h3,by ext1;exact h2.1;simp only [];omega⟩
      exact ⟨⟨by rw [hna'];exact h1,this.1⟩,by omega⟩
     ·simp at h2
    ·rintro ⟨⟨h1,h2⟩,h3⟩
     obtain ⟨h4,h5⟩:=hi.2 ⟨h2,by omega⟩
     refine ⟨by rw [← hna'];exact h1,?_⟩
     rw [if_pos h4,h5]
     simp;omega
   | false=>
    obtain ⟨h1,h2⟩:=Zgc (46 :: r) hna
    have hne:Zag a=false:=by simp [Zag,hna]
    constructor
    ·rintro ⟨_,h3⟩
     rw [ZgZ (by rw [ZtI _ h1];exact Zhd ha _)] at h3
     simp only [Prod.mk.injEq,true_and,List.length_append,List.length_cons] at h3
     omega
    ·rintro ⟨h3,_⟩
     simp [hne] at h3
  ·rw [ZiZ hd]
   rw [ZgZ (Zhd hd _)]
   simp only [List.all_cons,List.all_nil,Bool.and_true,List.length_cons,List.length_nil,Prod.mk.injEq,true_and,ZcJ,Bool.and_eq_true,decide_eq_true_eq]
   constructor
   ·rintro ⟨h1,h2⟩;exact ⟨⟨h1,h2⟩,by omega⟩
   ·rintro ⟨⟨h1,h2⟩,_⟩;exact ⟨h1,h2⟩
theorem Zkf (b:List UInt8):((dom b 0).1=true∧(dom b 0).2≤20∧(dom b 0).2=b.length)↔Zch b=true:=by
 have h:=ZoJ 2 b
 simp only [Zch,Bool.and_eq_true,decide_eq_true_eq]
 constructor
 ·rintro ⟨h1,h2,h3⟩
  cases hw:ZcV (word b 0) with
  | false=>simp [dom,hw] at h1
  | true=>
   simp only [dom,hw,if_true,Nat.zero_add] at h1 h2 h3
   have:=h.1 ⟨hw,by ext1;exact h1;exact h3⟩
   exact ⟨⟨this.1,this.2⟩,by omega⟩
 ·rintro ⟨⟨h1,h2⟩,h3⟩
  obtain ⟨h4,h5⟩:=h.2 ⟨h1,h2⟩
  simp only [dom,h4,if_true,Nat.zero_add,h5]
  exact ⟨trivial,h3,trivial⟩
end Go.BL
namespace Go.BL
open Go
theorem ZaJ {α:Type} {p:α→Prop} {l:List α} {k:Nat} {x:α} (hx:l[k]? = some x) (h :∀y,y∈l.take k→p y) (hp:p x) :∀y,y∈l.take (k+1)→p y:=by
 intro y hy
 rw [List.take_add_one,hx] at hy
 simp only [Option.toList_some,List.mem_append,List.mem_singleton] at hy
 rcases hy with hy | rfl
 ·exact h y hy
 ·exact hp
def Zgi (us:List DUser) (u:Str):Int:=match us.findIdx? (fun x=>decide (x.name=u)) with | some i=>i | none=>-1
theorem Zrv {us:List DUser} {u:Str} {k:Nat} {x:DUser} (hx:us[k]? = some x) (he:x.name=u) (h :∀y,y∈us.take k→y.name≠u):Zgi us u=k:=by
 have:us.findIdx? (fun x=>decide (x.name=u))=some k:=by
  rw [List.findIdx?_eq_some_iff_getElem]
  obtain ⟨hk,rfl⟩:=List.getElem?_eq_some_iff.1 hx
  refine ⟨hk,by simpa using he,fun j hj=>?_⟩
  have:=h us[j] (by rw [List.mem_take_iff_getElem];exact ⟨j,by omega,rfl⟩)
  simpa using this
 rw [Zgi,this]
theorem Zo8 {us:List DUser} {u:Str} (h :∀y,y∈us→y.name≠u):Zgi us u = -1:=by
 have:us.findIdx? (fun x=>decide (x.name=u))=none:=by
  rw [List.findIdx?_eq_none_iff]
  intro x hx
  simpa using h x hx
 rw [Zgi,this]
theorem ZaO {α:Type} {as bs:List α} {k:Nat} {x y:α} (hx:as[k]? = some x) (hy:bs[k]? = some y) (e:x=y) (h:as.take k=bs.take k):as.take (k+1)=bs.take (k+1):=by
 rw [List.take_add_one,List.take_add_one,hx,hy,e,h]
theorem Zek {α:Type} {as bs:List α} {inst:Decidable (as=bs)} (h : ¬ (as.length:Int)=bs.length):false=decide (as=bs):=by
 symm;rw [decide_eq_false_iff_not];intro e;exact h (by rw [e])
theorem Zc3 {α:Type} {as bs:List α} {inst:Decidable (as=bs)} {k:Nat} {x y:α} (hx:as[k]? = some x) (hy:bs[k]? = some y) (e : ¬ x=y):false=decide (as=bs):=by
 symm;rw [decide_eq_false_iff_not];intro h;rw [h,hy] at hx;exact e (Option.some.inj hx).symm
theorem eqT {α:Type} {as bs:List α} {inst:Decidable (as=bs)} {k:Nat} (hl:as.length=bs.length) (hk:k=as.length) (h:as.take k=bs.take k):true=decide (as=bs):=by
 symm;rw [decide_eq_true_eq]
 rw [List.take_of_length_le (by omega),List.take_of_length_le (by omega)] at h;exact h
theorem Zzi {α:Type} {as:List α} {x:α} {inst:Decidable (x∈as)} (h :∀y,y∈as→y≠x):false=decide (x∈as):=by
 symm;rw [decide_eq_false_iff_not];intro hx;exact h x hx rfl
theorem Zzh {α:Type} {as:List α} {x y:α} {inst:Decidable (x∈as)} {k:Nat} (hy:as[k]? = some y) (e:y=x):true=decide (x∈as):=by
 symm;rw [decide_eq_true_eq];subst e;exact List.mem_of_getElem? hy
theorem ZaR {α:Type} {p:α→Prop} {l:List α} {k:Nat} (hk : ¬ (k:Int)<l.length) (h :∀y,y∈l.take k→p y) :∀y,y∈l→p y:=by
 rwa [List.take_of_length_le (by omega)] at h
theorem ZiX {α:Type} {l:List α} {k:Nat} {x:α} (h:l[k]? = some x):l.drop k=x :: l.drop (k+1):=by
 obtain ⟨hlt,he⟩:=List.getElem?_eq_some_iff.1 h
 rw [List.drop_eq_getElem_cons hlt,he]
theorem ZpW {α:Type} {l:List α} {k:Nat} (h : ¬ (k:Int)<l.length):l.drop k=[]:=List.drop_eq_nil_of_le (by omega)
def ZcI (l:List Str):Bool:=l.all Zag && decide l.Nodup && decide (l.length≤3)
def Zcv (x:DLetter):Bool:=Zag x.fr && ZcI x.to_ && decide (0<x.to_.length) && decide (x.text.length≤20)
def Zfv (x:DItem):Bool:=Zcv ⟨x.fr,x.left,x.text⟩
def Zdf:Int→List DItem→Option Int
 | last,[]=>some last
 | last,x :: r=>if (last+1≤x.id∧x.id≤99)∧Zfv x=true then Zdf x.id r else none
def ZaU (q:DQueue):Bool:=match Zdf 0 q.items with
 | some last=>decide (last+1≤q.next) && decide (q.next≤100) && decide (q.items.length≤6)
 | none=>false
theorem ZoI {α:Type} {l:List α} {k:Nat} {x:α} (hx:l[k]? = some x) (h:(l.take k).Nodup) (hn : ¬ x∈l.take k):(l.take (k+1)).Nodup:=by
 rw [List.take_add_one,hx]
 simp only [Option.toList_some]
 rw [List.nodup_append]
 exact ⟨h,by simp,fun a ha b hb=>by rw [List.mem_singleton.1 hb];exact fun e=>hn (e ▸ ha)⟩
theorem Zts {α:Type} {l:List α} {k:Nat} {x:α} (hx:l[k]? = some x) (h:x∈l.take k) : ¬ l.Nodup:=by
 intro hn
 have e:l=l.take k ++ l.drop k:=(List.take_append_drop k l).symm
 rw [e,ZiX hx,List.nodup_append] at hn
 exact hn.2.2 x h x (List.mem_cons_self ..) rfl
theorem Zgh {l:List Str} {k:Nat} {x:Str} (hx:l[k]? = some x) (h:Zag x=false):false=ZcI l:=by
 simp [ZcI,Zks hx h]
theorem Zgg {l:List Str} {k:Nat} {x:Str} (hx:l[k]? = some x) (h:x∈l.take k):false=ZcI l:=by
 simp [ZcI,Zts hx h]
theorem ZgY {l:List Str} {k:Nat} (hk : ¬ (k:Int)<l.length) (ha:(l.take k).all Zag=true) (hn:(l.take k).Nodup):decide ((l.length:Int)≤3)=ZcI l:=by
 rw [List.take_of_length_le (by omega)] at ha hn
 rw [Bool.eq_iff_iff];simp only [ZcI,ha,decide_eq_true hn,Bool.true_and,decide_eq_true_eq];omega
def Zbe {α:Type} (p:α→Bool) (xs:List α):Int:=match xs.findIdx? p with | some i=>i | none=>-1
theorem Zgz {α:Type} {p:α→Bool} {xs:List α} {k:Nat} {x:α} (hx:xs[k]? = some x) (he:p x=true) (h :∀y,y∈xs.take k→p y=false):Zbe p xs=k:=by
 have:xs.findIdx? p=some k:=by
  rw [List.findIdx?_eq_some_iff_getElem]
  obtain ⟨hk,rfl⟩:=List.getElem?_eq_some_iff.1 hx
  refine ⟨hk,he,fun j hj=>?_⟩
  have:=h xs[j] (by rw [List.mem_take_iff_getElem];exact ⟨j,by omega,rfl⟩)
  simpa using this
 rw [Zbe,this]
theorem Zee {α:Type} {p:α→Bool} {xs:List α} (h :∀y,y∈xs→p y=false):Zbe p xs = -1:=by
 have:xs.findIdx? p=none:=by
  rw [List.findIdx?_eq_none_iff]
  intro x hx
  simpa using h x hx
 rw [Zbe,this]
theorem Zrx {α:Type} {p:α→Bool} {xs:List α} : (0≤Zbe p xs)↔∃x,x∈xs∧p x=true:=by
 cases h:xs.findIdx? p with
 | none=>
  rw [List.findIdx?_eq_none_iff] at h
  simp only [Zbe,List.findIdx?_eq_none_iff.2 h]
  refine ⟨fun e=>absurd e (by omega),fun ⟨x,hx,hp⟩=>?_⟩
  rw [h x hx] at hp;cases hp
 | some i=>
  simp only [Zbe,h]
  rw [List.findIdx?_eq_some_iff_getElem] at h
  obtain ⟨hi,hp,_⟩:=h
  exact ⟨fun _=>⟨_,List.getElem_mem hi,hp⟩,fun _=>by omega⟩
def ZwO (xs:List Str) (v:Str):Int:=Zbe (fun x=>decide (x=v)) xs
theorem Zrw {xs:List Str} {v:Str} : (0≤ZwO xs v)↔v∈xs:=by
 rw [ZwO,Zrx];simp
theorem Zl5 {q:DQueue} (h:Zdf 0 q.items=none):false=ZaU q:=by simp [ZaU,h]
theorem Zl4 {q:DQueue} {last:Int} (h:Zdf 0 q.items=some last):(decide (last+1≤q.next) && decide (q.next≤100) && decide (q.items.length≤6))=ZaU q:=by simp [ZaU,h]
theorem Zos {q:DQueue} {k:Nat} {last:Int} {x:DItem} (hs:Zdf 0 q.items=Zdf last (q.items.drop k)) (hx:q.items[k]? = some x):Zdf 0 q.items=if (last+1≤x.id∧x.id≤99)∧Zfv x=true then Zdf x.id (q.items.drop (k+1)) else none:=by
 rw [hs,ZiX hx,Zdf]
theorem Zeb (x:DLetter):Zcv x=(Zag x.fr && (decide (1≤x.to_.length) && ZcI x.to_) && decide ((x.text.length:Int)≤20)):=by
 rw [Bool.eq_iff_iff];simp only [Zcv,Bool.and_eq_true,decide_eq_true_eq]
 constructor
 ·rintro ⟨⟨⟨a,b⟩,c⟩,d⟩;exact ⟨⟨a,by omega,b⟩,by omega⟩
 ·rintro ⟨⟨a,c,b⟩,d⟩;exact ⟨⟨⟨a,b⟩,by omega⟩,by omega⟩
structure Gh (α:Type) where
 k:Nat
 p:Nat
 l:Cells
 a:Option Addr
 c:Nat
 xs:List α
theorem Zcb {α:Type} {l:List α} {k:Nat} {x:α} (hx:l[k]? = some x):l.take (k+1)=l.take k ++ [x]:=by
 rw [List.take_add_one,hx];rfl
theorem Zot :∀{xs:List DItem} {l r:Int},Zdf l xs=some r→l≤r
 | [],l,r,h=>by simp only [Zdf,Option.some.injEq] at h;omega
 | x :: xs,l,r,h=>by
  rw [Zdf] at h
  split at h
  ·rename_i e;have:=Zot h;omega
  ·cases h
theorem ZjB {q:DQueue} (h:ZaU q=true):1≤q.next∧q.next≤100∧q.items.length≤6:=by
 unfold ZaU at h
 split at h
 ·rename_i last e
  have:=Zot e
  simp only [Bool.and_eq_true,decide_eq_true_eq] at h
  omega
 ·cases h
structure Gh2 (α β:Type) where
 k:Nat
 p:Nat
 l:Cells
 a:Option Addr
 c:Nat
 xs:List α
 e:β
theorem ZpV {α:Type} {xs:List α} {j:Nat} {y:α} (h:xs[j]? = some y):xs.drop j=y :: xs.drop (j+1):=by
 obtain ⟨hj,rfl⟩:=List.getElem?_eq_some_iff.1 h
 exact List.drop_eq_getElem_cons hj
structure QOf where
 p:Option Addr
 ys:List DItem
 xs:List DItem
 l:Cells
 q:Option Addr
 c:Nat
 cells:Cells
theorem ZU.slice0 {α:Type} {B:Kn} {l:Cells} {p:Option Addr} {c:Nat} {T:TypeId} {w sz:Nat} {R:Rel α} {xs:List α} (h:ZU B l p c T w R xs):(if c=0 then p else p.map (fun a=>a.add (0*sz)))=p:=by
 obtain ⟨rows,_,_,_,⟨rfl,_,rfl,_⟩ | ⟨b,arr,rfl,_,_,_,_⟩⟩:=h
 ·rfl
 ·split
  ·rfl
  ·rw [Nat.zero_mul];simp [Addr.add_off]
theorem ZfO {q:DQueue} (h : ¬ (q.items.length≤6∧1≤q.next∧q.next≤100)):false=ZaU q:=by
 symm;rw [Bool.eq_false_iff];intro hq
 have:=ZjB hq
 omega
end Go.BL
namespace Go.BL
open Go
def hat (xs:List Int) (k:Nat):Int:=xs.getD k 0
def swp (xs:List Int) (i j:Nat):List Int:=(xs.set i (hat xs j)).set j (hat xs i)
def ZcT (xs:List Int):Prop:=∀k,0<k→k<xs.length→hat xs ((k - 1) / 2)≤hat xs k
def Zfb (xs:List Int) (j:Nat):Prop:=(∀k,0<k→k<xs.length→k≠j→hat xs ((k - 1) / 2)≤hat xs k)∧(∀k,0<k→k<xs.length→(k - 1) / 2=j→0<j→hat xs ((j - 1) / 2)≤hat xs k)
theorem ZtH {xs:List Int} {k:Nat} {a:Int} (h:xs[k]? = some a):hat xs k=a:=by simp [hat,List.getD,h]
theorem Zax {xs:List Int} {k:Nat} (h:k<xs.length):xs[k]? = some (hat xs k):=by simp [hat,List.getD,List.getElem?_eq_getElem h]
theorem ZcH (xs:List Int) (i j:Nat):(swp xs i j).length=xs.length:=by simp [swp]
theorem Zef {xs:List Int} {i j:Nat} (hi:i<xs.length) (hj:j<xs.length) (k:Nat):hat (swp xs i j) k=if k=j then hat xs i else if k=i then hat xs j else hat xs k:=by
 simp only [hat,swp,List.getD,List.getElem?_set]
 by_cases h1:k=j
 ·subst h1;simp [hj]
 ·have h1' : ¬j=k:=fun h=>h1 h.symm
  by_cases h2:k=i
  ·subst h2;simp [hi,h1,h1']
  ·have h2' : ¬i=k:=fun h=>h2 h.symm
   simp [h1,h1',h2,h2']
theorem Zfk {xs:List Int} {i j:Nat} (hi:i<xs.length) (hj:j<xs.length):(swp xs i j).Perm xs:=by
 rw [List.perm_iff_count]
 intro a
 unfold swp
 rw [List.count_set (by simpa using hj),List.count_set hi]
 have e1:(xs.set i (hat xs j))[j]'(by simpa using hj)=hat xs j:=by
  rw [List.getElem_set];split
  ·rfl
  ·simp [hat,List.getD,List.getElem?_eq_getElem hj]
 have e2:xs[i]=hat xs i:=by simp [hat,List.getD,List.getElem?_eq_getElem hi]
 rw [e1,e2]
 have hp :∀v,(v == a)=true→v∈xs→0<List.count a xs:=fun v hv hm=>by
  rw [beq_iff_eq] at hv;subst hv;exact List.count_pos_iff.2 hm
 have hm1:hat xs i∈xs:=by rw [← e2];exact List.getElem_mem _
 by_cases h1:(hat xs i == a)=true <;> by_cases h2:(hat xs j == a)=true <;> simp [h1,h2] <;> (try have:=hp _ h1 hm1;omega)
theorem Zs3 {xs:List Int} (h:Zfb xs 0):ZcT xs:=fun k h0 hk=>h.1 k h0 hk (by omega)
theorem Zs5 {xs:List Int} {j:Nat} (h:Zfb xs j) (hj:hat xs ((j - 1) / 2)≤hat xs j):ZcT xs:=fun k h0 hk=>by
 by_cases e:k=j
 ·subst e;exact hj
 ·exact h.1 k h0 hk e
theorem Zs4 {xs:List Int} {j:Nat} (h0:0<j) (hj:j<xs.length) (h:Zfb xs j) (hlt:hat xs j<hat xs ((j - 1) / 2)):Zfb (swp xs ((j - 1) / 2) j) ((j - 1) / 2):=by
 have hi:(j - 1) / 2<xs.length:=by omega
 have H:=fun k=>Zef hi hj k
 generalize hii:(j - 1) / 2=i at *
 refine ⟨fun k hk0 hk hne=>?_,fun k hk0 hk hpar hi0=>?_⟩
 ·rw [ZcH] at hk
  rw [H,H]
  by_cases e1:k=j
  ·subst e1
   rw [hii];rw [if_neg (by omega),if_pos rfl,if_pos rfl];omega
  ·rw [if_neg e1,if_neg hne]
   by_cases e2:(k - 1) / 2=j
   ·rw [if_pos e2];have:=h.2 k hk0 hk e2 h0;rw [hii] at this;exact this
   ·rw [if_neg e2]
    by_cases e3:(k - 1) / 2=i
    ·rw [if_pos e3];have:=h.1 k hk0 hk e1;rw [e3] at this;omega
    ·rw [if_neg e3];exact h.1 k hk0 hk e1
 ·rw [ZcH] at hk
  rw [H,H]
  have hpi:(i - 1) / 2≠i:=by omega
  have hpj:(i - 1) / 2≠j:=by omega
  rw [if_neg hpj,if_neg hpi]
  have hii2:=h.1 i hi0 hi (by omega)
  by_cases e1:k=j
  ·rw [if_pos e1];exact hii2
  ·rw [if_neg e1,if_neg (by omega)]
   have:=h.1 k hk0 hk e1;rw [hpar] at this;omega
theorem ZrA {xs:List Int} (h:ZcT xs) :∀k,k<xs.length→hat xs 0≤hat xs k:=fun k=>by
 induction k using Nat.strongRecOn with
 | ind k ih=>
  intro hk
  by_cases h0:k=0
  ·subst h0;exact Int.le_refl _
  ·have h1:=ih ((k - 1) / 2) (by omega) (by omega)
   have h2:=h k (by omega) hk
   omega
def Zsh (xs:List Int) (n:Nat):Prop:=∀k,0<k→k<n→hat xs ((k - 1) / 2)≤hat xs k
def Zep (xs:List Int) (n i:Nat):Prop:=(∀k,0<k→k<n→(k - 1) / 2≠i→hat xs ((k - 1) / 2)≤hat xs k)∧(∀k,0<k→k<n→(k - 1) / 2=i→0<i→hat xs ((i - 1) / 2)≤hat xs k)
theorem ZpX {xs:List Int} {n i:Nat} (h:Zep xs n i) (hl:n≤2*i+1):Zsh xs n:=fun k h0 hk=>h.1 k h0 hk (by omega)
theorem Zhl {xs:List Int} {n i:Nat} (h:Zep xs n i) (hc :∀k,0<k→k<n→(k - 1) / 2=i→hat xs i≤hat xs k):Zsh xs n:=fun k h0 hk=>by
 by_cases e:(k - 1) / 2=i
 ·rw [e];exact hc k h0 hk e
 ·exact h.1 k h0 hk e
theorem Zhk {xs:List Int} {n i j:Nat} (hn:n≤xs.length) (hj0:0<j) (hj:j<n) (hpj:(j - 1) / 2=i) (h:Zep xs n i) (hmin :∀k,0<k→k<n→(k - 1) / 2=i→hat xs j≤hat xs k) (hlt:hat xs j<hat xs i):Zep (swp xs i j) n j:=by
 have hi:i<xs.length:=by omega
 have hij:i≠j:=by omega
 have H:=fun k=>Zef hi (show j<xs.length by omega) k
 refine ⟨fun k hk0 hk hne=>?_,fun k hk0 hk hpar _=>?_⟩
 ·rw [H,H,if_neg hne]
  by_cases e1:k=j
  ·subst e1;rw [if_pos hpj,if_pos rfl];omega
  ·rw [if_neg e1]
   by_cases e2:(k - 1) / 2=i
   ·rw [if_pos e2,if_neg (by omega)];exact hmin k hk0 hk e2
   ·rw [if_neg e2]
    by_cases e3:k=i
    ·rw [if_pos e3];subst e3;exact h.2 j hj0 hj hpj hk0
    ·rw [if_neg e3];exact h.1 k hk0 hk e2
 ·rw [H,H,hpj,if_neg hij,if_pos rfl,if_neg (by omega),if_neg (by omega)]
  have:=h.1 k hk0 hk (by omega)
  rwa [hpar] at this
theorem Zws (k:Nat):Int.tdiv ((k:Int) - 1) 2=(((k - 1) / 2:Nat):Int):=by
 cases k with
 | zero=>rfl
 | succ k=>rw [show ((k+1:Nat):Int) - 1=(k:Int) from by omega,Int.tdiv_eq_ediv_of_nonneg (by omega)];simp
theorem Zpf {xs:List Int} {z:Int} {k:Nat} (h:k<xs.length):hat (xs ++ [z]) k=hat xs k:=by
 simp [hat,List.getD,List.getElem?_append_left h]
theorem Zq2 {xs:List Int} {z:Int} (h:ZcT xs):Zfb (xs ++ [z]) xs.length:=by
 refine ⟨fun k h0 hk hne=>?_,fun k h0 hk hp _=>?_⟩
 ·rw [List.length_append,List.length_singleton] at hk
  rw [Zpf (by omega),Zpf (by omega)]
  exact h k h0 (by omega)
 ·rw [List.length_append,List.length_singleton] at hk
  omega
theorem Zth {xs:List Int} (h:ZcT xs) (h0:0<xs.length):Zep (swp xs 0 (xs.length - 1)) (xs.length - 1) 0:=by
 refine ⟨fun k hk0 hk hne=>?_,fun k hk0 hk hpar hh=>absurd hh (by omega)⟩
 rw [Zef h0 (by omega),Zef h0 (by omega),if_neg (by omega),if_neg (by omega),if_neg (by omega),if_neg (by omega)]
 exact h k hk0 (by omega)
theorem ZqW {xs:List Int} (h0:0<xs.length):hat (swp xs 0 (xs.length - 1)) (xs.length - 1)=hat xs 0:=by rw [Zef h0 (by omega),if_pos rfl]
theorem Zmf {xs:List Int} {n k:Nat} (h:k<n):hat (xs.take n) k=hat xs k:=by simp [hat,List.getD,List.getElem?_take,h]
theorem Znd {ys:List Int} {n:Nat} (h:Zsh ys n) (hn:n≤ys.length):ZcT (ys.take n):=fun k h0 hk=>by
 rw [List.length_take] at hk
 rw [Zmf (by omega),Zmf (by omega)]
 exact h k h0 (by omega)
theorem Zq5 {xs ys:List Int} (h0:0<ys.length) (hp:ys.Perm xs) {z:Int} (hz:hat ys (ys.length - 1)=z):(z :: ys.take (ys.length - 1)).Perm xs:=by
 refine List.Perm.trans ?_ hp
 have e:ys=ys.take (ys.length - 1) ++ [z]:=by
  have h1:=Zcb (Zax (xs:=ys) (k:=ys.length - 1) (by omega))
  rw [show ys.length - 1+1=ys.length from by omega,List.take_length] at h1
  rw [hz] at h1;exact h1
 have h2:(z :: ys.take (ys.length - 1)).Perm (ys.take (ys.length - 1) ++ [z]):=(List.perm_append_singleton z _).symm
 rwa [← e] at h2
theorem Zrz:ZcT []:=fun k h0 hk=>by simp at hk
def asc:Int→Int→List Int→Bool
 | _,_,[]=>true
 | b,l,x :: r=>decide (b<x) && decide (x≤l) && asc x l r
theorem Zqc :∀{r:List Int} {b l z:Int},asc b l r=true→z∈r→b<z
 | [],_,_,_,_,hz=>by cases hz
 | x :: r,b,l,z,h,hz=>by
  simp only [asc,Bool.and_eq_true,decide_eq_true_eq] at h
  rcases List.mem_cons.1 hz with rfl | hz
  ·exact h.1.1
  ·have:=Zqc h.2 hz;omega
theorem ZtG {xs:List Int} {k:Nat} (h:k<xs.length):hat xs k∈xs:=List.mem_of_getElem? (Zax h)
theorem Zr7 {b l x:Int} {r ys:List Int} (hp:ys.Perm (x :: r)) (hh:ZcT ys) (hne:hat ys 0≠x):false=asc b l (x :: r):=by
 symm;rw [Bool.eq_false_iff]
 intro h
 have h0:0<ys.length:=by rw [hp.length_eq];simp
 have hm:=hp.mem_iff.1 (ZtG h0)
 simp only [asc,Bool.and_eq_true,decide_eq_true_eq] at h
 rcases List.mem_cons.1 hm with e | hm
 ·exact hne e
 ·have h1:=Zqc h.2 hm
  obtain ⟨k,hk⟩:=List.mem_iff_getElem?.1 (hp.mem_iff.2 (List.mem_cons_self (a:=x) (l:=r)))
  have h2:=ZrA hh k (List.getElem?_eq_some_iff.1 hk).1
  rw [ZtH hk] at h2
  omega
theorem Zr6 {b l x:Int} {r:List Int} (h:x≤b):false=asc b l (x :: r):=by simp [asc,show ¬ b<x from by omega]
theorem Zr5 {b l x:Int} {r:List Int} (h:l<x):false=asc b l (x :: r):=by simp [asc,show ¬ x≤l from by omega]
theorem ZvQ {b l x:Int} {r:List Int} (h : ¬ x≤b) (h2 : ¬ l<x):asc b l (x :: r)=asc x l r:=by simp [asc,show b<x from by omega,show x≤l from by omega]
theorem Zl1 :∀{xs:List DItem} {b:Int} {l:Int},l≤99→(match Zdf b xs with | some r=>decide (r≤l) | none=>false)=(decide (b≤l) && xs.all Zfv && asc b l (xs.map (·.id)))
 | [],b,l,_=>by simp [Zdf,asc]
 | x :: xs,b,l,hl=>by
  have ih:=Zl1 (xs:=xs) (b:=x.id) hl
  rw [Zdf,List.map_cons,List.all_cons,asc]
  by_cases h1:b+1≤x.id
  ·by_cases h2:Zfv x=true
   ·by_cases h3:x.id≤99
    ·rw [if_pos ⟨⟨h1,h3⟩,h2⟩,ih,h2]
     by_cases h4:x.id≤l
     ·simp [h4,show b≤l from by omega,show b<x.id from by omega]
     ·simp [h4]
    ·rw [if_neg (fun h=>h3 h.1.2)]
     simp [show ¬ x.id≤l from by omega]
   ·rw [if_neg (fun h=>h2 h.2)]
    simp [h2]
  ·rw [if_neg (fun h=>h1 h.1.1)]
   simp [show ¬ b<x.id from by omega]
theorem ZgU (q:DQueue):ZaU q=(decide (q.items.length≤6) && decide (1≤q.next) && decide (q.next≤100) && q.items.all Zfv && asc 0 (q.next - 1) (q.items.map (·.id))):=by
 by_cases h:q.next≤100
 ·have:=Zl1 (xs:=q.items) (b:=0) (l:=q.next - 1) (by omega)
  unfold ZaU
  cases hs:Zdf 0 q.items with
  | none=>
   rw [hs] at this
   simp only at this
   rw [Bool.eq_iff_iff]
   simp only [Bool.and_eq_true,decide_eq_true_eq,Bool.false_eq_true,false_iff]
   rintro ⟨⟨⟨⟨_,h1⟩,_⟩,h2⟩,h3⟩
   rw [h2,h3] at this
   simp at this;omega
  | some r=>
   rw [hs] at this
   simp only at this
   rw [Bool.eq_iff_iff] at this ⊢
   simp only [Bool.and_eq_true,decide_eq_true_eq] at this ⊢
   constructor
   ·rintro ⟨⟨h1,h2⟩,h3⟩
    obtain ⟨⟨a,b⟩,c⟩:=this.1 (by omega)
    exact ⟨⟨⟨⟨h3,by omega⟩,h⟩,b⟩,c⟩
   ·rintro ⟨⟨⟨⟨h1,h2⟩,h3⟩,h4⟩,h5⟩
    have:=this.2 ⟨⟨by omega,h4⟩,h5⟩
    omega
 ·unfold ZaU
  cases Zdf 0 q.items <;> simp [h]
theorem ZvT {α:Type} {p:α→Bool} {l:List α} {k:Nat} {x:α} (hx:l[k]? = some x) (h:p x=false):l.all p=false:=by
 rw [Bool.eq_false_iff];intro hp
 rw [List.all_eq_true] at hp
 have:=hp x (List.mem_of_getElem? hx)
 rw [h] at this;cases this
theorem ZvS {α:Type} {p:α→Bool} {l:List α} {k:Nat} {x:α} (hx:l[k]? = some x) (h:p x=true) (ha:(l.take k).all p=true):(l.take (k+1)).all p=true:=by
 rw [Zcb hx,List.all_append,ha];simp [h]
theorem ZkZ {q:DQueue} {k:Nat} {x:DItem} (hx:q.items[k]? = some x) (h:Zfv x=false):false=ZaU q:=by
 rw [ZgU,ZvT hx h];simp
theorem ZkY {q:DQueue} {k:Nat} (hk : ¬ (k:Int)<q.items.length) (ha:(q.items.take k).all Zfv=true) (h6:q.items.length≤6) (h1:1≤q.next) (h2:q.next≤100):asc 0 (q.next - 1) (q.items.map (·.id))=ZaU q:=by
 rw [List.take_of_length_le (by omega)] at ha
 rw [ZgU,ha];simp [h6,h1,h2]
end Go.BL
namespace Go.BL
open Go
def Zco (m:DMail):Bool:=(decide (1≤m.uid) && decide (m.uid≤99)) && (decide (0≤m.flags) && decide (m.flags≤31)) && decide (m.text.length≤20)
def scn {α β:Type} (p:β→α→Bool) (nx:β→α→β) (b0:β) (xs:List α):Bool × β:=xs.foldl (fun s x=>(s.1 && p s.2 x,nx s.2 x)) (true,b0)
theorem Ze0 {α β:Type} {p:β→α→Bool} {nx:β→α→β} {b0:β} {xs:List α} : scn p nx b0 (xs.take 0)=(true,b0):=by simp [scn]
theorem ZlY {α β:Type} {p:β→α→Bool} {nx:β→α→β} {b0:β} {xs:List α} {k:Nat} {x:α} (hx:xs[k]? = some x):scn p nx b0 (xs.take (k+1))=((scn p nx b0 (xs.take k)).1 && p (scn p nx b0 (xs.take k)).2 x,nx (scn p nx b0 (xs.take k)).2 x):=by
 have:xs.take (k+1)=xs.take k ++ [x]:=by rw [List.take_add_one,hx];rfl
 rw [this,scn,List.foldl_append];rfl
theorem Zcd {α β:Type} {p:β→α→Bool} {nx:β→α→β} :∀(xs:List α) (b:β),(xs.foldl (fun (s:Bool × β) x=>(s.1 && p s.2 x,nx s.2 x)) (false,b)).1=false
 | [],_=>rfl
 | x :: xs,b=>by simp only [List.foldl_cons,Bool.false_and];exact Zcd xs _
theorem Ztd {α β:Type} {p:β→α→Bool} {nx:β→α→β} {b0:β} {xs:List α} {k:Nat} (h:(scn p nx b0 (xs.take k)).1=false):(scn p nx b0 xs).1=false:=by
 have e:xs=xs.take k ++ xs.drop k:=(List.take_append_drop k xs).symm
 have:scn p nx b0 xs=(xs.drop k).foldl (fun s x=>(s.1 && p s.2 x,nx s.2 x)) (scn p nx b0 (xs.take k)):=by
  conv=>lhs;rw [e,scn,List.foldl_append]
  rfl
 rw [this]
 rcases hs:scn p nx b0 (xs.take k) with ⟨b,c⟩
 rw [hs] at h
 simp only at h
 subst h
 exact Zcd _ _
theorem Ze1 {α β:Type} {p:β→α→Bool} {nx:β→α→β} {b0:β} {xs:List α} {k:Nat} {x:α} (hx:xs[k]? = some x) (h:p (scn p nx b0 (xs.take k)).2 x=false):(scn p nx b0 xs).1=false:=
 Ztd (k:=k+1) (by rw [ZlY hx,h,Bool.and_false])
theorem Zb9 {α β:Type} {p:β→α→Bool} {nx:β→α→β} {b0 b:β} {xs:List α} {k:Nat} {x:α} (hx:xs[k]? = some x) (hs:scn p nx b0 (xs.take k)=(true,b)) (h:p b x=true):scn p nx b0 (xs.take (k+1))=(true,nx b x):=by
 rw [ZlY hx,hs];simp [h]
theorem ZdE {α β:Type} {p:β→α→Bool} {nx:β→α→β} {b0 b:β} {xs:List α} {k:Nat} (hs:scn p nx b0 (xs.take k)=(true,b)) (hk:xs.length≤k):scn p nx b0 xs=(true,b):=by
 rwa [List.take_of_length_le hk] at hs
def ZdI (b:Int) (m:DMail):Bool:=Zco m && decide (b<m.uid)
def Zcu (ms:List DMail):Bool × Int:=scn ZdI (fun _ m=>m.uid) 0 ms
def Zd1 (b:DBox):Bool:=(Zcu b.mail).1 && (decide ((Zcu b.mail).2+1≤b.next) && decide (b.next≤100)) && decide (b.mail.length≤10)
def Zbh (ms:List DMail):Nat:=(ms.map (·.text.length)).sum
theorem ZgR {ms:List DMail} {k:Nat} {x:DMail} (hx:ms[k]? = some x):Zbh (ms.take (k+1))=Zbh (ms.take k)+x.text.length:=by
 have:ms.take (k+1)=ms.take k ++ [x]:=by rw [List.take_add_one,hx];rfl
 simp [Zbh,this]
theorem ZfB {b:DBox} (h:(Zcu b.mail).1=false):Zd1 b=false:=by simp [Zd1,h]
theorem ZfA {b:DBox} {l:Int} (h:Zcu b.mail=(true,l)):Zd1 b=((decide (l+1≤b.next) && decide (b.next≤100)) && decide (b.mail.length≤10)):=by simp [Zd1,h]
theorem ZhY {m:DMail} (h:Zco m=true):0≤m.uid∧m.uid≤99:=by
 simp only [Zco,Bool.and_eq_true,decide_eq_true_eq] at h;omega
theorem ZhM {ms:List DMail} {k n:Nat} (h:n=Zbh (ms.take k)) (hk:ms.length≤k):n=Zbh ms:=by rwa [List.take_of_length_le hk] at h
def Zdb (b:DBox):Int:=if Zd1 b then (Zbh b.mail:Int) else -1
def anyone:Str:=[97,110,121,111,110,101]
def Zcl (u:DUser):Bool:=Zag u.name && decide (u.name≠anyone) && Zag u.pass && (decide (0≤u.quota) && decide (u.quota≤200))
theorem Zba :∀(a b:Str),Op.bytesLess a b = !(Op.bytesLess b a || decide (b=a))
 | [],[]=>by simp [Op.bytesLess]
 | [],_ :: _=>by simp [Op.bytesLess]
 | _ :: _,[]=>by simp [Op.bytesLess]
 | a :: x,b :: y=>by
  have ih:=Zba x y
  simp only [Op.bytesLess,ih]
  rcases UInt8.lt_or_lt_of_ne (a:=a) (b:=b) with h
  by_cases e:a=b
  ·subst e
   have : ¬ a<a:=UInt8.lt_irrefl a
   simp [this,ih]
  ·rcases h e with h | h
   ·have h2 : ¬ b<a:=UInt8.lt_asymm h
    simp [h,h2,e,Ne.symm e]
   ·have h2 : ¬ a<b:=UInt8.lt_asymm h
    simp [h,h2,e]
def ZdZ (b:Str) (u:DUser):Bool:=Zcl u && Op.bytesLess b u.name
def Zdx (us:List DUser):Bool × Str:=scn ZdZ (fun _ u=>u.name) [] us
def Zap (us:List DUser):Bool:=(Zdx us).1 && (decide (1≤us.length) && decide (us.length≤4))
theorem ZeU {us:List DUser} (h:(Zdx us).1=false):Zap us=false:=by simp [Zap,h]
theorem ZgN {us:List DUser} {b:Str} (h:Zdx us=(true,b)):Zap us=(decide (1≤us.length) && decide (us.length≤4)):=by simp [Zap,h]
def ZoH:DUser:=⟨[],[],0⟩
def Zgt (t:DUser→Bool) (us:List DUser):DUser × Bool:=match us.find? t with | some x=>(x,true) | none=>(ZoH,false)
theorem Zkb {α:Type} {t:α→Bool} {xs:List α} (h :∀y,y∈xs→t y=false):xs.find? t=none:=List.find?_eq_none.2 fun y hy=>by simp [h y hy]
theorem ZrK {α:Type} {t:α→Bool} {xs:List α} {k:Nat} {x:α} (hx:xs[k]? = some x) (ht:t x=true) (h :∀y,y∈xs.take k→t y=false):xs.find? t=some x:=by
 have hlt:=(List.getElem?_eq_some_iff.1 hx).1
 have e:xs=xs.take k ++ (x :: xs.drop (k+1)):=by
  rw [← (List.getElem?_eq_some_iff.1 hx).2,← List.drop_eq_getElem_cons hlt,List.take_append_drop]
 rw [e,List.find?_append,Zkb h];simp [ht]
theorem ZpE {t:DUser→Bool} {us:List DUser} {k:Nat} {x:DUser} (hx:us[k]? = some x) (ht:t x=true) (h :∀y,y∈us.take k→t y=false):Zgt t us=(x,true):=by simp [Zgt,ZrK hx ht h]
theorem Znj {t:DUser→Bool} {us:List DUser} (h :∀y,y∈us→t y=false):Zgt t us=(ZoH,false):=by simp [Zgt,Zkb h]
theorem Zip {B:Kn} {b:Nat} {T:TypeId} {vs:List Value} (h :∀p,p∈ZN b vs T→B.mem p.1=some p.2):Zai B b 0 vs:=fun L j u hu=>
 ⟨rfl,vs.toArray,T,(0,0),.inl (h (b,.cells vs.toArray T) (List.mem_singleton.2 rfl)),by simpa using hu⟩
def Zas (us:List DUser) (n:Str):DUser × Bool:=if Zap us then Zgt (fun y=>decide (y.name=n)) us else (ZoH,false)
def inF (o n:Str) (f:DFolder):Bool:=decide (f.owner=o) && decide (f.name=n)
def Zcw (us:List DUser) (x:DItem):Bool:=(Zas us x.fr).2 && x.left.all fun n=>(Zas us n).2
theorem Zbr {α:Type} {p:α→Bool} {xs:List α} {k:Nat} {x:α} (hx:xs[k]? = some x) (h:p x=false):xs.all p=false:=by
 rw [List.all_eq_false];exact ⟨x,List.mem_of_getElem? hx,by simp [h]⟩
theorem Zc5 {α:Type} {p:α→Bool} {xs:List α} (h :∀y,y∈xs→p y=true):xs.all p=true:=List.all_eq_true.2 h
def Zft (a b:DFolder):Bool:=Op.bytesLess a.owner b.owner || (decide (a.owner=b.owner) && Op.bytesLess a.name b.name)
theorem Zc0 (a:Str):Op.bytesLess a a=false:=by
 have:=Zba a a
 cases h:Op.bytesLess a a with
 | false=>rfl
 | true=>rw [h] at this;simp at this
end Go.BL
namespace Go.BL
open Go
inductive Prev {α β:Type} (f:α→β) (z:β) (xs:List α):Nat→β→Prop
 | zero:Prev f z xs 0 z
 | succ {k:Nat} {x:α} : xs[k]? = some x→Prev f z xs (k+1) (f x)
theorem Prev.at {α β:Type} {f:α→β} {z:β} {xs:List α} {k:Nat} {b:β} {y:α} (h:Prev f z xs k b) (hy:xs[((k:Int) - 1).toNat]? = some y) (hk:0<(k:Int)):b=f y:=by
 cases h with
 | zero=>omega
 | succ hx=>
  rename_i k x
  rw [show (((k+1:Nat):Int) - 1).toNat=k from by omega,hx] at hy
  cases hy;rfl
theorem Prev.at0 {α β:Type} {f:α→β} {z:β} {xs:List α} {k:Nat} {b:β} (h:Prev f z xs k b) (hk:(k:Int)≤0):b=z:=by
 cases h with
 | zero=>rfl
 | succ hx=>omega
theorem Zin {α β:Type} {p:β→α→Bool} {nx:β→α→β} {b0 b:β} {xs:List α} {k:Nat} {x:α} (hx:xs[k]? = some x) (hs:scn p nx b0 (xs.take k)=(true,b)) (h:p b x=false):(scn p nx b0 xs).1=false:=
 Ze1 hx (by rw [congrArg Prod.snd hs];exact h)
theorem ZcF {us:List DUser} {k:Nat} {x:DUser} {nm:Str} (hx:us[k]? = some x) (hs:Zdx (us.take k)=(true,nm)) (h:ZdZ nm x=false):Zap us=false:=
 ZeU (Zin hx hs h)
theorem Zma {s:Str} (h:0<s.length):Op.bytesLess [] s=true:=by
 cases s with
 | nil=>cases h
 | cons a s=>rfl
theorem ZhU {s:Str} (h:Zag s=true):0<s.length:=by
 cases s with
 | nil=>simp [Zag] at h
 | cons a s=>simp
def ZbD (b:Str) (g:DGrant):Bool:=Zag g.user && (decide (1≤g.rights) && decide (g.rights≤63)) && Op.bytesLess b g.user
def Zcg (gs:List DGrant):Bool × Str:=scn ZbD (fun _ g=>g.user) [] gs
def ZcU (gs:List DGrant):Bool:=(Zcg gs).1 && decide (gs.length≤4)
theorem ZcR {gs:List DGrant} {k:Nat} {x:DGrant} {nm:Str} (hx:gs[k]? = some x) (hs:Zcg (gs.take k)=(true,nm)) (h:ZbD nm x=false):ZcU gs=false:=by
 rw [ZcU,show (Zcg gs).1=false from Zin hx hs h,Bool.false_and]
theorem Zkt {gs:List DGrant} {b:Str} (h:Zcg gs=(true,b)):ZcU gs=decide (gs.length≤4):=by rw [ZcU,h,Bool.true_and]
def DFolder.box (f:DFolder):DBox:=⟨f.next,f.mail⟩
def inbox:Str:=[105,110,98,111,120]
def Z2 (us:List DUser) (f:DFolder):Bool:=decide (0≤Zgi us f.owner) && Zag f.name && ZcU f.grants && Zd1 f.box
def Za7 (us:List DUser) (b:Option DFolder) (f:DFolder):Bool:=Z2 us f && (match b with | none=>true | some y=>Zft y f)
def ZcB (us:List DUser) (fs:List DFolder):Bool × Option DFolder:=scn (Za7 us) (fun _ f=>some f) none fs
def ZbM (us:List DUser) (fs:List DFolder):Bool:=(ZcB us fs).1 && decide (fs.length≤8)
theorem ZbL {us:List DUser} {fs:List DFolder} {k:Nat} {x:DFolder} {b:Option DFolder} (hx:fs[k]? = some x) (hs:ZcB us (fs.take k)=(true,b)) (h:Za7 us b x=false):ZbM us fs=false:=by
 rw [ZbM,show (ZcB us fs).1=false from Zin hx hs h,Bool.false_and]
theorem ZiM {us:List DUser} {fs:List DFolder} {b:Option DFolder} (h:ZcB us fs=(true,b)):ZbM us fs=decide (fs.length≤8):=by rw [ZbM,h,Bool.true_and]
def Zfh (fs:List DFolder) (u:Str):Nat:=(fs.map fun f=>if f.owner=u then Zbh f.mail else 0).sum
theorem ZhJ {fs:List DFolder} {u:Str} {k:Nat} {x:DFolder} (hx:fs[k]? = some x):Zfh (fs.take (k+1)) u=Zfh (fs.take k) u+if x.owner=u then Zbh x.mail else 0:=by
 have:fs.take (k+1)=fs.take k ++ [x]:=by rw [List.take_add_one,hx];rfl
 simp [Zfh,this]
theorem Zn2 {fs:List DFolder} {u:Str} {k n:Nat} (h:n=Zfh (fs.take k) u) (hk:fs.length≤k):n=Zfh fs u:=by rwa [List.take_of_length_le hk] at h
def Zj0 (us:List DUser) (ns:List Str):Bool:=ns.all fun n=>decide (0≤Zgi us n)
def Za0 (fs:List DFolder) (u:DUser):Bool:=decide (0≤Zbe (inF u.name inbox) fs) && decide ((Zfh fs u.name:Int)≤u.quota)
def ZaF (us:List DUser) (x:DItem):Bool:=decide (0≤Zgi us x.fr) && Zj0 us x.left
def Zam (h:DHost):Bool:=Zch h.domain && Zap h.users && ZaU h.queue && ZbM h.users h.folders && h.users.all (Za0 h.folders) && h.queue.items.all (ZaF h.users)
theorem Zal {B:Kn} {q:Option Addr} {cp:Nat} {ms:List DMail} (h:SlK B q cp 3 Zao ms):Zbh ms≤4000000000000:=by
 have h1 :∀m,m∈ms→m.text.length≤2000000:=fun m hm=>by
  obtain ⟨i,hi⟩:=List.mem_iff_getElem?.1 hm
  obtain ⟨b,o,row,_,h2,_⟩:=h.rows i m hi
  exact h2.2
 have h2 :∀l:List DMail,(∀m,m∈l→m.text.length≤2000000)→Zbh l≤l.length*2000000:=by
  intro l
  induction l with
  | nil=>intro _;simp [Zbh]
  | cons m l ih=>
   intro hl
   have:=ih fun y hy=>hl y (List.mem_cons_of_mem _ hy)
   have:=hl m (List.mem_cons_self ..)
   simp only [Zbh,List.map_cons,List.sum_cons,List.length_cons] at *
   omega
 have:=h2 ms h1
 have:=h.len
 omega
theorem Zg7 {h:DHost} {k:Nat} {u:DUser} (hu:h.users[k]? = some u) (hf:Za0 h.folders u=false):Zam h=false:=by
 rw [Zam,Zbr hu hf,Bool.and_false,Bool.false_and]
theorem Zg8 {h:DHost} {k:Nat} {y:DItem} (hy:h.queue.items[k]? = some y) (hf:ZaF h.users y=false):Zam h=false:=by
 rw [Zam,Zbr hy hf,Bool.and_false]
theorem Zna {h:DHost} (h1:Zch h.domain=true) (h2:Zap h.users=true) (h3:ZaU h.queue=true) (h4:ZbM h.users h.folders=true) (h5:h.users.all (Za0 h.folders)=true) (h6:h.queue.items.all (ZaF h.users)=true):Zam h=true:=by
 rw [Zam,h1,h2,h3,h4,h5,h6];rfl
theorem Zjo {fs:List DFolder} {u:DUser} (h:Zbe (inF u.name inbox) fs<0):Za0 fs u=false:=by
 rw [Za0,decide_eq_false (by omega),Bool.false_and]
theorem Zjn {fs:List DFolder} {u:DUser} (h:u.quota<Zfh fs u.name):Za0 fs u=false:=by
 rw [Za0,decide_eq_false (p:=(Zfh fs u.name:Int)≤u.quota) (by omega),Bool.and_false]
theorem Zjm {fs:List DFolder} {u:DUser} (h:0≤Zbe (inF u.name inbox) fs) (h':(Zfh fs u.name:Int)≤u.quota):Za0 fs u=true:=by
 rw [Za0,decide_eq_true h,decide_eq_true h'];rfl
theorem ZiG {us:List DUser} {x:DItem} (h:Zgi us x.fr<0):ZaF us x=false:=by rw [ZaF,decide_eq_false (by omega),Bool.false_and]
theorem ZiF {us:List DUser} {x:DItem} (h:Zj0 us x.left=false):ZaF us x=false:=by rw [ZaF,h,Bool.and_false]
theorem ZiE {us:List DUser} {x:DItem} (h:0≤Zgi us x.fr) (h':Zj0 us x.left=true):ZaF us x=true:=by rw [ZaF,decide_eq_true h,h'];rfl
theorem Zet :∀{a b c:Str},Op.bytesLess a b=true→Op.bytesLess b c=true→Op.bytesLess a c=true
 | [],[],_,h,_=>by simp [Op.bytesLess] at h
 | _ :: _,[],_,h,_=>by simp [Op.bytesLess] at h
 | _,_ :: _,[],_,h=>by simp [Op.bytesLess] at h
 | [],_ :: _,_ :: _,_,_=>by simp [Op.bytesLess]
 | a :: x,b :: y,c :: z,h,h'=>by
  simp only [Op.bytesLess,Bool.or_eq_true,decide_eq_true_eq,Bool.and_eq_true,beq_iff_eq] at h h' ⊢
  rcases h with h | ⟨rfl,h⟩
  ·rcases h' with h' | ⟨rfl,h'⟩
   ·exact .inl (UInt8.lt_trans h h')
   ·exact .inl h
  ·rcases h' with h' | ⟨rfl,h'⟩
   ·exact .inl h'
   ·exact .inr ⟨rfl,Zet h h'⟩
def Zec (gs:List DGrant):List (Str × Int):=gs.map fun g=>(g.user,g.rights)
theorem Zgm :∀(xs:List DGrant) (b0 b:Str),xs.foldl (fun s x=>(s.1 && ZbD s.2 x,x.user)) (true,b0)=(true,b)→(∀y,y∈xs→y.user=b∨Op.bytesLess y.user b=true)∧(b=b0∨Op.bytesLess b0 b=true)
 | [],b0,b,h=>by
  cases h;exact ⟨by simp,.inl rfl⟩
 | x :: xs,b0,b,h=>by
  simp only [List.foldl_cons,Bool.true_and] at h
  cases hp:ZbD b0 x with
  | false=>
   rw [hp] at h
   have:=Zcd (p:=ZbD) (nx:=fun _ g=>g.user) xs x.user
   rw [h] at this;cases this
  | true=>
   rw [hp] at h
   obtain ⟨h1,h2⟩:=Zgm xs x.user b h
   have hl:Op.bytesLess b0 x.user=true:=by
    simp only [ZbD,Bool.and_eq_true] at hp;exact hp.2
   refine ⟨fun y hy=>?_,.inr ?_⟩
   ·rcases List.mem_cons.1 hy with rfl | hy
    ·rcases h2 with h2 | h2
     ·exact .inl h2.symm
     ·exact .inr h2
    ·exact h1 y hy
   ·rcases h2 with rfl | h2
    ·exact hl
    ·exact Zet hl h2
theorem Zrk {kvs:List (Str × Int)} {k:Str} {v:Int} (h:k ∉ kvs.map (·.1)):mput kvs k v=kvs ++ [(k,v)]:=by
 induction kvs with
 | nil=>rfl
 | cons p r ih=>
  simp only [List.map_cons,List.mem_cons,not_or] at h
  simp only [mput,if_neg h.1,ih h.2,List.cons_append]
theorem ZtB {gs:List DGrant} {k:Nat} {m:DGrant} {nm:Str} (hm:gs[k]? = some m) (hs:Zcg (gs.take k)=(true,nm)) (hl:Op.bytesLess nm m.user=true):mput (Zec (gs.take k)) m.user m.rights=Zec (gs.take (k+1)):=by
 have h1:=(Zgm _ _ _ hs).1
 rw [Zrk]
 ·rw [Zec,Zec,List.take_add_one,hm];simp
 ·intro hc
  simp only [Zec,List.map_map,List.mem_map,Function.comp] at hc
  obtain ⟨y,hy,e⟩:=hc
  rcases h1 y hy with h | h
  ·rw [← e,h,Zc0] at hl;cases hl
  ·rw [e] at h
   have:=Zet hl h
   rw [Zc0] at this;cases this
def ZlI (gs:List DGrant) (B:Kn):Value→Kn→List Cells→Prop:=fun v B' Ls=>∃m l,v = .tuple #[.map m,.bool (ZcU gs)]∧Ls=[l]∧B'=B∧(ZcU gs=true→∃b,m=some b∧Zue l b (Zec gs))
theorem Zhj {P:PJ} {S:Env} {B:Kn} {L:List Cells} {rs:List ResultVar} {gs:List DGrant} (e:Exit) (he:e = .ret∨e = .normal) (vs:List Value) (hr:Zby P S B L rs vs) (h:ZcU gs=false) (hv:Zcn vs = .tuple #[.map none,.bool false]:=by rfl):ZfD P rs (ZlI gs B) e S [] B L:=
 Zzm e he vs hr ⟨none,[],by rw [hv,h],rfl,rfl,fun hc=>by rw [h] at hc;cases hc⟩
theorem Zt1 {P:PJ} {S:Env} {B:Kn} {L:List Cells} {rs:List ResultVar} {gs:List DGrant} (e:Exit) (he:e = .ret∨e = .normal) (vs:List Value) {b:Nat} {l:Cells} {r:List Cells} (hp:Zaw L [0]=some ([l],r)) (hr:Zby P S B L rs vs) (h:ZcU gs=true) (hm:Zue l b (Zec gs)) (hv:Zcn vs = .tuple #[.map (some b),.bool true]:=by rfl):ZfD P rs (ZlI gs B) e S [] B L:=
 ZeG e he vs [0] hp hr ⟨some b,l,by rw [hv,h],rfl,rfl,fun _=>⟨b,rfl,hm⟩⟩
def ZvL (f:DFolder) (ow nm:Str):Int:=if Lib.compareBytes f.owner ow≠0 then Lib.compareBytes f.owner ow else Lib.compareBytes f.name nm
theorem Zkj (f g:DFolder):0≤ZvL f g.owner g.name↔Zft f g=false:=by
 have h1:=ZlB f.owner g.owner
 have h2:=ZlB f.name g.name
 unfold ZvL Zft
 by_cases e:f.owner=g.owner
 ·have e0:=h1.2.2 e
  have e1:Op.bytesLess f.owner g.owner=false:=by rw [e];exact Zc0 _
  rw [if_neg (fun h=>h e0),e1,decide_eq_true e,Bool.true_and,Bool.false_or,Bool.eq_false_iff,ne_eq,← h2.1];omega
 ·have e0:Lib.compareBytes f.owner g.owner≠0:=fun h=>e (h1.2.1 h)
  rw [if_pos e0,decide_eq_false e,Bool.false_and,Bool.or_false,Bool.eq_false_iff,ne_eq,← h1.1];omega
def ZeV (fs:List DFolder) (u:Str):Int:=(fs.map fun f=>if f.owner=u then Zdb ⟨f.next,f.mail⟩ else 0).sum
theorem ZhI {fs:List DFolder} {u:Str} {k:Nat} {x:DFolder} (hx:fs[k]? = some x):ZeV (fs.take (k+1)) u=ZeV (fs.take k) u+if x.owner=u then Zdb ⟨x.next,x.mail⟩ else 0:=by
 have:fs.take (k+1)=fs.take k ++ [x]:=by rw [List.take_add_one,hx];rfl
 simp [ZeV,this]
theorem Zn1 {fs:List DFolder} {u:Str} {k:Nat} {n:Int} (h:n=ZeV (fs.take k) u) (hk:fs.length≤k):n=ZeV fs u:=by rwa [List.take_of_length_le hk] at h
theorem Zmc :∀(xs:List DMail) (b0 b:Int),xs.foldl (fun s x=>(s.1 && ZdI s.2 x,x.uid)) (true,b0)=(true,b)→∀y,y∈xs→Zco y=true
 | [],_,_,_,_,h=>by cases h
 | x :: xs,b0,b,h,y,hy=>by
  simp only [List.foldl_cons,Bool.true_and] at h
  cases hp:ZdI b0 x with
  | false=>
   rw [hp] at h
   have:=Zcd (p:=ZdI) (nx:=fun _ m=>m.uid) xs x.uid
   rw [h] at this;cases this
  | true=>
   rw [hp] at h
   rcases List.mem_cons.1 hy with rfl | hy
   ·simp only [ZdI,Bool.and_eq_true] at hp;exact hp.1
   ·exact Zmc xs x.uid b h y hy
theorem ZlD {b:DBox} (h:Zd1 b=true):(∀y,y∈b.mail→Zco y=true)∧b.mail.length≤10:=by
 simp only [Zd1,Bool.and_eq_true,decide_eq_true_eq] at h
 exact ⟨Zmc b.mail 0 (Zcu b.mail).2 (Prod.ext h.1.1 rfl),h.2⟩
theorem ZgS :∀l:List DMail,(∀m,m∈l→Zco m=true)→Zbh l≤l.length*20
 | [],_=>by simp [Zbh]
 | m :: l,h=>by
  have h1:=ZgS l fun y hy=>h y (List.mem_cons_of_mem _ hy)
  have h2:=h m (List.mem_cons_self ..)
  simp only [Zco,Bool.and_eq_true,decide_eq_true_eq] at h2
  simp only [Zbh,List.map_cons,List.sum_cons,List.length_cons] at *
  omega
theorem Zid (b:DBox) : -1≤Zdb b∧Zdb b≤200:=by
 unfold Zdb
 split
 ·rename_i h
  obtain ⟨h1,h2⟩:=ZlD h
  have:=ZgS _ h1
  omega
 ·omega
theorem ZqK (fs:List DFolder) (u:Str) : -1*fs.length≤ZeV fs u∧ZeV fs u≤fs.length*200:=by
 induction fs with
 | nil=>simp [ZeV]
 | cons f fs ih=>
  have:=Zid ⟨f.next,f.mail⟩
  simp only [ZeV,List.map_cons,List.sum_cons,List.length_cons] at *
  split <;> omega
def ZdP (x:DHost) (u:Str) (more:Int):Bool:=!(Zas x.users u).2 || decide ((Zas x.users u).1.quota<ZeV x.folders u+more)
def Zb8 (x:DHost) (w:DUser):Bool:=decide (0≤Zbe (inF w.name inbox) x.folders) && !ZdP x w.name 0
theorem Zjr {x:DHost} {w:DUser} (h:Zbe (inF w.name inbox) x.folders<0):Zb8 x w=false:=by rw [Zb8,decide_eq_false (by omega),Bool.false_and]
theorem Zjq {x:DHost} {w:DUser} (h:ZdP x w.name 0=true):Zb8 x w=false:=by rw [Zb8,h];simp
theorem Zjp {x:DHost} {w:DUser} (h:0≤Zbe (inF w.name inbox) x.folders) (h':ZdP x w.name 0=false):Zb8 x w=true:=by rw [Zb8,h',decide_eq_true h];rfl
def ZgO (x:DHost):Bool:=x.users.all (Zb8 x)
def Zug:Rel Bool:=fun _ row x=>row=[.bool x]
def Zat (us:List DUser) (f:DFolder):Bool:=(Zas us f.owner).2 && Zag f.name && ZcU f.grants && Zd1 f.box
theorem Zgx (C i:Nat):(some (ptr (Addr.add ⟨C,0,none⟩ ((i:Int).toNat*1))):Option Value)=some (ptr ⟨C,i,none⟩):=by
 rw [Addr.add_off _ _ rfl];simp
def Zql (x:DHost) (i:Nat):Value:=.bool (match x.folders[i]? with | some m=>Zat x.users m | none=>false)
theorem ZlS {x:DHost} {i:Nat} {m:DFolder} (h:x.folders[i]? = some m):Zql x i = .bool (Zat x.users m):=by simp [Zql,h]
theorem ZnZ {B:Kn} {x:DHost} {C:Nat} {T:TypeId} (hm :∀p,p∈[(C,Obj.cells ((List.range x.folders.length).map (Zql x)).toArray T (0,0))]→B.mem p.1=some p.2) (hl:x.folders.length≤2000000):SlK B (some ⟨C,0,none⟩) (x.folders.map (Zat x.users)).length 1 Zug (x.folders.map (Zat x.users)):=by
 refine ⟨fun i y hy=>⟨C,0,[.bool y],rfl,rfl,fun j u hu=>?_⟩,by simp,by simpa using hl⟩
 have hj:j=0:=by
  cases j with
  | zero=>rfl
  | succ j=>simp at hu
 subst hj
 simp only [List.getElem?_cons_zero,Option.some.injEq] at hu
 subst hu
 rw [List.getElem?_map] at hy
 obtain ⟨m,hm',rfl⟩:=Option.map_eq_some_iff.1 hy
 have hi:i<x.folders.length:=(List.getElem?_eq_some_iff.1 hm').1
 refine ⟨rfl,_,T,(0,0),.inl (hm _ (List.mem_singleton.2 rfl)),?_⟩
 simp only [Nat.mul_one,Nat.zero_add,Nat.add_zero,List.getElem?_toArray,List.getElem?_map,List.getElem?_range hi,Option.map_some,ZlS hm']
theorem Zi5 {us:List DUser} {fs:List DFolder} : (!decide (0≤Zbe (fun y=>decide (false=y)) (fs.map (Zat us))))=fs.all (Zat us):=by
 by_cases h :∀f,f∈fs→Zat us f=true
 ·rw [List.all_eq_true.2 h,Zee (fun y hy=>by
   obtain ⟨f,hf,rfl⟩:=List.mem_map.1 hy
   simp [h f hf])]
  rfl
 ·have h2:fs.all (Zat us)=false:=by
   rw [Bool.eq_false_iff,ne_eq,List.all_eq_true];exact h
  rw [h2]
  have h3 :∃k,(fs.map (Zat us)).findIdx? (fun y=>decide (false=y))=some k:=by
   cases hk:(fs.map (Zat us)).findIdx? (fun y=>decide (false=y)) with
   | some k=>exact ⟨k,rfl⟩
   | none=>
    exfalso;apply h
    intro f hf
    have:=List.findIdx?_eq_none_iff.1 hk (Zat us f) (List.mem_map_of_mem hf)
    cases hq:Zat us f with
    | true=>rfl
    | false=>rw [hq] at this;simp at this
  obtain ⟨k,hk⟩:=h3
  have e:Zbe (fun y=>decide (false=y)) (fs.map (Zat us))=(k:Int):=by unfold Zbe;rw [hk]
  rw [e];simp
def Zl6:List DFolder→Bool
 | []=>true
 | [_]=>true
 | a :: b :: r=>Zft a b && Zl6 (b :: r)
def ZcK (x:DHost):Bool:=Zch x.domain && Zap x.users && ZaU x.queue && decide (x.folders.length≤8) && Zl6 x.folders && (x.folders.all (Zat x.users) && ZgO x && x.queue.items.all (Zcw x.users))
def Zsf (fs:List DFolder) (k:Nat):Prop:=∀i a b,i<k→fs[i]? = some a→fs[i+1]? = some b→Zft a b=true
theorem ZmV {fs:List DFolder} : Zsf fs 0:=fun i a b h=>by omega
theorem ZmW {fs:List DFolder} {k:Nat} {x y:DFolder} (h:Zsf fs k) (hx:fs[k]? = some x) (hy:fs[k+1]? = some y) (hl:Zft x y=true):Zsf fs (k+1):=fun i a b hi ha hb=>by
 rcases Nat.lt_or_ge i k with h' | h'
 ·exact h i a b h' ha hb
 ·obtain rfl:i=k:=by omega
  rw [hx] at ha;rw [hy] at hb
  cases ha;cases hb;exact hl
theorem Zir :∀(fs:List DFolder),Zl6 fs=true↔∀i a b,fs[i]? = some a→fs[i+1]? = some b→Zft a b=true
 | []=>by simp [Zl6]
 | [_]=>by simp [Zl6]
 | x :: y :: r=>by
  rw [Zl6,Bool.and_eq_true,Zir (y :: r)]
  constructor
  ·rintro ⟨h1,h2⟩ i a b ha hb
   cases i with
   | zero=>simp at ha hb;rw [← ha,← hb];exact h1
   | succ i=>exact h2 i a b (by simpa using ha) (by simpa using hb)
  ·intro h
   exact ⟨h 0 x y rfl rfl,fun i a b ha hb=>h (i+1) a b (by simpa using ha) (by simpa using hb)⟩
theorem Zq9 {fs:List DFolder} {k:Nat} {x y:DFolder} (hx:fs[k]? = some x) (hy:fs[k+1]? = some y) (hl:Zft x y=false):Zl6 fs=false:=by
 rw [Bool.eq_false_iff,ne_eq,Zir]
 intro h
 have:=h k x y hx hy
 rw [hl] at this;cases this
theorem Zq8 {fs:List DFolder} (h :∀i a b,i<fs.length - 1→fs[i]? = some a→fs[i+1]? = some b→Zft a b=true):Zl6 fs=true:=
 (Zir fs).2 fun i a b ha hb=>h i a b (by have:=(List.getElem?_eq_some_iff.1 hb).1;omega) ha hb
theorem Ze2 {α:Type} {p:Str→α→Bool} {f:α→Str} (hp :∀b x,p b x=true→Op.bytesLess b (f x)=true) :∀(xs:List α) (b0 b:Str),xs.foldl (fun s x=>(s.1 && p s.2 x,f x)) (true,b0)=(true,b)→(∀y,y∈xs→Op.bytesLess b0 (f y)=true)∧xs.Pairwise (fun x y=>Op.bytesLess (f x) (f y)=true)
 | [],_,_,_=>⟨by simp,.nil⟩
 | x :: xs,b0,b,h=>by
  simp only [List.foldl_cons,Bool.true_and] at h
  cases hq:p b0 x with
  | false=>
   rw [hq] at h
   have:=Zcd (p:=p) (nx:=fun _ g=>f g) xs (f x)
   rw [h] at this;cases this
  | true=>
   rw [hq] at h
   obtain ⟨h1,h2⟩:=Ze2 hp xs (f x) b h
   refine ⟨fun y hy=>?_,.cons h1 h2⟩
   rcases List.mem_cons.1 hy with rfl | hy
   ·exact hp _ _ hq
   ·exact Zet (hp _ _ hq) (h1 y hy)
theorem Zhz {us:List DUser} (h:Zap us=true):us.Pairwise fun x y=>Op.bytesLess x.name y.name=true:=by
 simp only [Zap,Bool.and_eq_true] at h
 exact (Ze2 (p:=ZdZ) (f:=fun u=>u.name) (fun b x hq=>by simp only [ZdZ,Bool.and_eq_true] at hq;exact hq.2) us [] (Zdx us).2 (Prod.ext h.1 rfl)).2
theorem Zg5 {us:List DUser} {u:Str} : 0≤Zgi us u↔∃x,x∈us∧x.name=u:=by
 unfold Zgi
 cases h:us.findIdx? (fun x=>decide (x.name=u)) with
 | none=>
  have:=List.findIdx?_eq_none_iff.1 h
  simp only [decide_eq_false_iff_not] at this
  exact ⟨fun hc=>absurd hc (by simp only [];omega),fun ⟨x,hx,e⟩=>absurd e (this x hx)⟩
 | some i=>
  rw [List.findIdx?_eq_some_iff_getElem] at h
  obtain ⟨hi,h1,_⟩:=h
  exact ⟨fun _=>⟨us[i],List.getElem_mem hi,by simpa using h1⟩,fun _=>by simp only [];omega⟩
theorem ZpD {us:List DUser} {t:DUser→Bool} : (Zgt t us).2=true↔∃x,x∈us∧t x=true:=by
 unfold Zgt
 cases h:us.find? t with
 | none=>simp only [Bool.false_eq_true,false_iff];rintro ⟨x,hx,e⟩;have:=List.find?_eq_none.1 h x hx;exact this e
 | some x=>simp only [true_iff];exact ⟨x,List.mem_of_find?_eq_some h,List.find?_some h⟩
theorem ZcW {us:List DUser} (h:Zap us=true) (n:Str):(Zas us n).2=decide (0≤Zgi us n):=by
 rw [Zas,if_pos h,Bool.eq_iff_iff,ZpD,decide_eq_true_eq,Zg5];simp
theorem Zhg :∀{us:List DUser},us.Pairwise (fun x y=>Op.bytesLess x.name y.name=true)→∀w,w∈us→us.find? (fun y=>decide (y.name=w.name))=some w
 | [],_,w,h=>by cases h
 | x :: us,hp,w,h=>by
  cases hp with
  | cons h1 h2=>
   rw [List.find?_cons]
   rcases List.mem_cons.1 h with rfl | h
   ·simp
   ·have hne:x.name≠w.name:=fun e=>by
     have:=h1 w h
     rw [e,Zc0] at this;cases this
    simp only [hne,decide_false]
    exact Zhg h2 w h
theorem Zij {us:List DUser} (h:Zap us=true) {w:DUser} (hw:w∈us):Zas us w.name=(w,true):=by
 rw [Zas,if_pos h,Zgt,Zhg (Zhz h) w hw]
theorem Zni {us:List DUser} (h:Zap us=true) (f:DFolder):Zat us f=Z2 us f:=by
 rw [Zat,Z2,ZcW h]
theorem ZdV {us:List DUser} :∀(fs:List DFolder) (b0:Option DFolder),(fs.foldl (fun s x=>(s.1 && Za7 us s.2 x,some x)) (true,b0)).1=(fs.all (Z2 us) && Zl6 ((match b0 with | none=>[] | some y=>[y]) ++ fs))
 | [],none=>rfl
 | [],some y=>rfl
 | x :: fs,b0=>by
  simp only [List.foldl_cons,Bool.true_and]
  have hstep:(fs.foldl (fun (s:Bool × Option DFolder) x=>(s.1 && Za7 us s.2 x,some x)) (Za7 us b0 x,some x)).1=(Za7 us b0 x && (fs.all (Z2 us) && Zl6 (x :: fs))):=by
   cases hq:Za7 us b0 x with
   | false=>rw [Bool.false_and];exact Zcd (p:=Za7 us) (nx:=fun _ f=>some f) fs (some x)
   | true=>rw [Bool.true_and];exact ZdV fs (some x)
  rw [hstep]
  cases b0 with
  | none=>
   simp only [Za7,Bool.and_true,List.all_cons,List.nil_append]
   cases Z2 us x <;> simp
  | some y=>
   simp only [Za7,List.all_cons,List.cons_append,List.nil_append,Zl6]
   cases Z2 us x <;> cases Zft y x <;> simp
theorem Zeg {us:List DUser} {fs:List DFolder} : ZbM us fs=(fs.all (Z2 us) && Zl6 fs && decide (fs.length≤8)):=by
 rw [ZbM,show (ZcB us fs).1=_ from ZdV fs none];rfl
theorem ZlT {us:List DUser} {u:Str} :∀{fs:List DFolder},fs.all (Z2 us)=true→ZeV fs u=(Zfh fs u:Int)
 | [],_=>rfl
 | f :: fs,h=>by
  simp only [List.all_cons,Bool.and_eq_true] at h
  have ih:=ZlT (u:=u) h.2
  have hb:Zd1 ⟨f.next,f.mail⟩=true:=by
   have:=h.1;simp only [Z2,Bool.and_eq_true] at this;exact this.2
  simp only [ZeV,Zfh,List.map_cons,List.sum_cons] at ih ⊢
  rw [ih]
  by_cases he:f.owner=u
  ·simp [he,Zdb,hb]
  ·simp [he]
theorem ZkH {x:DHost} (hu:Zap x.users=true) (hf:x.folders.all (Z2 x.users)=true) {w:DUser} (hw:w∈x.users):Zb8 x w=Za0 x.folders w:=by
 rw [Zb8,Za0,ZdP,Zij hu hw,ZlT hf]
 simp only [Bool.not_true,Bool.false_or,Int.add_zero]
 congr 1
 rw [Bool.eq_iff_iff];simp
theorem Zlk {us:List DUser} (h:Zap us=true) (y:DItem):Zcw us y=ZaF us y:=by
 rw [Zcw,ZaF,ZcW h,Zj0]
 simp only [ZcW h]
theorem Zqe {α:Type} {p q:α→Bool} {xs:List α} (h :∀x,x∈xs→p x=q x):xs.all p=xs.all q:=by
 rw [Bool.eq_iff_iff,List.all_eq_true,List.all_eq_true]
 exact ⟨fun a x hx=>h x hx ▸ a x hx,fun a x hx=>(h x hx).symm ▸ a x hx⟩
theorem Znb (x:DHost):ZcK x=Zam x:=by
 cases hu:Zap x.users with
 | false=>simp [ZcK,Zam,hu]
 | true=>
  have e1:x.folders.all (Zat x.users)=x.folders.all (Z2 x.users):=Zqe fun f _=>Zni hu f
  have e2:x.queue.items.all (Zcw x.users)=x.queue.items.all (ZaF x.users):=Zqe fun y _=>Zlk hu y
  rw [ZcK,Zam,hu,e1,e2,Zeg]
  cases hf:x.folders.all (Z2 x.users) with
  | false=>simp
  | true=>
   have e3:ZgO x=x.users.all (Za0 x.folders):=Zqe fun w hw=>ZkH hu hf hw
   rw [e3]
   cases Zch x.domain <;> cases ZaU x.queue <;> cases Zl6 x.folders <;> cases decide (x.folders.length≤8) <;> simp
end Go.BL
namespace Go.BL
open Go
theorem Zgj {x:DHost} (h:Zam x=true):Zap x.users=true:=by
 simp only [Zam,Bool.and_eq_true] at h;exact h.1.1.1.1.2
theorem Zlq {x:DHost} (h:Zam x=true) (n:Str):(Zas x.users n).2=decide (0≤Zgi x.users n):=ZcW (Zgj h) n
structure DSess where
 user:Str
 owner:Str
 name:Str
deriving DecidableEq
end Go.BL
namespace Go.BL
open Go
def Zl9:DHost:=⟨[],[],[],⟨0,[]⟩⟩
theorem ZkV {α β:Type} {p:β→α→Bool} {nx:β→α→β} :∀(xs:List α) (b:β),(xs.foldl (fun (s:Bool × β) x=>(s.1 && p s.2 x,nx s.2 x)) (true,b)).1=true→∀x,x∈xs→∃b',p b' x=true
 | [],_,_,x,hx=>by cases hx
 | x :: xs,b,h,y,hy=>by
  simp only [List.foldl_cons,Bool.true_and] at h
  cases hq:p b x with
  | false=>
   rw [hq] at h
   have:=Zcd (p:=p) (nx:=nx) xs (nx b x)
   rw [this] at h;cases h
  | true=>
   rw [hq] at h
   rcases List.mem_cons.1 hy with rfl | hy
   ·exact ⟨b,hq⟩
   ·exact ZkV xs _ h y hy
theorem Zjj {us:List DUser} (h:Zap us=true) {u:DUser} (hu:u∈us):Zcl u=true:=by
 simp only [Zap,Bool.and_eq_true] at h
 obtain ⟨b,hb⟩:=ZkV (p:=ZdZ) (nx:=fun _ u=>u.name) us [] h.1 u hu
 simp only [ZdZ,Bool.and_eq_true] at hb;exact hb.1
theorem Zg6 {α:Type} (p:α→Bool) (xs:List α):Zbe p xs<xs.length∧Zbe p xs ≥ -1:=by
 unfold Zbe
 cases hf:xs.findIdx? p with
 | none=>simp only [];omega
 | some i=>
  rw [List.findIdx?_eq_some_iff_getElem] at hf
  obtain ⟨hi,_⟩:=hf
  simp only [];omega
end Go.BL
namespace Go.BL
open Go
def dig (k:Nat):Str:=[UInt8.ofNat (IntKind.u8.wrap (48+((k % 10:Nat):Int))).toNat]
def digs (k:Nat):Str:=if h:k=0 then [] else digs (k / 10) ++ dig k
termination_by k
decreasing_by omega
theorem Zkg:digs 0=[]:=by unfold digs;rfl
theorem Zms {k:Nat} (h:0<k):digs k=digs (k / 10) ++ dig k:=by
 conv=>lhs;unfold digs
 rw [dif_neg (by omega)]
theorem ZiY :∀(n k:Nat),k<10 ^ n→(digs k).length≤n
 | n,0,_=>by rw [Zkg];simp
 | 0,k+1,h=>by simp at h
 | n+1,k+1,h=>by
  rw [Zms (by omega),List.length_append]
  have h1:(k+1) / 10<10 ^ n:=by rw [Nat.pow_succ] at h;omega
  have:=ZiY n _ h1
  simp only [dig,List.length_cons,List.length_nil];omega
def ZO (k:Nat):Str:=if k=0 then [109,48] else 109 :: digs k
theorem Zbl {k:Nat} (h:k≤1000000000000000):(ZO k).length≤20:=by
 unfold ZO
 split
 ·simp
 ·have:=ZiY 16 k (by omega)
  simp only [List.length_cons];omega
theorem ZpY {k0 k:Nat} {t:Str} (h:digs k0=digs k ++ t) (hk:0<k):digs k0=digs (k / 10) ++ (dig k ++ t):=by
 rw [h,Zms hk,List.append_assoc]
theorem Zt6 {k0 k:Nat} {t:Str} (h0:k0≤1000000000000000) (h:digs k0=digs k ++ t):t.length≤16:=by
 have h1:=ZiY 16 k0 (by omega)
 rw [h,List.length_append] at h1;omega
theorem ZaS {α:Type} {ys:List α} {i:Nat} {c:α} (h:i<ys.length):(ys.set i c).take (i+1)=ys.take i ++ [c]:=by
 rw [List.take_add_one,List.getElem?_set_self h,List.take_set_of_le (Nat.le_refl _)];rfl
def Zci (k n:Nat):List DMail:=(List.range n).map fun i=>⟨((k+3*i:Nat):Int),((k+3*i+1:Nat):Int),ZO (k+3*i+1+1)⟩
theorem ZdG (k n:Nat):(Zci k n).length=n:=by simp [Zci]
theorem ZjN {ys:List DMail} {i k:Nat} {z1 z2 z3:DMail} (ht:ys.take i=Zci k i) (h1:ys[i]? = some z1) (h2:(ys.set i ⟨((k+3*i:Nat):Int),z1.flags,z1.text⟩)[i]? = some z2)
  (h3:((ys.set i ⟨((k+3*i:Nat):Int),z1.flags,z1.text⟩).set i ⟨z2.uid,((k+3*i+1:Nat):Int),z2.text⟩)[i]? = some z3) :
  (((ys.set i ⟨((k+3*i:Nat):Int),z1.flags,z1.text⟩).set i ⟨z2.uid,((k+3*i+1:Nat):Int),z2.text⟩).set i ⟨z3.uid,z3.flags,ZO (k+3*i+1+1)⟩).take (i+1)=Zci k (i+1):=by
 have hl:=(List.getElem?_eq_some_iff.1 h1).1
 rw [List.getElem?_set_self hl] at h2;cases h2
 rw [List.set_set,List.getElem?_set_self hl] at h3;cases h3
 rw [List.set_set,List.set_set,ZaS hl,ht,Zci,Zci,List.range_succ,List.map_append];rfl
def ZaE (k n:Nat):List DGrant:=(List.range n).map fun i=>⟨ZO (k+2*i),((k+2*i+1:Nat):Int)⟩
theorem ZcZ (k n:Nat):(ZaE k n).length=n:=by simp [ZaE]
theorem Ziw {ys:List DGrant} {i k:Nat} {z1 z2:DGrant} (ht:ys.take i=ZaE k i) (h1:ys[i]? = some z1) (h2:(ys.set i ⟨ZO (k+2*i),z1.rights⟩)[i]? = some z2) :
  ((ys.set i ⟨ZO (k+2*i),z1.rights⟩).set i ⟨z2.user,((k+2*i+1:Nat):Int)⟩).take (i+1)=ZaE k (i+1):=by
 have hl:=(List.getElem?_eq_some_iff.1 h1).1
 rw [List.getElem?_set_self hl] at h2;cases h2
 rw [List.set_set,ZaS hl,ht,ZaE,ZaE,List.range_succ,List.map_append];rfl
def Ze3 (k n:Nat):List DUser:=(List.range n).map fun i=>⟨ZO (k+3*i),ZO (k+3*i+1),((k+3*i+1+1:Nat):Int)⟩
theorem ZjL {ys:List DUser} {i k:Nat} {z1 z2 z3:DUser} (ht:ys.take i=Ze3 k i) (h1:ys[i]? = some z1) (h2:(ys.set i ⟨ZO (k+3*i),z1.pass,z1.quota⟩)[i]? = some z2)
  (h3:((ys.set i ⟨ZO (k+3*i),z1.pass,z1.quota⟩).set i ⟨z2.name,ZO (k+3*i+1),z2.quota⟩)[i]? = some z3) :
  (((ys.set i ⟨ZO (k+3*i),z1.pass,z1.quota⟩).set i ⟨z2.name,ZO (k+3*i+1),z2.quota⟩).set i ⟨z3.name,z3.pass,((k+3*i+1+1:Nat):Int)⟩).take (i+1)=Ze3 k (i+1):=by
 have hl:=(List.getElem?_eq_some_iff.1 h1).1
 rw [List.getElem?_set_self hl] at h2;cases h2
 rw [List.set_set,List.getElem?_set_self hl] at h3;cases h3
 rw [List.set_set,List.set_set,ZaS hl,ht,Ze3,Ze3,List.range_succ,List.map_append];rfl
def ZdU (k n:Nat):List Str:=(List.range n).map fun i=>ZO (k+1*i)
theorem ZhX (k n:Nat):(ZdU k n).length=n:=by simp [ZdU]
theorem Zk3 {ys:List Str} {i k:Nat} {z1:Str} (ht:ys.take i=ZdU k i) (h1:ys[i]? = some z1):(ys.set i (ZO (k+1*i))).take (i+1)=ZdU k (i+1):=by
 have hl:=(List.getElem?_eq_some_iff.1 h1).1
 rw [ZaS hl,ht,ZdU,ZdU,List.range_succ,List.map_append];rfl
theorem ZhW {α:Type} {ys zs:List α} {i:Nat} (h:ys.take i=zs) (hi:ys.length≤i):ys=zs:=by rwa [List.take_of_length_le hi] at h
end Go.BL
namespace Go.BL
open Go
def ZbR (k:Nat):Int:=([1,2,4,8,16,32]:List Int).getD k 0
theorem Zqa {k:Nat} (h:k<6):(k=0∧ZbR k=1)∨(k=1∧ZbR k=2)∨(k=2∧ZbR k=4)∨(k=3∧ZbR k=8)∨(k=4∧ZbR k=16)∨(k=5∧ZbR k=32):=by
 have:k=0∨k=1∨k=2∨k=3∨k=4∨k=5:=by omega
 rcases this with rfl | rfl | rfl | rfl | rfl | rfl <;> simp [ZbR]
theorem Zp9 {k:Nat} (h:k<6):0<ZbR k∧ZbR k≤32:=by rcases Zqa h with h | h | h | h | h | h <;> omega
theorem Zcx {α:Type} {p:α→Bool} {xs:List α} {k:Nat} {x:α} (hx:xs[k]? = some x):(xs.take (k+1)).any p=((xs.take k).any p || p x):=by
 rw [Zcb hx,List.any_append];simp
theorem Zqd {α:Type} {p:α→Bool} {xs:List α} {k:Nat} {b:Bool} (h:b=(xs.take k).any p) (hk:xs.length≤k):b=xs.any p:=by rwa [List.take_of_length_le hk] at h
def onB (u:Str) (b:Int) (g:DGrant):Bool:=(decide (g.user=u) || decide (g.user=anyone)) && decide (Int.tmod (Int.tdiv g.rights b) 2=1)
def ZeQ (gs:List DGrant) (u:Str):Nat→Int
 | 0=>0
 | k+1=>if gs.any (onB u (ZbR k))=true then ZeQ gs u k+ZbR k else ZeQ gs u k
theorem Zhr (gs:List DGrant) (u:Str) :∀k,k≤6→0≤ZeQ gs u k∧ZeQ gs u k≤100*k
 | 0,_=>by simp [ZeQ]
 | k+1,h=>by
  have:=Zhr gs u k (by omega)
  have:=Zp9 (k:=k) (by omega)
  simp only [ZeQ]
  split <;> omega
def Za1 (gs:List DGrant) (u:Str):Int:=ZeQ gs u 6
def Zkm (f:DFolder) (u:Str) (r:Int):Bool:=decide (u=f.owner) || decide (Int.tmod (Int.tdiv (Za1 f.grants u) r) 2=1)
def Znp (us:List DUser) (fs:List DFolder) (u:Str) (k:Int) (r:Int):Int:=
 if Zgi us u<0∨k<0 then 1 else match fs[k.toNat]? with
  | none=>1
  | some f=>if Zkm f u 1=false then 1 else if Zkm f u r=false then 2 else 0
theorem Zi1 {us:List DUser} {fs:List DFolder} {u:Str} {k r:Int} (h:Zgi us u<0∨k<0):Znp us fs u k r=1:=by rw [Znp,if_pos h]
theorem Zp3 {us:List DUser} {fs:List DFolder} {u:Str} {k r:Int} {f:DFolder} (h : ¬ (Zgi us u<0∨k<0)) (hf:fs[k.toNat]? = some f):Znp us fs u k r=if Zkm f u 1=false then 1 else if Zkm f u r=false then 2 else 0:=by
 rw [Znp,if_neg h,hf]
theorem Zkk {us:List DUser} {fs:List DFolder} {u:Str} {k r:Int} (h:Znp us fs u k r=0):0≤Zgi us u∧0≤k∧∃f,fs[k.toNat]? = some f∧Zkm f u 1=true∧Zkm f u r=true:=by
 unfold Znp at h
 split at h
 ·cases h
 ·split at h
  ·cases h
  ·rename_i f hf
   split at h
   ·cases h
   ·split at h
    ·cases h
    ·rename_i h1 h2 h3
     exact ⟨by omega,by omega,f,hf,by simpa using h2,by simpa using h3⟩
def Zd8 (s:DSpan):Bool:=(decide (0≤s.low) && decide (s.low≤99)) && (decide (0≤s.high) && decide (s.high≤99))
def Zc7 (s:List DSpan):Bool:=s.all Zd8 && (decide (1≤s.length) && decide (s.length≤6))
def ZbY (last n:Int) (s:DSpan):Bool:=decide (min (if s.low=0 then last else s.low) (if s.high=0 then last else s.high)≤n) && decide (n≤max (if s.low=0 then last else s.low) (if s.high=0 then last else s.high))
def ZdT (s:List DSpan) (last n:Int):Bool:=s.any (ZbY last n)
def Zbk (s:List DSpan) (last:Int):Nat→List Int
 | 0=>[]
 | n+1=>if ZdT s last (n+1:Nat)=true then Zbk s last n ++ [((n+1:Nat):Int)] else Zbk s last n
def Z7 (s:List DSpan) (last:Int):List Int:=if Zc7 s=true then Zbk s (min last 99) (min last 99).toNat else []
def atF (x:DHost) (s:DSess) (r:Int):Int × Int:=
 if Znp x.users x.folders s.user (Zbe (inF s.owner s.name) x.folders) 2≠0 then (Zbe (inF s.owner s.name) x.folders,Znp x.users x.folders s.user (Zbe (inF s.owner s.name) x.folders) 2)
 else (Zbe (inF s.owner s.name) x.folders,Znp x.users x.folders s.user (Zbe (inF s.owner s.name) x.folders) r)
def Zd2 (x:DHost) (k:Nat):DBox:=match x.folders[k]? with | some f=>f.box | none=>⟨0,[]⟩
def ZjU (ms:List DMail) (n:Int):DMail:=match ms[(n - 1).toNat]? with | some m=>m | none=>⟨0,0,[]⟩
end Go.BL
namespace Go.BL
open Go
theorem Zev {x:DHost} : Zam x=true↔(Zch x.domain=true∧Zap x.users=true∧ZaU x.queue=true)∧((∀f,f∈x.folders→Z2 x.users f=true)∧Zl6 x.folders=true∧x.folders.length≤8)∧(∀u,u∈x.users→Za0 x.folders u=true)∧(∀y,y∈x.queue.items→ZaF x.users y=true):=by
 simp only [Zam,Zeg,Bool.and_eq_true,decide_eq_true_eq,List.all_eq_true]
 constructor
 ·rintro ⟨⟨⟨⟨⟨h1,h2⟩,h3⟩,⟨h4,h5⟩,h6⟩,h7⟩,h8⟩
  exact ⟨⟨h1,h2,h3⟩,⟨h4,h5,h6⟩,h7,h8⟩
 ·rintro ⟨⟨h1,h2,h3⟩,⟨h4,h5,h6⟩,h7,h8⟩
  exact ⟨⟨⟨⟨⟨h1,h2⟩,h3⟩,⟨h4,h5⟩,h6⟩,h7⟩,h8⟩
theorem Znq {b:DBox} (h:Zd1 b=true) :∃l,Zcu b.mail=(true,l)∧l+1≤b.next∧b.next≤100∧b.mail.length≤10:=by
 simp only [Zd1,Bool.and_eq_true,decide_eq_true_eq] at h
 exact ⟨(Zcu b.mail).2,Prod.ext h.1.1 rfl,h.1.2.1,h.1.2.2,h.2⟩
theorem Zl0 :∀(xs:List DMail) (b0 b:Int),xs.foldl (fun (s:Bool × Int) x=>(s.1 && ZdI s.2 x,x.uid)) (true,b0)=(true,b)→b0≤b
 | [],b0,b,h=>by cases h;omega
 | x :: xs,b0,b,h=>by
  simp only [List.foldl_cons,Bool.true_and] at h
  cases hp:ZdI b0 x with
  | false=>
   rw [hp] at h
   have:=Zcd (p:=ZdI) (nx:=fun _ m=>m.uid) xs x.uid
   rw [h] at this;cases this
  | true=>
   rw [hp] at h
   have:=Zl0 xs x.uid b h
   simp only [ZdI,Bool.and_eq_true,decide_eq_true_eq] at hp
   omega
theorem Zfy {x:DHost} {k:Nat} {f:DFolder} (h:Zam x=true) (hf:x.folders[k]? = some f):Z2 x.users f=true:=(Zev.1 h).2.1.1 f (List.mem_of_getElem? hf)
theorem Zex {us:List DUser} {f:DFolder} (h:Z2 us f=true):Zd1 f.box=true:=by simp only [Z2,Bool.and_eq_true] at h;exact h.2
theorem ZeB {x:DHost} {k:Nat} {f:DFolder} (h:x.folders[k]? = some f):Zd2 x k=f.box:=by simp only [Zd2,h]
theorem Zr4 {x:DHost} {s:DSess} {r:Int} (h:(atF x s r).2=0):(atF x s r).1=Zbe (inF s.owner s.name) x.folders∧0≤(atF x s r).1∧0≤Zgi x.users s.user∧∃f,x.folders[(atF x s r).1.toNat]? = some f∧Zkm f s.user 1=true∧Zkm f s.user 2=true∧Zkm f s.user r=true:=by
 unfold atF at h ⊢
 split at h
 ·rename_i h1;exact absurd h h1
 ·rename_i h1
  rw [if_neg h1]
  obtain ⟨h2,h3,f,hf,h4,h5⟩:=Zkk h
  obtain ⟨_,_,f',hf',_,h6⟩:=Zkk (Decidable.not_not.1 h1)
  rw [hf] at hf';cases hf'
  exact ⟨rfl,h3,h2,f,hf,h4,h6,h5⟩
theorem ZfP (s:List DSpan) (last:Int) :∀(n:Nat) (y:Int),y∈Zbk s last n→1≤y∧y≤n
 | 0,y,h=>by cases h
 | n+1,y,h=>by
  simp only [Zbk] at h
  split at h
  ·rw [List.mem_append,List.mem_singleton] at h
   rcases h with h | rfl
   ·have:=ZfP s last n y h;omega
   ·omega
  ·have:=ZfP s last n y h;omega
theorem ZhS {s:List DSpan} {m:Nat} {y:Int} (h:y∈Z7 s m):1≤y∧y≤m:=by
 unfold Z7 at h
 split at h
 ·have:=ZfP _ _ _ _ h;omega
 ·cases h
theorem ZhR (s:List DSpan) (last:Int) :∀n,(Zbk s last n).length≤n
 | 0=>by simp [Zbk]
 | n+1=>by
  have:=ZhR s last n
  simp only [Zbk]
  split
  ·simp;omega
  ·omega
end Go.BL
namespace Go.BL
open Go
theorem Zq4 {k:Nat} {e:Int} (h:([1,2,4,8,16,32]:List Int)[k]? = some e):e=ZbR k:=by rw [ZbR,List.getD_eq_getElem?_getD,h];rfl
theorem Zoy {a b:Int} (h0:0≤a) (h1:a≤1000000) (hb:0<b):IntKind.i64.wrap (Int.tdiv a b)=Int.tdiv a b:=
 ZbP (Int.le_trans (by decide) (Int.tdiv_nonneg h0 (by omega))) (Int.le_trans (Int.tdiv_le_self _ h0) (by omega))
theorem Zem {gs:List DGrant} (h:ZcU gs=true) :∀y,y∈gs→0≤y.rights∧y.rights≤63:=by
 intro y hy
 simp only [ZcU,Bool.and_eq_true] at h
 obtain ⟨b,hb⟩:=ZkV (p:=ZbD) (nx:=fun _ g=>g.user) gs [] h.1 y hy
 simp only [ZbD,Bool.and_eq_true,decide_eq_true_eq] at hb;omega
def ZgC (fs:List DFolder):Prop:=∀f,f∈fs→∀y,y∈f.grants→0≤y.rights∧y.rights≤63
theorem ZiI {x:DHost} (h:Zam x=true):ZgC x.folders:=fun f hf=>by
 have:=(Zev.1 h).2.1.1 f hf
 simp only [Z2,Bool.and_eq_true] at this
 exact Zem this.1.2
theorem ZkW (gs:List DGrant) (u:Str):0≤Za1 gs u∧Za1 gs u≤600:=Zhr gs u 6 (Nat.le_refl _)
theorem ZeA {b:DBox} (h:Zd1 b=true):1≤b.next∧b.next≤100∧b.mail.length≤10:=by
 obtain ⟨l,hs,h1,h2,h3⟩:=Znq h
 have:=Zl0 b.mail 0 l hs
 omega
theorem ZhQ {s:List DSpan} {last:Int} {n:Nat} (h:ZdT s last (n+1:Nat)=true):Zbk s last (n+1)=Zbk s last n ++ [((n+1:Nat):Int)]:=by simp only [Zbk,h,if_true]
theorem ZjI {s:List DSpan} {last:Int} {n:Nat} (h:ZdT s last (n+1:Nat)=false):Zbk s last (n+1)=Zbk s last n:=by simp only [Zbk,h];rfl
theorem ZmP {s:List DSpan} (h:Zc7 s=true) :∀y,y∈s→Zd8 y=true:=by simp only [Zc7,Bool.and_eq_true,List.all_eq_true] at h;exact h.1
theorem ZhT (s:List DSpan) (m:Nat):(Z7 s m).length≤m:=by
 unfold Z7
 split
 ·have:=ZhR s (min (m:Int) 99) (min (m:Int) 99).toNat
  omega
 ·simp
end Go.BL
namespace Go.BL
open Go
def Zi7 (gs:List DGrant) (o u:Str):Int:=
 if ¬ (ZcU gs=true∧Zag o=true∧Zag u=true) then -1 else if u=o then 63 else orI ((mget (Zec gs) u).getD 0) ((mget (Zec gs) anyone).getD 0)
theorem Zi6 {gs:List DGrant} {o u:Str} (h : ¬ (ZcU gs=true∧Zag o=true∧Zag u=true)):Zi7 gs o u = -1:=by rw [Zi7,if_pos h]
theorem Zsc {gs:List DGrant} {o u:Str} (h1:ZcU gs=true) (h2:Zag o=true) (h3:Zag u=true):Zi7 gs o u=if u=o then 63 else orI ((mget (Zec gs) u).getD 0) ((mget (Zec gs) anyone).getD 0):=by rw [Zi7,if_neg (fun h=>h ⟨h1,h2,h3⟩)]
def ZoS (us:List DUser) (f:DFolder) (u:Str) (r:Int):Bool:=(Zas us u).2 && (decide (0≤Zi7 f.grants f.owner u) && !decide (ZvR (Zi7 f.grants f.owner u) r=0))
theorem Znw {gs:List DGrant} (h:ZcU gs=true):gs.Pairwise fun x y=>Op.bytesLess x.user y.user=true:=by
 simp only [ZcU,Bool.and_eq_true] at h
 exact (Ze2 (p:=ZbD) (f:=fun u=>u.user) (fun b x hq=>by simp only [ZbD,Bool.and_eq_true] at hq;exact hq.2) gs [] (Zcg gs).2 (Prod.ext h.1 rfl)).2
def Zhs (r b:Int):Bool:=decide (Int.tmod (Int.tdiv r b) 2=1)
theorem Zix (u:Str) (b:Int) (h0:Zhs 0 b=false) :∀{gs:List DGrant},gs.Pairwise (fun x y=>Op.bytesLess x.user y.user=true)→(gs.any fun g=>decide (g.user=u) && Zhs g.rights b)=Zhs ((mget (Zec gs) u).getD 0) b
 | [],_=>by simp [Zec,mget,h0]
 | g :: gs,hp=>by
  obtain ⟨h1,h2⟩:=List.pairwise_cons.1 hp
  have ih:=Zix u b h0 h2
  simp only [Zec,List.map_cons,mget,List.any_cons] at ih ⊢
  by_cases hu:u=g.user
  ·subst hu
   have hn:(gs.any fun x=>decide (x.user=g.user) && Zhs x.rights b)=false:=by
    rw [List.any_eq_false]
    intro x hx hc
    simp only [Bool.and_eq_true,decide_eq_true_eq] at hc
    have:=h1 x hx
    rw [hc.1,Zc0] at this;cases this
   simp [hn]
  ·rw [if_neg hu,decide_eq_false (Ne.symm hu),← ih];simp
theorem Zk5 (u:Str) :∀{gs:List DGrant},(∀y,y∈gs→0≤y.rights∧y.rights≤63)→0≤(mget (Zec gs) u).getD 0∧(mget (Zec gs) u).getD 0≤63
 | [],_=>by simp [Zec,mget]
 | g :: gs,h=>by
  have ih:=Zk5 u (gs:=gs) fun y hy=>h y (List.mem_cons_of_mem _ hy)
  simp only [Zec,List.map_cons,mget] at ih ⊢
  by_cases hu:u=g.user
  ·rw [if_pos hu];exact h g (List.mem_cons_self ..)
  ·rw [if_neg hu];exact ih
theorem Zu6 :∀a,a<64→∀b,b<64→0≤orI (a:Nat) (b:Nat)∧orI (a:Nat) (b:Nat)≤63∧(∀k,k<6→(!decide (ZvR (orI (a:Nat) (b:Nat)) (ZbR k)=0))=(Zhs (a:Nat) (ZbR k) || Zhs (b:Nat) (ZbR k)))∧(!decide (Int.tmod (orI (a:Nat) (b:Nat)) 2=0))=(Zhs (a:Nat) 1 || Zhs (b:Nat) 1)∧(!decide (Int.tmod (Int.tdiv (orI (a:Nat) (b:Nat)) 2) 2=0))=(Zhs (a:Nat) 2 || Zhs (b:Nat) 2):=by
 decide +kernel
theorem Ztl :∀k,k<6→(!decide (ZvR 63 (ZbR k)=0))=true:=by decide +kernel
def ZyW (b0 b1 b2 b3 b4 b5:Bool):Int:=
 let s0:Int:=if b0=true then 0+ZbR 0 else 0
 let s1:=if b1=true then s0+ZbR 1 else s0
 let s2:=if b2=true then s1+ZbR 2 else s1
 let s3:=if b3=true then s2+ZbR 3 else s2
 let s4:=if b4=true then s3+ZbR 4 else s3
 if b5=true then s4+ZbR 5 else s4
theorem Zr3 :∀b0 b1 b2 b3 b4 b5:Bool,∀k,k<6→Zhs (ZyW b0 b1 b2 b3 b4 b5) (ZbR k)=[b0,b1,b2,b3,b4,b5].getD k false:=by decide +kernel
theorem ZmS {gs:List DGrant} {u:Str} {k:Nat} (hk:k<6):Zhs (Za1 gs u) (ZbR k)=gs.any (onB u (ZbR k)):=by
 have e:Za1 gs u=ZyW (gs.any (onB u (ZbR 0))) (gs.any (onB u (ZbR 1))) (gs.any (onB u (ZbR 2))) (gs.any (onB u (ZbR 3))) (gs.any (onB u (ZbR 4))) (gs.any (onB u (ZbR 5))):=rfl
 rw [e,Zr3 _ _ _ _ _ _ k hk]
 have:k=0∨k=1∨k=2∨k=3∨k=4∨k=5:=by omega
 rcases this with rfl | rfl | rfl | rfl | rfl | rfl <;> rfl
theorem Ztr {gs:List DGrant} {u:Str} {b:Int} : gs.any (onB u b)=((gs.any fun g=>decide (g.user=u) && Zhs g.rights b) || (gs.any fun g=>decide (g.user=anyone) && Zhs g.rights b)):=by
 induction gs with
 | nil=>rfl
 | cons g gs ih=>
  simp only [List.any_cons,ih,onB,Zhs]
  cases decide (g.user=u) <;> cases decide (g.user=anyone) <;> cases decide (Int.tmod (Int.tdiv g.rights b) 2=1) <;> simp
theorem ZlK {k:Nat} (hk:k<6):Zhs 0 (ZbR k)=false:=by
 have:k=0∨k=1∨k=2∨k=3∨k=4∨k=5:=by omega
 rcases this with rfl | rfl | rfl | rfl | rfl | rfl <;> rfl
theorem Zov {gs:List DGrant} {u:Str} (h:ZcU gs=true) {k:Nat} (hk:k<6):(!decide (ZvR (orI ((mget (Zec gs) u).getD 0) ((mget (Zec gs) anyone).getD 0)) (ZbR k)=0))=Zhs (Za1 gs u) (ZbR k)∧0≤orI ((mget (Zec gs) u).getD 0) ((mget (Zec gs) anyone).getD 0)∧orI ((mget (Zec gs) u).getD 0) ((mget (Zec gs) anyone).getD 0)≤63∧(!decide (Int.tmod (orI ((mget (Zec gs) u).getD 0) ((mget (Zec gs) anyone).getD 0)) 2=0))=Zhs (Za1 gs u) 1∧(!decide (Int.tmod (Int.tdiv (orI ((mget (Zec gs) u).getD 0) ((mget (Zec gs) anyone).getD 0)) 2) 2=0))=Zhs (Za1 gs u) 2:=by
 obtain ⟨a0,a1⟩:=Zk5 u (Zem h)
 obtain ⟨b0,b1⟩:=Zk5 anyone (Zem h)
 have hs:=Znw h
 have e1 :∀k,k<6→Zhs (Za1 gs u) (ZbR k)=(Zhs ((mget (Zec gs) u).getD 0) (ZbR k) || Zhs ((mget (Zec gs) anyone).getD 0) (ZbR k)):=fun k hk=>by
  rw [ZmS hk,Ztr,Zix u _ (ZlK hk) hs,Zix anyone _ (ZlK hk) hs]
 generalize (mget (Zec gs) u).getD 0=a at *
 generalize (mget (Zec gs) anyone).getD 0=b at *
 obtain ⟨n,rfl⟩:=Int.eq_ofNat_of_zero_le a0
 obtain ⟨m,rfl⟩:=Int.eq_ofNat_of_zero_le b0
 obtain ⟨t1,t2,t3,t4,t5⟩:=Zu6 n (by omega) m (by omega)
 have h0:=e1 0 (by omega)
 exact ⟨by rw [t3 k hk,e1 k hk],t1,t2,by rw [t4];exact h0.symm,by rw [t5];exact (e1 1 (by omega)).symm⟩
theorem Zjl {x:DHost} {u:Str} (h:Zam x=true) (hu:0≤Zgi x.users u):Zag u=true:=by
 obtain ⟨w,hw,rfl⟩:=Zg5.1 hu
 have:=Zjj (Zgj h) hw
 simp only [Zcl,Bool.and_eq_true] at this
 exact this.1.1.1
theorem Zsb {x:DHost} {f:DFolder} {u:Str} (h:Zam x=true) (hf:f∈x.folders) (hu:0≤Zgi x.users u):Zi7 f.grants f.owner u=if u=f.owner then 63 else orI ((mget (Zec f.grants) u).getD 0) ((mget (Zec f.grants) anyone).getD 0):=by
 have hi:=(Zev.1 h).2.1.1 f hf
 simp only [Z2,Bool.and_eq_true,decide_eq_true_eq] at hi
 rw [Zi7,if_neg (fun hc=>hc ⟨hi.1.2,Zjl h hi.1.1.1,Zjl h hu⟩)]
theorem ZvV {x:DHost} {f:DFolder} (h:Zam x=true) (hf:f∈x.folders):ZcU f.grants=true:=by
 have hi:=(Zev.1 h).2.1.1 f hf
 simp only [Z2,Bool.and_eq_true] at hi
 exact hi.1.2
theorem ZoR {x:DHost} {f:DFolder} {u:Str} {k:Nat} (h:Zam x=true) (hf:f∈x.folders) (hk:k<6):ZoS x.users f u (ZbR k)=(decide (0≤Zgi x.users u) && Zkm f u (ZbR k)):=by
 rw [ZoS,Zlq h]
 by_cases hu:0≤Zgi x.users u
 ·rw [Zsb h hf hu,Zkm]
  obtain ⟨r1,r2,r3,r4,r5⟩:=Zov (gs:=f.grants) (u:=u) (ZvV h hf) hk
  by_cases ho:u=f.owner
  ·rw [if_pos ho,decide_eq_true ho,Ztl k hk];simp
  ·rw [if_neg ho,decide_eq_false ho,r1,decide_eq_true r2];simp [Zhs]
 ·simp [hu]
end Go.BL
namespace Go.BL
open Go
def ZeD (f:DFolder):Nat:=3+2*f.grants.length+3*f.mail.length
def mkF (k:Nat) (f:DFolder):DFolder:=⟨ZO k,ZO (k+1),ZaE (k+1+1) f.grants.length,((k+1+1+2*f.grants.length:Nat):Int),Zci (k+1+1+2*f.grants.length+1) f.mail.length⟩
def ZeX (x:DItem):Nat:=3+x.left.length
def mkI (k:Nat) (x:DItem):DItem:=⟨((k:Nat):Int),ZO (k+1),ZO (k+1+1),ZdU (k+1+1+1) x.left.length⟩
def kL {α:Type} (st:α→Nat) (k:Nat) (xs:List α):Nat:=k+(xs.map st).sum
def mkL {α:Type} (st:α→Nat) (mk:Nat→α→α):Nat→List α→List α
 | _,[]=>[]
 | k,x :: xs=>mk k x :: mkL st mk (k+st x) xs
theorem ZsD {α:Type} {st:α→Nat} {k:Nat} : kL st k []=k:=by simp [kL]
theorem Zo5 {α:Type} {st:α→Nat} {k:Nat} {x:α} {xs:List α} : kL st k (x :: xs)=kL st (k+st x) xs:=by simp [kL];omega
theorem Zlh {α:Type} {st:α→Nat} {k i:Nat} {xs:List α} {x:α} (hx:xs[i]? = some x):kL st k (xs.take (i+1))=kL st k (xs.take i)+st x:=by
 rw [Zcb hx,kL,kL,List.map_append,List.sum_append];simp;omega
theorem Zmb {α:Type} {st:α→Nat} {mk:Nat→α→α} {x:α} :∀{xs:List α} (k:Nat),mkL st mk k (xs ++ [x])=mkL st mk k xs ++ [mk (kL st k xs) x]
 | [],k=>by simp [mkL,kL]
 | y :: xs,k=>by
  rw [List.cons_append,mkL,Zmb (xs:=xs) (k+st y),mkL,Zo5,List.cons_append]
theorem Zrm {α:Type} {st:α→Nat} {mk:Nat→α→α} {xs ys:List α} {i k:Nat} {x:α} (ht:ys.take i=mkL st mk k (xs.take i)) (hx:xs[i]? = some x) (hl:ys.length=xs.length):(ys.set i (mk (kL st k (xs.take i)) x)).take (i+1)=mkL st mk k (xs.take (i+1)):=by
 have hi:=(List.getElem?_eq_some_iff.1 hx).1
 rw [ZaS (by omega),Zcb hx,Zmb,ht]
theorem ZoQ {α:Type} {st:α→Nat} {mk:Nat→α→α} {xs ys:List α} {i k:Nat} (ht:ys.take i=mkL st mk k (xs.take i)) (hl:ys.length=xs.length) (hi:xs.length≤i):ys=mkL st mk k xs:=by
 rwa [List.take_of_length_le (by omega),List.take_of_length_le hi] at ht
theorem Zmp {α:Type} {xs ys:List α} {i:Nat} {z:α} (hd:ys.drop i=xs.drop i):(ys.set i z).drop (i+1)=xs.drop (i+1):=by
 rw [List.drop_set_of_lt (by omega),← List.drop_drop,← List.drop_drop,hd]
theorem Zmq {α:Type} {xs ys:List α} {i:Nat} (hd:ys.drop i=xs.drop i):ys[i]? = xs[i]?:=by
 have:=congrArg (fun l=>l[0]?) hd
 simpa using this
theorem ZdC {α:Type} {xs:List α} {k:Nat} {x z:α} (h:xs[k]? = some x):(xs.set k z)[k]? = some z:=List.getElem?_set_self (List.getElem?_eq_some_iff.1 h).1
theorem Zvn {α:Type} {st:α→Nat} {k i:Nat} {xs:List α} {x:α} (hx:xs[i]? = some x):kL st k (xs.take i)+st x≤kL st k xs:=by
 have e:xs=xs.take (i+1) ++ xs.drop (i+1):=(List.take_append_drop _ _).symm
 have h1:=Zlh (st:=st) (k:=k) hx
 have h2:kL st k xs=kL st k (xs.take (i+1))+((xs.drop (i+1)).map st).sum:=by
  conv=>lhs;rw [e]
  simp only [kL,List.map_append,List.sum_append];omega
 omega
theorem ZsE {α:Type} {st:α→Nat} {k i:Nat} {xs:List α} (h:xs.length≤i):kL st k (xs.take i)=kL st k xs:=by rw [List.take_of_length_le h]
theorem Zvm {α:Type} {st:α→Nat} {k:Nat} {xs:List α} : k≤kL st k xs:=by simp [kL]
theorem ZlU {α:Type} {xs ys:List α} {i:Nat} {z:α} (h:ys.length=xs.length):(ys.set i z).length=xs.length:=by rw [List.length_set,h]
theorem Zvl {α:Type} {st sz:α→Nat} {xs:List α} (k:Nat) (h :∀x,x∈xs→st x≤3+3*sz x):kL st k xs≤k+3*(xs.length+(xs.map sz).sum):=by
 induction xs generalizing k with
 | nil=>simp [kL]
 | cons x xs ih=>
  rw [Zo5]
  have h1:=ih (k+st x) fun y hy=>h y (List.mem_cons_of_mem _ hy)
  have h2:=h x (List.mem_cons_self ..)
  simp only [List.length_cons,List.map_cons,List.sum_cons];omega
theorem ZjP {α:Type} {st:α→Nat} {mk:Nat→α→α} {xs ys:List α} {i k m:Nat} {x:α} (ht:ys.take i=mkL st mk k (xs.take i)) (hx:xs[i]? = some x) (hl:ys.length=xs.length) (hs:m=kL st k (xs.take i)):(ys.set i (mk m x)).take (i+1)=mkL st mk k (xs.take (i+1)):=by
 subst hs;exact Zrm ht hx hl
end Go.BL
namespace Go.BL
open Go
theorem ZwN {k:Nat} {fs:List DFolder} : kL ZeD k fs≤k+3*szL Zaj fs:=Zvl k fun x _=>by simp only [ZeD,Zaj,szL];omega
theorem ZwL {k:Nat} {xs:List DItem} : kL ZeX k xs≤k+3*szL Zbg xs:=Zvl k fun x _=>by simp only [ZeX,Zbg,ZeI,szL];omega
def kH (k:Nat) (x:DHost):Nat:=kL ZeX (kL ZeD (k+3*x.users.length) x.folders) x.queue.items
theorem ZwM {x:DHost} (h:Zcm x≤1048576):kH 1 x≤10000000:=by
 have h1:=@ZwL (kL ZeD (1+3*x.users.length) x.folders) x.queue.items
 have h2:=@ZwN (1+3*x.users.length) x.folders
 unfold Zcm at h
 have h3:x.users.length≤szL ZcG x.users:=by simp only [szL];omega
 unfold kH;omega
end Go.BL
namespace Go.BL
open Go
def Zc4 (us:List DUser) (fs:List DFolder) (u o n:Str) (r:Int):Nat:=
 if Zbe (inF o n) fs<0 then 1 else match fs[(Zbe (inF o n) fs).toNat]? with
  | none=>1
  | some f=>if ZoS us f u 1=false then 1 else if ZoS us f u r=false then 2 else 0
theorem Zp1 {us:List DUser} {fs:List DFolder} {u o n:Str} {r:Int} (h:Zbe (inF o n) fs<0):Zc4 us fs u o n r=1:=by rw [Zc4,if_pos h]
theorem Zi0 {us:List DUser} {fs:List DFolder} {u o n:Str} {r:Int} {f:DFolder} (h : ¬ Zbe (inF o n) fs<0) (hf:fs[(Zbe (inF o n) fs).toNat]? = some f):Zc4 us fs u o n r=if ZoS us f u 1=false then 1 else if ZoS us f u r=false then 2 else 0:=by
 rw [Zc4,if_neg h,hf]
theorem Zp2 (us:List DUser) (fs:List DFolder) (u o n:Str) (r:Int):Zc4 us fs u o n r<3:=by
 unfold Zc4
 split
 ·omega
 ·split
  ·omega
  ·split
   ·omega
   ·split <;> omega
theorem Zt9 {x:DHost} {u o n:Str} {k:Nat} (h:Zam x=true) (hk:k<6):((Zc4 x.users x.folders u o n (ZbR k):Nat):Int)=Znp x.users x.folders u (Zbe (inF o n) x.folders) (ZbR k):=by
 by_cases h0:Zbe (inF o n) x.folders<0
 ·rw [Zp1 h0,Zi1 (.inr h0)];rfl
 ·have hl:=Zg6 (inF o n) x.folders
  obtain ⟨f,hf⟩:=ZsF (xs:=x.folders) (i:=Zbe (inF o n) x.folders) (by omega) (by omega)
  have hm:=List.mem_of_getElem? hf
  rw [Zi0 h0 hf]
  have e1:ZoS x.users f u 1=(decide (0≤Zgi x.users u) && Zkm f u 1):=ZoR (k:=0) h hm (by omega)
  rw [e1,ZoR h hm hk]
  by_cases hu:Zgi x.users u<0
  ·rw [Zi1 (.inl hu),decide_eq_false (by omega)];rfl
  ·rw [Zp3 (by omega) hf,decide_eq_true (by omega)]
   cases Zkm f u 1 <;> cases Zkm f u (ZbR k) <;> rfl
theorem Zr0 {x:DHost} {u o n:Str} (h:Zam x=true):((Zc4 x.users x.folders u o n 2:Nat):Int)=Znp x.users x.folders u (Zbe (inF o n) x.folders) 2:=Zt9 (k:=1) h (by omega)
end Go.BL
namespace Go.BL
open Go
end Go.BL
namespace Go.BL
open Go
end Go.BL
namespace Go.BL
open Go
end Go.BL
namespace Go.BL
open Go
end Go.BL
namespace Go.BL
open Go
end Go.BL
namespace Go.BL
open Go
theorem ZuY {α:Type} {xs:List α} {k:Nat} {x:α} (h:xs[k]? = some x):xs.set k x=xs:=by
 apply List.ext_getElem?
 intro i
 rw [List.getElem?_set]
 split
 ·rename_i e;subst e
  split
  ·rw [h]
  ·rename_i hl;rw [List.getElem?_eq_none (by omega)] at h;cases h
 ·rfl
theorem ZaM.cellA {α:Type} {l:Cells} {p:Option Addr} {c:Nat} {T:TypeId} {w:Nat} {R:ZgD α} {xs:List α} (h:ZaM l p c T w R xs) {i:Nat} {x:α} (hx:xs[i]? = some x) :
∃b row li lr,p=some ⟨b,0,none⟩∧R row x li∧row.length=w∧l.Perm (li ++ lr)∧(∀(B:Kn) (L:List Cells) (j:Nat),L[j]? = some l→∀(m:Nat) (u:Value),row[m]? = some u→ZaI B L.flatten ⟨b,i*w+m,none⟩ u)∧(∀(B:Kn) (L:List Cells) (j:Nat),L[j]? = some lr→∀(m:Nat) (u:Value),row[m]? = some u→ZaI B L.flatten ⟨b,i*w+m,none⟩ u)∧∀x' li',R row x' li'→ZaM (li' ++ lr) p c T w R (xs.set i x'):=by
 obtain ⟨b,arr,row,li,lr,e1,e2,e3,e4,e5,e6⟩:=h.open1 hx
 refine ⟨b,row,li,ZN b arr T ++ lr,e1,e2,e3,e4,fun B L j hj m u hm=>⟨rfl,arr.toArray,T,(0,0),.inr ?_,by simpa using e5 m u hm⟩,fun B L j hj m u hm=>⟨rfl,arr.toArray,T,(0,0),.inr ?_,by simpa using e5 m u hm⟩,e6⟩
 ·exact List.mem_flatten.2 ⟨l,List.mem_of_getElem? hj,e4.mem_iff.2 (List.mem_append_right _ (List.mem_append_left _ (List.mem_singleton.2 rfl)))⟩
 ·exact List.mem_flatten.2 ⟨_,List.mem_of_getElem? hj,List.mem_append_left _ (List.mem_singleton.2 rfl)⟩
theorem Zr1 {x:DHost} {u o n:Str} {r:Int} (h:Zc4 x.users x.folders u o n r=0):0≤Zbe (inF o n) x.folders:=by
 unfold Zc4 at h
 split at h
 ·cases h
 ·omega
end Go.BL
namespace Go.BL
open Go
end Go.BL
namespace Go.BL
open Go
end Go.BL
namespace Go.BL
open Go
def usN (x:DHost) (u o n:Str) (r:Int) (k:Nat):Nat:=if Zc4 x.users x.folders u o n 2=0 then (if Zc4 x.users x.folders u o n r=0 then k else Zc4 x.users x.folders u o n r) else Zc4 x.users x.folders u o n 2
def usX {α:Type} (x:DHost) (u o n:Str) (r:Int) (A B:α):α:=if Zc4 x.users x.folders u o n 2=0∧Zc4 x.users x.folders u o n r=0 then A else B
theorem ZuK {x:DHost} {u o n:Str} {r:Int} {k:Nat} (hk:k<5):usN x u o n r k<5:=by
 unfold usN
 have h2:=Zp2 x.users x.folders u o n 2
 have hr:=Zp2 x.users x.folders u o n r
 split <;> (try split) <;> omega
theorem Zsv {x:DHost} {u o n:Str} {r:Int} (h:Zc4 x.users x.folders u o n 2≠0) (k:Nat):usN x u o n r k=Zc4 x.users x.folders u o n 2∧∀{α:Type} (A B:α),usX x u o n r A B=B:=⟨by rw [usN,if_neg h],fun A B=>by rw [usX,if_neg (fun hh=>h hh.1)]⟩
theorem ZuJ {x:DHost} {u o n:Str} {r:Int} (h2:Zc4 x.users x.folders u o n 2=0) (h:Zc4 x.users x.folders u o n r≠0) (k:Nat):usN x u o n r k=Zc4 x.users x.folders u o n r∧∀{α:Type} (A B:α),usX x u o n r A B=B:=⟨by rw [usN,if_pos h2,if_neg h],fun A B=>by rw [usX,if_neg (fun hh=>h hh.2)]⟩
theorem Zsu {x:DHost} {u o n:Str} {r:Int} (h2:Zc4 x.users x.folders u o n 2=0) (h:Zc4 x.users x.folders u o n r=0) (k:Nat):usN x u o n r k=k∧∀{α:Type} (A B:α),usX x u o n r A B=A:=⟨by rw [usN,if_pos h2,if_pos h],fun A B=>by rw [usX,if_pos ⟨h2,h⟩]⟩
end Go.BL
namespace Go.BL
open Go
def Zg1 (s:List DSpan) (L:Int) (k n:Nat):Bool:=(decide (1≤n) && decide ((n:Int)≤L)) && (s.take k).any (ZbY L n)
def ZiR (f:Nat→Bool) (a j:Int) (n:Nat):Bool:=f n || (decide (a≤(n:Int)) && decide ((n:Int)<j))
theorem ZoT (s:List DSpan) (L:Int):(fun _:Nat=>false)=Zg1 s L 0:=funext fun n=>by simp [Zg1]
theorem Zh7 (f:Nat→Bool) (a:Int):f=ZiR f a a:=funext fun n=>by
 have:(decide (a≤(n:Int)) && decide ((n:Int)<a))=false:=by rw [Bool.and_eq_false_iff];simp;omega
 simp [ZiR,this]
theorem Zh8 {f F:Nat→Bool} {a j:Int} (h:F=ZiR f a j) (h0:0≤j) (ha:a≤j):(fun n=>if n=j.toNat then true else F n)=ZiR f a (j+1):=by
 subst h
 funext n
 simp only [ZiR]
 by_cases e:n=j.toNat
 ·rw [if_pos e]
  have h1:decide (a≤(n:Int))=true:=by simp;omega
  have h2:decide ((n:Int)<j+1)=true:=by simp;omega
  simp [h1,h2]
 ·rw [if_neg e]
  have:decide ((n:Int)<j)=decide ((n:Int)<j+1):=by rw [decide_eq_decide];omega
  rw [this]
theorem ZjR {s:List DSpan} {L a e j lo hi:Int} {k:Nat} {m:DSpan} {F:Nat→Bool} (hm:s[k]? = some m) (hlo:lo=if m.low=0 then L else m.low) (hhi:hi=if m.high=0 then L else m.high) (ha:a=min lo hi) (he:e=max lo hi) (ha1:1≤a) (hF:F=ZiR (Zg1 s L k) a j)
  (h1:min e L<j) (h2:a≤j) (h3:j≤min e L+1∨j=a):F=Zg1 s L (k+1):=by
 subst hF
 funext n
 have hs:ZbY L n m=(decide (a≤(n:Int)) && decide ((n:Int)≤e)):=by simp only [ZbY,← hlo,← hhi,← ha,← he]
 simp only [ZiR,Zg1,Zcx hm,hs]
 have key:(decide (a≤(n:Int)) && decide ((n:Int)<j))=((decide (1≤n) && decide ((n:Int)≤L)) && (decide (a≤(n:Int)) && decide ((n:Int)≤e))):=by
  rw [Bool.eq_iff_iff]
  simp only [Bool.and_eq_true,decide_eq_true_eq]
  omega
 rw [key,← Bool.and_or_distrib_left]
theorem Zrn {s:List DSpan} {L:Int} {k:Nat} (h:Zg1 s L s.length k=true):Zbk s L (min k L.toNat)=Zbk s L (min (k - 1) L.toNat) ++ [(k:Int)]:=by
 simp only [Zg1,List.take_length,Bool.and_eq_true,decide_eq_true_eq] at h
 obtain ⟨⟨h1,h2⟩,h3⟩:=h
 obtain ⟨m,rfl⟩ :∃m,k=m+1:=⟨k - 1,by omega⟩
 rw [show min (m+1) L.toNat=m+1 from by omega,show min (m+1 - 1) L.toNat=m from by omega,ZhQ (show ZdT s L (m+1:Nat)=true from h3)]
theorem Ztu {s:List DSpan} {L:Int} {k:Nat} (h:Zg1 s L s.length k=false):Zbk s L (min k L.toNat)=Zbk s L (min (k - 1) L.toNat):=by
 by_cases h1:k=0
 ·subst h1;rfl
 ·by_cases h2:(k:Int)≤L
  ·obtain ⟨m,rfl⟩ :∃m,k=m+1:=⟨k - 1,by omega⟩
   have h3:ZdT s L (m+1:Nat)=false:=by
    simp only [Zg1,List.take_length] at h
    rw [show decide (1≤m+1)=true from by simp,show decide (((m+1:Nat):Int)≤L)=true from by simpa using h2] at h
    simpa [ZdT] using h
   rw [show min (m+1) L.toNat=m+1 from by omega,show min (m+1 - 1) L.toNat=m from by omega,ZjI h3]
  ·rw [show min k L.toNat=L.toNat from by omega,show min (k - 1) L.toNat=L.toNat from by omega]
theorem Zm0 {s:List DSpan} {last:Int} (h:Zc7 s=true):Z7 s last=Zbk s (min last 99) (min last 99).toNat:=by rw [Z7,if_pos h]
theorem ZjJ {s:List DSpan} {last:Int} (h:Zc7 s=false∨last<1):Z7 s last=[]:=by
 rw [Z7]
 split
 ·rcases h with h | h
  ·rename_i e;rw [h] at e;cases e
  ·rw [show (min last 99).toNat=0 from by omega];rfl
 ·rfl
end Go.BL
namespace Go.BL
open Go
def ZsC (ms:List DMail) (p:Int):DLine:=⟨p,(ZjU ms p).uid,(ZjU ms p).flags,(ZjU ms p).text⟩
def ZaD (ms:List DMail) (ns:List Int):List DLine:=ns.map (ZsC ms)
theorem ZhZ {ms:List DMail} {ns:List Int} {k:Nat} {y:Int} {m:DMail} (hy:ns[k]? = some y) (hm:ms[(y - 1).toNat]? = some m):ZaD ms (ns.take (k+1))=ZaD ms (ns.take k) ++ [⟨y,m.uid,m.flags,m.text⟩]:=by
 have e:ZjU ms y=m:=by simp only [ZjU,hm]
 rw [ZaD,Zcb hy,List.map_append]
 simp [ZaD,ZsC,e]
def ZbK (x:DHost) (s:DSess) (set:List DSpan):List DLine × Int:=
 if ¬ (Zam x=true∧Zc7 set=true) then ([],5)
 else if (atF x s 2).2≠0 then ([],(atF x s 2).2)
 else (ZaD (Zd2 x (atF x s 2).1.toNat).mail (Z7 set (Zd2 x (atF x s 2).1.toNat).mail.length),0)
theorem Zho {x:DHost} {u o n:Str} {r:Int} (h:Zc4 x.users x.folders u o n r=0) :∃(k:Nat) (f:DFolder),Zbe (inF o n) x.folders=(k:Int)∧x.folders[k]? = some f:=by
 have h0:=Zr1 h
 obtain ⟨k,hk⟩ :∃k:Nat,Zbe (inF o n) x.folders=(k:Int):=⟨_,(Int.toNat_of_nonneg h0).symm⟩
 have hl:=Zg6 (inF o n) x.folders
 exact ⟨k,x.folders[k]'(by omega),hk,List.getElem?_eq_getElem (by omega)⟩
theorem Zub (x:DHost) (u o n:Str):atF x ⟨u,o,n⟩ 2=(Zbe (inF o n) x.folders,Znp x.users x.folders u (Zbe (inF o n) x.folders) 2):=by
 unfold atF
 split <;> rfl
theorem ZiS {x:DHost} {u o n:Str} {set:List DSpan} {YS:List DLine} (hYS:YS=ZaD (Zd2 x (Zbe (inF o n) x.folders).toNat).mail (Z7 set (Zd2 x (Zbe (inF o n) x.folders).toNat).mail.length)) {Y:DHost} {d:Int} {YY:List DLine}
  (h:(Y,d,YY)=if Zc7 set=true∧Zam x=true then (usX x u o n 2 x x,((usN x u o n 2 0:Nat):Int),usX x u o n 2 YS []) else (Zl9,5,[])):YY=(ZbK x ⟨u,o,n⟩ set).1∧d=(ZbK x ⟨u,o,n⟩ set).2:=by
 by_cases hc:Zc7 set=true∧Zam x=true
 ·rw [if_pos hc] at h
  simp only [Prod.mk.injEq] at h
  obtain ⟨_,rfl,rfl⟩:=h
  have e:=Zr0 (u:=u) (o:=o) (n:=n) hc.2
  rw [ZbK,if_neg (fun h=>h ⟨hc.2,hc.1⟩),Zub]
  by_cases h2:Zc4 x.users x.folders u o n 2=0
  ·obtain ⟨e1,e2⟩:=Zsu h2 h2 0
   rw [e1,e2,if_neg (by simp only [];omega)]
   exact ⟨hYS,rfl⟩
  ·obtain ⟨e1,e2⟩:=Zsv (r:=2) h2 0
   rw [e1,e2,if_pos (by simp only [];omega)]
   exact ⟨rfl,e⟩
 ·rw [if_neg hc] at h
  simp only [Prod.mk.injEq] at h
  obtain ⟨_,rfl,rfl⟩:=h
  rw [ZbK,if_pos (fun hh=>hc ⟨hh.2,hh.1⟩)]
  exact ⟨rfl,rfl⟩
end Go.BL
namespace Go.BL
open Go
def ZfS (k n:Nat):List DSpan:=(List.range n).map fun i=>⟨((k+2*i:Nat):Int),((k+2*i+1:Nat):Int)⟩
theorem ZjM {ys:List DSpan} {i k:Nat} {z1 z2:DSpan} (ht:ys.take i=ZfS k i) (h1:ys[i]? = some z1) (h2:(ys.set i ⟨((k+2*i:Nat):Int),z1.high⟩)[i]? = some z2) :
  ((ys.set i ⟨((k+2*i:Nat):Int),z1.high⟩).set i ⟨z2.low,((k+2*i+1:Nat):Int)⟩).take (i+1)=ZfS k (i+1):=by
 have hl:=(List.getElem?_eq_some_iff.1 h1).1
 rw [List.getElem?_set_self hl] at h2;cases h2
 rw [List.set_set,ZaS hl,ht,ZfS,ZfS,List.range_succ,List.map_append];rfl
def Zcj (k n:Nat):List DLine:=(List.range n).map fun i=>⟨((k+4*i:Nat):Int),((k+4*i+1:Nat):Int),((k+4*i+1+1:Nat):Int),ZO (k+4*i+1+1+1)⟩
theorem ZdH (k n:Nat):(Zcj k n).length=n:=by simp [Zcj]
theorem Zk4 {k n g:Nat} (h:g<n):(Zcj k n)[g]? = some ⟨((k+4*g:Nat):Int),((k+4*g+1:Nat):Int),((k+4*g+1+1:Nat):Int),ZO (k+4*g+1+1+1)⟩:=by simp [Zcj,h]
theorem ZjO {ys:List DLine} {i k:Nat} {z1 z2 z3 z4:DLine} (ht:ys.take i=Zcj k i) (h1:ys[i]? = some z1) (h2:(ys.set i ⟨((k+4*i:Nat):Int),z1.uid,z1.flags,z1.text⟩)[i]? = some z2)
  (h3:((ys.set i ⟨((k+4*i:Nat):Int),z1.uid,z1.flags,z1.text⟩).set i ⟨z2.place,((k+4*i+1:Nat):Int),z2.flags,z2.text⟩)[i]? = some z3)
  (h4:(((ys.set i ⟨((k+4*i:Nat):Int),z1.uid,z1.flags,z1.text⟩).set i ⟨z2.place,((k+4*i+1:Nat):Int),z2.flags,z2.text⟩).set i ⟨z3.place,z3.uid,((k+4*i+1+1:Nat):Int),z3.text⟩)[i]? = some z4) :
  ((((ys.set i ⟨((k+4*i:Nat):Int),z1.uid,z1.flags,z1.text⟩).set i ⟨z2.place,((k+4*i+1:Nat):Int),z2.flags,z2.text⟩).set i ⟨z3.place,z3.uid,((k+4*i+1+1:Nat):Int),z3.text⟩).set i ⟨z4.place,z4.uid,z4.flags,ZO (k+4*i+1+1+1)⟩).take (i+1)=Zcj k (i+1):=by
 have hl:=(List.getElem?_eq_some_iff.1 h1).1
 rw [List.getElem?_set_self hl] at h2;cases h2
 rw [List.set_set,List.getElem?_set_self hl] at h3;cases h3
 rw [List.set_set,List.set_set,List.getElem?_set_self hl] at h4;cases h4
 rw [List.set_set,List.set_set,List.set_set,ZaS hl,ht,Zcj,Zcj,List.range_succ,List.map_append];rfl
end Go.BL
namespace Go.BL
section
variable {P:PJ} {n:Nat} {ops:Array Oper} {i:Nat} {K:Z8} {S:Env} {D:List Deferred} {B:Kn} {L:List Cells}
variable {dst:Option Tmp} {ty:TypeId} {pos:String} {after:Array Edge} {g:Option (Nat × Bool)}
end
end Go.BL
