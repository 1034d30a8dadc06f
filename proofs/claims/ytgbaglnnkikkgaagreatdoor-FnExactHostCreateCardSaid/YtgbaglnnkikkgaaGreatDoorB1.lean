/-
  THE WALK'S LOGIC: owned cells and known cells, goroutines started and awaited, calls, loops, data, and plain laws on lists: no program in sight.
-/
import Derived.Test.YtgbaglnnkikkgaaGreatDoorB0
set_option linter.unusedVariables false
set_option linter.unusedSimpArgs false
set_option linter.unusedSectionVars false
namespace Go.BL
open Go.Conc (G)
def Z4 (Tg Tm:TypeId):Zfv DFolder:=fun row x ins=>∃q c q' c' i1 i2,row=[str x.owner,str x.name,.slice q x.grants.length c,.int .i64 x.next,.slice q' x.mail.length c']∧ins=i1 ++ i2∧ZU Kn.none i1 q c Tg 2 ZZ x.grants∧ZU Kn.none i2 q' c' Tm 3 Z9 x.mail∧
 x.owner.length≤2000000∧x.name.length≤2000000∧x.grants.length≤2000000∧x.mail.length≤2000000
theorem Z4.known {Tg Tm:TypeId} {B:Kn} {row:List Value} {x:DFolder} {ins:Cells} (h:Z4 Tg Tm row x ins) (hm :∀q,q∈ins→B.mem q.1=some q.2):Zn B row x:=by
 obtain ⟨q,c,q',c',i1,i2,h1,rfl,h2,h3,h4,h5,h6,h7⟩:=h
 exact ⟨q,c,q',c',h1,⟨h2.rowsF ZZ.any fun p hp=>hm p (List.mem_append.2 (.inl hp)),h2.cap,h6⟩,⟨h3.rowsF Z9.any fun p hp=>hm p (List.mem_append.2 (.inr hp)),h3.cap,h7⟩,h4,h5⟩
theorem All3.set {α:Type} {R:Zfv α} {rows:List (List Value)} {xs:List α} {s:Cells} (h:All3 R rows xs s) {row:List Value} {z:α} {ins:Cells} (hz:R row z ins) :∀k,k<xs.length→∃s' gl,All3 R (rows.set k row) (xs.set k z) s'∧(s ++ ins).Perm (s' ++ gl):=by
 induction h with
 | nil=>intro k hk;simp at hk
 | @cons row0 x ins0 rest rows xs h1 h2 ih=>
  intro k hk
  cases k with
  | zero=>
   refine ⟨ins ++ rest,ins0,.cons hz h2,?_⟩
   exact ZsE fun f g h0 ha hc=>by simp only [ha];omega
  | succ k=>
   obtain ⟨s',gl,h3,h4⟩:=ih k (by simpa using hk)
   refine ⟨ins0 ++ s',gl,.cons h1 h3,?_⟩
   rw [List.append_assoc,List.append_assoc]
   exact List.Perm.append_left _ h4
theorem All3.zeros {α:Type} {R:Zfv α} {row:List Value} {d:α} (h:R row d []) :∀m,All3 R (List.replicate m row) (List.replicate m d) []
 | 0=>.nil
 | m+1=>by rw [List.replicate_succ,List.replicate_succ];exact All3.cons (ins:=[]) h (All3.zeros h m)
theorem ZaR.zeros {α:Type} {b:Nat} {T:TypeId} {R:Zfv α} {zs:List Value} {d:α} {m c w:Nat} (hw:zs.length=w) (hR:R zs d []) (hmc:m≤c):ZaR (Zap b (zrow zs c) T) (some ⟨b,0,Option.none⟩) c T w R (List.replicate m d):=by
 refine ⟨List.replicate m zs,_,[],All3.zeros hR m,fun r hr=>by rw [(List.mem_replicate.1 hr).2];exact hw,by rw [List.append_nil],?_,.inr ⟨b,_,rfl,by rw [ZbE,hw],?_,rfl,by rw [List.length_replicate];exact hmc⟩⟩
 ·rw [List.length_replicate]
  exact (ZbE (z:=zs) (c:=m)).trans (by rw [hw])
 ·rw [List.length_replicate]
  have e:zrow zs c=zrow zs m ++ zrow zs (c - m):=by
   simp only [zrow,← List.flatten_append,List.replicate_append_replicate]
   rw [show m+(c - m)=c from by omega]
  rw [e,List.take_append_of_le_length (by rw [ZbE,hw];exact Nat.le_refl _),List.take_of_length_le (by rw [ZbE,hw];exact Nat.le_refl _)]
  rfl
theorem ZfC :∀{l vs:List Value},l.length=vs.length→Z1 l 0 vs=vs
 | l,[],h=>by rw [Zbm];exact List.eq_nil_of_length_eq_zero h
 | [],v :: vs,h=>by simp at h
 | x :: l,v :: vs,h=>by
  have:=ZfC (l:=l) (vs:=vs) (by simpa using h)
  simp [Z1,this]
section
variable {P:PJ} {n:Nat} {ops:Array Oper} {i:Nat} {K:ZaC} {S:Env} {D:List Deferred} {B:Kn} {L:List Cells} {Q:Exit→Z5}
variable {dst:Option Tmp} {ty:TypeId} {pos:String} {after:Array Edge} {g:Option (Nat × Bool)}
theorem Zna {o:Oper} {L':List Cells} {K':ZaC} (hp:L.flatten.Perm L'.flatten) (h:opX P n ops i o K' S D B L') (hk :∀v D' B' L₁,B.le B'→K' v D' B' L₁→∃L₂ gl,L₁.flatten.Perm (L₂.flatten ++ gl)∧K v D' B' L₂):opX P n ops i o K S D B L:=⟨h.1,fun C todo k T ho hn hT hA=>
 C.X.perm (hp.append_right _) (h.2 C todo k T ho hn hT fun v D' B' L₁ hle hK=>by
  obtain ⟨L₂,gl,hp2,hK2⟩:=hk v D' B' L₁ hle hK
  refine C.X.drop (r:=L₂.flatten ++ C.F) (gl:=gl) ((hp2.append_right _).trans ?_) (hA v D' B' L₂ hle hK2)
  rw [List.append_assoc,List.append_assoc]
  exact List.Perm.append_left _ List.perm_append_comm)⟩
theorem Zr2 {α:Type} {R:Zfv α} {xs:List α} (z:α) {t T:TypeId} {x y:Operand} {v:Value} {row:List Value} {sz k c b:Nat} {l:Cells} {p:Option Addr} {inss r:List Cells} (j:Nat) (ks:List Nat) (hpk:Zas L (j :: ks)=some (l :: inss,r)) (hnd:Zd0 (j :: ks)=true) (hv:ZaR l p c T sz R xs) (hp:p=some ⟨b,0,Option.none⟩) (hk:k<xs.length) (hg:Zi ops S g=some true) (hd:Zr n dst=true) (hsz:ZL P t=some sz)
  (hx:ev S x=some (ptr ⟨b,k*sz,Option.none⟩)) (hy:ev S y=some v) (hvc:v.cells=row.toArray) (ho:row.all Zew=true) (hrl:row.length=sz) (ins0:Cells) (hi0:inss.flatten=ins0) (hr:R row z ins0)
  (h :∀l',ZaR l' p c T sz R (xs.set k z)→K undef D B (Zcd r (j :: ks) (l' :: inss.map fun _=>[]))):opX P n ops i ⟨dst,.store t x y,ty,pos,after,g⟩ K S D B L:=by
 subst hp
 subst hi0
 obtain ⟨rows,blk,ins,h1,h2,h3,hl1,⟨hc,_⟩ | ⟨b',arr,e,ha,ht,rfl,hmc⟩⟩:=hv
 ·cases hc
 ·cases e
  have hpp:=Zam (j :: ks) L (l :: inss) r hpk
  have hb1:k*sz+row.length≤arr.length:=by
   have:(k+1)*sz≤c*sz:=Nat.mul_le_mul_right sz (by omega)
   rw [Nat.succ_mul] at this;omega
  obtain ⟨s',gl,a1,a2⟩:=h1.set hr k hk
  refine Zna (L':=[Zap b arr T ++ ins,inss.flatten ++ r.flatten]) (K':=fun u D' B' L₁=>u=undef∧D'=D∧B'=B∧L₁=[Zap b (Z1 arr (k*sz) row) T ++ ins,inss.flatten ++ r.flatten]) ?_ ?_ ?_
  ·refine hpp.trans ?_
   simp only [List.flatten_cons,List.flatten_nil,List.append_nil,List.append_assoc]
   refine (h3.append_right _).trans ?_
   rw [List.append_assoc]
  ·exact ZV row 0 (Z1 arr (k*sz) row) hg hd (by rw [hrl];exact hsz) hx hy hvc ho (T:=T) (r:=ins) rfl rfl (by rw [Nat.ble_eq];exact hb1) rfl ⟨rfl,rfl,rfl,rfl⟩
  ·rintro u D' B' L₁ hle ⟨rfl,rfl,rfl,rfl⟩
   have hlen:k<rows.length:=by rw [h1.len];exact hk
   have hnew:ZaR (Zap b (Z1 arr (k*sz) row) T ++ s') (some ⟨b,0,Option.none⟩) c T sz R (xs.set k z):=by
    refine ⟨rows.set k row,_,s',a1,fun r' hr'=>?_,.refl _,?_,.inr ⟨b,_,rfl,by rw [ZQ];exact ha,?_,rfl,by rw [List.length_set];exact hmc⟩⟩
    ·rcases List.mem_or_eq_of_mem_set hr' with hr' | rfl
     ·exact h2 r' hr'
     ·exact hrl
    ·rw [ZcA (w:=sz),List.length_set,List.length_set,h1.len]
     intro r' hr'
     rcases List.mem_or_eq_of_mem_set hr' with hr' | rfl
     ·exact h2 r' hr'
     ·exact hrl
    ·rw [List.length_set]
     have hr1:rows[k]? = some rows[k]:=List.getElem?_eq_getElem hlen
     have hrow0:rows[k].length=sz:=h2 _ (List.getElem_mem hlen)
     have e:=Zc9 (us:=row) (off:=0) h2 hr1 (by omega)
     rw [ZfC (by rw [hrow0,hrl]),Nat.add_zero] at e
     have hb2:k*sz+row.length≤xs.length*sz:=by
      have:(k+1)*sz≤xs.length*sz:=Nat.mul_le_mul_right sz hk
      rw [Nat.succ_mul] at this;omega
     have hb3:xs.length*sz≤arr.length:=by rw [ha];exact Nat.mul_le_mul_right sz hmc
     rw [Zdz _ _ _ _ hb2 hb3,ht,e]
   refine ⟨_,gl,?_,h _ hnew⟩
   have hq:=ZbY ((Zap b (Z1 arr (k*sz) row) T ++ s') :: inss.map fun _=>[]) r (j :: ks) (Zb1 hnd) (fun jj hj=>ZbZ (j :: ks) L (l :: inss) r hpk jj (.inr hj))
   have hnil:((inss.map fun _=>([]:Cells))).flatten=[]:=by
    clear hpk hpp hq hr h
    induction inss with
    | nil=>rfl
    | cons a as ih=>simp
   rw [List.flatten_cons,hnil,List.append_nil] at hq
   simp only [List.flatten_cons,List.flatten_nil,List.append_nil]
   refine List.Perm.trans ?_ (hq.append_right gl)
   have e1:(Zap b (Z1 arr (k*sz) row) T ++ ins ++ (inss.flatten ++ r.flatten)).Perm (Zap b (Z1 arr (k*sz) row) T ++ ((ins ++ inss.flatten) ++ r.flatten)):=by simp only [List.append_assoc];exact .refl _
   have e2:(Zap b (Z1 arr (k*sz) row) T ++ ((ins ++ inss.flatten) ++ r.flatten)).Perm (Zap b (Z1 arr (k*sz) row) T ++ ((s' ++ gl) ++ r.flatten)):=List.Perm.append_left _ (a2.append_right _)
   refine (e1.trans e2).trans ?_
   exact ZsE fun f g h0 ha hc=>by simp only [ha];omega
end
section
variable {P:PJ} {n:Nat} {ops:Array Oper} {i:Nat} {K:ZaC} {S:Env} {D:List Deferred} {B BV:Kn} {L:List Cells}
variable {dst:Option Tmp} {ty:TypeId} {pos:String} {after:Array Edge} {g:Option (Nat × Bool)}
theorem Zov {α:Type} {R:Rel α} {xs:List α} (z:α) {t T:TypeId} {x y:Operand} {v:Value} {row:List Value} {l:Cells} {p:Option Addr} {c sz k b:Nat} (j:Nat) (hj:L[j]? = some l) (hv:ZU BV l p c T sz R xs) (hp:p=some ⟨b,0,none⟩) (hk:k<xs.length) (hg:Zi ops S g=some true) (hd:Zr n dst=true) (hsz:ZL P t=some sz)
  (hx:ev S x=some (ptr ⟨b,k*sz,none⟩)) (hy:ev S y=some v) (hvc:v.cells=row.toArray) (ho:row.all Zew=true) (hrl:row.length=sz) (hr:R BV row z)
  (h :∀l',ZU BV l' p c T sz R (xs.set k z)→K undef D B (L.set j l')):opX P n ops i ⟨dst,.store t x y,ty,pos,after,g⟩ K S D B L:=by
 obtain ⟨rows,h1,h2,h3,⟨rfl,_,_,_⟩ | ⟨b',arr,rfl,ha,ht,rfl,hmc⟩⟩:=hv
 ·cases hp
 ·cases hp
  have hlen:k<rows.length:=by rw [h1.len];exact hk
  have hr1:rows[k]? = some rows[k]:=List.getElem?_eq_getElem hlen
  have hrow0:rows[k].length=sz:=h2 _ (List.getElem_mem hlen)
  have hb1:k*sz+row.length≤xs.length*sz:=by
   have:(k+1)*sz≤xs.length*sz:=Nat.mul_le_mul_right sz hk
   rw [Nat.succ_mul] at this;omega
  have hb2:xs.length*sz≤arr.length:=by rw [ha];exact Nat.mul_le_mul_right sz hmc
  refine ZV row j (Z1 arr (k*sz) row) hg hd (by rw [hrl];exact hsz) hx hy hvc ho (r:=[]) hj rfl (by rw [Nat.ble_eq];show k*sz+row.length≤arr.length;omega) rfl (h _ ?_)
  have e:=Zc9 (us:=row) (off:=0) h2 hr1 (by omega)
  rw [ZfC (by rw [hrow0,hrl]),Nat.add_zero] at e
  refine ⟨rows.set k row,h1.set hr k,fun r hr'=>?_,?_,.inr ⟨b,_,rfl,by rw [ZQ];exact ha,?_,rfl,by rw [List.length_set];exact hmc⟩⟩
  ·rcases List.mem_or_eq_of_mem_set hr' with hr' | rfl
   ·exact h2 r hr'
   ·exact hrl
  ·rw [← e,ZQ,List.length_set];exact h3
  ·rw [List.length_set,Zdz _ _ _ _ hb1 hb2,ht,e]
end
def fill {α:Type} (xs:List α) (d:α) (k:Nat):List α:=xs.take k ++ List.replicate (xs.length - k) d
theorem Zen {α:Type} {xs:List α} {d:α} {k:Nat} (h:k≤xs.length):(fill xs d k).length=xs.length:=by
 rw [fill,List.length_append,List.length_take,List.length_replicate];omega
theorem Zdk {α:Type} {xs:List α} {d:α} : fill xs d 0=List.replicate xs.length d:=by simp [fill]
theorem Zeo {α:Type} {xs:List α} {d:α} {k:Nat} (h:xs.length≤k):fill xs d k=xs:=by
 rw [fill,List.take_of_length_le h,show xs.length - k=0 from by omega];simp
theorem Zdl {α:Type} {xs:List α} {d z:α} {k:Nat} (hz:xs[k]? = some z):(fill xs d k).set k z=fill xs d (k+1):=by
 have hk:=(List.getElem?_eq_some_iff.1 hz).1
 have e1:(xs.take k).length=k:=by rw [List.length_take];omega
 rw [fill,fill,List.set_append_right _ _ (by omega),e1,Nat.sub_self,List.take_add_one,hz,show xs.length - k=(xs.length - (k+1))+1 from by omega,List.replicate_succ]
 simp
theorem ZA.borrowL {P:PJ} {f:FuncId} {args:List Value} {B:Kn} {ls Ls:List Cells} {Post:Value→Kn→List Cells→Prop}
  (h:(∀p,p∈ls.flatten→(B.add ls.flatten).mem p.1=some p.2)→ZA P f args (B.add ls.flatten) Ls Post) :
  ZA P f args B (ls ++ Ls) (fun v B' Ls'=>∃B₂ Ls₂,Ls'=ls ++ Ls₂∧B'=B₂.minus ls.flatten∧(B.add ls.flatten).le B₂∧(∀p,p∈ls.flatten→(B.add ls.flatten).mem p.1=some p.2)∧(B.add ls.flatten).minus ls.flatten=B∧Post v B₂ Ls₂):=fun X kind c cs F hk hA=>by
 have key:=ZA.borrow (l:=ls.flatten) (Ls:=Ls) h X kind c cs F hk fun v B' Ls' hle ⟨B₂,Ls₂,h1,h2,h3,h4,h5,h6⟩=>by
  have:=hA v B' (ls ++ Ls₂) hle ⟨B₂,Ls₂,rfl,h2,h3,h4,h5,h6⟩
  subst h1
  rw [List.flatten_cons]
  rwa [List.flatten_append] at this
 rw [List.flatten_cons] at key
 rwa [List.flatten_append]
section
variable {P:PJ} {C:Cx P} {k:List Item} {n:Nat} {ops:Array Oper} {i:Nat} {S:Env} {D:List Deferred} {B BV:Kn} {L:List Cells} {Q:Exit→Z5}
variable {α:Type} {xs:List α} {l:Cells} {p:Option Addr} {cp:Nat} {T:TypeId} {w:Nat}
theorem Zvo {R:Rel α} {B':Kn} (hv:ZU BV l p cp T w R xs) (hA:Zop R) (hl:xs.length≤2000000) (hm :∀q,q∈l→B'.mem q.1=some q.2):SlK B' p cp w R xs:=⟨hv.rowsF hA hm,hv.cap,hl⟩
theorem Zqd {R:Rel α} {o:Oper} {K:Z5} (j:Nat) (hj:L[j]? = some l) (hv:ZU BV l p cp T w R xs) (hA:Zop R) (hl:xs.length≤2000000) (h :∀B',B.le B'→SlK B' p cp w R xs→opW P n ops i o K S D B' (L.set j [])):opW P n ops i o K S D B L:=fun C todo k T ho hn hT hA'=>by
 obtain ⟨r,h1,h2⟩:=ZM C.F [] hj
 exact C.X.publish rfl h1 fun B' hle hm=>C.X.perm (by simpa using h2.symm) (h B' hle (Zvo hv hA hl hm) C todo k T ho hn hT fun S' D' B'' L' T' hle' hq=>hA' S' D' B'' L' T' (hle.trans hle') hq)
theorem Zti {R:Rel α} {I:Kn→List Cells→Prop} {ℓ:List Nat} {K:Z5} (j:Nat) (hj:L[j]? = some l) (hv:ZU BV l p cp T w R xs) (hA:Zop R) (hl:xs.length≤2000000) (hI' :∀B',B.le B'→I B' (L.set j []))
  (h :∀B',B.le B'→SlK B' p cp w R xs→Za5 C k n ops I ℓ K S D B' (L.set j [])):Za5 C k n ops I ℓ K S D B L:=fun T ex pend π a1 a2 a3 a4 a5 a6 a7 a8 a9 hI hA'=>by
 obtain ⟨r,h1,h2⟩:=ZM C.F [] hj
 exact C.X.publish rfl h1 fun B' hle hm=>C.X.perm (by simpa using h2.symm) (h B' hle (Zvo hv hA hl hm) T ex pend π a1 a2 a3 a4 a5 a6 a7 a8 a9 (hI' B' hle) fun S' D' B'' L' T' hle' hq=>hA' S' D' B'' L' T' (hle.trans hle') hq)
theorem ZkV {R:Zfv α} {R':Rel α} {o:Oper} {K:Z5} (j:Nat) (hj:L[j]? = some l) (hv:ZaR l p cp T w R xs) (hR :∀{B:Kn} {row:List Value} {x:α} {ins:Cells},R row x ins→(∀q,q∈ins→B.mem q.1=some q.2)→R' B row x) (hM:Mono R') (hl:xs.length≤2000000)
  (h :∀B',B.le B'→SlK B' p cp w R' xs→opW P n ops i o K S D B' (L.set j [])):opW P n ops i o K S D B L:=fun C todo k T ho hn hT hA'=>by
 obtain ⟨r,h1,h2⟩:=ZM C.F [] hj
 exact C.X.publish rfl h1 fun B' hle hm=>C.X.perm (by simpa using h2.symm) (h B' hle (hv.known (fun _ _ _ a b=>hR a b) hM hm hl) C todo k T ho hn hT fun S' D' B'' L' T' hle' hq=>hA' S' D' B'' L' T' (hle.trans hle') hq)
theorem ZqB {R:Zfv α} {R':Rel α} {I:Kn→List Cells→Prop} {ℓ:List Nat} {K:Z5} (j:Nat) (hj:L[j]? = some l) (hv:ZaR l p cp T w R xs) (hR :∀{B:Kn} {row:List Value} {x:α} {ins:Cells},R row x ins→(∀q,q∈ins→B.mem q.1=some q.2)→R' B row x) (hM:Mono R') (hl:xs.length≤2000000) (hI' :∀B',B.le B'→I B' (L.set j []))
  (h :∀B',B.le B'→SlK B' p cp w R' xs→Za5 C k n ops I ℓ K S D B' (L.set j [])):Za5 C k n ops I ℓ K S D B L:=fun T ex pend π a1 a2 a3 a4 a5 a6 a7 a8 a9 hI hA'=>by
 obtain ⟨r,h1,h2⟩:=ZM C.F [] hj
 exact C.X.publish rfl h1 fun B' hle hm=>C.X.perm (by simpa using h2.symm) (h B' hle (hv.known (fun _ _ _ a b=>hR a b) hM hm hl) T ex pend π a1 a2 a3 a4 a5 a6 a7 a8 a9 (hI' B' hle) fun S' D' B'' L' T' hle' hq=>hA' S' D' B'' L' T' (hle.trans hle') hq)
end
end Go.BL
namespace Go.BL
open Go.ChangeShapes Go.WideShapes Go.ChangeAt Go.RowKit
theorem ZiU {α β:Type} {f:α→Option β} :∀{xs:List α} {ys:List β},xs.mapM f=some ys→ys.length=xs.length∧∀(i:Nat) (x:α),xs[i]? = some x→f x=ys[i]?
 | [],ys,h=>by
  simp only [List.mapM_nil,Option.pure_def,Option.some.injEq] at h
  subst h;simp
 | x :: xs,ys,h=>by
  simp only [List.mapM_cons,Option.bind_eq_bind,Option.pure_def,Option.bind_eq_some_iff,Option.some.injEq] at h
  obtain ⟨y,hy,zs,hz,rfl⟩:=h
  obtain ⟨h1,h2⟩:=ZiU hz
  refine ⟨by simp [h1],fun i z hi=>?_⟩
  cases i with
  | zero=>simp only [List.getElem?_cons_zero,Option.some.injEq] at hi;subst hi;simpa using hy
  | succ i=>simpa using h2 i z (by simpa using hi)
theorem Zod {w:World} {a:Addr} {n:Nat} {cs:List Value} (h:w.cells? 0 a n=some cs):cs.length=n∧∀i,i<n→w.cell? (a.add i)=cs[i]?:=by
 unfold World.cells? at h
 rw [if_pos (Nat.zero_le _)] at h
 obtain ⟨h1,h2⟩:=ZiU h
 exact ⟨by simpa using h1,fun i hi=>h2 i i (by simp [hi])⟩
section
variable {H:Type} (enc:TypeId × Value→H) (P:Program) (W:World)
def Zdo (t:TypeId) (p:List Value→Prop):Prop:=∀(fuel:Nat) (cs:List Value) (d:DataW H) (ps:List MemPlace),DataW.trod enc P W 0 (fun _=>true) true fuel t cs=some (d,ps)→(∀m,m∈d.weights P t→m≤reachBytes)→p cs
def Zch {α:Type} (t:TypeId) (R:Rel α):Prop:=Zdo enc P W t fun cs=>∃x,R (Za1 W) cs x
def Zdn {α:Type} (w:Nat) (R:Rel α):Rel (List α):=fun B row xs=>∃q cp,row=[.slice q xs.length cp]∧SlB B q cp w R xs
def Parts:List (List Value→Prop)→List Value→Prop
 | [],cs=>cs=[]
 | p :: ps,cs=>∃a b,cs=a ++ b∧p a∧Parts ps b
def Zep (P:Program):List Field→Nat→Nat→Bool
 | [],off,n=>off == n
 | f :: fs,off,n=>f.offset == off && Zep P fs (off+P.cellsOf f.type) n
end
section
variable {H:Type} {enc:TypeId × Value→H} {P:Program} {W:World}
theorem Zdo.mono {t:TypeId} {p p':List Value→Prop} (h:Zdo enc P W t p) (hp :∀cs,p cs→p' cs):Zdo enc P W t p':=fun fuel cs d ps ht hw=>hp cs (h fuel cs d ps ht hw)
theorem Zm7 {t:TypeId} (ht:P.underlying t=some (.int .i64)):Zch enc P W t ZdQ:=fun fuel cs d ps h _=>by
 cases fuel with
 | zero=>simp [DataW.trod] at h
 | succ n=>
  unfold DataW.trod at h
  rw [ht] at h
  split at h <;> simp_all
  rename_i he
  subst he
  exact ⟨_,rfl⟩
theorem Zm6 {t:TypeId} (ht:P.underlying t=some .string):Zch enc P W t Zjw:=fun fuel cs d ps h hw=>by
 cases fuel with
 | zero=>simp [DataW.trod] at h
 | succ n=>
  unfold DataW.trod at h
  rw [ht] at h
  split at h <;> simp_all
  rename_i s
  obtain ⟨_,rfl,_⟩:=h
  have h1:=hw s.data.toList.length (by simp [DataW.weights])
  refine ⟨s.data.toList,rfl,?_⟩
  unfold reachBytes at h1
  omega
theorem ZoZ {fs:List Field} {ps:List (List Value→Prop)} {n off:Nat} (hf:Zep P fs off n=true) {cs:List Value} (hl:cs.length=n) (hlen:fs.length=ps.length)
  (h :∀(i:Nat) (f:Field) (p:List Value→Prop),fs[i]? = some f→ps[i]? = some p→p ((cs.drop f.offset).take (P.cellsOf f.type))):Parts ps (cs.drop off):=by
 induction fs generalizing ps off with
 | nil=>
  simp only [Zep,beq_iff_eq] at hf
  cases ps with
  | nil=>show cs.drop off=[];rw [List.drop_eq_nil_iff];omega
  | cons p ps=>simp at hlen
 | cons f fs ih=>
  simp only [Zep,Bool.and_eq_true,beq_iff_eq] at hf
  cases ps with
  | nil=>simp at hlen
  | cons p ps=>
   refine ⟨(cs.drop off).take (P.cellsOf f.type),(cs.drop off).drop (P.cellsOf f.type),(List.take_append_drop _ _).symm,?_,?_⟩
   ·have:=h 0 f p rfl rfl
    rwa [hf.1] at this
   ·rw [List.drop_drop]
    exact ih hf.2 (by simpa using hlen) fun i f' p' h1 h2=>h (i+1) f' p' (by simpa using h1) (by simpa using h2)
theorem ZcB :∀{ts:List TypeId} {ds:List (DataW H)} {i:Nat} {t:TypeId} {d:DataW H},ts[i]? = some t→ds[i]? = some d→∀m,m∈d.weights P t→m∈DataW.weightsEach P ts ds
 | t :: ts,d :: ds,0,t',d',h1,h2,m,hm=>by
  simp only [List.getElem?_cons_zero,Option.some.injEq] at h1 h2
  subst h1;subst h2
  simp only [DataW.weightsEach,List.mem_append];exact .inl hm
 | t :: ts,d :: ds,i+1,t',d',h1,h2,m,hm=>by
  simp only [DataW.weightsEach,List.mem_append];exact .inr (ZcB (by simpa using h1) (by simpa using h2) m hm)
 | [],_,_,_,_,h1,_,_,_=>by simp at h1
 | _ :: _,[],_,_,_,_,h2,_,_=>by simp at h2
theorem ZeA {e:TypeId} :∀{ds:List (DataW H)} {i:Nat} {d:DataW H},ds[i]? = some d→∀m,m∈d.weights P e→m∈DataW.weightsAll P e ds
 | d :: ds,0,d',h2,m,hm=>by
  simp only [List.getElem?_cons_zero,Option.some.injEq] at h2
  subst h2
  simp only [DataW.weightsAll,List.mem_append];exact .inl hm
 | d :: ds,i+1,d',h2,m,hm=>by
  simp only [DataW.weightsAll,List.mem_append];exact .inr (ZeA (by simpa using h2) m hm)
 | [],_,_,h2,_,_=>by simp at h2
theorem ZiK {t:TypeId} {fs:Array Field} (ht:P.underlying t=some (.struct fs)) (ps:List (List Value→Prop)) (hf:Zep P fs.toList 0 (P.cellsOf t)=true) (hlen:fs.toList.length=ps.length)
  (h :∀(i:Nat) (f:Field) (p:List Value→Prop),fs.toList[i]? = some f→ps[i]? = some p→Zdo enc P W f.type p):Zdo enc P W t (Parts ps):=fun fuel cs d pl htr hw=>by
 obtain ⟨xs,n,rfl,hx,hl,hxl,hel⟩:=DataW.trod_struct ht htr
 simp only [Prod.mk.injEq] at hx
 obtain ⟨rfl,_⟩:=hx
 have:=ZoZ (ps:=ps) hf hl hlen fun i f p h1 h2=>by
  have h3:=hel i f (by simpa using h1)
  have hi:i<xs.length:=by
   have:=(List.getElem?_eq_some_iff.1 h1).1
   simp only [Array.length_toList] at this
   omega
  rw [List.getElem?_eq_getElem hi] at h3
  rcases hxi:xs[i] with ⟨d,pl'⟩
  refine h i f p h1 h2 n _ d pl' (by rw [h3,hxi]) fun m hm=>hw m ?_
  simp only [DataW.weights,ht]
  exact ZcB (i:=i) (t:=f.type) (d:=d) (by simp [h1]) (by simp [List.getElem?_eq_getElem hi,hxi]) m hm
 simpa using this
theorem Zb0 {α:Type} {t e:TypeId} {w:Nat} {R:Rel α} (ht:P.underlying t=some (.slice e)) (hc:P.cellsOf e=w) (hb:0<P.bytesOf e) (hw0:0<w) (h:Zch enc P W e R):Zch enc P W t (Zdn w R):=fun fuel cs d pl htr hw=>by
 rcases DataW.trod_slice ht htr with ⟨rfl,_⟩ | ⟨a,len,cap,elems,rest,n,rfl,rfl,hx,_,hl,hm,hlen,hel,_,_⟩
 ·exact ⟨[],none,0,rfl,⟨fun i x hi=>by simp at hi,Nat.le_refl _,Nat.zero_le _⟩⟩
 ·simp only [Prod.mk.injEq] at hx
  obtain ⟨rfl,_⟩:=hx
  have hlen2:len≤140737488355328:=by
   have:=hw ((elems.length+rest.length)*P.bytesOf e) (by simp [DataW.weights,ht])
   have h2:elems.length+rest.length≤(elems.length+rest.length)*P.bytesOf e:=Nat.le_mul_of_pos_right _ hb
   unfold reachBytes at this
   omega
  have each :∀i,i<len→∃x row,R (Za1 W) row x∧row.length=w∧∀j,j<w→W.cell? ((a.add (i*w)).add j)=row[j]?:=fun i hi=>by
   have h1:=hel i hi
   have hi':i<elems.length:=by omega
   rw [List.getElem?_eq_getElem hi'] at h1
   obtain ⟨row,hr1,hr2⟩:=Option.bind_eq_some_iff.1 h1
   rw [hc] at hr1
   obtain ⟨hr3,hr4⟩:=Zod hr1
   rcases hxi:elems[i] with ⟨d,pl'⟩
   obtain ⟨x,hx⟩:=h n row d pl' (by rw [hr2,hxi]) fun m hm=>hw m (by
    simp only [DataW.weights,ht,List.mem_cons,List.mem_append]
    exact .inr (.inl (ZeA (i:=i) (d:=d) (by simp [List.getElem?_eq_getElem hi',hxi]) m hm)))
   exact ⟨x,row,hx,hr3,hr4⟩
  have hsp:0<len→a.spot=none:=fun h0=>by
   obtain ⟨x,row,_,hr,hj⟩:=each 0 h0
   have h1:=hj 0 hw0
   rw [List.getElem?_eq_getElem (by omega)] at h1
   have:=(ZgT h1).1
   simpa [Addr.add] using this
  refine ⟨(List.range len).attach.map fun i=>(each i.1 (List.mem_range.1 i.2)).choose,some a,cap,by simp,⟨fun i x hi=>?_,by simpa using hl,by simpa using hlen2⟩⟩
  have hi':i<len:=by
   have:=(List.getElem?_eq_some_iff.1 hi).1
   simpa using this
  have hxx:x=(each i hi').choose:=by
   simp [hi'] at hi
   exact hi.symm
  obtain ⟨row,hr1,hr2,hr3⟩:=(each i hi').choose_spec
  have hs:=hsp (by omega)
  refine ⟨a.block,a.off,row,?_,by rw [hxx];exact hr1,fun j u hj=>?_⟩
  ·obtain ⟨b,o,s⟩:=a;simp only at hs;subst hs;rfl
  ·have hjw:j<w:=by rw [← hr2];exact (List.getElem?_eq_some_iff.1 hj).1
   have h4:=hr3 j hjw
   rw [hj] at h4
   have:=ZgT h4
   have ea:(a.add (i*w)).add j=⟨a.block,a.off+i*w+j,none⟩:=by
    rw [Addr.add_off _ _ (by rw [Addr.add_off _ _ hs]),Addr.add_off _ _ hs]
   rwa [ea] at this
def ZpW (enc:TypeId × Value→H) (P:Program) (W:World):List Field→List (List Value→Prop)→Prop
 | [],[]=>True
 | f :: fs,p :: ps=>Zdo enc P W f.type p∧ZpW enc P W fs ps
 | _,_=>False
theorem ZiL :∀{fs:List Field} {ps:List (List Value→Prop)},ZpW enc P W fs ps→fs.length=ps.length
 | [],[],_=>rfl
 | _ :: _,_ :: _,h=>by simp only [List.length_cons,ZiL h.2]
 | [],_ :: _,h=>h.elim
 | _ :: _,[],h=>h.elim
theorem ZiM :∀{fs:List Field} {ps:List (List Value→Prop)},ZpW enc P W fs ps→∀(i:Nat) (f:Field) (p:List Value→Prop),fs[i]? = some f→ps[i]? = some p→Zdo enc P W f.type p
 | _ :: _,_ :: _,h,0,f,p,h1,h2=>by
  simp only [List.getElem?_cons_zero,Option.some.injEq] at h1 h2
  subst h1;subst h2;exact h.1
 | _ :: _,_ :: _,h,i+1,f,p,h1,h2=>ZiM h.2 i f p (by simpa using h1) (by simpa using h2)
 | [],_,_,i,f,p,h1,h2=>by simp at h1
 | _ :: _,[],h,_,_,_,_,_=>h.elim
theorem Zcf {t:TypeId} {fs:Array Field} (ht:P.underlying t=some (.struct fs)) (ps:List (List Value→Prop)) (hf:Zep P fs.toList 0 (P.cellsOf t)=true) (h:ZpW enc P W fs.toList ps):Zdo enc P W t (Parts ps):=
 ZiK ht ps hf (ZiL h) (ZiM h)
theorem ZhO {t:TypeId} {v:Value} {d:DataW H} {ps:List MemPlace} {p:List Value→Prop} (h:DataW.Trod enc P W 0 (fun _=>true) true t v d ps) (ho:Zdo enc P W t p) (hw :∀m,m∈d.weights P t→m≤reachBytes):p v.cells.toList:=by
 obtain ⟨n,hn⟩:=h;exact ho n _ _ _ hn hw
theorem weigh {ts:List TypeId} {ds:List (DataW H)} (h:(DataW.weightsEach P ts ds).all (·≤reachBytes)=true) {i:Nat} {t:TypeId} {d:DataW H} (h1:ts[i]? = some t) (h2:ds[i]? = some d) :∀m,m∈d.weights P t→m≤reachBytes:=fun m hm=>by
 have:=List.all_eq_true.1 h m (ZcB h1 h2 m hm)
 simpa using this
end
end Go.BL
namespace Go.BL
section
variable {P:PJ} {n:Nat} {ops:Array Oper} {i:Nat} {K:ZaC} {S:Env} {D:List Deferred} {B:Kn} {L:List Cells}
variable {dst:Option Tmp} {ty:TypeId} {pos:String} {after:Array Edge} {g:Option (Nat × Bool)}
theorem Zl1 {P:Program} {B:Kn} {L:Cells} {q:Addr} {cp:Nat} {b:Int} (hs:Za6 B L (some q) [.int .u8 b]) {Q:Value→Kn→Cells→Prop} (h:Q (str [UInt8.ofNat b.toNat]) B L):hb P (Conv.bytesToString (.slice (some q) 1 cp)) Q B L:=by
 simp only [Conv.bytesToString,Zg,loadCells]
 refine Zbr [.int .u8 b] 0 #[] (fun j v hj=>by simpa using hs j v hj) ?_
 have e:Q (Value.string (ByteArray.empty.push (UInt8.ofNat b.toNat))) B L:=h
 simpa [Zm,Zg] using e
theorem Zmy {s d e:TypeId} {x:Operand} {q:Addr} {cp:Nat} {b:Int} (hg:Zi ops S g=some true) (hd:Zr n dst=true) (hs:P.underlying s=some (.slice e)) (hd':P.underlying d=some .string) (he:P.underlying e=some (.int .u8))
  (hx:ev S x=some (.slice (some q) 1 cp)) (hc:Za6 B L.flatten (some q) [.int .u8 b]) (h:K (str [UInt8.ofNat b.toNat]) D B L):opX P n ops i ⟨dst,.convert s d x,ty,pos,after,g⟩ K S D B L:=
 ZH hg hd (fun ρ hρ Q F q'=>by
  simp only [execOp,convert,hρ x _ hx,Zg,Zl hs,Zl hd',Zl he]
  exact Zl1 hc.app q') h
end
end Go.BL
namespace Go.BL
theorem All3.at {α:Type} {R:Zfv α} {rows:List (List Value)} {xs:List α} {s:Cells} (h:All3 R rows xs s) :∀{i:Nat} {x:α},xs[i]? = some x→∃row li lr,rows[i]? = some row∧R row x li∧s.Perm (li ++ lr)∧∀x' li',R row x' li'→∃s',All3 R rows (xs.set i x') s'∧s'.Perm (li' ++ lr):=by
 induction h with
 | nil=>intro i x hx;simp at hx
 | @cons row0 x0 ins0 rest rows xs h1 h2 ih=>
  intro i x hx
  cases i with
  | zero=>
   simp only [List.getElem?_cons_zero,Option.some.injEq] at hx
   subst hx
   exact ⟨row0,ins0,rest,rfl,h1,.refl _,fun x' li' hr=>⟨li' ++ rest,.cons hr h2,.refl _⟩⟩
  | succ i=>
   obtain ⟨row,li,lr,e1,e2,e3,e4⟩:=ih (by simpa using hx)
   refine ⟨row,li,ins0 ++ lr,by simpa using e1,e2,?_,fun x' li' hr=>?_⟩
   ·exact (List.Perm.append_left ins0 e3).trans (by rw [← List.append_assoc,← List.append_assoc];exact List.Perm.append_right lr List.perm_append_comm)
   ·obtain ⟨s',f1,f2⟩:=e4 x' li' hr
    exact ⟨ins0 ++ s',.cons h1 f1,(List.Perm.append_left ins0 f2).trans (by rw [← List.append_assoc,← List.append_assoc];exact List.Perm.append_right lr List.perm_append_comm)⟩
theorem ZaR.open1 {α:Type} {l:Cells} {p:Option Addr} {c:Nat} {T:TypeId} {w:Nat} {R:Zfv α} {xs:List α} (h:ZaR l p c T w R xs) {i:Nat} {x:α} (hx:xs[i]? = some x) :
∃b arr row li lr,p=some ⟨b,0,none⟩∧R row x li∧row.length=w∧l.Perm (li ++ (Zap b arr T ++ lr))∧(∀(j:Nat) (u:Value),row[j]? = some u→arr[i*w+j]? = some u)∧
∀x' li',R row x' li'→ZaR (li' ++ (Zap b arr T ++ lr)) p c T w R (xs.set i x'):=by
 obtain ⟨rows,blk,ins,h1,h2,h3,hvl⟩:=h
 have hlt:=(List.getElem?_eq_some_iff.1 hx).1
 obtain ⟨hl0,⟨_,h0,_,_⟩ | ⟨b,arr,rfl,ha,ht,rfl,hm⟩⟩:=hvl
 ·omega
 ·obtain ⟨row,li,lr,e1,e2,e3,e4⟩:=h1.at hx
  refine ⟨b,arr,row,li,lr,rfl,e2,h2 row (List.mem_of_getElem? e1),?_,fun j u hj=>?_,fun x' li' hr=>?_⟩
  ·refine h3.trans ((List.Perm.append_left _ e3).trans ?_)
   rw [← List.append_assoc,← List.append_assoc];exact List.Perm.append_right lr List.perm_append_comm
  ·have hu:=Ze4 h2 e1 hj
   rw [← ht,List.getElem?_take] at hu
   split at hu
   ·exact hu
   ·cases hu
  ·obtain ⟨s',f1,f2⟩:=e4 x' li' hr
   refine ⟨rows,Zap b arr T,s',f1,h2,?_,by rw [List.length_set];exact hl0,.inr ⟨b,arr,rfl,ha,by rw [List.length_set];exact ht,rfl,by rw [List.length_set];exact hm⟩⟩
   refine List.Perm.trans ?_ (List.Perm.append_left _ f2.symm)
   rw [← List.append_assoc,← List.append_assoc];exact List.Perm.append_right lr List.perm_append_comm
section
variable {P:PJ} {n:Nat} {Q:Exit→Z5} {S:Env} {D:List Deferred} {B:Kn} {L:List Cells} {c:Code}
theorem Zp0 {L':List Cells} (hp:L.flatten.Perm L'.flatten) (h:wpS P n c Q S D B L'):wpS P n c Q S D B L:=fun C k T hn hT hA=>by
 refine C.X.drop (r:=L'.flatten ++ C.F) (gl:=[]) ?_ (h C k T hn hT hA)
 rw [List.append_nil];exact hp.append_right C.F
theorem Zgj {a b:Cells} (j m:Nat) (hj:L[j]? = some a) (hm:L[m]? = some b) (hne:j≠m) (h:wpS P n c Q S D B ((L.set j (b ++ a)).set m [])):wpS P n c Q S D B L:=by
 refine Zp0 ?_ h
 obtain ⟨r,h1,h2⟩:=ZM [] (b ++ a) hj
 have hm':(L.set j (b ++ a))[m]? = some b:=by rw [List.getElem?_set_ne hne];exact hm
 obtain ⟨r2,h3,h4⟩:=ZM [] [] hm'
 rw [List.append_nil] at h1 h2 h3 h4
 rw [List.nil_append] at h4
 have h5:(b ++ (a ++ r)).Perm (b ++ r2):=by rw [← List.append_assoc];exact h2.symm.trans h3
 exact h1.trans (((List.perm_append_left_iff b).1 h5).trans h4.symm)
end
end Go.BL
namespace Go.BL
theorem All3.row {α:Type} {R:Zfv α} {rows:List (List Value)} {xs:List α} {s:Cells} (h:All3 R rows xs s) {z x:α} (f:List Value→List Value) (hf :∀row li,R row x li→R (f row) z li) :∀{k:Nat},xs[k]? = some x→∃row,rows[k]? = some row∧All3 R (rows.set k (f row)) (xs.set k z) s:=by
 induction h with
 | nil=>intro k hx;simp at hx
 | @cons row0 x0 ins0 rest rows xs h1 h2 ih=>
  intro k hx
  cases k with
  | zero=>
   simp only [List.getElem?_cons_zero,Option.some.injEq] at hx
   subst hx
   exact ⟨row0,rfl,.cons (hf _ _ h1) h2⟩
  | succ k=>
   obtain ⟨row,e1,e2⟩:=ih (k:=k) (by simpa using hx)
   exact ⟨row,by simpa using e1,.cons h1 e2⟩
theorem ZaR.cell {α:Type} {l:Cells} {p:Option Addr} {c:Nat} {T:TypeId} {w:Nat} {R:Zfv α} {xs:List α} (h:ZaR l p c T w R xs) {i:Nat} {x:α} (hx:xs[i]? = some x) {B:Kn} {L:List Cells} (j:Nat) (hj:L[j]? = some l) :
∃b row li lr,p=some ⟨b,0,none⟩∧R row x li∧row.length=w∧l.Perm (li ++ lr)∧(∀(m:Nat) (u:Value),row[m]? = some u→ZaJ B L.flatten ⟨b,i*w+m,none⟩ u)∧∀x' li',R row x' li'→ZaR (li' ++ lr) p c T w R (xs.set i x'):=by
 obtain ⟨b,arr,row,li,lr,e1,e2,e3,e4,e5,e6⟩:=h.open1 hx
 refine ⟨b,row,li,Zap b arr T ++ lr,e1,e2,e3,e4,fun m u hm=>⟨rfl,arr.toArray,T,(0,0),.inr ?_,by simpa using e5 m u hm⟩,e6⟩
 obtain ⟨r,h1,h2⟩:=ZM [] [] hj
 rw [List.append_nil] at h1
 rw [h1.mem_iff]
 refine List.mem_append_left _ (e4.mem_iff.2 (List.mem_append_right _ (List.mem_append_left _ ?_)))
 exact List.mem_singleton.2 rfl
section
variable {P:PJ} {n:Nat} {ops:Array Oper} {i:Nat} {K:ZaC} {S:Env} {D:List Deferred} {B:Kn} {L:List Cells}
variable {dst:Option Tmp} {ty:TypeId} {pos:String} {after:Array Edge} {g:Option (Nat × Bool)}
theorem Zg8 {α:Type} {R:Zfv α} {xs:List α} {x0:α} (z:α) {t T:TypeId} {x y:Operand} {v:Value} {us:List Value} {sz k c b:Nat} (off:Nat) {l:Cells} {p:Option Addr} (j:Nat) (hj:L[j]? = some l) (hv:ZaR l p c T sz R xs) (hp:p=some ⟨b,0,Option.none⟩) (hx0:xs[k]? = some x0) (hg:Zi ops S g=some true) (hd:Zr n dst=true) (hsz:ZL P t=some us.length)
  (hx:ev S x=some (ptr ⟨b,k*sz+off,Option.none⟩)) (hy:ev S y=some v) (hvc:v.cells=us.toArray) (ho:us.all Zew=true) (hoff:off+us.length≤sz) (hr :∀row li,R row x0 li→R (Z1 row off us) z li)
  (h :∀l',ZaR l' p c T sz R (xs.set k z)→K undef D B (L.set j l')):opX P n ops i ⟨dst,.store t x y,ty,pos,after,g⟩ K S D B L:=by
 subst hp
 obtain ⟨rows,blk,ins,h1,h2,h3,hl1,⟨hc,_⟩ | ⟨b',arr,e,ha,ht,rfl,hmc⟩⟩:=hv
 ·cases hc
 ·cases e
  have hk:=(List.getElem?_eq_some_iff.1 hx0).1
  obtain ⟨row,hrow,a1⟩:=h1.row (fun row=>Z1 row off us) hr hx0
  have hw:row.length=sz:=h2 row (List.mem_of_getElem? hrow)
  have hsz1:(k+1)*sz≤xs.length*sz:=Nat.mul_le_mul_right sz hk
  have hcs:xs.length*sz≤c*sz:=Nat.mul_le_mul_right sz hmc
  rw [Nat.succ_mul] at hsz1
  have hb1:k*sz+off+us.length≤arr.length:=by omega
  refine Zna (L':=L.set j (Zap b arr T ++ ins)) (K':=fun u D' B' L₁=>u=undef∧D'=D∧B'=B∧L₁=(L.set j (Zap b arr T ++ ins)).set j (Zap b (Z1 arr (k*sz+off) us) T ++ ins)) ?_ ?_ ?_
  ·obtain ⟨r,e1,e2⟩:=ZM [] (Zap b arr T ++ ins) hj
   rw [List.append_nil] at e1 e2
   exact e1.trans ((h3.append_right r).trans e2.symm)
  ·have hj':(L.set j (Zap b arr T ++ ins))[j]? = some (Zap b arr T ++ ins):=by
    rw [List.getElem?_set_self (List.getElem?_eq_some_iff.1 hj).1]
   exact ZV us j (Z1 arr (k*sz+off) us) hg hd hsz hx hy hvc ho (T:=T) (r:=ins) hj' rfl (by rw [Nat.ble_eq];exact hb1) rfl ⟨rfl,rfl,rfl,rfl⟩
  ·rintro u D' B' L₁ hle ⟨rfl,rfl,rfl,rfl⟩
   have hnew:ZaR (Zap b (Z1 arr (k*sz+off) us) T ++ ins) (some ⟨b,0,Option.none⟩) c T sz R (xs.set k z):=by
    have hsl:(Z1 row off us).length=sz:=by rw [ZQ];exact hw
    have hwide:wide sz (rows.set k (Z1 row off us)):=fun r' hr'=>by
     rcases List.mem_or_eq_of_mem_set hr' with hr' | rfl
     ·exact h2 r' hr'
     ·exact hsl
    refine ⟨rows.set k (Z1 row off us),_,ins,a1,hwide,.refl _,?_,.inr ⟨b,_,rfl,by rw [ZQ];exact ha,?_,rfl,by rw [List.length_set];exact hmc⟩⟩
    ·rw [ZcA hwide,List.length_set,List.length_set,h1.len]
    ·rw [List.length_set]
     have e:=Zc9 (us:=us) (off:=off) h2 hrow hoff
     rw [Zdz _ _ _ _ (by omega) (by omega),ht,e]
   refine ⟨L.set j (Zap b (Z1 arr (k*sz+off) us) T ++ ins),[],?_,h _ hnew⟩
   rw [List.set_set,List.append_nil]
end
end Go.BL
namespace Go.BL
open Go.Conc (G)
section
variable {P:PJ} {n:Nat} {ops:Array Oper} {i:Nat} {K:ZaC} {S:Env} {D:List Deferred} {B:Kn} {L:List Cells}
variable {dst:Option Tmp} {ty:TypeId} {pos:String} {after:Array Edge} {g:Option (Nat × Bool)}
theorem Zaa.borrowL {f:FuncId} {args:List Value} {ls:List Cells} {v:Value} (h:(∀p,p∈ls.flatten→(B.add ls.flatten).mem p.1=some p.2)→Zaa P f args (B.add ls.flatten) v):ZA P f args B ls (fun v' B' Ls=>v'=v∧B'=B∧Ls=ls):=by
 have:=(ZA.borrowL (P:=P) (Ls:=[]) h).mono (Post':=fun v' B' Ls=>v'=v∧B'=B∧Ls=ls) fun v' B' Ls' _ ⟨B₂,Ls₂,a1,a2,_,_,a3,a4,a5,a6⟩=>by subst a5;subst a6;exact ⟨a4,a2.trans a3,by rw [a1,List.append_nil]⟩
 rwa [List.append_nil] at this
theorem ZfT {f:FuncId} {xs:List Operand} {vs:List Value} {ats:Array TypeId} {v:Value} {ls r:List Cells} (js:List Nat) (hp:Zas L js=some (ls,r)) (hput:Zcd r js ls=L) (hn:Zd0 js=true) (hg:Zi ops S g=some true) (hd:Zr n dst=true) (he:enters P f=true) (ha:evs S xs=some vs)
  (hc:ZA P f vs B ls (fun v' B' Ls=>v'=v∧B'=B∧Ls=ls)) (h:K v D B L):opX P n ops i ⟨dst,.call ⟨.value (.func f),xs.toArray,ats⟩,ty,pos,after,g⟩ K S D B L:=
 ZdU js hp hn hg hd he ha hc fun v' B' Ls' hle ⟨h1,h2,h3⟩=>by subst h1;subst h2;subst h3;rw [hput];exact h
end
theorem ZA.borrowK {P:PJ} {B:Kn} {f:FuncId} {args:List Value} {Ls:List Cells} {Post:Value→Kn→List Cells→Prop} (k:Nat)
  (h:(∀p,p∈(Ls.take k).flatten→(B.add (Ls.take k).flatten).mem p.1=some p.2)→ZA P f args (B.add (Ls.take k).flatten) (Ls.drop k) Post) :
  ZA P f args B Ls (fun v B' Ls'=>∃B₂ Ls₂,Ls'=Ls.take k ++ Ls₂∧B'=B₂.minus (Ls.take k).flatten∧(B.add (Ls.take k).flatten).le B₂∧(∀p,p∈(Ls.take k).flatten→(B.add (Ls.take k).flatten).mem p.1=some p.2)∧(B.add (Ls.take k).flatten).minus (Ls.take k).flatten=B∧Post v B₂ Ls₂):=by
 have:=ZA.borrowL (P:=P) (ls:=Ls.take k) (Ls:=Ls.drop k) h
 rwa [List.take_append_drop] at this
theorem Zno {B:Kn} {ls:List Cells} {l:Cells} (hm :∀p,p∈ls.flatten→B.mem p.1=some p.2) (k:Nat) (hk:ls[k]? = some l) :∀q,q∈l→B.mem q.1=some q.2:=fun q hq=>hm q (List.mem_flatten.2 ⟨l,List.mem_of_getElem? hk,hq⟩)
theorem ZU.lendK {α:Type} {B BV:Kn} {l:Cells} {ls:List Cells} {p:Option Addr} {c:Nat} {T:TypeId} {w:Nat} {R:Rel α} {xs:List α} (h:ZU BV l p c T w R xs) (hR:Zop R) (k:Nat) (hk:ls[k]? = some l) (hm :∀q,q∈ls.flatten→(B.add ls.flatten).mem q.1=some q.2) (hl:xs.length≤2000000):SlK (B.add ls.flatten) p c w R xs:=⟨h.rowsF hR (Zno hm k hk),h.cap,hl⟩
theorem ZaR.lendK {α:Type} {B:Kn} {l:Cells} {ls:List Cells} {p:Option Addr} {c:Nat} {T:TypeId} {w:Nat} {R:Zfv α} {R':Rel α} {xs:List α} (h:ZaR l p c T w R xs) (hR :∀{B:Kn} {row:List Value} {x:α} {ins:Cells},R row x ins→(∀q,q∈ins→B.mem q.1=some q.2)→R' B row x) (hM:Mono R') (k:Nat) (hk:ls[k]? = some l) (hm :∀q,q∈ls.flatten→(B.add ls.flatten).mem q.1=some q.2) (hl:xs.length≤2000000):SlK (B.add ls.flatten) p c w R' xs:=h.known (fun _ _ _ a b=>hR a b) hM (Zno hm k hk) hl
theorem ZsF {l a lr:Cells} (h:l.Perm (a ++ lr)):l.Perm (lr ++ ([a]:List Cells).flatten):=by
 simpa using h.trans List.perm_append_comm
theorem ZoY {l a b lr:Cells} (h:l.Perm (a ++ b ++ lr)):l.Perm (lr ++ ([a,b]:List Cells).flatten):=by
 simpa using h.trans List.perm_append_comm
theorem Zsk {P:PJ} {n:Nat} {Q:Exit→Z5} {S:Env} {D:List Deferred} {B:Kn} {L:List Cells} {c:Code} (es:List Cells) (he:es.flatten=[]) (h:wpS P n c Q S D B (L ++ es)):wpS P n c Q S D B L:=
 Zp0 (by rw [List.flatten_append,he,List.append_nil]) h
end Go.BL
namespace Go.BL
open Go.Conc (G)
def errv (tE:TypeId) (a:Nat→Addr):Nat→Value
 | 0=>.nilIface
 | k+1=>.iface tE (.pointer (some (a k)))
structure ErrsB (tE:TypeId) (gs:List Nat) (B:Kn) (a:Nat→Addr):Prop where
 row :∀k,k<4→ZaB B (gs.getD k 0) 0 [.iface tE (.pointer (some (a k)))]
 cell :∀k,k<4→∃cs T,B.mem (a k).block=some (.cells cs T (0,0))
 ne :∀i j,i<4→j<4→i≠j→a i≠a j
theorem ErrsB.mono {tE:TypeId} {gs:List Nat} {B B':Kn} {a:Nat→Addr} (h:ErrsB tE gs B a) (hle:B.le B'):ErrsB tE gs B' a:=
 ⟨fun k hk=>(h.row k hk).mono hle,fun k hk=>let ⟨cs,T,e⟩:=h.cell k hk;⟨cs,T,hle _ _ e⟩,h.ne⟩
section
variable {P:Program}
theorem Zps {a:Addr} {B:Kn} {L:Cells} {Q:Bool→Kn→Cells→Prop} (q:Q true B L):hb P (sameAddr a a) Q B L:=by
 have e:sameAddr a a=pure true:=by simp [sameAddr]
 rw [e];exact q
theorem Zf0 {x:Addr} {cx:Array Value} {tx:TypeId} {B:Kn} {L:Cells} {Q:Bool→Kn→Cells→Prop} (hx:ZhA B L x.block (.cells cx tx (0,0))) (q:Q false B L):hb P (stringish x) Q B L:=by
 unfold stringish
 rw [Zg]
 refine ⟨_,hx,?_⟩
 simp only [Zbh,Zm,ZaL,Nat.not_lt_zero,decide_false,Bool.and_false,Bool.false_eq_true,if_false]
 rw [Zg]
 refine ⟨_,hx,?_⟩
 simp only [ZhI,Zm,ZaL]
 refine ⟨_,hx,?_⟩
 simp only [Zbh,Nat.not_lt_zero,decide_false,Bool.and_false]
 exact q
theorem Zi6 {x:Addr} {cx:Array Value} {tx:TypeId} {B:Kn} {L:Cells} {Q:Unit→Kn→Cells→Prop} (hx:ZhA B L x.block (.cells cx tx (0,0))) (q:Q () B L):hb P (noView x) Q B L:=by
 unfold noView viewAt
 simp only [Zg]
 refine ⟨_,hx,?_⟩
 simp only [ZhI,Option.isSome_some,if_true,Zm,ZaL]
 exact q
theorem Zpt {a b:Addr} {ca cb:Array Value} {ta tb:TypeId} {B:Kn} {L:Cells} {Q:Bool→Kn→Cells→Prop} (hne:a≠b) (ha:ZhA B L a.block (.cells ca ta (0,0))) (hb':ZhA B L b.block (.cells cb tb (0,0))) (q:Q false B L):hb P (sameAddr a b) Q B L:=by
 unfold sameAddr
 by_cases h:a.block=b.block
 ·have e1:(a.block == b.block)=true:=by simpa using h
  have e2:(a == b)=false:=by simpa using hne
  simp only [e1,if_true,e2];exact q
 ·have e1:(a.block == b.block)=false:=by simpa using h
  simp only [e1,Bool.false_eq_true,if_false,Zg]
  refine ⟨_,ha,?_⟩
  have f1:Zbh a.off (.cells ca ta (0,0))=false:=by simp [Zbh]
  simp only [f1,Zm,ZaL,Bool.false_eq_true,if_false,Bool.false_and,Zg]
  refine ⟨_,hb',?_⟩
  simp only [Zm,ZaL,Zg]
  refine Zi6 ha ?_
  rw [Zg]
  refine Zi6 hb' ?_
  unfold mayBeOne
  simp only [Zg]
  refine Zf0 ha ?_
  rw [Zg]
  refine Zf0 hb' ?_
  simp only [Zg]
  refine ⟨_,ha,?_⟩
  simp only [Zm,ZaL,Zg]
  refine ⟨_,hb',?_⟩
  simp only [Bool.false_and,Bool.or_false,Bool.false_eq_true,if_false,Zm,ZaL]
  exact q
theorem ZsR {tI tE te:TypeId} {ms:Array (String × TypeId)} {i:TypeInfo} {d:Nat} {x y:Addr} {B:Kn} {L:Cells} {Q:Bool→Kn→Cells→Prop} (hi:P.underlying tI=some (.interface ms)) (hp:P.underlying tE=some (.pointer te)) (hinfo:P.info? tE=some i) (hc:i.comparable=true) (hs:ZL P te=some (d+1))
  (h:hb P (sameAddr x y) Q B L):hb P (Op.equal tI (.iface tE (.pointer (some x))) (.iface tE (.pointer (some y)))) Q B L:=by
 show hb P (Op.equalIn (9999+1) tI _ _) Q B L
 rw [Op.equalIn,Zg,Zl hi]
 simp only [ne_eq,not_true_eq_false,if_false,Zg,ZaE hinfo,hc,Bool.not_true,Bool.false_eq_true]
 show hb P (Op.equalIn (9998+1) tE _ _) Q B L
 rw [Op.equalIn,Zg,Zl hp]
 simp only [Zg,Zai hs,ne_eq,Nat.add_eq_zero_iff,Nat.one_ne_zero,and_false,not_false_eq_true,if_true]
 exact h
theorem ZnV {tE:TypeId} {gs:List Nat} {B:Kn} {a:Nat→Addr} (h:ErrsB tE gs B a) {k:Nat} (hk:k<4) (L:Cells) :∃cs T,ZhA B L (a k).block (.cells cs T (0,0)):=
 let ⟨cs,T,e⟩:=h.cell k hk;⟨cs,T,.inl e⟩
theorem ZsS {tI tE te:TypeId} {ms:Array (String × TypeId)} {i:TypeInfo} {d:Nat} {c k:Nat} {gs:List Nat} {a:Nat→Addr} {B:Kn} {L:Cells} {Q:Bool→Kn→Cells→Prop} (hE:ErrsB tE gs B a) (hcb:c<5) (hkb:k<4) (hi:P.underlying tI=some (.interface ms)) (hp:P.underlying tE=some (.pointer te)) (hinfo:P.info? tE=some i) (hc:i.comparable=true) (hs:ZL P te=some (d+1))
  (h:Q (decide (c=k+1)) B L):hb P (Op.equal tI (errv tE a c) (errv tE a (k+1))) Q B L:=by
 cases c with
 | zero=>
  show hb P (Op.equalIn (9999+1) tI .nilIface _) Q B L
  rw [Op.equalIn,Zg,Zl hi]
  simp only [errv,Zm]
  simpa using h
 | succ c=>
  refine ZsR hi hp hinfo hc hs ?_
  by_cases e:c=k
  ·subst e
   exact Zps (by simpa using h)
  ·obtain ⟨cs,T,h1⟩:=ZnV hE (k:=c) (by omega) L
   obtain ⟨cs',T',h2⟩:=ZnV hE hkb L
   exact Zpt (hE.ne c k (by omega) hkb e) h1 h2 (by simpa [e] using h)
end
section
variable {P:PJ} {n:Nat} {ops:Array Oper} {i:Nat} {K:ZaC} {S:Env} {D:List Deferred} {B:Kn} {L:List Cells}
variable {dst:Option Tmp} {ty:TypeId} {pos:String} {after:Array Edge} {g:Option (Nat × Bool)}
theorem ZkI {t u:TypeId} {x:Operand} {tE:TypeId} {a:Nat→Addr} {c:Nat} {ms:Array (String × TypeId)} (hg:Zi ops S g=some true) (hd:Zr n dst=true) (hu:P.underlying t=some (.interface ms)) (hx:ev S x=some (errv tE a c)) (h:K (.bool (decide (c=0))) D B L):opX P n ops i ⟨dst,.binOp .eql t x (.const .nilIface) u,ty,pos,after,g⟩ K S D B L:=
 ZH hg hd (fun ρ hρ Q F q=>by
  have e0:ρ (.const .nilIface) = .nilIface:=hρ (.const .nilIface) _ rfl
  simp only [execOp,hρ x _ hx,e0,Zg]
  cases c with
  | zero=>
   simp only [errv,eqGuard,binOp,Bool.not_true,Bool.false_eq_true,if_false,Bool.or_true,if_true,Zm,Zg]
   show hb P (Op.equalIn (9999+1) t .nilIface .nilIface) _ B _
   rw [Op.equalIn,Zg,Zl hu]
   simp only [Zm]
   simpa using q
  | succ c=>
   simp only [errv,eqGuard,binOp,Bool.not_true,Bool.false_eq_true,if_false,Bool.or_true,if_true,Zm,Zg]
   show hb P (Op.equalIn (9999+1) t (.iface tE _) .nilIface) _ B _
   rw [Op.equalIn,Zg,Zl hu]
   simp only [Zm]
   simpa using q) h
theorem Zmx {t u:TypeId} {x y:Operand} {tE te:TypeId} {gs:List Nat} {a:Nat→Addr} {c k:Nat} {ms:Array (String × TypeId)} (hE:ErrsB tE gs B a) (hcb:c<5) (hkb:k<4) (hg:Zi ops S g=some true) (hd:Zr n dst=true) (hu:P.underlying t=some (.interface ms)) (hp:P.underlying tE=some (.pointer te)) (hinf:(P.info? tE).map (·.comparable)=some true) (hs:ZL P te=some 1)
  (hx:ev S x=some (errv tE a c)) (hy:ev S y=some (errv tE a (k+1))) (h:K (.bool (decide (c=k+1))) D B L):opX P n ops i ⟨dst,.binOp .eql t x y u,ty,pos,after,g⟩ K S D B L:=
 ZH hg hd (fun ρ hρ Q F q=>by
  obtain ⟨inf,hinfo,hc⟩:=Option.map_eq_some_iff.1 hinf
  have hpl:ZfM (errv tE a c) (errv tE a (k+1))=true:=by cases c <;> rfl
  simp only [execOp,hρ x _ hx,hρ y _ hy,Zg,ZeV hpl,Zjo (.inl hpl)]
  exact ZsS hE hcb hkb hu hp hinfo hc hs q) h
theorem Zgk {x:Operand} {xt t asserted:TypeId} {v:Value} {want:Array (String × TypeId)} (hg:Zi ops S g=some true) (hd:Zr n dst=true) (hu:P.underlying asserted=some (.interface want)) (hl:(P.info? t).map (fun i=>(lacking want i.methods).isEmpty)=some false) (hz:Zad P asserted=some .nilIface)
  (hx:ev S x=some (.iface t v)) (h:K (.tuple #[.nilIface,.bool false]) D B L):opX P n ops i ⟨dst,.typeAssert x xt asserted true,ty,pos,after,g⟩ K S D B L:=
 ZH hg hd (fun ρ hρ Q F q=>by
  obtain ⟨j,hj,hm⟩:=Option.map_eq_some_iff.1 hl
  obtain ⟨m,hm⟩:=missingMethod_some (want:=want) (got:=j.methods) (fun e=>by rw [e] at hm;cases hm)
  simp only [execOp,Instr.typeAssert,hρ x _ hx,Zg,Zl hu,ZaE hj,hm,if_true,ZaU hz,Zm]
  exact q) h
theorem Zsi {f:FuncId} {fn:Func} {ext:Array Value→Sem Value} {x:Operand} {ats:Array TypeId} {v r:Value} (hg:Zi ops S g=some true) (hd:Zr n dst=true) (hf:P.funcs[f]? = some fn) (hname:(fn.name == "runtime.NumGoroutine")=false) (hb0:fn.body.isNone=true) (hn:Extern.findNext fn=none) (he:Extern.find fn=some ext)
  (hx:ev S x=some v) (hr :∀(Q:Value→Kn→Cells→Prop) B L,hb P (ext #[v]) Q B L=Q r B L) (h:K r D B L):opX P n ops i ⟨dst,.call ⟨.value (.func f),#[x],ats⟩,ty,pos,after,g⟩ K S D B L:=
 ZcI hg hd fun ρ hρ F=>by
  have e0:ρ (.func f) = .func (.func f) #[] #[]:=hρ (.func f) _ rfl
  simp only [execOp,resolve,e0,Deferred.ofValue,Zg,Zm,invoke,List.map_toArray,List.map_cons,List.map_nil,hρ x _ hx]
  have e:(#[] ++ #[v]:Array Value) ++ #[] = #[v]:=by simp
  rw [e]
  simp only [callFunc,Zg,Zbz,hf,hname,Bool.false_eq_true,if_false,hb0,if_true,hn,he]
  refine ⟨rfl,?_⟩
  simp only [ZaL,Zm,Zg,hr]
  exact ⟨L,.of (.refl _),h⟩
theorem Zsf {f:FuncId} {fn:Func} {ext:Array Value→Sem Value} {x:Operand} {t:TypeId} {name:String} {ats:Array TypeId} {v u r:Value} (hg:Zi ops S g=some true) (hd:Zr n dst=true) (hf:P.funcs[f]? = some fn) (hname:(fn.name == "runtime.NumGoroutine")=false) (hb0:fn.body.isNone=true) (hn:Extern.findNext fn=none) (he:Extern.find fn=some ext)
  (hx:ev S x=some (.iface t v)) (hm :∀(k:Nat) (Q:FuncId × Value→Kn→Cells→Prop) B L,hb P (method (k+1) t v name) Q B L=Q (f,u) B L) (hr :∀(Q:Value→Kn→Cells→Prop) B L,hb P (ext #[u]) Q B L=Q r B L) (h:K r D B L):opX P n ops i ⟨dst,.call ⟨.invoke x name,#[],ats⟩,ty,pos,after,g⟩ K S D B L:=
 ZcI hg hd fun ρ hρ F=>by
  have e1:(#[Value.iface t v] ++ #[])[0]? = some (.iface t v):=by simp
  have e2:(#[Value.iface t v] ++ #[]).extract 1 (#[Value.iface t v] ++ #[]).size = #[]:=by apply Array.ext';simp
  have e3 : #[u] ++ #[] = #[u]:=by simp
  simp only [execOp,resolve,hρ x _ hx,Zg,Zm,invoke,List.map_toArray,List.map_nil,e1,e2,callMethod,Zbz]
  have hpos:0<Made.depth:=by decide
  obtain ⟨d,hd'⟩ :∃d,P.types.size+Made.depth=d+1:=⟨P.types.size+Made.depth - 1,by omega⟩
  rw [hd',hm]
  simp only [e3,callFunc,Zg,Zbz,hf,hname,Bool.false_eq_true,if_false,hb0,if_true,hn,he]
  refine ⟨rfl,?_⟩
  simp only [ZaL,Zm,Zg,hr]
  exact ⟨L,.of (.refl _),h⟩
end
end Go.BL
namespace Go.BL
open Go.ChangeShapes Go.WideShapes Go.ChangeAt Go.RowKit Go.Conc
section
variable {H:Type} {enc:TypeId × Value→H} {P:Program}
theorem Zlr {t:TypeId} {ms:Array (String × TypeId)} (hu:P.underlying t=some (.interface ms)) {W W':World} {sp sp':Nat→Bool} {fuel:Nat} {cs:List Value} : DataW.trod enc P W 0 sp true fuel t cs=DataW.trod enc P W' 0 sp' true fuel t cs:=by
 cases fuel with
 | zero=>simp [DataW.trod]
 | succ n=>
  cases cs with
  | nil=>simp [DataW.trod,hu]
  | cons x xs=>
   cases xs with
   | nil=>cases x <;> simp [DataW.trod,hu]
   | cons y ys=>cases x <;> simp [DataW.trod,hu]
theorem ZoB {W W':World} (hk:Kept W W') {n:String} {g:Nat} {cs:Array Value} (hg:P.globalNamed n=some g) (hlt:g<W.heap.size) (h:W.var? P n=some cs):W'.var? P n=some cs:=by
 simp only [World.var?,hg,Option.bind_some] at h ⊢
 rw [hk.1 g hlt];exact h
theorem ZiD {W W':World} (hk:Kept W W') {sp sp':Nat→Bool} :∀{ns:List String} {gs:List (DataW H)} {ps:List MemPlace},(∀n,n∈ns→∀g t,P.globalNamed n=some g→(P.globals[g]?).map (·.type)=some t→∃ms,P.underlying t=some (.interface ms))→
  DataW.TrodVars enc P W sp ns gs ps→(∀n,n∈ns→∀g,P.globalNamed n=some g→g<W.heap.size)→DataW.TrodVars enc P W' sp' ns gs ps
 | [],[],_,_,h,_=>h
 | n :: ns,d :: ds,ps,ht,⟨g,t,cs,fuel,p,q,hg,hty,hv,hd,hr,e⟩,hlt=>by
  obtain ⟨ms,hu⟩:=ht n (List.mem_cons_self ..) g t hg hty
  exact ⟨g,t,cs,fuel,p,q,hg,hty,ZoB hk hg (hlt n (List.mem_cons_self ..) g hg) hv,(Zlr hu).trans hd,
   ZiD hk (fun n hn=>ht n (List.mem_cons_of_mem _ hn)) hr (fun n hn=>hlt n (List.mem_cons_of_mem _ hn)),e⟩
 | [],_ :: _,_,_,h,_=>h.elim
 | _ :: _,[],_,_,h,_=>h.elim
theorem ZmA {W:World} {sp:Nat→Bool} :∀{ns:List String} {gs:List (DataW H)} {ps:List MemPlace},DataW.TrodVars enc P W sp ns gs ps→∀n,n∈ns→∀g,P.globalNamed n=some g→g<W.heap.size
 | [],_,_,_,n,hn,_,_=>by cases hn
 | m :: ns,d :: ds,ps,⟨g,t,cs,fuel,p,q,hg,hty,hv,hd,hr,e⟩,n,hn,g',hg'=>by
  rcases List.mem_cons.1 hn with rfl | hn
  ·obtain rfl:=Option.some.inj (hg.symm.trans hg')
   simp only [World.var?,hg,Option.bind_some] at hv
   rcases Nat.lt_or_ge g W.heap.size with h | h
   ·exact h
   ·rw [Array.getElem?_eq_none h] at hv;cases hv
  ·exact ZmA hr n hn g' hg'
 | _ :: _,[],_,h,_,_,_,_=>h.elim
theorem ZkJ {W:World} {sp:Nat→Bool} :∀{ns:List String} {gs:List (DataW H)} {ps:List MemPlace},DataW.TrodVars enc P W sp ns gs ps→gs.length=ns.length
 | [],[],_,_=>rfl
 | n :: ns,d :: ds,ps,⟨g,t,cs,fuel,p,q,hg,hty,hv,hd,hr,e⟩=>by rw [List.length_cons,List.length_cons,ZkJ hr]
 | [],_ :: _,_,h=>h.elim
 | _ :: _,[],_,h=>h.elim
theorem Znp {f:Func} {s:ChangeSpec} {apart fresh handsOn again:Bool} {W W':World} {args:Array Value} {ds gs:List (DataW H)} {before:List MemPlace} {tb:TypeId}
  (hl:laidOutB P=true) (hts:(f.params.toList.all fun t=>P.readableRec t && decide (t<P.types.size))=true) (hres:f.resultTypes.toList=[tb]) (hb:P.underlying tb=some .bool)
  (hvars :∀n,n∈s.vars→∀g t,P.globalNamed n=some g→(P.globals[g]?).map (·.type)=some t→∃ms,P.underlying t=some (.interface ms))
  (hW:DataW.Whole enc P f.params.toList s.vars apart W args.toList ds gs before) (hfn :∀ds' gs',gs'.length=s.vars.length→ds'.length=f.params.toList.length→s.fn H (ds' ++ gs') = { results:=[.lit (.bool true)],args:=ds',vars:=gs' })
  (hk:Kept W W'):s.post enc P f apart fresh handsOn again W args (.bool true) W':=by
 have hlt:=hW.lt
 have hW':=hW
 obtain ⟨p,q,hA0,hV,rfl,hfz,hnd⟩:=hW
 have hlen:=(trodAll_length hA0).2
 have hvl:gs.length=s.vars.length:=ZkJ hV
 have hf2:=hfn ds gs hvl hlen
 have hr2:f.resultTypes = #[tb]:=by apply Array.ext';rw [hres]
 refine post_of_same (pa:=p) (pv:=q) hW' (fun b sp hd=>?_) (fun sp hsp=>?_) (fun sp hsp=>?_) rfl (hk.2.frame _) hk.2.2.1 ?_
 ·rw [hf2,hr2]
  exact trodAll_cons_mk (shut_bool hb _) trodAll_mk0
 ·rw [hf2]
  exact ZkT hl hk hts hA0 (fun x hx=>hlt x (List.mem_append_left _ hx)) (fun x hx=>hsp x (List.mem_append_left _ hx))
 ·rw [hf2]
  exact ZiD hk hvars hV (ZmA hV)
 ·intro j t r h1 h2
  rw [hr2] at h1 h2
  cases j with
  | zero=>
   simp only [List.getElem?_toArray,List.getElem?_cons_zero,Option.some.injEq] at h1
   simp [Value.resultList] at h2
   subst h1;subst h2
   exact okWide_bool_mk hb _
  | succ j=>simp at h1
theorem ZjE {ns:List String} (h:(ns.all fun n=>match P.globalNamed n with | some g=>(match (P.globals[g]?).map (·.type) with | some t=>(match P.underlying t with | some (.interface _)=>true | _=>false) | none=>true) | none=>true)=true) :
∀n,n∈ns→∀g t,P.globalNamed n=some g→(P.globals[g]?).map (·.type)=some t→∃ms,P.underlying t=some (.interface ms):=fun n hn g t hg ht=>by
 have h1:=List.all_eq_true.1 h n hn
 simp only [hg,ht] at h1
 split at h1
 ·exact ⟨_,by assumption⟩
 ·cases h1
theorem ZoP {ts:Array TypeId} (h:(ts.toList.all fun t=>!P.wantsStandIn t)=true) {j:Nat} {t:TypeId} (ht:ts[j]? = some t):P.wantsStandIn t=false:=by
 have:=List.all_eq_true.1 h t (by
  rw [← Array.getElem?_toList] at ht
  exact List.mem_of_getElem? ht)
 simpa using this
theorem ZiF {a:Assume} {C:Checked} {os:Os} {f:FuncId} {fn:Func} {s:ChangeSpec} {conds:List PathCond} {apart fresh handsOn again:Bool} {laid:List (String × DataW Unit)}
  (own:ownKnob C.prog.godebug=none) (started:os.Started) (hfn:C.prog.funcs[f]? = some fn)
  (witness :∃(w:World) (tape:Tape) (i:Input),w.os=os∧(w.forCall tape i).Shaped C.prog∧i.vars=[]∧Input.okWide C.prog (w.forCall tape i) .any w.heap.size f i∧
   ((s.pre enc C.prog fn conds apart (w.forCall tape i).memory i.args∧laidMetH C.prog laid (w.forCall tape i).memory)∧sizedMet enc C.prog fn (OpenSpec.ofChange s) apart (w.forCall tape i).memory i.args)∧a.holds C.prog (lone (Frame.enter C.prog f i.args .normal) [] (w.forCall tape i)))
  (runs :∀(W:World) (base:Nat) (args:Array Value) (ds gs:List (DataW H)) (before:List MemPlace),
   (∀(j:Nat) t v,fn.params[j]? = some t→args[j]? = some v→Value.okWide C.prog W .any base t v)→
   DataW.Whole enc C.prog fn.params.toList s.vars apart W args.toList ds gs before→
   (DataW.weightsEach C.prog (fn.params.toList ++ s.plain.varTypes C.prog) (ds ++ gs)).all (·≤reachBytes)=true→
   laidMetH C.prog laid W→
∃M last o w' t',runNT C.prog (M+1) (solo (G (Frame.enter C.prog f args .normal) []) W) #[]=(.ended o w',t')∧runN C.prog M (solo (G (Frame.enter C.prog f args .normal) []) W) = .next last∧
    step C.prog last = .ended o w'∧Conc.Good C.prog (fun v W'=>s.post enc C.prog fn apart fresh handsOn again W args v W') last o w' t') :
  ReturnsInLeavingWide a C os f .any (fun w args=>(s.pre enc C.prog fn conds apart w args∧laidMetH C.prog laid w)∧sizedMet enc C.prog fn (OpenSpec.ofChange s) apart w args) (s.post enc C.prog fn apart fresh handsOn again):=by
 refine returnsInLeavingWide_of_good own started witness ?_
 intro w tape i _ _ _ hok hpre hholds
 obtain ⟨_,_,_,fn',hfn',_,_,_,_,hval⟩:=hok
 have e:fn'=fn:=Option.some.inj (hfn'.symm.trans hfn)
 subst e
 obtain ⟨⟨⟨ds,gs,before,hw,hc⟩,hL⟩,hz⟩:=hpre
 have hw':=DataW.Whole.of_heap (w':=w.forCall tape i) (by rfl) hw
 have hL':=hL.of_heap (w':=w.forCall tape i) (by rfl)
 obtain ⟨M,last,o,w',t',h1,h2,h3,h4⟩:=runs (w.forCall tape i) w.heap.size i.args ds gs before hval hw' (hz.weights hw) hL'
 exact ⟨M,last,o,w',t',h1,h2,h3,h4.mono fun v hp=>ChangeSpec.post_blind hp⟩
theorem ZnW {n0 n1 n2 n3 nm:String} {x0 x1 x2 x3:List UInt8} {r:List (String × DataW Unit)} {W:World} {k0 k1 k2 k3:Nat} {ti tp te ts:TypeId} {ms:Array (String × TypeId)} {f:Field}
  (h:laidMet P ((n0,.iface nm (.ptr (.agg [.lit (.string x0)]))) :: (n1,.iface nm (.ptr (.agg [.lit (.string x1)]))) :: (n2,.iface nm (.ptr (.agg [.lit (.string x2)]))) :: (n3,.iface nm (.ptr (.agg [.lit (.string x3)]))) :: r) W)
  (hg0:P.globalNamed n0=some k0) (hg1:P.globalNamed n1=some k1) (hg2:P.globalNamed n2=some k2) (hg3:P.globalNamed n3=some k3) (hy0:(P.globals[k0]?).map (·.type)=some ti) (hy1:(P.globals[k1]?).map (·.type)=some ti) (hy2:(P.globals[k2]?).map (·.type)=some ti) (hy3:(P.globals[k3]?).map (·.type)=some ti)
  (hi:P.underlying ti=some (.interface ms)) (hrow :∀u,P.typeName? 3 u=some nm→u=tp)
  (hp:P.underlying tp=some (.pointer te)) (he:P.underlying te=some (.struct #[f])) (hft:f.type=ts) (hfo:f.offset=0) (hs:P.underlying ts=some .string) (hc:P.cellsOf te=1) (hcs:P.cellsOf ts=1) :
∃a:Nat→Addr,ErrsB tp [k0,k1,k2,k3] (Za1 W) a:=by
 obtain ⟨ps,⟨g0,t0,cs0,f0,p0,q0,hg0',ht0',hv0,hd0,⟨g1,t1,cs1,f1,p1,q1,hg1',ht1',hv1,hd1,⟨g2,t2,cs2,f2,p2,q2,hg2',ht2',hv2,hd2,⟨g3,t3,cs3,f3,p3,q3,hg3',ht3',hv3,hd3,_,e3⟩,e2⟩,e1⟩,e0⟩,hnd,hrows⟩:=h
 obtain rfl:=Option.some.inj (hg0.symm.trans hg0')
 obtain rfl:=Option.some.inj (hg1.symm.trans hg1')
 obtain rfl:=Option.some.inj (hg2.symm.trans hg2')
 obtain rfl:=Option.some.inj (hg3.symm.trans hg3')
 obtain rfl:=Option.some.inj (hy0.symm.trans ht0')
 obtain rfl:=Option.some.inj (hy1.symm.trans ht1')
 obtain rfl:=Option.some.inj (hy2.symm.trans ht2')
 obtain rfl:=Option.some.inj (hy3.symm.trans ht3')
 subst e3
 subst e2
 subst e1
 subst e0
 obtain ⟨l0⟩:=cs0
 obtain ⟨l1⟩:=cs1
 obtain ⟨l2⟩:=cs2
 obtain ⟨l3⟩:=cs3
 have ok0 :∀u v,l0=[.iface u v]→Value.okWide P W .any 0 u v:=fun u v e=>by
  subst e
  exact (hrows k0 0 (by simp [MemPlace.row])).2 u v (by simpa using World.var?_cell hg0' hv0 0)
 have ok1 :∀u v,l1=[.iface u v]→Value.okWide P W .any 0 u v:=fun u v e=>by
  subst e
  exact (hrows k1 0 (by simp [MemPlace.row])).2 u v (by simpa using World.var?_cell hg1' hv1 0)
 have ok2 :∀u v,l2=[.iface u v]→Value.okWide P W .any 0 u v:=fun u v e=>by
  subst e
  exact (hrows k2 0 (by simp [MemPlace.row])).2 u v (by simpa using World.var?_cell hg2' hv2 0)
 have ok3 :∀u v,l3=[.iface u v]→Value.okWide P W .any 0 u v:=fun u v e=>by
  subst e
  exact (hrows k3 0 (by simp [MemPlace.row])).2 u v (by simpa using World.var?_cell hg3' hv3 0)
 obtain ⟨a0,s0,rfl,hc0,hs0,hz0,rfl⟩:=errorString_of_trod hi hrow hp he hft hfo hs hc hcs hd0 ok0
 obtain ⟨a1,s1,rfl,hc1,hs1,hz1,rfl⟩:=errorString_of_trod hi hrow hp he hft hfo hs hc hcs hd1 ok1
 obtain ⟨a2,s2,rfl,hc2,hs2,hz2,rfl⟩:=errorString_of_trod hi hrow hp he hft hfo hs hc hcs hd2 ok2
 obtain ⟨a3,s3,rfl,hc3,hs3,hz3,rfl⟩:=errorString_of_trod hi hrow hp he hft hfo hs hc hcs hd3 ok3
 have b0:=(hrows a0.block a0.off (by simp [MemPlace.row])).1
 have b1:=(hrows a1.block a1.off (by simp [MemPlace.row])).1
 have b2:=(hrows a2.block a2.off (by simp [MemPlace.row])).1
 have b3:=(hrows a3.block a3.off (by simp [MemPlace.row])).1
 have row :∀(g:Nat) (v:Value) (n:String),P.globalNamed n=some g→W.var? P n=some #[v]→ZaB (Za1 W) g 0 [v]:=fun g v n hg hv L j u hj=>by
  cases j with
  | zero=>
   simp only [List.getElem?_cons_zero,Option.some.injEq] at hj
   subst hj
   have:=ZgT (by simpa using World.var?_cell hg hv 0:W.cell? ⟨g,0,none⟩=some v)
   obtain ⟨h1,cs,T,fr,h2,h3⟩:=this
   exact ⟨h1,cs,T,fr,h2.elim .inl (fun h=>by cases h),h3⟩
  | succ j=>simp at hj
 refine ⟨fun k=>if k=0 then a0 else if k=1 then a1 else if k=2 then a2 else a3,fun k hk=>?_,fun k hk=>?_,fun i j hi' hj' hne=>?_⟩
 ·match k,hk with
  | 0,_=>exact row k0 _ _ hg0 hv0
  | 1,_=>exact row k1 _ _ hg1 hv1
  | 2,_=>exact row k2 _ _ hg2 hv2
  | 3,_=>exact row k3 _ _ hg3 hv3
 ·match k,hk with
  | 0,_=>exact b0
  | 1,_=>exact b1
  | 2,_=>exact b2
  | 3,_=>exact b3
 ·have h01:a0≠a1:=by rintro rfl;simp [MemPlace.row] at hnd
  have h02:a0≠a2:=by rintro rfl;simp [MemPlace.row] at hnd
  have h03:a0≠a3:=by rintro rfl;simp [MemPlace.row] at hnd
  have h12:a1≠a2:=by rintro rfl;simp [MemPlace.row] at hnd
  have h13:a1≠a3:=by rintro rfl;simp [MemPlace.row] at hnd
  have h23:a2≠a3:=by rintro rfl;simp [MemPlace.row] at hnd
  match i,j,hi',hj',hne with
  | 0,1,_,_,_=>exact h01
  | 0,2,_,_,_=>exact h02
  | 0,3,_,_,_=>exact h03
  | 1,0,_,_,_=>exact h01.symm
  | 1,2,_,_,_=>exact h12
  | 1,3,_,_,_=>exact h13
  | 2,0,_,_,_=>exact h02.symm
  | 2,1,_,_,_=>exact h12.symm
  | 2,3,_,_,_=>exact h23
  | 3,0,_,_,_=>exact h03.symm
  | 3,1,_,_,_=>exact h13.symm
  | 3,2,_,_,_=>exact h23.symm
  | 0,0,_,_,h=>exact (h rfl).elim
  | 1,1,_,_,h=>exact (h rfl).elim
  | 2,2,_,_,h=>exact (h rfl).elim
  | 3,3,_,_,h=>exact (h rfl).elim
end
theorem Zoe (Lk:Looks) {p:Pinned} {s:OpenSpec} {c:OpenClaim} (kinds:List LaidKind) (tests:Bool) (har:Bool × String) (lk:Bool)
  (hc:c.holds p s) (hw:c.wfByText s=true) (htie:c.laidByTextAt Lk p kinds tests)
  (hst:c.start = .entering) (hnb:c.noBlocks=false∧c.again=false) (hm:p.checked.prog.mainIs=some (har.1,har.2.toList)) (hn:(!har.1 && har.2.isEmpty && !lk)=false)
  (hl :∀f fn,p.checked.prog.funcNamed c.func=some f→p.checked.prog.funcs[f]? = some fn→lk=p.checked.prog.looks []∧∀(j:Nat) t,fn.params[j]? = some t→p.checked.prog.wantsStandIn t=false)
  (hg:true=c.goesBy p.checked.prog) :
  Claim7.holds p (.plain s) { stood:={ row:=c,standIns:=[],harness:=har,looks:=lk },kinds:=[],alts:=[],goes:=true,laidByText:=true,laidKinds:=kinds,laidTests:=tests,laidLooks:=Lk }:=by
 have h6 :∀r:OpenClaim,Claim7.isSixth { stood:={ row:=r,standIns:=[],harness:=har,looks:=lk },kinds:=[] } = false:=fun r=>by simpa [Claim7.isSixth] using hn
 refine ⟨Claim7.tied_new_at Lk kinds tests (Claim7.new_of_sixth hc har lk hst hnb hm (h6 c) hl) hw,(fun D hD=>by cases hD),htie,(fun h=>by cases h),hg⟩
end Go.BL
namespace Go.BL
open Go.Conc (G)
section
variable {P:PJ} {n:Nat} {ops:Array Oper} {i:Nat} {K:ZaC} {S:Env} {D:List Deferred} {B:Kn} {L:List Cells}
variable {dst:Option Tmp} {ty:TypeId} {pos:String} {after:Array Edge} {g:Option (Nat × Bool)}
theorem ZqK {f:FuncId} {x:Operand} {cap:Array Value} {xs:List Operand} {vs:List Value} {ats:Array TypeId} {Post:Value→Kn→List Cells→Prop} (js:List Nat) {ss r:List Cells} (hp:Zas L js=some (ss,r)) (hn:Zd0 js=true) (hg:Zi ops S g=some true) (hd:Zr n dst=true) (he:enters P f=true) (hx:ev S x=some (.func (.func f) #[] cap)) (ha:evs S xs=some vs) (hc:ZA P f (vs ++ cap.toList) B ss Post)
  (h :∀v B' Ls',B.le B'→Post v B' Ls'→K v D B' (Zcd r js Ls')):opX P n ops i ⟨dst,.call ⟨.value x,xs.toArray,ats⟩,ty,pos,after,g⟩ K S D B L:=
 Zdc (o:=⟨dst,.call ⟨.value x,xs.toArray,ats⟩,ty,pos,after,g⟩) (vs:=vs ++ cap.toList) hg (fun ρ hρ Q F q=>by
   have:=ZdI (P:=P) (B:=B) (L:=L) (dst:=dst) (ty:=ty) (pos:=pos) (after:=after) (g:=g) (x:=x) (first:=#[]) (cap:=cap) (ats:=ats) he hx ha ρ hρ Q F
   exact this (by simpa using q)) hd (Ls:=ss) (Lk:=r) (Zam js L ss r hp) hc
  fun v' B' Ls' hle hq=>⟨Zcd r js Ls',ZbY Ls' r js (Zb1 hn) (fun j hj=>ZbZ js L ss r hp j (.inr hj)),h v' B' Ls' hle hq⟩
end
theorem ZvQ {B:Kn} {ls:List Cells} {b:Nat} {row:List Value} {T:TypeId} (k:Nat) (hk:ls[k]? = some (Zap b row T)) (hm :∀q,q∈ls.flatten→(B.add ls.flatten).mem q.1=some q.2):ZaB (B.add ls.flatten) b 0 row:=ZbH (Zno hm k hk)
end Go.BL
namespace Go.BL
open Go.Conc (G)
end Go.BL
namespace Go.BL
section
variable {P:PJ} {n:Nat} {ops:Array Oper} {i:Nat} {K:ZaC} {S:Env} {D:List Deferred} {B:Kn} {L:List Cells}
variable {dst:Option Tmp} {ty:TypeId} {pos:String} {after:Array Edge} {g:Option (Nat × Bool)}
end
end Go.BL
namespace Go.BL
section
variable {P:PJ} {n:Nat} {ops:Array Oper} {i:Nat} {K:ZaC} {S:Env} {D:List Deferred} {B:Kn} {L:List Cells}
variable {dst:Option Tmp} {ty:TypeId} {pos:String} {after:Array Edge} {g:Option (Nat × Bool)}
variable {α:Type} {R:Rel α} {xs:List α}
end
end Go.BL
namespace Go.BL
theorem Zmk {P:PJ} {n:Nat} {Q:Exit→Z5} {S:Env} {D:List Deferred} {B:Kn} {L:List Cells} {c:Code} (L':List Cells) (hl:L=L') (h:wpS P n c Q S D B L'):wpS P n c Q S D B L:=by subst hl;exact h
theorem sQ:(∀(p:Prop) [Decidable p],(decide p=true)=p)∧(∀(p:Prop) [Decidable p],(decide p=false) = ¬p)∧(∀b:Bool,((!b)=true)=(b=false))∧(∀b:Bool,((!b)=false)=(b=true))∧(∀(p:Prop) [Decidable p],(decide (¬p)) = !decide p)∧(∀(p:Prop) [Decidable p],(¬¬p)=p)∧(∀a b:Int,(¬a<b)=(b≤a))∧(∀a b:Int,(¬a≤b)=(b<a)):=
 ⟨fun p _=>by simp,fun p _=>by simp,by simp,by simp,fun p _=>by simp,fun p _=>by simp,by simp,by simp⟩
end Go.BL
namespace Go.BL
section
variable {P:PJ} {n:Nat} {ops:Array Oper} {i:Nat} {K:ZaC} {S:Env} {D:List Deferred} {B:Kn} {L:List Cells}
variable {dst:Option Tmp} {ty:TypeId} {pos:String} {after:Array Edge} {g:Option (Nat × Bool)}
section
variable {t u:TypeId} {x y:Operand} {a b r:Int}
end
end
end Go.BL
namespace Go.BL
theorem om {p:Prop} (h:p:=by first | omega | (simp;done) | (simp;omega)):p:=h
theorem om2 {p:Prop} (h:p:=by first | assumption | omega | (simp;done) | (simp;omega)):p:=h
theorem oz {p:Prop} (h:p:=by omega):p:=h
theorem kr {p:Prop} (h:p:=by kernel_rfl):p:=h
theorem so {p:Prop} (h:p:=by simp only [];omega):p:=h
theorem so2 {p:Prop} (h:p:=by first | omega | (simp only [];omega)):p:=h
theorem oa {p:Prop} (h:p:=by first | assumption | omega):p:=h
theorem oy {p:Prop} (h:p:=by assumption):p:=h
theorem om3 {p:Prop} (h:p:=by first | omega | decide | (simp;done) | (simp;omega)):p:=h
theorem t1 {α0:Sort _} {a0:α0} : a0=a0∧True:=⟨rfl,trivial⟩
theorem t2 {α0 α1:Sort _} {a0:α0} {a1:α1} : a0=a0∧a1=a1∧True:=⟨rfl,rfl,trivial⟩
theorem t3 {α0 α1 α2:Sort _} {a0:α0} {a1:α1} {a2:α2} : a0=a0∧a1=a1∧a2=a2∧True:=⟨rfl,rfl,rfl,trivial⟩
theorem t4 {α0 α1 α2 α3:Sort _} {a0:α0} {a1:α1} {a2:α2} {a3:α3} : a0=a0∧a1=a1∧a2=a2∧a3=a3∧True:=⟨rfl,rfl,rfl,rfl,trivial⟩
theorem t5 {α0 α1 α2 α3 α4:Sort _} {a0:α0} {a1:α1} {a2:α2} {a3:α3} {a4:α4} : a0=a0∧a1=a1∧a2=a2∧a3=a3∧a4=a4∧True:=⟨rfl,rfl,rfl,rfl,rfl,trivial⟩
theorem t6 {α0 α1 α2 α3 α4 α5:Sort _} {a0:α0} {a1:α1} {a2:α2} {a3:α3} {a4:α4} {a5:α5} : a0=a0∧a1=a1∧a2=a2∧a3=a3∧a4=a4∧a5=a5∧True:=⟨rfl,rfl,rfl,rfl,rfl,rfl,trivial⟩
theorem t7 {α0 α1 α2 α3 α4 α5 α6:Sort _} {a0:α0} {a1:α1} {a2:α2} {a3:α3} {a4:α4} {a5:α5} {a6:α6} : a0=a0∧a1=a1∧a2=a2∧a3=a3∧a4=a4∧a5=a5∧a6=a6∧True:=⟨rfl,rfl,rfl,rfl,rfl,rfl,rfl,trivial⟩
theorem t8 {α0 α1 α2 α3 α4 α5 α6 α7:Sort _} {a0:α0} {a1:α1} {a2:α2} {a3:α3} {a4:α4} {a5:α5} {a6:α6} {a7:α7} : a0=a0∧a1=a1∧a2=a2∧a3=a3∧a4=a4∧a5=a5∧a6=a6∧a7=a7∧True:=⟨rfl,rfl,rfl,rfl,rfl,rfl,rfl,rfl,trivial⟩
theorem t10 {α0 α1 α2 α3 α4 α5 α6 α7 α8 α9:Sort _} {a0:α0} {a1:α1} {a2:α2} {a3:α3} {a4:α4} {a5:α5} {a6:α6} {a7:α7} {a8:α8} {a9:α9} : a0=a0∧a1=a1∧a2=a2∧a3=a3∧a4=a4∧a5=a5∧a6=a6∧a7=a7∧a8=a8∧a9=a9∧True:=⟨rfl,rfl,rfl,rfl,rfl,rfl,rfl,rfl,rfl,rfl,trivial⟩
theorem t11 {α0 α1 α2 α3 α4 α5 α6 α7 α8 α9 α10:Sort _} {a0:α0} {a1:α1} {a2:α2} {a3:α3} {a4:α4} {a5:α5} {a6:α6} {a7:α7} {a8:α8} {a9:α9} {a10:α10} : a0=a0∧a1=a1∧a2=a2∧a3=a3∧a4=a4∧a5=a5∧a6=a6∧a7=a7∧a8=a8∧a9=a9∧a10=a10∧True:=⟨rfl,rfl,rfl,rfl,rfl,rfl,rfl,rfl,rfl,rfl,rfl,trivial⟩
theorem t12 {α0 α1 α2 α3 α4 α5 α6 α7 α8 α9 α10 α11:Sort _} {a0:α0} {a1:α1} {a2:α2} {a3:α3} {a4:α4} {a5:α5} {a6:α6} {a7:α7} {a8:α8} {a9:α9} {a10:α10} {a11:α11} : a0=a0∧a1=a1∧a2=a2∧a3=a3∧a4=a4∧a5=a5∧a6=a6∧a7=a7∧a8=a8∧a9=a9∧a10=a10∧a11=a11∧True:=⟨rfl,rfl,rfl,rfl,rfl,rfl,rfl,rfl,rfl,rfl,rfl,rfl,trivial⟩
section
variable {P:PJ} {n:Nat} {ops:Array Oper} {i:Nat} {K:Z5} {S:Env} {D:List Deferred} {B:Kn} {L:List Cells}
variable {dst:Option Tmp} {ty:TypeId} {pos:String} {after:Array Edge} {g:Option (Nat × Bool)} {t u:TypeId} {x y:Operand}
theorem xM {x:Operand} {v:Value} (hg:Zi ops S g=some true:=by exact rfl) (hd:Zr n dst=true:=by exact rfl) (hx:ev S x=some v:=by exact rfl) (h:K (Zbe S dst v) D B L):opW P n ops i ⟨dst,.move x,ty,pos,after,g⟩ K S D B L:=Zq (Zgi hg hd hx h)
theorem xA {x:Operand} {v:Value} (hg:Zi ops S g=some true:=by exact rfl) (hd:Zr n dst=true:=by exact rfl) (hx:ev S x=some v:=by exact rfl) (h:K (Zbe S dst v) D B L):opW P n ops i ⟨dst,.assign x,ty,pos,after,g⟩ K S D B L:=Zq (Zcr hg hd hx h)
theorem xP  {dst:Option Tmp} {op:Op} {t:TypeId} {pos:String} {after:Array Edge} {g:Option (Nat × Bool)}   (hg:Zi ops S g=some false:=by exact rfl) (hd:Zr n dst=true:=by exact rfl) (h:K (Zbe S dst undef) D B L):opW P n ops i ⟨dst,op,t,pos,after,g⟩ K S D B L:=Zq (Zp1  hg hd h)
theorem xT  {c:Operand} {a:Operand} {b:Operand} {v:Value}   (hg:Zi ops S g=some true:=by exact rfl) (hd:Zr n dst=true:=by exact rfl) (hc:ev S c=some (.bool true):=by exact rfl) (hx:ev S a=some v:=by exact rfl) (h:K (Zbe S dst v) D B L):opW P n ops i ⟨dst,.pick c a b,ty,pos,after,g⟩ K S D B L:=Zq (Zmu  hg hd hc hx h)
theorem xF  {c:Operand} {a:Operand} {b:Operand} {v:Value}   (hg:Zi ops S g=some true:=by exact rfl) (hd:Zr n dst=true:=by exact rfl) (hc:ev S c=some (.bool false):=by exact rfl) (hx:ev S b=some v:=by exact rfl) (h:K (Zbe S dst v) D B L):opW P n ops i ⟨dst,.pick c a b,ty,pos,after,g⟩ K S D B L:=Zq (Zmv  hg hd hc hx h)
theorem xE  {x:Operand} {ix:Nat} {vs:List Value} {v:Value}   (hg:Zi ops S g=some true:=by exact rfl) (hd:Zr n dst=true:=by exact rfl) (hx:ev S x=some (.tuple vs.toArray):=by exact rfl) (hi:vs[ix]? = some v:=by exact rfl) (h:K (Zbe S dst v) D B L):opW P n ops i ⟨dst,.extract x ix,ty,pos,after,g⟩ K S D B L:=Zq (Zio  hg hd hx hi h)
theorem xN  {x:Operand} {b:Bool} {t:TypeId}   (hg:Zi ops S g=some true:=by exact rfl) (hd:Zr n dst=true:=by exact rfl) (hx:ev S x=some (.bool b):=by exact rfl) (h:K (Zbe S dst (.bool (!b))) D B L):opW P n ops i ⟨dst,.unOp .not t x,ty,pos,after,g⟩ K S D B L:=Zq (Zr6  hg hd hx h)
theorem xW  {s:TypeId} {x:Operand} {fi:Nat} {off:Nat} {a:Addr}  (hf:Zw P s fi=some off) (hg:Zi ops S g=some true:=by exact rfl) (hd:Zr n dst=true:=by exact rfl) (hx:ev S x=some (ptr a):=by exact rfl) (h:K (Zbe S dst (ptr (a.add off))) D B L):opW P n ops i ⟨dst,.fieldAddr s x fi,ty,pos,after,g⟩ K S D B L:=Zq (ZeL  hg hd hf hx h)
theorem xD  {k:IntKind} {a b r:Int}   (hg:Zi ops S g=some true:=by exact rfl) (hd:Zr n dst=true:=by exact rfl) (hx:ev S x=some (.int k a):=by exact rfl) (hy:ev S y=some (.int k b):=by exact rfl) (hr:k.wrap (a+b)=r:=by first | exact ZbQ (by first | omega | (simp;done) | (simp;omega)) (by first | omega | (simp;done) | (simp;omega)) | exact rfl) (h:K (Zbe S dst (.int k r)) D B L):opW P n ops i ⟨dst,.binOp .add t x y u,ty,pos,after,g⟩ K S D B L:=Zq (Zfw  hg hd hx hy hr h)
theorem xU  {k:IntKind} {a b r:Int}   (hg:Zi ops S g=some true:=by exact rfl) (hd:Zr n dst=true:=by exact rfl) (hx:ev S x=some (.int k a):=by exact rfl) (hy:ev S y=some (.int k b):=by exact rfl) (hr:k.wrap (a - b)=r:=by first | exact ZbQ (by first | omega | (simp;done) | (simp;omega)) (by first | omega | (simp;done) | (simp;omega)) | exact rfl) (h:K (Zbe S dst (.int k r)) D B L):opW P n ops i ⟨dst,.binOp .sub t x y u,ty,pos,after,g⟩ K S D B L:=Zq (ZhD  hg hd hx hy hr h)
theorem ZF  {k:IntKind} {a b:Int}   (hg:Zi ops S g=some true:=by exact rfl) (hd:Zr n dst=true:=by exact rfl) (hx:ev S x=some (.int k a):=by exact rfl) (hy:ev S y=some (.int k b):=by exact rfl) (h:K (Zbe S dst (.bool (decide (a<b)))) D B L):opW P n ops i ⟨dst,.binOp .lss t x y u,ty,pos,after,g⟩ K S D B L:=Zq (Zsc  hg hd hx hy h)
theorem ZbT  {k:IntKind} {a b:Int}   (hg:Zi ops S g=some true:=by exact rfl) (hd:Zr n dst=true:=by exact rfl) (hx:ev S x=some (.int k a):=by exact rfl) (hy:ev S y=some (.int k b):=by exact rfl) (h:K (Zbe S dst (.bool (decide (a≤b)))) D B L):opW P n ops i ⟨dst,.binOp .leq t x y u,ty,pos,after,g⟩ K S D B L:=Zq (Zsd  hg hd hx hy h)
theorem ZdM  {k:IntKind} {a b:Int}   (hg:Zi ops S g=some true:=by exact rfl) (hd:Zr n dst=true:=by exact rfl) (hx:ev S x=some (.int k a):=by exact rfl) (hy:ev S y=some (.int k b):=by exact rfl) (h:K (Zbe S dst (.bool (decide (b<a)))) D B L):opW P n ops i ⟨dst,.binOp .gtr t x y u,ty,pos,after,g⟩ K S D B L:=Zq (Zsg  hg hd hx hy h)
theorem Zdp  {k:IntKind} {a b:Int}   (hg:Zi ops S g=some true:=by exact rfl) (hd:Zr n dst=true:=by exact rfl) (hx:ev S x=some (.int k a):=by exact rfl) (hy:ev S y=some (.int k b):=by exact rfl) (h:K (Zbe S dst (.bool (decide (b≤a)))) D B L):opW P n ops i ⟨dst,.binOp .geq t x y u,ty,pos,after,g⟩ K S D B L:=Zq (Zsh  hg hd hx hy h)
theorem Zil  {k:IntKind} {a b:Int}   (hg:Zi ops S g=some true:=by exact rfl) (hd:Zr n dst=true:=by exact rfl) (hx:ev S x=some (.int k a):=by exact rfl) (hy:ev S y=some (.int k b):=by exact rfl) (h:K (Zbe S dst (.bool (decide (a=b)))) D B L):opW P n ops i ⟨dst,.binOp .eql t x y u,ty,pos,after,g⟩ K S D B L:=Zq (Zp9  hg hd hx hy h)
theorem ZaS  {k:IntKind} {a b:Int}   (hg:Zi ops S g=some true:=by exact rfl) (hd:Zr n dst=true:=by exact rfl) (hx:ev S x=some (.int k a):=by exact rfl) (hy:ev S y=some (.int k b):=by exact rfl) (h:K (Zbe S dst (.bool (decide (a≠b)))) D B L):opW P n ops i ⟨dst,.binOp .neq t x y u,ty,pos,after,g⟩ K S D B L:=Zq (Zp3  hg hd hx hy h)
theorem ZdS  {a b:List UInt8}   (hg:Zi ops S g=some true:=by exact rfl) (hd:Zr n dst=true:=by exact rfl) (hx:ev S x=some (str a):=by exact rfl) (hy:ev S y=some (str b):=by exact rfl) (h:K (Zbe S dst (.bool (decide (a=b)))) D B L):opW P n ops i ⟨dst,.binOp .eql t x y u,ty,pos,after,g⟩ K S D B L:=Zq (Zp8  hg hd hx hy h)
theorem Zez  {a b:List UInt8}   (hg:Zi ops S g=some true:=by exact rfl) (hd:Zr n dst=true:=by exact rfl) (hx:ev S x=some (str a):=by exact rfl) (hy:ev S y=some (str b):=by exact rfl) (h:K (Zbe S dst (.bool (decide (a≠b)))) D B L):opW P n ops i ⟨dst,.binOp .neq t x y u,ty,pos,after,g⟩ K S D B L:=Zq (Zp2  hg hd hx hy h)
theorem ZpY  {a b:List UInt8}   (hg:Zi ops S g=some true:=by exact rfl) (hd:Zr n dst=true:=by exact rfl) (hx:ev S x=some (str a):=by exact rfl) (hy:ev S y=some (str b):=by exact rfl) (h:K (Zbe S dst (.bool (Op.bytesLess a b))) D B L):opW P n ops i ⟨dst,.binOp .lss t x y u,ty,pos,after,g⟩ K S D B L:=Zq (Zsb  hg hd hx hy h)
theorem xV  {x:Operand} {t:TypeId} {e:TypeId} {p:Option Addr} {len:Nat} {cap:Nat}  (hu:P.underlying t=some (.slice e)) (hg:Zi ops S g=some true:=by exact rfl) (hd:Zr n dst=true:=by exact rfl) (hx:ev S x=some (.slice p len cap):=by exact rfl) (h:K (Zbe S dst (.int .i64 len)) D B L):opW P n ops i ⟨dst,.call ⟨.builtin .len,#[x],#[t]⟩,ty,pos,after,g⟩ K S D B L:=Zq (Zp5  hg hd hu hx h)
theorem xVs  {x:Operand} {t:TypeId} {l:List UInt8}  (hu:P.underlying t=some .string) (hg:Zi ops S g=some true:=by exact rfl) (hd:Zr n dst=true:=by exact rfl) (hx:ev S x=some (str l):=by exact rfl) (h:K (Zbe S dst (.int .i64 l.length)) D B L):opW P n ops i ⟨dst,.call ⟨.builtin .len,#[x],#[t]⟩,ty,pos,after,g⟩ K S D B L:=Zq (Zp6  hg hd hu hx h)
theorem xNc  {x:Operand} {a:Addr}   (hg:Zi ops S g=some true:=by exact rfl) (hd:Zr n dst=true:=by exact rfl) (hx:ev S x=some (.pointer (some a)):=by exact rfl) (h:K (Zbe S dst (.pointer (some a))) D B L):opW P n ops i ⟨dst,.nilCheck x,ty,pos,after,g⟩ K S D B L:=Zq (Zg9  hg hd hx h)
theorem x1  {t:TypeId} {x:Operand} {a:Addr} {v:Value} {l:List Value} {T:TypeId} {fr:Nat × Nat} {r:Cells}  (hl:lk P t=some none) (j:Nat) (hg:Zi ops S g=some true:=by exact rfl) (hd:Zr n dst=true:=by exact rfl) (hx:ev S x=some (ptr a):=by exact rfl) (hj:L[j]? = some ((a.block,.cells l.toArray T fr) :: r):=by exact rfl) (hs:a.spot=none:=by exact rfl) (hv:l[a.off]? = some v:=by exact rfl) (h:K (Zbe S dst v) D B L):opW P n ops i ⟨dst,.load t x,ty,pos,after,g⟩ K S D B L:=Zq (Zp  hg hd hl hx (atL j hj hs hv) h)
theorem xL  {t:TypeId} {x:Operand} {a:Addr} {l:List Value} {T:TypeId} {fr:Nat × Nat} {r:Cells}  (vs:List Value) (hl:lk P t=some (some vs.length)) (j:Nat) (hg:Zi ops S g=some true:=by exact rfl) (hd:Zr n dst=true:=by exact rfl) (hx:ev S x=some (ptr a):=by exact rfl) (hj:L[j]? = some ((a.block,.cells l.toArray T fr) :: r):=by exact rfl) (hs:a.spot=none:=by exact rfl) (hv:(l.drop a.off).take vs.length=vs:=by exact rfl) (h:K (Zbe S dst (.agg vs.toArray)) D B L):opW P n ops i ⟨dst,.load t x,ty,pos,after,g⟩ K S D B L:=Zq (Z6  vs hg hd hl hx (ZbX j hj hs hv) h)
theorem y1  {t:TypeId} {x:Operand} {a:Addr} {v:Value} {b o:Nat} {row:List Value}  (hl:lk P t=some none) (hc:ZaB B b o row) (off:Nat) (hg:Zi ops S g=some true:=by exact rfl) (hd:Zr n dst=true:=by exact rfl) (hx:ev S x=some (ptr a):=by exact rfl) (ha:a=⟨b,o+off,none⟩:=by exact rfl) (hv:row[off]? = some v:=by exact rfl) (h:K (Zbe S dst v) D B L):opW P n ops i ⟨dst,.load t x,ty,pos,after,g⟩ K S D B L:=Zq (Zp  hg hd hl hx (by subst ha;exact hc _ off _ hv) h)
theorem yL  {t:TypeId} {x:Operand} {a:Addr} {b o:Nat} {row:List Value}  (vs:List Value) (hl:lk P t=some (some vs.length)) (hc:ZaB B b o row) (off:Nat) (hg:Zi ops S g=some true:=by exact rfl) (hd:Zr n dst=true:=by exact rfl) (hx:ev S x=some (ptr a):=by exact rfl) (ha:a=⟨b,o+off,none⟩:=by exact rfl) (hv:(row.drop off).take vs.length=vs:=by exact rfl) (h:K (Zbe S dst (.agg vs.toArray)) D B L):opW P n ops i ⟨dst,.load t x,ty,pos,after,g⟩ K S D B L:=Zq (Z6  vs hg hd hl hx (ZjQ hc off ha hv) h)
theorem xS  {t:TypeId} {x:Operand} {y:Operand} {a:Addr} {v:Value} {l:List Value} {T:TypeId} {r:Cells}  (vs:List Value) (j:Nat) (l':List Value) (hsz:ZL P t=some vs.length) (hg:Zi ops S g=some true:=by exact rfl) (hd:Zr n dst=true:=by exact rfl) (hx:ev S x=some (ptr a):=by exact rfl) (hy:ev S y=some v:=by exact rfl) (hv:v.cells=vs.toArray:=by exact rfl) (ho:vs.all Zew=true:=by exact rfl) (hj:L[j]? = some ((a.block,.cells l.toArray T (0,0)) :: r):=by exact rfl) (hs:a.spot=none:=by exact rfl) (hlen:Nat.ble (a.off+vs.length) l.length=true:=by exact rfl) (hl':Z1 l a.off vs=l':=by exact rfl) (h:K (Zbe S dst undef) D B (L.set j ((a.block,.cells l'.toArray T (0,0)) :: r))):opW P n ops i ⟨dst,.store t x y,ty,pos,after,g⟩ K S D B L:=Zq (ZV  vs j l' hg hd hsz hx hy hv ho hj hs hlen hl' h)
theorem xB  {t:TypeId} {z:Value} {pl:List (Nat × Nat)} {vs:List Value} (parts:List (Nat × Operand)) (zl l':List Value) (hpl:ZbI P t=some pl) (hz:Zad P t=some z) (hg:Zi ops S g=some true:=by exact rfl) (hd:Zr n dst=true:=by exact rfl) (hzl:z.cells.toList=zl:=by exact rfl) (ha:evs S (parts.map (·.2))=some vs:=by exact rfl) (hf:Zg4 (fun i=>pl[i]?) zl ((parts.map (·.1)).zip vs)=some l':=by exact rfl) (h:K (Zbe S dst (.agg l'.toArray)) D B L):opW P n ops i ⟨dst,.build t parts.toArray,ty,pos,after,g⟩ K S D B L:=Zq (Zav (parts:=parts) zl l' hg hd hpl hz hzl ha hf h)
theorem xAl  {t:TypeId} {z:Value} (l:List Value) (hz:Zad P t=some z) (hg:Zi ops S g=some true:=by exact rfl) (hd:Zr n dst=true:=by exact rfl) (hl:z.cells=l.toArray:=by exact rfl) (h :∀b,K (Zbe S dst (ptr ⟨b,0,none⟩)) D B (L ++ [Zap b l t])):opW P n ops i ⟨dst,.alloc t,ty,pos,after,g⟩ K S D B L:=Zq (Zbj (l:=l) hg hd hz hl h)
theorem xBx  {t:TypeId} {x:Operand} {v:Value} (l:List Value)  (hg:Zi ops S g=some true:=by exact rfl) (hd:Zr n dst=true:=by exact rfl) (hx:ev S x=some v:=by exact rfl) (hl:v.cells=l.toArray:=by exact rfl) (h :∀b,K (Zbe S dst (ptr ⟨b,0,none⟩)) D B (L ++ [Zap b l t])):opW P n ops i ⟨dst,.box t x,ty,pos,after,g⟩ K S D B L:=Zq (Zsn (l:=l) hg hd hx hl h)
theorem xIx  {t:TypeId} {e:TypeId} {x:Operand} {y:Operand} {k:IntKind} {b:Nat} {o:Nat} {len:Nat} {cap:Nat} {sz:Nat} {ix:Int}  (hu:P.underlying t=some (.slice e)) (hsz:ZL P e=some sz) (hg:Zi ops S g=some true:=by exact rfl) (hd:Zr n dst=true:=by exact rfl) (hx:ev S x=some (.slice (some ⟨b,o,none⟩) len cap):=by exact rfl) (hy:ev S y=some (.int k ix):=by exact rfl) (h0:0≤ix:=by first | omega | (simp;done) | (simp;omega)) (h1:ix<len:=by first | omega | (simp;done) | (simp;omega)) (h:K (Zbe S dst (ptr ⟨b,o+ix.toNat*sz,none⟩)) D B L):opW P n ops i ⟨dst,.indexAddr t x y,ty,pos,after,g⟩ K S D B L:=Zq (Zse  hg hd hu hsz hx hy h0 h1 h)
theorem xIp  {t:TypeId} {e:TypeId} {x:Operand} {y:Operand} {k:IntKind} {p:Option Addr} {b:Nat} {len:Nat} {cap:Nat} {sz:Nat} {ix:Int}  (hp:p=some ⟨b,0,none⟩) (hu:P.underlying t=some (.slice e)) (hsz:ZL P e=some sz) (hg:Zi ops S g=some true:=by exact rfl) (hd:Zr n dst=true:=by exact rfl) (hx:ev S x=some (.slice p len cap):=by exact rfl) (hy:ev S y=some (.int k ix):=by exact rfl) (h0:0≤ix:=by first | omega | (simp;done) | (simp;omega)) (h1:ix<len:=by first | omega | (simp;done) | (simp;omega)) (h:K (Zbe S dst (ptr ⟨b,ix.toNat*sz,none⟩)) D B L):opW P n ops i ⟨dst,.indexAddr t x y,ty,pos,after,g⟩ K S D B L:=Zq (ZjC  hp hg hd hu hsz hx hy h0 h1 h)
theorem xR  {f:FuncId} {xs:List Operand} {vs:List Value} {ats:Array TypeId} {v:Value}  (he:enters P f=true) (ha:evs S xs=some vs) (hc:Zaa P f vs B v) (hg:Zi ops S g=some true:=by exact rfl) (hd:Zr n dst=true:=by exact rfl) (h:K (Zbe S dst v) D B L):opW P n ops i ⟨dst,.call ⟨.value (.func f),xs.toArray,ats⟩,ty,pos,after,g⟩ K S D B L:=Zq (Zae  hg hd he ha hc h)
theorem xC  {f:FuncId} {xs:List Operand} {vs:List Value} {ats:Array TypeId} {Post:Value→Kn→List Cells→Prop}  (he:enters P f=true) (ha:evs S xs=some vs) (hc:ZA P f vs B [] Post) (hg:Zi ops S g=some true:=by exact rfl) (hd:Zr n dst=true:=by exact rfl) (h :∀v B' Ls',B.le B'→Post v B' Ls'→K (Zbe S dst v) D B' (L ++ Ls')):opW P n ops i ⟨dst,.call ⟨.value (.func f),xs.toArray,ats⟩,ty,pos,after,g⟩ K S D B L:=Zq (ZaD  hg hd he ha hc h)
theorem xQ  {f:FuncId} {xs:List Operand} {vs:List Value} {ats:Array TypeId} {Post:Value→Kn→Prop}  (he:enters P f=true) (ha:evs S xs=some vs) (hc:ZA P f vs B [] (fun v B' Ls=>Ls=[]∧Post v B')) (hg:Zi ops S g=some true:=by exact rfl) (hd:Zr n dst=true:=by exact rfl) (h :∀v B',B.le B'→Post v B'→K (Zbe S dst v) D B' L):opW P n ops i ⟨dst,.call ⟨.value (.func f),xs.toArray,ats⟩,ty,pos,after,g⟩ K S D B L:=Zq (ZqL  hg hd he ha hc h)
theorem xK  {f:FuncId} {xs:List Operand} {vs:List Value} {ats:Array TypeId} {Post:Value→Kn→List Cells→Prop} {ss:List Cells} {r:List Cells}  (js:List Nat) (hp:Zas L js=some (ss,r)) (he:enters P f=true) (ha:evs S xs=some vs) (hc:ZA P f vs B ss Post) (hn:Zd0 js=true:=by exact rfl) (hg:Zi ops S g=some true:=by exact rfl) (hd:Zr n dst=true:=by exact rfl) (h :∀v B' Ls',B.le B'→Post v B' Ls'→K (Zbe S dst v) D B' (Zcd r js Ls')):opW P n ops i ⟨dst,.call ⟨.value (.func f),xs.toArray,ats⟩,ty,pos,after,g⟩ K S D B L:=Zq (ZdU  js hp hn hg hd he ha hc h)
theorem xBs  {t:TypeId} {e:TypeId} {len:Nat} {sz:Nat} {z:Value} {vs:List Value} (parts:List (Nat × Operand)) (l':List Value) (hu:P.underlying t=some (.slice e)) (hsz:ZL P e=some sz) (hz:Zad P e=some z) (hg:Zi ops S g=some true:=by exact rfl) (hd:Zr n dst=true:=by exact rfl) (hbig:Nat.ble (len*sz) 1024=true:=by exact rfl) (hidx:parts.map (·.1)=List.range len:=by exact rfl) (ha:evs S (parts.map (·.2))=some vs:=by exact rfl) (hall:vs.all (fun v=>Nat.beq v.cells.toList.length sz)=true:=by exact rfl) (hl':(vs.map fun v=>v.cells.toList).flatten=l':=by exact rfl) (h :∀b,K (Zbe S dst (.slice (some ⟨b,0,none⟩) len len)) D B (L ++ [Zap b l' e])):opW P n ops i ⟨dst,.buildSlice t len parts.toArray,ty,pos,after,g⟩ K S D B L:=Zq (Zu (parts:=parts) l' hg hd hu hsz hz hbig hidx ha hall hl' h)
end
section
variable {P:PJ} {n:Nat} {ops:Array Oper} {K:Z5} {S:Env} {D:List Deferred} {B:Kn} {L:List Cells}
variable {dst:Option Tmp} {ty:TypeId} {pos:String} {after:Array Edge} {g:Option (Nat × Bool)} {t u:TypeId} {x y:Operand}
theorem aT {C:Cx P} {k':List Item} {I:Kn→List Cells→Prop} {ℓ:List Nat} (i:Nat) {o:Oper} {v:Value} (hi:ops[i]? = some o) (hq:quiet P n ops I i o v (sel (o.looksAt ops) S)) (hr:(Zaz ops ℓ).contains i=true:=by kernel_rfl) (hd:Zr n o.dst=true:=by exact rfl) (hp:Zhn o=false:=by rfl) (h:Za5 C k' n ops I (i :: ℓ) K (Zbe S o.dst v) D B L):Za5 C k' n ops I ℓ K S D B L:=ZpP i hi hr hd hq h hp
theorem r4 {α β γ δ:Type} {a:α} {b:β} {c:γ} {d:δ} : a=a∧b=b∧c=c∧d=d:=⟨rfl,rfl,rfl,rfl⟩
variable {C:Cx P} {k':List Item} {I:Kn→List Cells→Prop} {ℓ:List Nat}
theorem aM  {x:Operand} {v:Value} (i:Nat) (hii:ops[i]? = some ⟨dst,.move x,ty,pos,after,g⟩)  (hrr:(Zaz ops ℓ).contains i=true:=by kernel_rfl) (hdd:Zr n dst=true:=by exact rfl) (hg:Zi ops (sel ((⟨dst,.move x,ty,pos,after,g⟩:Oper).looksAt ops) S) g=some true:=by exact rfl) (hd:Zr n dst=true:=by exact rfl) (hx:ev (sel ((⟨dst,.move x,ty,pos,after,g⟩:Oper).looksAt ops) S) x=some v:=by exact rfl) (h:Za5 C k' n ops I (i :: ℓ) K (Zbe S dst v) D B L):Za5 C k' n ops I ℓ K S D B L:=Z8 i hii hrr hdd (fun _ _ _=>Zgi hg hd hx ⟨rfl,rfl,rfl,rfl⟩) h
theorem aA  {x:Operand} {v:Value} (i:Nat) (hii:ops[i]? = some ⟨dst,.assign x,ty,pos,after,g⟩)  (hrr:(Zaz ops ℓ).contains i=true:=by kernel_rfl) (hdd:Zr n dst=true:=by exact rfl) (hg:Zi ops (sel ((⟨dst,.assign x,ty,pos,after,g⟩:Oper).looksAt ops) S) g=some true:=by exact rfl) (hd:Zr n dst=true:=by exact rfl) (hx:ev (sel ((⟨dst,.assign x,ty,pos,after,g⟩:Oper).looksAt ops) S) x=some v:=by exact rfl) (h:Za5 C k' n ops I (i :: ℓ) K (Zbe S dst v) D B L):Za5 C k' n ops I ℓ K S D B L:=Z8 i hii hrr hdd (fun _ _ _=>Zcr hg hd hx ⟨rfl,rfl,rfl,rfl⟩) h
theorem aZ  {dst:Option Tmp} {op:Op} {t:TypeId} {pos:String} {after:Array Edge} {g:Option (Nat × Bool)} (i:Nat) (hii:ops[i]? = some ⟨dst,op,t,pos,after,g⟩)  (hrr:(Zaz ops ℓ).contains i=true:=by kernel_rfl) (hdd:Zr n dst=true:=by exact rfl) (hg:Zi ops (sel ((⟨dst,op,t,pos,after,g⟩:Oper).looksAt ops) S) g=some false:=by exact rfl) (hd:Zr n dst=true:=by exact rfl) (h:Za5 C k' n ops I (i :: ℓ) K (Zbe S dst undef) D B L):Za5 C k' n ops I ℓ K S D B L:=Z8 i hii hrr hdd (fun _ _ _=>Zp1 hg hd ⟨rfl,rfl,rfl,rfl⟩) h
theorem aPT  {c:Operand} {a:Operand} {b:Operand} {v:Value} (i:Nat) (hii:ops[i]? = some ⟨dst,.pick c a b,ty,pos,after,g⟩)  (hrr:(Zaz ops ℓ).contains i=true:=by kernel_rfl) (hdd:Zr n dst=true:=by exact rfl) (hg:Zi ops (sel ((⟨dst,.pick c a b,ty,pos,after,g⟩:Oper).looksAt ops) S) g=some true:=by exact rfl) (hd:Zr n dst=true:=by exact rfl) (hc:ev (sel ((⟨dst,.pick c a b,ty,pos,after,g⟩:Oper).looksAt ops) S) c=some (.bool true):=by exact rfl) (hx:ev (sel ((⟨dst,.pick c a b,ty,pos,after,g⟩:Oper).looksAt ops) S) a=some v:=by exact rfl) (h:Za5 C k' n ops I (i :: ℓ) K (Zbe S dst v) D B L):Za5 C k' n ops I ℓ K S D B L:=Z8 i hii hrr hdd (fun _ _ _=>Zmu hg hd hc hx ⟨rfl,rfl,rfl,rfl⟩) h
theorem aPF  {c:Operand} {a:Operand} {b:Operand} {v:Value} (i:Nat) (hii:ops[i]? = some ⟨dst,.pick c a b,ty,pos,after,g⟩)  (hrr:(Zaz ops ℓ).contains i=true:=by kernel_rfl) (hdd:Zr n dst=true:=by exact rfl) (hg:Zi ops (sel ((⟨dst,.pick c a b,ty,pos,after,g⟩:Oper).looksAt ops) S) g=some true:=by exact rfl) (hd:Zr n dst=true:=by exact rfl) (hc:ev (sel ((⟨dst,.pick c a b,ty,pos,after,g⟩:Oper).looksAt ops) S) c=some (.bool false):=by exact rfl) (hx:ev (sel ((⟨dst,.pick c a b,ty,pos,after,g⟩:Oper).looksAt ops) S) b=some v:=by exact rfl) (h:Za5 C k' n ops I (i :: ℓ) K (Zbe S dst v) D B L):Za5 C k' n ops I ℓ K S D B L:=Z8 i hii hrr hdd (fun _ _ _=>Zmv hg hd hc hx ⟨rfl,rfl,rfl,rfl⟩) h
theorem aE  {x:Operand} {ix:Nat} {vs:List Value} {v:Value} (i:Nat) (hii:ops[i]? = some ⟨dst,.extract x ix,ty,pos,after,g⟩)  (hrr:(Zaz ops ℓ).contains i=true:=by kernel_rfl) (hdd:Zr n dst=true:=by exact rfl) (hg:Zi ops (sel ((⟨dst,.extract x ix,ty,pos,after,g⟩:Oper).looksAt ops) S) g=some true:=by exact rfl) (hd:Zr n dst=true:=by exact rfl) (hx:ev (sel ((⟨dst,.extract x ix,ty,pos,after,g⟩:Oper).looksAt ops) S) x=some (.tuple vs.toArray):=by exact rfl) (hi:vs[ix]? = some v:=by exact rfl) (h:Za5 C k' n ops I (i :: ℓ) K (Zbe S dst v) D B L):Za5 C k' n ops I ℓ K S D B L:=Z8 i hii hrr hdd (fun _ _ _=>Zio hg hd hx hi ⟨rfl,rfl,rfl,rfl⟩) h
theorem aW  {s:TypeId} {x:Operand} {fi:Nat} {off:Nat} {a:Addr} (i:Nat) (hii:ops[i]? = some ⟨dst,.fieldAddr s x fi,ty,pos,after,g⟩) (hf:Zw P s fi=some off) (hrr:(Zaz ops ℓ).contains i=true:=by kernel_rfl) (hdd:Zr n dst=true:=by exact rfl) (hg:Zi ops (sel ((⟨dst,.fieldAddr s x fi,ty,pos,after,g⟩:Oper).looksAt ops) S) g=some true:=by exact rfl) (hd:Zr n dst=true:=by exact rfl) (hx:ev (sel ((⟨dst,.fieldAddr s x fi,ty,pos,after,g⟩:Oper).looksAt ops) S) x=some (ptr a):=by exact rfl) (h:Za5 C k' n ops I (i :: ℓ) K (Zbe S dst (ptr (a.add off))) D B L):Za5 C k' n ops I ℓ K S D B L:=Z8 i hii hrr hdd (fun _ _ _=>ZeL hg hd hf hx ⟨rfl,rfl,rfl,rfl⟩) h
theorem aN  {x:Operand} {b:Bool} {t:TypeId} (i:Nat) (hii:ops[i]? = some ⟨dst,.unOp .not t x,ty,pos,after,g⟩)  (hrr:(Zaz ops ℓ).contains i=true:=by kernel_rfl) (hdd:Zr n dst=true:=by exact rfl) (hg:Zi ops (sel ((⟨dst,.unOp .not t x,ty,pos,after,g⟩:Oper).looksAt ops) S) g=some true:=by exact rfl) (hd:Zr n dst=true:=by exact rfl) (hx:ev (sel ((⟨dst,.unOp .not t x,ty,pos,after,g⟩:Oper).looksAt ops) S) x=some (.bool b):=by exact rfl) (h:Za5 C k' n ops I (i :: ℓ) K (Zbe S dst (.bool (!b))) D B L):Za5 C k' n ops I ℓ K S D B L:=Z8 i hii hrr hdd (fun _ _ _=>Zr6 hg hd hx ⟨rfl,rfl,rfl,rfl⟩) h
theorem aNc  {x:Operand} {a:Addr} (i:Nat) (hii:ops[i]? = some ⟨dst,.nilCheck x,ty,pos,after,g⟩)  (hrr:(Zaz ops ℓ).contains i=true:=by kernel_rfl) (hdd:Zr n dst=true:=by exact rfl) (hg:Zi ops (sel ((⟨dst,.nilCheck x,ty,pos,after,g⟩:Oper).looksAt ops) S) g=some true:=by exact rfl) (hd:Zr n dst=true:=by exact rfl) (hx:ev (sel ((⟨dst,.nilCheck x,ty,pos,after,g⟩:Oper).looksAt ops) S) x=some (.pointer (some a)):=by exact rfl) (h:Za5 C k' n ops I (i :: ℓ) K (Zbe S dst (.pointer (some a))) D B L):Za5 C k' n ops I ℓ K S D B L:=Z8 i hii hrr hdd (fun _ _ _=>Zg9 hg hd hx ⟨rfl,rfl,rfl,rfl⟩) h
theorem aV  {x:Operand} {t:TypeId} {e:TypeId} {p:Option Addr} {len:Nat} {cap:Nat} (i:Nat) (hii:ops[i]? = some ⟨dst,.call ⟨.builtin .len,#[x],#[t]⟩,ty,pos,after,g⟩) (hu:P.underlying t=some (.slice e)) (hrr:(Zaz ops ℓ).contains i=true:=by kernel_rfl) (hdd:Zr n dst=true:=by exact rfl) (hg:Zi ops (sel ((⟨dst,.call ⟨.builtin .len,#[x],#[t]⟩,ty,pos,after,g⟩:Oper).looksAt ops) S) g=some true:=by exact rfl) (hd:Zr n dst=true:=by exact rfl) (hx:ev (sel ((⟨dst,.call ⟨.builtin .len,#[x],#[t]⟩,ty,pos,after,g⟩:Oper).looksAt ops) S) x=some (.slice p len cap):=by exact rfl) (h:Za5 C k' n ops I (i :: ℓ) K (Zbe S dst (.int .i64 len)) D B L):Za5 C k' n ops I ℓ K S D B L:=Z8 i hii hrr hdd (fun _ _ _=>Zp5 hg hd hu hx ⟨rfl,rfl,rfl,rfl⟩) h
theorem ZkF  {k:IntKind} {a b:Int} (i:Nat) (hii:ops[i]? = some ⟨dst,.binOp .lss t x y u,ty,pos,after,g⟩)  (hrr:(Zaz ops ℓ).contains i=true:=by kernel_rfl) (hdd:Zr n dst=true:=by exact rfl) (hg:Zi ops (sel ((⟨dst,.binOp .lss t x y u,ty,pos,after,g⟩:Oper).looksAt ops) S) g=some true:=by exact rfl) (hd:Zr n dst=true:=by exact rfl) (hx:ev (sel ((⟨dst,.binOp .lss t x y u,ty,pos,after,g⟩:Oper).looksAt ops) S) x=some (.int k a):=by exact rfl) (hy:ev (sel ((⟨dst,.binOp .lss t x y u,ty,pos,after,g⟩:Oper).looksAt ops) S) y=some (.int k b):=by exact rfl) (h:Za5 C k' n ops I (i :: ℓ) K (Zbe S dst (.bool (decide (a<b)))) D B L):Za5 C k' n ops I ℓ K S D B L:=Z8 i hii hrr hdd (fun _ _ _=>Zsc hg hd hx hy ⟨rfl,rfl,rfl,rfl⟩) h
theorem ZrU  {k:IntKind} {a b:Int} (i:Nat) (hii:ops[i]? = some ⟨dst,.binOp .leq t x y u,ty,pos,after,g⟩)  (hrr:(Zaz ops ℓ).contains i=true:=by kernel_rfl) (hdd:Zr n dst=true:=by exact rfl) (hg:Zi ops (sel ((⟨dst,.binOp .leq t x y u,ty,pos,after,g⟩:Oper).looksAt ops) S) g=some true:=by exact rfl) (hd:Zr n dst=true:=by exact rfl) (hx:ev (sel ((⟨dst,.binOp .leq t x y u,ty,pos,after,g⟩:Oper).looksAt ops) S) x=some (.int k a):=by exact rfl) (hy:ev (sel ((⟨dst,.binOp .leq t x y u,ty,pos,after,g⟩:Oper).looksAt ops) S) y=some (.int k b):=by exact rfl) (h:Za5 C k' n ops I (i :: ℓ) K (Zbe S dst (.bool (decide (a≤b)))) D B L):Za5 C k' n ops I ℓ K S D B L:=Z8 i hii hrr hdd (fun _ _ _=>Zsd hg hd hx hy ⟨rfl,rfl,rfl,rfl⟩) h
theorem Zol  {k:IntKind} {a b:Int} (i:Nat) (hii:ops[i]? = some ⟨dst,.binOp .gtr t x y u,ty,pos,after,g⟩)  (hrr:(Zaz ops ℓ).contains i=true:=by kernel_rfl) (hdd:Zr n dst=true:=by exact rfl) (hg:Zi ops (sel ((⟨dst,.binOp .gtr t x y u,ty,pos,after,g⟩:Oper).looksAt ops) S) g=some true:=by exact rfl) (hd:Zr n dst=true:=by exact rfl) (hx:ev (sel ((⟨dst,.binOp .gtr t x y u,ty,pos,after,g⟩:Oper).looksAt ops) S) x=some (.int k a):=by exact rfl) (hy:ev (sel ((⟨dst,.binOp .gtr t x y u,ty,pos,after,g⟩:Oper).looksAt ops) S) y=some (.int k b):=by exact rfl) (h:Za5 C k' n ops I (i :: ℓ) K (Zbe S dst (.bool (decide (b<a)))) D B L):Za5 C k' n ops I ℓ K S D B L:=Z8 i hii hrr hdd (fun _ _ _=>Zsg hg hd hx hy ⟨rfl,rfl,rfl,rfl⟩) h
theorem Zvn  {k:IntKind} {a b:Int} (i:Nat) (hii:ops[i]? = some ⟨dst,.binOp .geq t x y u,ty,pos,after,g⟩)  (hrr:(Zaz ops ℓ).contains i=true:=by kernel_rfl) (hdd:Zr n dst=true:=by exact rfl) (hg:Zi ops (sel ((⟨dst,.binOp .geq t x y u,ty,pos,after,g⟩:Oper).looksAt ops) S) g=some true:=by exact rfl) (hd:Zr n dst=true:=by exact rfl) (hx:ev (sel ((⟨dst,.binOp .geq t x y u,ty,pos,after,g⟩:Oper).looksAt ops) S) x=some (.int k a):=by exact rfl) (hy:ev (sel ((⟨dst,.binOp .geq t x y u,ty,pos,after,g⟩:Oper).looksAt ops) S) y=some (.int k b):=by exact rfl) (h:Za5 C k' n ops I (i :: ℓ) K (Zbe S dst (.bool (decide (b≤a)))) D B L):Za5 C k' n ops I ℓ K S D B L:=Z8 i hii hrr hdd (fun _ _ _=>Zsh hg hd hx hy ⟨rfl,rfl,rfl,rfl⟩) h
theorem Ztl  {k:IntKind} {a b:Int} (i:Nat) (hii:ops[i]? = some ⟨dst,.binOp .eql t x y u,ty,pos,after,g⟩)  (hrr:(Zaz ops ℓ).contains i=true:=by kernel_rfl) (hdd:Zr n dst=true:=by exact rfl) (hg:Zi ops (sel ((⟨dst,.binOp .eql t x y u,ty,pos,after,g⟩:Oper).looksAt ops) S) g=some true:=by exact rfl) (hd:Zr n dst=true:=by exact rfl) (hx:ev (sel ((⟨dst,.binOp .eql t x y u,ty,pos,after,g⟩:Oper).looksAt ops) S) x=some (.int k a):=by exact rfl) (hy:ev (sel ((⟨dst,.binOp .eql t x y u,ty,pos,after,g⟩:Oper).looksAt ops) S) y=some (.int k b):=by exact rfl) (h:Za5 C k' n ops I (i :: ℓ) K (Zbe S dst (.bool (decide (a=b)))) D B L):Za5 C k' n ops I ℓ K S D B L:=Z8 i hii hrr hdd (fun _ _ _=>Zp9 hg hd hx hy ⟨rfl,rfl,rfl,rfl⟩) h
theorem Ztj  {k:IntKind} {a b:Int} (i:Nat) (hii:ops[i]? = some ⟨dst,.binOp .neq t x y u,ty,pos,after,g⟩)  (hrr:(Zaz ops ℓ).contains i=true:=by kernel_rfl) (hdd:Zr n dst=true:=by exact rfl) (hg:Zi ops (sel ((⟨dst,.binOp .neq t x y u,ty,pos,after,g⟩:Oper).looksAt ops) S) g=some true:=by exact rfl) (hd:Zr n dst=true:=by exact rfl) (hx:ev (sel ((⟨dst,.binOp .neq t x y u,ty,pos,after,g⟩:Oper).looksAt ops) S) x=some (.int k a):=by exact rfl) (hy:ev (sel ((⟨dst,.binOp .neq t x y u,ty,pos,after,g⟩:Oper).looksAt ops) S) y=some (.int k b):=by exact rfl) (h:Za5 C k' n ops I (i :: ℓ) K (Zbe S dst (.bool (decide (a≠b)))) D B L):Za5 C k' n ops I ℓ K S D B L:=Z8 i hii hrr hdd (fun _ _ _=>Zp3 hg hd hx hy ⟨rfl,rfl,rfl,rfl⟩) h
theorem Ztk  {a b:List UInt8} (i:Nat) (hii:ops[i]? = some ⟨dst,.binOp .eql t x y u,ty,pos,after,g⟩)  (hrr:(Zaz ops ℓ).contains i=true:=by kernel_rfl) (hdd:Zr n dst=true:=by exact rfl) (hg:Zi ops (sel ((⟨dst,.binOp .eql t x y u,ty,pos,after,g⟩:Oper).looksAt ops) S) g=some true:=by exact rfl) (hd:Zr n dst=true:=by exact rfl) (hx:ev (sel ((⟨dst,.binOp .eql t x y u,ty,pos,after,g⟩:Oper).looksAt ops) S) x=some (str a):=by exact rfl) (hy:ev (sel ((⟨dst,.binOp .eql t x y u,ty,pos,after,g⟩:Oper).looksAt ops) S) y=some (str b):=by exact rfl) (h:Za5 C k' n ops I (i :: ℓ) K (Zbe S dst (.bool (decide (a=b)))) D B L):Za5 C k' n ops I ℓ K S D B L:=Z8 i hii hrr hdd (fun _ _ _=>Zp8 hg hd hx hy ⟨rfl,rfl,rfl,rfl⟩) h
theorem ZeI  {a b:List UInt8} (i:Nat) (hii:ops[i]? = some ⟨dst,.binOp .neq t x y u,ty,pos,after,g⟩)  (hrr:(Zaz ops ℓ).contains i=true:=by kernel_rfl) (hdd:Zr n dst=true:=by exact rfl) (hg:Zi ops (sel ((⟨dst,.binOp .neq t x y u,ty,pos,after,g⟩:Oper).looksAt ops) S) g=some true:=by exact rfl) (hd:Zr n dst=true:=by exact rfl) (hx:ev (sel ((⟨dst,.binOp .neq t x y u,ty,pos,after,g⟩:Oper).looksAt ops) S) x=some (str a):=by exact rfl) (hy:ev (sel ((⟨dst,.binOp .neq t x y u,ty,pos,after,g⟩:Oper).looksAt ops) S) y=some (str b):=by exact rfl) (h:Za5 C k' n ops I (i :: ℓ) K (Zbe S dst (.bool (decide (a≠b)))) D B L):Za5 C k' n ops I ℓ K S D B L:=Z8 i hii hrr hdd (fun _ _ _=>Zp2 hg hd hx hy ⟨rfl,rfl,rfl,rfl⟩) h
theorem aD  {k:IntKind} {a b r:Int} (i:Nat) (hii:ops[i]? = some ⟨dst,.binOp .add t x y u,ty,pos,after,g⟩)  (hrr:(Zaz ops ℓ).contains i=true:=by kernel_rfl) (hdd:Zr n dst=true:=by exact rfl) (hg:Zi ops (sel ((⟨dst,.binOp .add t x y u,ty,pos,after,g⟩:Oper).looksAt ops) S) g=some true:=by exact rfl) (hd:Zr n dst=true:=by exact rfl) (hx:ev (sel ((⟨dst,.binOp .add t x y u,ty,pos,after,g⟩:Oper).looksAt ops) S) x=some (.int k a):=by exact rfl) (hy:ev (sel ((⟨dst,.binOp .add t x y u,ty,pos,after,g⟩:Oper).looksAt ops) S) y=some (.int k b):=by exact rfl) (hr:k.wrap (a+b)=r:=by first | exact ZbQ (by first | omega | (simp;done) | (simp;omega)) (by first | omega | (simp;done) | (simp;omega)) | exact rfl) (h:Za5 C k' n ops I (i :: ℓ) K (Zbe S dst (.int k r)) D B L):Za5 C k' n ops I ℓ K S D B L:=Z8 i hii hrr hdd (fun _ _ _=>Zfw hg hd hx hy hr ⟨rfl,rfl,rfl,rfl⟩) h
theorem aU  {k:IntKind} {a b r:Int} (i:Nat) (hii:ops[i]? = some ⟨dst,.binOp .sub t x y u,ty,pos,after,g⟩)  (hrr:(Zaz ops ℓ).contains i=true:=by kernel_rfl) (hdd:Zr n dst=true:=by exact rfl) (hg:Zi ops (sel ((⟨dst,.binOp .sub t x y u,ty,pos,after,g⟩:Oper).looksAt ops) S) g=some true:=by exact rfl) (hd:Zr n dst=true:=by exact rfl) (hx:ev (sel ((⟨dst,.binOp .sub t x y u,ty,pos,after,g⟩:Oper).looksAt ops) S) x=some (.int k a):=by exact rfl) (hy:ev (sel ((⟨dst,.binOp .sub t x y u,ty,pos,after,g⟩:Oper).looksAt ops) S) y=some (.int k b):=by exact rfl) (hr:k.wrap (a - b)=r:=by first | exact ZbQ (by first | omega | (simp;done) | (simp;omega)) (by first | omega | (simp;done) | (simp;omega)) | exact rfl) (h:Za5 C k' n ops I (i :: ℓ) K (Zbe S dst (.int k r)) D B L):Za5 C k' n ops I ℓ K S D B L:=Z8 i hii hrr hdd (fun _ _ _=>ZhD hg hd hx hy hr ⟨rfl,rfl,rfl,rfl⟩) h
theorem aIx  {t:TypeId} {e:TypeId} {x:Operand} {y:Operand} {k:IntKind} {b:Nat} {o:Nat} {len:Nat} {cap:Nat} {sz:Nat} {ix:Int} (i:Nat) (hii:ops[i]? = some ⟨dst,.indexAddr t x y,ty,pos,after,g⟩) (hu:P.underlying t=some (.slice e)) (hsz:ZL P e=some sz) (hrr:(Zaz ops ℓ).contains i=true:=by kernel_rfl) (hdd:Zr n dst=true:=by exact rfl) (hg:Zi ops (sel ((⟨dst,.indexAddr t x y,ty,pos,after,g⟩:Oper).looksAt ops) S) g=some true:=by exact rfl) (hd:Zr n dst=true:=by exact rfl) (hx:ev (sel ((⟨dst,.indexAddr t x y,ty,pos,after,g⟩:Oper).looksAt ops) S) x=some (.slice (some ⟨b,o,none⟩) len cap):=by exact rfl) (hy:ev (sel ((⟨dst,.indexAddr t x y,ty,pos,after,g⟩:Oper).looksAt ops) S) y=some (.int k ix):=by exact rfl) (h0:0≤ix:=by first | omega | (simp;done) | (simp;omega)) (h1:ix<len:=by first | omega | (simp;done) | (simp;omega)) (h:Za5 C k' n ops I (i :: ℓ) K (Zbe S dst (ptr ⟨b,o+ix.toNat*sz,none⟩)) D B L):Za5 C k' n ops I ℓ K S D B L:=Z8 i hii hrr hdd (fun _ _ _=>Zse hg hd hu hsz hx hy h0 h1 ⟨rfl,rfl,rfl,rfl⟩) h
end
section
variable {P:PJ} {n:Nat} {Q:Exit→Z5} {S:Env} {D:List Deferred} {B:Kn} {L:List Cells}
theorem tL1 {c:Code} {x0:Cells} (h:wpS P n c Q S D B [x0]):wpS P n c Q S D B [x0]:=h
theorem tL2 {c:Code} {x0 x1:Cells} (h:wpS P n c Q S D B [x0,x1]):wpS P n c Q S D B [x0,x1]:=h
theorem tL3 {c:Code} {x0 x1 x2:Cells} (h:wpS P n c Q S D B [x0,x1,x2]):wpS P n c Q S D B [x0,x1,x2]:=h
theorem tL4 {c:Code} {x0 x1 x2 x3:Cells} (h:wpS P n c Q S D B [x0,x1,x2,x3]):wpS P n c Q S D B [x0,x1,x2,x3]:=h
theorem tL5 {c:Code} {x0 x1 x2 x3 x4:Cells} (h:wpS P n c Q S D B [x0,x1,x2,x3,x4]):wpS P n c Q S D B [x0,x1,x2,x3,x4]:=h
theorem tL6 {c:Code} {x0 x1 x2 x3 x4 x5:Cells} (h:wpS P n c Q S D B [x0,x1,x2,x3,x4,x5]):wpS P n c Q S D B [x0,x1,x2,x3,x4,x5]:=h
theorem tL7 {c:Code} {x0 x1 x2 x3 x4 x5 x6:Cells} (h:wpS P n c Q S D B [x0,x1,x2,x3,x4,x5,x6]):wpS P n c Q S D B [x0,x1,x2,x3,x4,x5,x6]:=h
theorem tL8 {c:Code} {x0 x1 x2 x3 x4 x5 x6 x7:Cells} (h:wpS P n c Q S D B [x0,x1,x2,x3,x4,x5,x6,x7]):wpS P n c Q S D B [x0,x1,x2,x3,x4,x5,x6,x7]:=h
theorem tL9 {c:Code} {x0 x1 x2 x3 x4 x5 x6 x7 x8:Cells} (h:wpS P n c Q S D B [x0,x1,x2,x3,x4,x5,x6,x7,x8]):wpS P n c Q S D B [x0,x1,x2,x3,x4,x5,x6,x7,x8]:=h
theorem ZvT {c:Code} {x0 x1 x2 x3 x4 x5 x6 x7 x8 x9 x10 x11 x12:Cells} (h:wpS P n c Q S D B [x0,x1,x2,x3,x4,x5,x6,x7,x8,x9,x10,x11,x12]):wpS P n c Q S D B [x0,x1,x2,x3,x4,x5,x6,x7,x8,x9,x10,x11,x12]:=h
theorem wSk {K:Z5} (h:K S D B L):wpS P n .skip (thn K Q) S D B L:=ZY (Zo h)
theorem eR {rs:List ResultVar} {Post:Value→Kn→List Cells→Prop} {v:Value} (hr:Zcc P S B L rs [v]) (hp:Post v B []):Ze0 P rs Post .ret S [] B L:=Zs4 .ret (.inl rfl) [v] hr hp
theorem eN {rs:List ResultVar} {Post:Value→Kn→List Cells→Prop} {v:Value} (js:List Nat) {ss r:List Cells} (hp:Zas L js=some (ss,r)) (hr:Zcc P S B L rs [v]) (hq:Post v B ss):Ze0 P rs Post .ret S [] B L:=Zes .ret (.inl rfl) [v] js hp hr hq
theorem e1 {rs:List ResultVar} {Post:Value→Kn→List Cells→Prop} {v:Value} (j:Nat) {s:Cells} (hj:L[j]? = some s) (hr:Zcc P S B L rs [v]) (hp:Post v B [s]):Ze0 P rs Post .ret S [] B L:=ZrL .ret (.inl rfl) [v] j hj hr hp
end
theorem mT {α:Type} {R:Rel α} (h:Mono R:=by first | exact Zt.mono | exact Zn.mono | exact ZI.mono | exact Z9.mono | exact ZZ.mono | exact ZrV.mono | exact ZcT.mono | exact ZdQ.mono):Mono R:=h
theorem up1 {B B':Kn} {α1:Type} {q1:Option Addr} {c1 w1:Nat} {R1:Rel α1} {x1:List α1} (hle:B.le B') (h1:SlK B q1 c1 w1 R1 x1) (g1:Mono R1:=by exact mT):SlK B' q1 c1 w1 R1 x1:=h1.mono g1 hle
theorem up2 {B B':Kn} {α1:Type} {q1:Option Addr} {c1 w1:Nat} {R1:Rel α1} {x1:List α1} {α2:Type} {q2:Option Addr} {c2 w2:Nat} {R2:Rel α2} {x2:List α2} (hle:B.le B') (h1:SlK B q1 c1 w1 R1 x1) (h2:SlK B q2 c2 w2 R2 x2) (g1:Mono R1:=by exact mT) (g2:Mono R2:=by exact mT):SlK B' q1 c1 w1 R1 x1∧SlK B' q2 c2 w2 R2 x2:=⟨h1.mono g1 hle,h2.mono g2 hle⟩
theorem up3 {B B':Kn} {α1:Type} {q1:Option Addr} {c1 w1:Nat} {R1:Rel α1} {x1:List α1} {α2:Type} {q2:Option Addr} {c2 w2:Nat} {R2:Rel α2} {x2:List α2} {α3:Type} {q3:Option Addr} {c3 w3:Nat} {R3:Rel α3} {x3:List α3} (hle:B.le B') (h1:SlK B q1 c1 w1 R1 x1) (h2:SlK B q2 c2 w2 R2 x2) (h3:SlK B q3 c3 w3 R3 x3) (g1:Mono R1:=by exact mT) (g2:Mono R2:=by exact mT) (g3:Mono R3:=by exact mT):SlK B' q1 c1 w1 R1 x1∧SlK B' q2 c2 w2 R2 x2∧SlK B' q3 c3 w3 R3 x3:=⟨h1.mono g1 hle,h2.mono g2 hle,h3.mono g3 hle⟩
theorem up4 {B B':Kn} {α1:Type} {q1:Option Addr} {c1 w1:Nat} {R1:Rel α1} {x1:List α1} {α2:Type} {q2:Option Addr} {c2 w2:Nat} {R2:Rel α2} {x2:List α2} {α3:Type} {q3:Option Addr} {c3 w3:Nat} {R3:Rel α3} {x3:List α3} {α4:Type} {q4:Option Addr} {c4 w4:Nat} {R4:Rel α4} {x4:List α4} (hle:B.le B') (h1:SlK B q1 c1 w1 R1 x1) (h2:SlK B q2 c2 w2 R2 x2) (h3:SlK B q3 c3 w3 R3 x3) (h4:SlK B q4 c4 w4 R4 x4) (g1:Mono R1:=by exact mT) (g2:Mono R2:=by exact mT) (g3:Mono R3:=by exact mT) (g4:Mono R4:=by exact mT):SlK B' q1 c1 w1 R1 x1∧SlK B' q2 c2 w2 R2 x2∧SlK B' q3 c3 w3 R3 x3∧SlK B' q4 c4 w4 R4 x4:=⟨h1.mono g1 hle,h2.mono g2 hle,h3.mono g3 hle,h4.mono g4 hle⟩
theorem cB {P:PJ} {f:FuncId} {fn:Func} {code:Code} {rs:List ResultVar} (n:Nat) (hf:P.funcs[f]? = some fn) (hb:fn.body=some code:=by exact rfl) (hn:fn.ntmps=n:=by exact rfl) (hrs:fn.results.toList=rs:=by exact rfl) {args:List Value} (ha:args.length≤n:=by exact Nat.le_of_ble_eq_true rfl) {B:Kn} {Ls:List Cells} {Post:Value→Kn→List Cells→Prop} (h:wpS P n code (Ze0 P rs Post) (ZcR args 0) [] B Ls):ZA P f args B Ls Post:=ZgV n hf hb hn hrs ha h
end Go.BL
namespace Go.BL
open Go.Conc (G)
theorem Zv2 {P:PJ} {S:Env} {B:Kn} {L:List Cells} {rs:List ResultVar} {Post:Value→Kn→List Cells→Prop} (e:Exit) (he:e = .ret∨e = .normal) (vs:List Value) (js:List Nat) {ss ss' r:List Cells} {gl:Cells} (hp:Zas L js=some (ss,r)) (hpp:ss.flatten.Perm (ss'.flatten ++ gl)) (hr:Zcc P S B L rs vs) (hq:Post (ZcH vs) B ss'):Ze0 P rs Post e S [] B L:=
 ⟨he,rfl,vs,ss',hr,⟨gl ++ r.flatten,by
  rw [← List.append_assoc]
  exact (Zam js L ss r hp).trans (hpp.append_right r.flatten)⟩,hq⟩
end Go.BL
namespace Go.BL
open Go.Conc (G)
section
variable {P:PJ} {n:Nat} {ops:Array Oper} {i:Nat} {K:ZaC} {S:Env} {D:List Deferred} {B:Kn} {L:List Cells}
variable {dst:Option Tmp} {ty:TypeId} {pos:String} {after:Array Edge} {g:Option (Nat × Bool)}
theorem Zsm {x:Operand} {t e:TypeId} {p:Option Addr} {len cap:Nat} (hg:Zi ops S g=some true) (hd:Zr n dst=true) (hu:P.underlying t=some (.slice e)) (hx:ev S x=some (.slice p len cap)) (h:K (.int .i64 cap) D B L) :
  opX P n ops i ⟨dst,.call ⟨.builtin .cap,#[x],#[t]⟩,ty,pos,after,g⟩ K S D B L:=
 ZH hg hd (fun ρ hρ Q F q=>by
  simp only [execOp,resolve,Zg,Zm,invoke,builtin,Builtin.cap_,List.map_toArray,List.map_cons,List.map_nil,hρ x _ hx,List.getElem?_toArray,List.getElem?_cons_zero,Zl hu,goInt]
  exact q) h
theorem Zso {t u e:TypeId} {x y:Operand} {sz by_ m c d:Nat} {zd:Int} {q:IntKind} {p:Option Addr} {vs:List Value} (hg:Zi ops S g=some true) (hd:Zr n dst=true)
  (he:ZbC P t e sz by_=true) (hu:P.underlying u=some (.int q)) (hx:ev S x=some (.slice p m c)) (hy:ev S y=some (.int .i64 zd)) (hzd:zd=(d:Int)) (hs:Za6 B L.flatten p vs) (hvl:vs.length=m*sz) (hfit:c<m+d) (hb1:(m+d)*by_≤140737488355328)
  (h :∀b zs r0 c',zs.length=d*sz→(vs ++ zs ++ r0).length=c'*sz→m+d≤c'→K (.slice (some ⟨b,0,Option.none⟩) (m+d) c') D B (L ++ [Zap b (vs ++ zs ++ r0) e])):opX P n ops i ⟨dst,.call ⟨.builtin .append,#[x,y],#[t,u]⟩,ty,pos,after,g⟩ K S D B L:=
 ZcI hg hd fun ρ hρ F=>by
  subst hzd
  unfold ZbC at he
  split at he
  ·rename_i e' inf hut hie
   simp only [Bool.and_eq_true,beq_iff_eq] at he
   obtain ⟨⟨⟨⟨rfl,hsz⟩,hby⟩,hpos⟩,hz⟩:=he
   cases hzo:inf.zero with
   | none=>rw [hzo] at hz;cases hz
   | some z=>
    rw [hzo] at hz
    have hz':z.cells.size=sz:=by simpa using hz
    have hsi:ZL P e'=some sz:=by simp [ZL,hie,hsz]
    have hzi:Zad P e'=some z:=by simp [Zad,hie,hzo]
    have hpos':0<by_:=by simpa using hpos
    have hmb:m+d≤(m+d)*by_:=Nat.le_mul_of_pos_right _ hpos'
    have hdb:d*by_≤(m+d)*by_:=Nat.mul_le_mul_right _ (by omega)
    have hw:IntKind.i64.wrap (d:Int)=(d:Int):=ZbQ (by omega) (by omega)
    have hneg : ¬ ((d:Int)<0):=by omega
    have hbig0 : ¬ ((d:Int)*((by_:Nat):Int) > 2 ^ 48):=by
     rw [← Int.natCast_mul];omega
    simp only [execOp,resolve,Zg,Zm,invoke,builtin,Builtin.append_,List.map_toArray,List.map_cons,List.map_nil,hρ x _ hx,hρ y _ hy,List.getElem?_toArray,List.getElem?_cons_zero,List.getElem?_cons_succ,Zl hut,Zl hu,Zai hsi,asInt,asIntOf,hw,hneg,if_false,if_true,ZaE hie,hby,hbig0,Int.toNat_natCast,Bool.not_true,Bool.false_eq_true]
    rw [if_neg (by omega : ¬ m+d≤c)]
    have hbig : ¬ (Builtin.nextslicecap (m+d) c*by_ > 2 ^ 48):=by
     have h1:=Zd1 hfit
     have h2:Builtin.nextslicecap (m+d) c*by_≤2*(m+d)*by_:=Nat.mul_le_mul_right _ h1
     have h3:2*(m+d)*by_=2*((m+d)*by_):=by rw [Nat.mul_assoc]
     omega
    have hmax : ¬ (((m+d:Nat):Int) > IntKind.i64.max):=by
     have:IntKind.i64.max=9223372036854775807:=by decide
     omega
    have hby1:by_≠0:=by omega
    simp only [Zg,ZaE hie,hby,hbig,hmax,if_false,false_and]
    intro nc hf1 hf2
    obtain ⟨tt,rfl⟩:=hf2 rfl
    have hnc:m+d≤Question.cut (.appendCap (m+d) c e') tt:=by simp only [Question.cut];omega
    generalize Question.cut (.appendCap (m+d) c e') tt=nc at *
    simp only [Zg,ZaL,ZaE hie]
    refine ZfJ ?_
    rw [Zg]
    refine Zbf hs.app hvl ?_
    have fin :∀ws:List Value,ws.length=d*sz→hb P (do let rest:=Builtin.zeroCells z.cells (nc - (m+d));pure (.slice (some (← newRow e' (vs.toArray ++ ws.toArray ++ rest))) (m+d) nc)) (fun v=>hb P (pure (Next.value v)) (yields P n ⟨dst,.call ⟨.builtin .append,#[x,y],#[t,u]⟩,ty,pos,after,g⟩ K S D F)) B (L.flatten ++ F):=by
     intro ws hwl
     rw [Zg]
     refine ⟨rfl,fun b _ _=>?_⟩
     have hzs:(Builtin.zeroCells z.cells (nc - (m+d))).size=(nc - (m+d))*sz:=by rw [Zc5,hz']
     have harr:vs.toArray ++ ws.toArray ++ Builtin.zeroCells z.cells (nc - (m+d))=(vs ++ ws ++ (Builtin.zeroCells z.cells (nc - (m+d))).toList).toArray:=by
      apply Array.ext';simp
     simp only [ZaL,Zm]
     rw [harr]
     refine ⟨L ++ [Zap b (vs ++ ws ++ (Builtin.zeroCells z.cells (nc - (m+d))).toList) e'],⟨[],?_⟩,h _ _ _ _ hwl ?_ hnc⟩
     ·rw [List.flatten_append]
      simp only [List.flatten_cons,List.flatten_nil,List.append_nil]
      show ((b,Obj.cells (vs ++ ws ++ (Builtin.zeroCells z.cells (nc - (m+d))).toList).toArray e' (0,0)) :: (L.flatten ++ F)).Perm ((L.flatten ++ [(b,Obj.cells (vs ++ ws ++ (Builtin.zeroCells z.cells (nc - (m+d))).toList).toArray e' (0,0))]) ++ F)
      rw [List.append_assoc L.flatten]
      exact (List.perm_middle (a:=(b,Obj.cells (vs ++ ws ++ (Builtin.zeroCells z.cells (nc - (m+d))).toList).toArray e' (0,0))) (l₁:=L.flatten) (l₂:=F)).symm
     ·rw [List.length_append,List.length_append,hvl,hwl,Array.length_toList,hzs,← Nat.add_mul,← Nat.add_mul,Nat.add_sub_cancel' hnc]
    by_cases hd0:d*sz=0
    ·simp only [hd0,if_true,Zg,Zm,ZaU hzi]
     have:=fin [] (by simp [hd0])
     simpa only [Zg,Zm] using this
    ·simp only [hd0,if_false,Zg,Zm,ZaU hzi]
     have:=fin (Builtin.zeroCells z.cells d).toList (by rw [Array.length_toList,Zc5,hz'])
     simpa only [Zg,Zm,Array.toArray_toList] using this
  ·cases he
theorem Zqa {t u e:TypeId} {x y:Operand} {sz dl dc d2 c2 b o m:Nat} {q:Option Addr} {ws arr:List Value} {T:TypeId} {r:Cells} (j:Nat) (hj:L[j]? = some (Zap b arr T ++ r)) (hg:Zi ops S g=some true) (hd:Zr n dst=true)
  (ht:P.underlying t=some (.slice e)) (hsz:ZL P e=some sz) (hx:ev S x=some (.slice (some ⟨b,o,Option.none⟩) dl dc)) (hy:ev S y=some (.slice q d2 c2)) (hs:Za6 B L.flatten q ws) (hm:min d2 dl=m) (hl:ws.length=m*sz) (hone:ws.all Zew=true) (hb1:o+ws.length≤arr.length)
  (h:K (.int .i64 (m:Int)) D B (L.set j (Zap b (Z1 arr o ws) T ++ r))):opX P n ops i ⟨dst,.call ⟨.builtin .copy,#[x,y],#[t,u]⟩,ty,pos,after,g⟩ K S D B L:=
 ZcI hg hd fun ρ hρ F=>by
  subst hm
  obtain ⟨rr,hp1,_⟩:=ZM F [] hj
  have hset :∀l',((L.set j l').flatten ++ F).Perm (l' ++ rr):=fun l'=>by
   obtain ⟨r2,a1,a2⟩:=ZM F l' hj
   have:rr.Perm r2:=(List.perm_append_left_iff _).1 (hp1.symm.trans a1)
   exact a2.trans (List.Perm.append_left l' this.symm)
  simp only [execOp,resolve,Zg,Zm,invoke,builtin,Builtin.copy_,List.map_toArray,List.map_cons,List.map_nil,hρ x _ hx,hρ y _ hy,List.getElem?_toArray,List.getElem?_cons_zero,List.getElem?_cons_succ,Zl ht,Zai hsz,Builtin.lenOf]
  have ef:Builtin.firstCells sz (Nat.min d2 dl) (.slice q d2 c2)=Builtin.firstCells sz (Nat.min d2 dl) (.slice q (Nat.min d2 dl) c2):=by cases q <;> rfl
  rw [ef]
  refine Zbf (m:=Nat.min d2 dl) hs.app hl ?_
  simp only [Zg]
  refine ZbL (T:=T) (L₁:=r ++ rr) rfl ws 0 arr _ hone (by rw [List.append_assoc] at hp1;exact hp1) (by show o+0+ws.length≤_;omega) fun L' hp=>?_
  simp only [Zm,goInt]
  refine ⟨L.set j (Zap b (Z1 arr o ws) T ++ r),Sup.of (hp.trans ?_),h⟩
  refine List.Perm.trans ?_ (hset (Zap b (Z1 arr o ws) T ++ r)).symm
  rw [List.append_assoc]
  exact .refl _
end
end Go.BL
namespace Go.BL
open Go.Conc (G)
theorem Zms {w:Nat} {rows:List (List Value)} (h:wide w rows) :∀i,i≤rows.length→rows.flatten.take (i*w)=(rows.take i).flatten
 | i,hi=>by
  have e:rows.flatten=(rows.take i).flatten ++ (rows.drop i).flatten:=by rw [← List.flatten_append,List.take_append_drop]
  have hl:(rows.take i).flatten.length=i*w:=by
   rw [ZcA (fun r hr=>h r (List.mem_of_mem_take hr)),List.length_take,Nat.min_eq_left hi]
  rw [e,List.take_append_of_le_length (by omega),List.take_of_length_le (by omega)]
theorem Zmt {w:Nat} {rows:List (List Value)} (h:wide w rows) :∀i,i≤rows.length→rows.flatten.drop (i*w)=(rows.drop i).flatten
 | i,hi=>by
  have e:rows.flatten=(rows.take i).flatten ++ (rows.drop i).flatten:=by rw [← List.flatten_append,List.take_append_drop]
  have hl:(rows.take i).flatten.length=i*w:=by
   rw [ZcA (fun r hr=>h r (List.mem_of_mem_take hr)),List.length_take,Nat.min_eq_left hi]
  rw [e,List.drop_append_of_le_length (by omega),List.drop_of_length_le (by omega),List.nil_append]
theorem All3.ins {α:Type} {R:Zfv α} {rows:List (List Value)} {xs:List α} {s:Cells} (h:All3 R rows xs s) {row:List Value} {z:α} {ins:Cells} (hz:R row z ins) :∀i,i≤xs.length→∃s',All3 R (rows.take i ++ row :: rows.drop i) (xs.take i ++ z :: xs.drop i) s'∧s'.Perm (s ++ ins):=by
 induction h with
 | nil=>intro i hi;simp at hi;subst hi;exact ⟨ins ++ [],.cons hz .nil,by simp⟩
 | @cons row0 x0 ins0 rest rows xs h1 h2 ih=>
  intro i hi
  cases i with
  | zero=>exact ⟨ins ++ (ins0 ++ rest),.cons hz (.cons h1 h2),List.perm_append_comm⟩
  | succ i=>
   obtain ⟨s',e1,e2⟩:=ih i (by simpa using hi)
   refine ⟨ins0 ++ s',.cons h1 e1,?_⟩
   rw [List.append_assoc];exact List.Perm.append_left ins0 e2
theorem ZpR {α:Type} {R:Zfv α} {rows:List (List Value)} {xs:List α} {s:Cells} (h:All3 R rows xs s) (ho :∀row x ins,R row x ins→row.all Zew=true):rows.flatten.all Zew=true:=by
 induction h with
 | nil=>rfl
 | cons h1 h2 ih=>rw [List.flatten_cons,List.all_append,ho _ _ _ h1,ih];rfl
theorem ZaR.insert {α:Type} {l:Cells} {p:Option Addr} {c:Nat} {T:TypeId} {w:Nat} {R:Zfv α} {xs:List α} (h:ZaR l p c T w R xs) (ho :∀row x ins,R row x ins→row.all Zew=true) :
∃vs blk ins,l.Perm (blk ++ ins)∧Zfu blk p xs.length c T w vs∧vs.all Zew=true∧∀(i:Nat) (row:List Value) (z:α) (in0 blk':Cells) (p':Option Addr) (c':Nat),i≤xs.length→row.length=w→R row z in0→Zfu blk' p' (xs.length+1) c' T w (vs.take (i*w) ++ row ++ vs.drop (i*w))→
   ZaR (blk' ++ (ins ++ in0)) p' c' T w R (xs.take i ++ z :: xs.drop i):=by
 obtain ⟨rows,blk,ins,h1,h2,h3,h4⟩:=h
 refine ⟨rows.flatten,blk,ins,h3,h4,ZpR h1 ho,fun i row z in0 blk' p' c' hi hrow hR hv=>?_⟩
 obtain ⟨s',e1,e2⟩:=h1.ins hR i hi
 have hl:(xs.take i ++ z :: xs.drop i).length=xs.length+1:=by simp;omega
 have hir:i≤rows.length:=by rw [h1.len];exact hi
 refine ⟨_,blk',s',e1,fun r hr=>?_,List.Perm.append_left _ e2.symm,?_⟩
 ·rcases List.mem_append.1 hr with hr | hr
  ·exact h2 r (List.mem_of_mem_take hr)
  ·rcases List.mem_cons.1 hr with rfl | hr
   ·exact hrow
   ·exact h2 r (List.mem_of_mem_drop hr)
 ·rw [hl]
  rw [Zms h2 i hir,Zmt h2 i hir] at hv
  simpa [List.flatten_append] using hv
section
variable {P:PJ} {n:Nat} {ops:Array Oper} {i:Nat} {K:ZaC} {S:Env} {D:List Deferred} {B:Kn} {L:List Cells}
variable {dst:Option Tmp} {ty:TypeId} {pos:String} {after:Array Edge} {g:Option (Nat × Bool)}
theorem Zmz {t u e:TypeId} {x y:Operand} {sz by_ m c d c2:Nat} {p q:Option Addr} {vs ws:List Value} {l:Cells} (j:Nat) (hj:L[j]? = some l) (hv:Zfu l p m c e sz vs) (hg:Zi ops S g=some true) (hd:Zr n dst=true)
  (he:ZbC P t e sz by_=true) (hu:(match P.underlying u with | some (.slice _)=>true | _=>false)=true) (hx:ev S x=some (.slice p m c)) (hy:ev S y=some (.slice q d c2)) (hs:Za6 B L.flatten q ws) (hl:ws.length=d*sz) (hone:ws.all Zew=true) (hfit:m+d≤c)
  (h :∀l',Zfu l' p (m+d) c e sz (vs ++ ws)→K (.slice p (m+d) c) D B (L.set j l')):opX P n ops i ⟨dst,.call ⟨.builtin .append,#[x,y],#[t,u]⟩,ty,pos,after,g⟩ K S D B L:=
 ZcI hg hd fun ρ hρ F=>by
  unfold ZbC at he
  split at he
  ·rename_i e' inf hut hie
   simp only [Bool.and_eq_true,beq_iff_eq] at he
   obtain ⟨⟨⟨⟨rfl,hsz⟩,hby⟩,hpos⟩,hz⟩:=he
   cases hzo:inf.zero with
   | none=>rw [hzo] at hz;cases hz
   | some z=>
    rw [hzo] at hz
    have hz':z.cells.size=sz:=by simpa using hz
    have hsi:ZL P e'=some sz:=by simp [ZL,hie,hsz]
    have hzi:Zad P e'=some z:=by simp [Zad,hie,hzo]
    obtain ⟨du,hdu,hnoint⟩ :∃du,P.underlying u=some du∧(match du with | .slice _=>true | _=>false)=true:=by
     cases hq:P.underlying u with
     | none=>rw [hq] at hu;cases hu
     | some du=>exact ⟨du,rfl,by rw [hq] at hu;cases du <;> simp_all⟩
    obtain ⟨e2,rfl⟩ :∃e2,du = .slice e2:=by cases du <;> first | exact ⟨_,rfl⟩ | cases hnoint
    obtain ⟨rr,hp1,_⟩:=ZM F [] hj
    have hset :∀l',((L.set j l').flatten ++ F).Perm (l' ++ rr):=fun l'=>by
     obtain ⟨r2,a1,a2⟩:=ZM F l' hj
     have:rr.Perm r2:=(List.perm_append_left_iff l).1 (hp1.symm.trans a1)
     exact a2.trans (List.Perm.append_left l' this.symm)
    obtain ⟨hvl,hcase⟩:=hv
    simp only [execOp,resolve,Zg,Zm,invoke,builtin,Builtin.append_,List.map_toArray,List.map_cons,List.map_nil,hρ x _ hx,hρ y _ hy,List.getElem?_toArray,List.getElem?_cons_zero,List.getElem?_cons_succ,Zl hut,Zl hdu,Zai hsi,Bool.false_eq_true,if_false,Builtin.lenOf,Bool.not_false,if_true]
    rw [if_pos hfit]
    simp only [Zg]
    refine Zbf hs.app hl ?_
    rcases hcase with ⟨rfl,rfl,rfl,rfl⟩ | ⟨b,arr,rfl,ha,ht,rfl,hmc⟩
    ·simp only [Zm]
     obtain rfl:d=0:=by omega
     have hw:ws=[]:=List.eq_nil_of_length_eq_zero (by simpa using hl)
     have hvn:vs=[]:=List.eq_nil_of_length_eq_zero (by simpa using hvl)
     refine ⟨L,.of (.refl _),?_⟩
     have:=h [] ⟨by simp [hw,hvn],.inl ⟨rfl,rfl,rfl,rfl⟩⟩
     rwa [Zfa hj] at this
    ·simp only [Zg]
     have hoff:(Addr.add ⟨b,0,none⟩ (m*sz)).off=m*sz:=by unfold Addr.add;split <;> simp_all
     have hblk:(Addr.add ⟨b,0,none⟩ (m*sz)).block=b:=by unfold Addr.add;split <;> rfl
     have hspt:(Addr.add ⟨b,0,none⟩ (m*sz)).spot=none:=by unfold Addr.add;split <;> rfl
     have hlen:m*sz+ws.length≤arr.length:=by rw [ha,hl,← Nat.add_mul];exact Nat.mul_le_mul_right sz hfit
     refine ZbL (T:=e') (L₁:=rr) hspt ws 0 arr _ hone (by rw [hblk];exact hp1) (by rw [hoff,Nat.add_zero];exact hlen) fun L' hp=>?_
     simp only [Zm]
     rw [hblk,hoff,Nat.add_zero] at hp
     refine ⟨L.set j (Zap b (Z1 arr (m*sz) ws) e'),(Sup.of (hp.trans (hset (Zap b (Z1 arr (m*sz) ws) e')).symm)),h _ ⟨?_,.inr ⟨b,_,rfl,by rw [ZQ,ha],?_,rfl,hfit⟩⟩⟩
     ·rw [List.length_append,hvl,hl,Nat.add_mul]
     ·rw [Nat.add_mul,← hl,ZbW _ _ _ hlen,ht]
  ·cases he
theorem ZoA {α:Type} {R:Zfv α} {xs:List α} (z:α) {t u e:TypeId} {x y:Operand} {sz by_ m c c2:Nat} {p q:Option Addr} {row:List Value} {l:Cells} {inss r:List Cells} (j:Nat) (ks:List Nat) (hpk:Zas L (j :: ks)=some (l :: inss,r)) (hnd:Zd0 (j :: ks)=true) (hv:ZaR l p c e sz R xs) (hm:m=xs.length) (hg:Zi ops S g=some true) (hd:Zr n dst=true)
  (he:ZbC P t e sz by_=true) (hu:(match P.underlying u with | some (.slice _)=>true | _=>false)=true) (hx:ev S x=some (.slice p m c)) (hy:ev S y=some (.slice q 1 c2)) (hs:Za6 B L.flatten q row) (hone:row.all Zew=true) (hrl:row.length=sz) (ins0:Cells) (hi0:inss.flatten=ins0) (hr:R row z ins0) (hfit:xs.length+1≤c)
  (h :∀l',ZaR l' p c e sz R (xs ++ [z])→K (.slice p (xs ++ [z]).length c) D B (Zcd r (j :: ks) (l' :: inss.map fun _=>[]))):opX P n ops i ⟨dst,.call ⟨.builtin .append,#[x,y],#[t,u]⟩,ty,pos,after,g⟩ K S D B L:=by
 subst hm
 subst hi0
 obtain ⟨rows,blk,inn,h1,h2,h3,h4⟩:=hv
 have hpp:=Zam (j :: ks) L (l :: inss) r hpk
 have p1:L.flatten.Perm (blk ++ (inn ++ (inss.flatten ++ r.flatten))):=by
  refine hpp.trans ?_
  simp only [List.flatten_cons,List.append_assoc]
  refine (h3.append_right _).trans ?_
  rw [List.append_assoc]
 refine ZkZ (L':=[blk,inn ++ (inss.flatten ++ r.flatten)]) (K':=fun v D' B' L₁=>∃blk',L₁=[blk',inn ++ (inss.flatten ++ r.flatten)]∧v = .slice p (xs.length+1) c∧D'=D∧B'=B∧Zfu blk' p (xs.length+1) c e sz (rows.flatten ++ row)) ?_ ?_ ?_
 ·simpa using p1
 ·refine Zmz 0 rfl h4 hg hd he hu hx hy ?_ (by rw [hrl,Nat.one_mul]) hone hfit fun l' hv'=>⟨l',rfl,rfl,rfl,rfl,hv'⟩
  cases q with
  | none=>exact hs
  | some a=>
   intro jj v hjj
   exact (hs jj v hjj).perm (by simpa using p1)
 ·rintro v D' B' L₁ hle ⟨blk',rfl,rfl,rfl,rfl,hv'⟩
  have hnew:ZaR (blk' ++ (inn ++ inss.flatten)) p c e sz R (xs ++ [z]):=⟨rows ++ [row],blk',inn ++ inss.flatten,h1.snoc hr,fun r' hr'=>by
   rcases List.mem_append.1 hr' with hr' | hr'
   ·exact h2 r' hr'
   ·rw [List.mem_singleton.1 hr'];exact hrl,.refl _,by rw [List.length_append,List.flatten_append];simpa using hv'⟩
  refine ⟨_,?_,by have:=h _ hnew;rwa [List.length_append] at this⟩
  have hq:=ZbY ((blk' ++ (inn ++ inss.flatten)) :: inss.map fun _=>[]) r (j :: ks) (Zb1 hnd) (fun jj hj=>ZbZ (j :: ks) L (l :: inss) r hpk jj (.inr hj))
  have hnil:((inss.map fun _=>([]:Cells))).flatten=[]:=by
   clear hpk hpp h hnew hs h3 p1 hq
   induction inss with
   | nil=>rfl
   | cons a as ih=>simp
  rw [List.flatten_cons,hnil,List.append_nil] at hq
  refine List.Perm.trans ?_ hq
  simp only [List.flatten_cons,List.flatten_nil,List.append_nil,List.append_assoc]
  exact .refl _
end
theorem Zqc {B:Kn} {L:List Cells} {b0 o:Nat} {arr ws:List Value} {T:TypeId} (j:Nat) (hj:L[j]? = some (Zap b0 arr T)) (h :∀i v,ws[i]? = some v→arr[o+i]? = some v):Za6 B L.flatten (some ⟨b0,o,Option.none⟩) ws:=by
 intro i v hi
 rw [Addr.add_off _ _ rfl]
 exact ⟨rfl,arr.toArray,T,(0,0),.inr (List.mem_flatten.2 ⟨_,List.mem_of_getElem? hj,List.mem_cons_self ..⟩),by simpa using h i v hi⟩
theorem ZqW {B:Kn} {L:List Cells} {b0 n k w:Nat} {arr vs:List Value} {T:TypeId} (j:Nat) (hj:L[j]? = some (Zap b0 arr T)) (ht:arr.take (n*w)=vs) (hk:k≤n):Za6 B L.flatten (some ⟨b0,0,Option.none⟩) (vs.take (k*w)):=
 Zqc j hj fun i v hi=>by
  rw [List.getElem?_take] at hi
  split at hi
  ·rw [← ht,List.getElem?_take] at hi
   split at hi
   ·rw [Nat.zero_add];exact hi
   ·cases hi
  ·cases hi
theorem ZqX {B:Kn} {L:List Cells} {b0 n k w:Nat} {arr vs:List Value} {T:TypeId} (j:Nat) (hj:L[j]? = some (Zap b0 arr T)) (ht:arr.take (n*w)=vs) (hk:k≤n):Za6 B L.flatten (some ⟨b0,k*w,Option.none⟩) (vs.drop (k*w)):=
 Zqc j hj fun i v hi=>by
  rw [List.getElem?_drop,← ht,List.getElem?_take] at hi
  split at hi
  ·exact hi
  ·cases hi
theorem ZrS {vs:List Value} (h:vs.all Zew=true) {k:Nat} : (vs.drop k).all Zew=true:=by
 rw [List.all_eq_true] at h ⊢
 exact fun v hv=>h v (List.mem_of_mem_drop hv)
theorem Zrn {n k c9 b9 w:Nat} {T:TypeId} {vs row zs r0:List Value} (hrow:row.length=w) (hvl:vs.length=n*w) (hk:k≤n) (hz:zs.length=(n+1 - k)*w) (hal:(vs.take (k*w) ++ zs ++ r0).length=c9*w) (hc9:k+(n+1 - k)≤c9) :
  Zfu (Zap b9 (Z1 (Z1 (vs.take (k*w) ++ zs ++ r0) (k*w) row) ((k+1)*w) (vs.drop (k*w))) T ++ []) (some ⟨b9,0,Option.none⟩) (n+1) c9 T w (vs.take (k*w) ++ row ++ vs.drop (k*w)):=by
 have hkw:k*w≤n*w:=Nat.mul_le_mul_right _ hk
 have h1:(n+1)*w≤c9*w:=Nat.mul_le_mul_right _ (by omega)
 have e1:(k+1)*w=k*w+row.length:=by rw [Nat.succ_mul,hrow]
 have e2:(n+1)*w=k*w+row.length+(vs.drop (k*w)).length:=by rw [List.length_drop,hvl,hrow,Nat.succ_mul];omega
 have hl:(vs.take (k*w)).length=k*w:=by rw [List.length_take,hvl];omega
 have hb:k*w+row.length≤(vs.take (k*w) ++ zs ++ r0).length:=by rw [hal];omega
 refine ⟨?_,.inr ⟨b9,Z1 (Z1 (vs.take (k*w) ++ zs ++ r0) (k*w) row) ((k+1)*w) (vs.drop (k*w)),rfl,by rw [ZQ,ZQ,hal],?_,by rw [List.append_nil],by omega⟩⟩
 ·rw [List.length_append,List.length_append,hl,e2]
 ·have s2:=ZbW (vs.take (k*w) ++ zs ++ r0) (k*w) row hb
  have s1:=ZbW (Z1 (vs.take (k*w) ++ zs ++ r0) (k*w) row) (k*w+row.length) (vs.drop (k*w)) (by rw [ZQ,hal];omega)
  rw [e2,e1,s1,s2]
  congr 2
  rw [List.append_assoc,List.take_append_of_le_length (by omega),List.take_of_length_le (by omega)]
end Go.BL
namespace Go.BL
open Go.Conc (G)
section
variable {P:PJ} {n:Nat} {ops:Array Oper} {i:Nat} {K:ZaC} {S:Env} {D:List Deferred} {B:Kn} {L:List Cells}
variable {dst:Option Tmp} {ty:TypeId} {pos:String} {after:Array Edge} {g:Option (Nat × Bool)}
end
end Go.BL
namespace Go.BL
open Go
def Za3 (c:UInt8):Bool:=(decide (97≤c.toNat) && decide (c.toNat≤122)) || (decide (48≤c.toNat) && decide (c.toNat≤57))
def Zaf (l:List UInt8):Bool:=l.all Za3 && decide (1≤l.length) && decide (l.length≤8)
theorem ZpQ {l:List UInt8} {k:Nat} {c:UInt8} (hc:l[k]? = some c) (h:Za3 c=false):l.all Za3=false:=by
 rw [Bool.eq_false_iff];intro ha
 have:=List.all_eq_true.1 ha c (List.mem_of_getElem? hc)
 rw [h] at this;cases this
theorem Zll {l:List UInt8} {k:Nat} {c:UInt8} (hc:l[k]? = some c) (h:Za3 c=true) (ha:(l.take k).all Za3=true):(l.take (k+1)).all Za3=true:=by
 rw [List.take_add_one,hc];simp only [Option.toList_some,List.all_append,ha,List.all_cons,h,List.all_nil];rfl
def word (l:List UInt8) (i:Nat):List UInt8:=(l.drop i).takeWhile Za3
def ZcW (w:List UInt8):Bool:=decide (1≤w.length) && decide (w.length≤8)
theorem ZmY {o:Option UInt8} {f:UInt8→Bool} (h:(match o with | some c=>f c | none=>false)=true) :∃c,o=some c∧f c=true:=by
 cases o with
 | none=>cases h
 | some c=>exact ⟨c,rfl,h⟩
theorem Zbn {α:Type} {l:List α} {k:Nat} {c:α} (h:l[k]? = some c):k<l.length:=(List.getElem?_eq_some_iff.1 h).1
theorem Ze7 {p:UInt8→Bool} :∀{m:List UInt8} {k:Nat},(m.take k).all p=true→(∀c,m[k]? = some c→p c=false)→m.takeWhile p=m.take k
 | [],k,_,_=>by simp
 | c :: m,0,_,h=>by simp [List.takeWhile,h c rfl]
 | c :: m,k+1,ha,h=>by
  simp only [List.take_succ_cons,List.all_cons,Bool.and_eq_true] at ha
  simp only [List.takeWhile,ha.1,List.take_succ_cons]
  rw [Ze7 ha.2 (fun c hc=>h c (by simpa using hc))]
theorem Zot {l:List UInt8} {i k:Nat} (ha:((l.drop i).take k).all Za3=true) (h :∀c,l[i+k]? = some c→Za3 c=false):word l i=(l.drop i).take k:=
 Ze7 ha (fun c hc=>h c (by simpa using hc))
theorem ZeG {l:List UInt8} {i k:Nat} : (l.take (i+k)).drop i=(l.drop i).take k:=by
 rw [List.drop_take,Nat.add_sub_cancel_left]
theorem Zhc {a b c d:Value} (h:a=c) (h':b=d):Value.tuple #[a,b]=Value.tuple #[c,d]:=by rw [h,h']
def more:Nat→List UInt8→Nat→Bool × Nat
 | 0,_,i=>(true,i)
 | n+1,l,i=>if l[i]? = some 46 then (if ZcW (word l (i+1))=true then more n l (i+1+(word l (i+1)).length) else (false,i+1+(word l (i+1)).length)) else (true,i)
def dom (l:List UInt8) (i:Nat):Bool × Nat:=if ZcW (word l i)=true then more 2 l (i+(word l i).length) else (false,i+(word l i).length)
def ZgR (l:List UInt8) (i:Nat):List UInt8:=if (dom l i).1=true then (l.take (dom l i).2).drop i else []
def Zkv (l:List UInt8) (i:Nat):Bool:=(dom l i).1 && decide ((dom l i).2 - i≤20)
theorem Zku {l:List UInt8} {i:Nat} (h:ZcW (word l i)=false):dom l i=(false,i+(word l i).length):=by simp [dom,h]
theorem ZpH {l:List UInt8} {i:Nat} (h:ZcW (word l i)=true):dom l i=more 2 l (i+(word l i).length):=by simp [dom,h]
theorem Zge {l:List UInt8} {i:Nat} (h:i≤l.length):i+(word l i).length≤l.length:=by
 have:=List.IsPrefix.length_le (List.takeWhile_prefix Za3 (l:=l.drop i))
 rw [List.length_drop] at this
 unfold word;omega
theorem Zgx {l:List UInt8} {n j:Nat} (h : ¬ l[j]? = some 46):more n l j=(true,j):=by
 cases n with
 | zero=>rfl
 | succ n=>rw [more,if_neg h]
theorem Zpa {l:List UInt8} {n j:Nat} (hn:1≤n) (h:l[j]? = some 46) (hw:ZcW (word l (j+1))=false):more n l j=(false,j+1+(word l (j+1)).length):=by
 cases n with
 | zero=>omega
 | succ n=>rw [more,if_pos h,if_neg (by simp [hw])]
theorem Znj {l:List UInt8} {n j:Nat} (hn:1≤n) (h:l[j]? = some 46) (hw:ZcW (word l (j+1))=true):more n l j=more (n - 1) l (j+1+(word l (j+1)).length):=by
 cases n with
 | zero=>omega
 | succ n=>rw [more,if_pos h,if_pos hw];rfl
theorem Zdt {p:UInt8→Bool} :∀l:List UInt8,(l.takeWhile p).length=l.length↔l.all p=true
 | []=>by simp
 | c :: l=>by
  have h:=Zdt (p:=p) l
  cases hc:p c with
  | true=>simp [List.takeWhile,hc] at h ⊢;exact h
  | false=>simp [List.takeWhile,hc]
theorem ZcK {l:List UInt8} : Zaf l=(ZcW (word l 0) && decide ((word l 0).length=l.length)):=by
 have h:=Zdt (p:=Za3) l
 have e:word l 0=l.takeWhile Za3:=by simp [word]
 rw [Bool.eq_iff_iff]
 simp only [Zaf,ZcW,e,Bool.and_eq_true,decide_eq_true_eq]
 constructor
 ·rintro ⟨⟨h1,h2⟩,h3⟩
  have:=h.2 h1
  omega
 ·rintro ⟨⟨h1,h2⟩,h3⟩
  exact ⟨⟨h.1 h3,by omega⟩,by omega⟩
theorem Zni {l:List UInt8} :∀(n j:Nat),j≤l.length→(more n l j).2≤l.length
 | 0,j,h=>h
 | n+1,j,h=>by
  rw [more]
  split
  ·rename_i e
   have:=Zbn e
   have h2:=Zge (l:=l) (i:=j+1) (by omega)
   split
   ·exact Zni n _ h2
   ·exact h2
  ·exact h
theorem Zs8 {l:List UInt8} {i:Nat} (h:i≤l.length):(dom l i).2≤l.length:=by
 unfold dom
 have h2:=Zge h
 split
 ·exact Zni 2 _ h2
 ·exact h2
def glue (a:List UInt8):List (List UInt8)→List (List UInt8)
 | []=>[a]
 | p :: ps=>(a ++ p) :: ps
def cut (x:UInt8):List UInt8→List (List UInt8)
 | []=>[[]]
 | c :: r=>if c=x then [] :: cut x r else glue [c] (cut x r)
theorem Zlj (x:UInt8) :∀l,cut x l≠[]
 | []=>by simp [cut]
 | c :: r=>by
  rw [cut]
  split
  ·simp
  ·cases cut x r <;> simp [glue]
theorem Zla {m:List (List UInt8)} (h:m≠[]):glue [] m=m:=by
 cases m with
 | nil=>exact absurd rfl h
 | cons p ps=>rfl
theorem ZnH (a b:List UInt8) (m:List (List UInt8)):glue a (glue b m)=glue (a ++ b) m:=by
 cases m <;> simp [glue]
structure CutSt where
 i:Nat
 f:Nat
 m:Nat
 ps:List (List UInt8)
 q:Option Addr
 cp:Nat
 s:Cells
theorem ZtK {a b:UInt8} (h:(a.toNat:Int)=b.toNat):a=b:=UInt8.toNat_inj.1 (by exact_mod_cast h)
theorem ZrQ {l:List UInt8} {x c:UInt8} {i:Nat} (h:l[i]? = some c) (e:c=x):cut x (l.drop i)=[] :: cut x (l.drop (i+1)):=by
 obtain ⟨hlt,he⟩:=List.getElem?_eq_some_iff.1 h
 rw [List.drop_eq_getElem_cons hlt,he,cut,if_pos e]
theorem ZpJ {l:List UInt8} {x c:UInt8} {i:Nat} (h:l[i]? = some c) (e:c≠x):cut x (l.drop i)=glue [c] (cut x (l.drop (i+1))):=by
 obtain ⟨hlt,he⟩:=List.getElem?_eq_some_iff.1 h
 rw [List.drop_eq_getElem_cons hlt,he,cut,if_neg e]
theorem ZtJ {a b:UInt8} (h : ¬ (a.toNat:Int)=b.toNat):a≠b:=fun e=>h (by rw [e])
theorem ZmL {l:List UInt8} {c:UInt8} {i f:Nat} (h:l[i]? = some c) (hf:f≤i):(l.take i).drop f ++ [c]=(l.take (i+1)).drop f:=by
 have hlt:=Zbn h
 rw [List.take_add_one,h]
 simp only [Option.toList_some]
 rw [List.drop_append_of_le_length (by rw [List.length_take];omega)]
theorem Zpy (a:List UInt8) (m:List (List UInt8)):glue a ([] :: m)=a :: m:=by simp [glue]
def Zcl (l:List UInt8):Bool:=(cut 46 l).all Zaf && decide ((cut 46 l).length≤3) && decide (l.length≤20)
theorem Zpx {a:List UInt8} {m:List (List UInt8)} {n:Nat} (h :∀p,p∈m→p.length≤n) :∀p,p∈glue a m→p.length≤a.length+n:=by
 cases m with
 | nil=>intro p hp;simp [glue] at hp;subst hp;omega
 | cons q qs=>
  intro p hp
  simp only [glue,List.mem_cons] at hp
  rcases hp with rfl | hp
  ·rw [List.length_append];have:=h q (List.mem_cons_self ..);omega
  ·have:=h p (List.mem_cons_of_mem _ hp);omega
theorem Zkw (x:UInt8) :∀(l p:List UInt8),p∈cut x l→p.length≤l.length
 | [],p,h=>by simp [cut] at h;subst h;simp
 | c :: r,p,h=>by
  rw [cut] at h
  split at h
  ·rcases List.mem_cons.1 h with rfl | h
   ·simp
   ·have:=Zkw x r p h;simp;omega
  ·have:=Zpx (Zkw x r) p h;simp at this ⊢;omega
theorem Zjs {l:List (List UInt8)} {k:Nat} {c:List UInt8} (hc:l[k]? = some c) (h:Zaf c=false):l.all Zaf=false:=by
 rw [Bool.eq_false_iff];intro ha
 have:=List.all_eq_true.1 ha c (List.mem_of_getElem? hc)
 rw [h] at this;cases this
theorem ZgW {l:List (List UInt8)} {k:Nat} {c:List UInt8} (hc:l[k]? = some c) (h:Zaf c=true) (ha:(l.take k).all Zaf=true):(l.take (k+1)).all Zaf=true:=by
 rw [List.take_add_one,hc];simp only [Option.toList_some,List.all_append,ha,List.all_cons,h,List.all_nil];rfl
theorem Zji (x:UInt8) :∀l:List UInt8,(cut x l).length≤l.length+1
 | []=>by simp [cut]
 | c :: r=>by
  have h:=Zji x r
  rw [cut]
  split
  ·simp;omega
  ·cases hq:cut x r with
   | nil=>exact absurd hq (Zlj x r)
   | cons p ps=>rw [hq] at h;simp [glue] at h ⊢;omega
end Go.BL
namespace Go.BL
open Go
theorem Zie {x:UInt8} :∀{l:List UInt8},x ∉ l→cut x l=[l]
 | [],_=>rfl
 | c :: r,h=>by
  rw [cut,if_neg (fun e=>h (by rw [e];exact List.mem_cons_self ..)),Zie (fun hm=>h (List.mem_cons_of_mem _ hm))]
  rfl
theorem ZgS {x:UInt8} {b:List UInt8} :∀{a:List UInt8},x ∉ a→cut x (a ++ x :: b)=a :: cut x b
 | [],_=>by simp [cut]
 | c :: r,h=>by
  rw [List.cons_append,cut,if_neg (fun e=>h (by rw [e];exact List.mem_cons_self ..)),ZgS (fun hm=>h (List.mem_cons_of_mem _ hm))]
  rfl
theorem ZeO {x:UInt8} :∀{l:List UInt8},x∈l→∃a b,l=a ++ x :: b∧x ∉ a
 | c :: r,h=>by
  by_cases e:c=x
  ·exact ⟨[],r,by simp [e],by simp⟩
  ·have hr:x∈r:=(List.mem_cons.1 h).resolve_left (Ne.symm e)
   obtain ⟨a,b,h1,h2⟩:=ZeO hr
   exact ⟨c :: a,b,by simp [h1],by simp [Ne.symm e,h2]⟩
theorem Zg6 (l:List UInt8) (i j:Nat):word l (i+j)=word (l.drop i) j:=by
 unfold word;rw [List.drop_drop]
theorem Zhh (l:List UInt8) (i:Nat) :∀n j,more n l (i+j)=((more n (l.drop i) j).1,i+(more n (l.drop i) j).2)
 | 0,j=>rfl
 | n+1,j=>by
  simp only [more,List.getElem?_drop]
  rw [show i+j+1=i+(j+1) from by omega,Zg6]
  split
  ·split
   ·rw [show i+(j+1)+(word (l.drop i) (j+1)).length=i+(j+1+(word (l.drop i) (j+1)).length) from by omega,Zhh l i n]
   ·simp only [Prod.mk.injEq,true_and];omega
  ·rfl
theorem Zou {l:List UInt8} (h:l.all Za3=true):word l 0=l:=by
 have:=(Zdt (p:=Za3) l).2 h
 have h2:=List.takeWhile_prefix Za3 (l:=l)
 simp only [word,List.drop_zero]
 exact List.IsPrefix.eq_of_length h2 this
theorem ZfS {a b:List UInt8} {x:UInt8} (hx:Za3 x=false) (h:a.all Za3=true):word (a ++ x :: b) 0=a:=by
 simp only [word,List.drop_zero]
 induction a with
 | nil=>simp [List.takeWhile,hx]
 | cons c a ih=>
  simp only [List.all_cons,Bool.and_eq_true] at h
  simp only [List.cons_append,List.takeWhile,h.1,ih h.2]
theorem ZfR {a:List UInt8} (b:List UInt8) (h:a.all Za3=false):(word (a ++ b) 0).length<a.length∧word (a ++ b) 0=word a 0:=by
 simp only [word,List.drop_zero]
 induction a with
 | nil=>simp at h
 | cons c a ih=>
  cases hc:Za3 c with
  | false=>simp [List.takeWhile,hc]
  | true=>
   have h':a.all Za3=false:=by simpa [hc] using h
   have:=ih h'
   simp only [List.cons_append,List.takeWhile,hc,List.length_cons]
   exact ⟨by omega,by rw [this.2]⟩
theorem Zrt {a:List UInt8} (b:List UInt8) {k:Nat} (h:k<a.length):(a ++ b)[k]? = a[k]?:=List.getElem?_append_left h
theorem ZgG {x:UInt8} {a:List UInt8} (h:x ∉ a) (k:Nat):a[k]?≠some x:=fun e=>h (List.mem_of_getElem? e)
theorem Znd :∀(n:Nat) (b:List UInt8),(ZcW (word b 0)=true∧more n b (word b 0).length=(true,b.length))↔((cut 46 b).all Zaf=true∧(cut 46 b).length≤n+1):=by
 intro n
 induction n with
 | zero=>
  intro b
  by_cases hd:(46:UInt8)∈b
  ·obtain ⟨a,r,rfl,ha⟩:=ZeO hd
   rw [ZgS ha]
   have hlen:(word (a ++ 46 :: r) 0).length≤a.length:=by
    cases hna:a.all Za3 with
    | true=>rw [ZfS (by decide) hna];exact Nat.le_refl _
    | false=>exact Nat.le_of_lt (ZfR _ hna).1
   constructor
   ·rintro ⟨_,h2⟩
    simp only [more,Prod.mk.injEq,true_and] at h2
    rw [List.length_append,List.length_cons] at h2
    omega
   ·rintro ⟨_,h2⟩
    have:=Zlj 46 r
    simp only [List.length_cons] at h2
    exact absurd (List.eq_nil_of_length_eq_zero (by omega)) this
  ·rw [Zie hd]
   simp only [more,List.all_cons,List.all_nil,Bool.and_true,List.length_cons,List.length_nil,Nat.zero_add,Nat.le_refl,and_true,Prod.mk.injEq,true_and,ZcK,Bool.and_eq_true,decide_eq_true_eq]
 | succ n ih=>
  intro b
  by_cases hd:(46:UInt8)∈b
  ·obtain ⟨a,r,rfl,ha⟩:=ZeO hd
   rw [ZgS ha]
   cases hna:a.all Za3 with
   | true=>
    rw [ZfS (by decide) hna]
    have hg:(a ++ 46 :: r)[a.length]? = some 46:=by simp
    have hdr:(a ++ 46 :: r).drop (a.length+1)=r:=by rw [List.drop_append];simp
    have hw:word (a ++ 46 :: r) (a.length+1)=word r 0:=by
     have:=Zg6 (a ++ 46 :: r) (a.length+1) 0
     rw [Nat.add_zero,hdr] at this;exact this
    have hm:more n (a ++ 46 :: r) (a.length+1+(word r 0).length)=((more n r (word r 0).length).1,a.length+1+(more n r (word r 0).length).2):=by
     rw [Zhh,hdr]
    simp only [more,hg,if_true,hw,hm,List.all_cons,Bool.and_eq_true,List.length_cons]
    have hna':Zaf a=ZcW a:=by rw [ZcK,Zou hna];simp
    have hi:=ih r
    constructor
    ·rintro ⟨h1,h2⟩
     split at h2
     ·rename_i h3
      simp only [Prod.mk.injEq,List.length_append,List.length_cons] at h2
      have:=hi.1 ⟨h3,by ext1;exact h2.1;simp only [];omega⟩
      exact ⟨⟨by rw [hna'];exact h1,this.1⟩,by omega⟩
     ·simp at h2
    ·rintro ⟨⟨h1,h2⟩,h3⟩
     obtain ⟨h4,h5⟩:=hi.2 ⟨h2,by omega⟩
     refine ⟨by rw [← hna'];exact h1,?_⟩
     rw [if_pos h4,h5]
     simp;omega
   | false=>
    obtain ⟨h1,h2⟩:=ZfR (46 :: r) hna
    have hne:Zaf a=false:=by simp [Zaf,hna]
    constructor
    ·rintro ⟨_,h3⟩
     rw [Zgx (by rw [Zrt _ h1];exact ZgG ha _)] at h3
     simp only [Prod.mk.injEq,true_and,List.length_append,List.length_cons] at h3
     omega
    ·rintro ⟨h3,_⟩
     simp [hne] at h3
  ·rw [Zie hd]
   rw [Zgx (ZgG hd _)]
   simp only [List.all_cons,List.all_nil,Bool.and_true,List.length_cons,List.length_nil,Prod.mk.injEq,true_and,ZcK,Bool.and_eq_true,decide_eq_true_eq]
   constructor
   ·rintro ⟨h1,h2⟩;exact ⟨⟨h1,h2⟩,by omega⟩
   ·rintro ⟨⟨h1,h2⟩,_⟩;exact ⟨h1,h2⟩
theorem Zjf (b:List UInt8):((dom b 0).1=true∧(dom b 0).2≤20∧(dom b 0).2=b.length)↔Zcl b=true:=by
 have h:=Znd 2 b
 simp only [Zcl,Bool.and_eq_true,decide_eq_true_eq]
 constructor
 ·rintro ⟨h1,h2,h3⟩
  cases hw:ZcW (word b 0) with
  | false=>simp [dom,hw] at h1
  | true=>
   simp only [dom,hw,if_true,Nat.zero_add] at h1 h2 h3
   have:=h.1 ⟨hw,by ext1;exact h1;exact h3⟩
   exact ⟨⟨this.1,this.2⟩,by omega⟩
 ·rintro ⟨⟨h1,h2⟩,h3⟩
  obtain ⟨h4,h5⟩:=h.2 ⟨h1,h2⟩
  simp only [dom,h4,if_true,Nat.zero_add,h5]
  exact ⟨trivial,h3,trivial⟩
end Go.BL
namespace Go.BL
open Go
theorem ZaM {α:Type} {p:α→Prop} {l:List α} {k:Nat} {x:α} (hx:l[k]? = some x) (h :∀y,y∈l.take k→p y) (hp:p x) :∀y,y∈l.take (k+1)→p y:=by
 intro y hy
 rw [List.take_add_one,hx] at hy
 simp only [Option.toList_some,List.mem_append,List.mem_singleton] at hy
 rcases hy with hy | rfl
 ·exact h y hy
 ·exact hp
def Zho (us:List DUser) (u:Str):Int:=match us.findIdx? (fun x=>decide (x.name=u)) with | some i=>i | none=>-1
theorem Zpk {us:List DUser} {u:Str} {k:Nat} {x:DUser} (hx:us[k]? = some x) (he:x.name=u) (h :∀y,y∈us.take k→y.name≠u):Zho us u=k:=by
 have:us.findIdx? (fun x=>decide (x.name=u))=some k:=by
  rw [List.findIdx?_eq_some_iff_getElem]
  obtain ⟨hk,rfl⟩:=List.getElem?_eq_some_iff.1 hx
  refine ⟨hk,by simpa using he,fun j hj=>?_⟩
  have:=h us[j] (by rw [List.mem_take_iff_getElem];exact ⟨j,by omega,rfl⟩)
  simpa using this
 rw [Zho,this]
theorem Znz {us:List DUser} {u:Str} (h :∀y,y∈us→y.name≠u):Zho us u = -1:=by
 have:us.findIdx? (fun x=>decide (x.name=u))=none:=by
  rw [List.findIdx?_eq_none_iff]
  intro x hx
  simpa using h x hx
 rw [Zho,this]
theorem Zbw {α:Type} {as bs:List α} {k:Nat} {x y:α} (hx:as[k]? = some x) (hy:bs[k]? = some y) (e:x=y) (h:as.take k=bs.take k):as.take (k+1)=bs.take (k+1):=by
 rw [List.take_add_one,List.take_add_one,hx,hy,e,h]
theorem ZfN {α:Type} {as bs:List α} {inst:Decidable (as=bs)} (h : ¬ (as.length:Int)=bs.length):false=decide (as=bs):=by
 symm;rw [decide_eq_false_iff_not];intro e;exact h (by rw [e])
theorem Zer {α:Type} {as bs:List α} {inst:Decidable (as=bs)} {k:Nat} {x y:α} (hx:as[k]? = some x) (hy:bs[k]? = some y) (e : ¬ x=y):false=decide (as=bs):=by
 symm;rw [decide_eq_false_iff_not];intro h;rw [h,hy] at hx;exact e (Option.some.inj hx).symm
theorem eqT {α:Type} {as bs:List α} {inst:Decidable (as=bs)} {k:Nat} (hl:as.length=bs.length) (hk:k=as.length) (h:as.take k=bs.take k):true=decide (as=bs):=by
 symm;rw [decide_eq_true_eq]
 rw [List.take_of_length_le (by omega),List.take_of_length_le (by omega)] at h;exact h
theorem Zv0 {α:Type} {as:List α} {x:α} {inst:Decidable (x∈as)} (h :∀y,y∈as→y≠x):false=decide (x∈as):=by
 symm;rw [decide_eq_false_iff_not];intro hx;exact h x hx rfl
theorem ZvZ {α:Type} {as:List α} {x y:α} {inst:Decidable (x∈as)} {k:Nat} (hy:as[k]? = some y) (e:y=x):true=decide (x∈as):=by
 symm;rw [decide_eq_true_eq];subst e;exact List.mem_of_getElem? hy
theorem Zbc {α:Type} {p:α→Prop} {l:List α} {k:Nat} (hk : ¬ (k:Int)<l.length) (h :∀y,y∈l.take k→p y) :∀y,y∈l→p y:=by
 rwa [List.take_of_length_le (by omega)] at h
theorem Zic {α:Type} {l:List α} {k:Nat} {x:α} (h:l[k]? = some x):l.drop k=x :: l.drop (k+1):=by
 obtain ⟨hlt,he⟩:=List.getElem?_eq_some_iff.1 h
 rw [List.drop_eq_getElem_cons hlt,he]
theorem Zn7 {α:Type} {l:List α} {k:Nat} (h : ¬ (k:Int)<l.length):l.drop k=[]:=List.drop_eq_nil_of_le (by omega)
def Zcm (l:List Str):Bool:=l.all Zaf && decide l.Nodup && decide (l.length≤3)
def Zca (x:DLetter):Bool:=Zaf x.fr && Zcm x.to_ && decide (0<x.to_.length) && decide (x.text.length≤20)
def Zd4 (x:DItem):Bool:=Zca ⟨x.fr,x.left,x.text⟩
def Zda:Int→List DItem→Option Int
 | last,[]=>some last
 | last,x :: r=>if (last+1≤x.id∧x.id≤99)∧Zd4 x=true then Zda x.id r else none
def ZaK (q:DQueue):Bool:=match Zda 0 q.items with
 | some last=>decide (last+1≤q.next) && decide (q.next≤100) && decide (q.items.length≤6)
 | none=>false
theorem Znc {α:Type} {l:List α} {k:Nat} {x:α} (hx:l[k]? = some x) (h:(l.take k).Nodup) (hn : ¬ x∈l.take k):(l.take (k+1)).Nodup:=by
 rw [List.take_add_one,hx]
 simp only [Option.toList_some]
 rw [List.nodup_append]
 exact ⟨h,by simp,fun a ha b hb=>by rw [List.mem_singleton.1 hb];exact fun e=>hn (e ▸ ha)⟩
theorem Zrb {α:Type} {l:List α} {k:Nat} {x:α} (hx:l[k]? = some x) (h:x∈l.take k) : ¬ l.Nodup:=by
 intro hn
 have e:l=l.take k ++ l.drop k:=(List.take_append_drop k l).symm
 rw [e,Zic hx,List.nodup_append] at hn
 exact hn.2.2 x h x (List.mem_cons_self ..) rfl
theorem ZfY {l:List Str} {k:Nat} {x:Str} (hx:l[k]? = some x) (h:Zaf x=false):false=Zcm l:=by
 simp [Zcm,Zjs hx h]
theorem ZfX {l:List Str} {k:Nat} {x:Str} (hx:l[k]? = some x) (h:x∈l.take k):false=Zcm l:=by
 simp [Zcm,Zrb hx h]
theorem Zgw {l:List Str} {k:Nat} (hk : ¬ (k:Int)<l.length) (ha:(l.take k).all Zaf=true) (hn:(l.take k).Nodup):decide ((l.length:Int)≤3)=Zcm l:=by
 rw [List.take_of_length_le (by omega)] at ha hn
 rw [Bool.eq_iff_iff];simp only [Zcm,ha,decide_eq_true hn,Bool.true_and,decide_eq_true_eq];omega
def ZeD {α:Type} (p:α→Bool) (xs:List α):Int:=match xs.findIdx? p with | some i=>i | none=>-1
theorem Zga {α:Type} {p:α→Bool} {xs:List α} {k:Nat} {x:α} (hx:xs[k]? = some x) (he:p x=true) (h :∀y,y∈xs.take k→p y=false):ZeD p xs=k:=by
 have:xs.findIdx? p=some k:=by
  rw [List.findIdx?_eq_some_iff_getElem]
  obtain ⟨hk,rfl⟩:=List.getElem?_eq_some_iff.1 hx
  refine ⟨hk,he,fun j hj=>?_⟩
  have:=h xs[j] (by rw [List.mem_take_iff_getElem];exact ⟨j,by omega,rfl⟩)
  simpa using this
 rw [ZeD,this]
theorem Zd6 {α:Type} {p:α→Bool} {xs:List α} (h :∀y,y∈xs→p y=false):ZeD p xs = -1:=by
 have:xs.findIdx? p=none:=by
  rw [List.findIdx?_eq_none_iff]
  intro x hx
  simpa using h x hx
 rw [ZeD,this]
theorem Zf9 {α:Type} {p:α→Bool} {xs:List α} : (0≤ZeD p xs)↔∃x,x∈xs∧p x=true:=by
 cases h:xs.findIdx? p with
 | none=>
  rw [List.findIdx?_eq_none_iff] at h
  simp only [ZeD,List.findIdx?_eq_none_iff.2 h]
  refine ⟨fun e=>absurd e (by omega),fun ⟨x,hx,hp⟩=>?_⟩
  rw [h x hx] at hp;cases hp
 | some i=>
  simp only [ZeD,h]
  rw [List.findIdx?_eq_some_iff_getElem] at h
  obtain ⟨hi,hp,_⟩:=h
  exact ⟨fun _=>⟨_,List.getElem_mem hi,hp⟩,fun _=>by omega⟩
def Zt7 (xs:List Str) (v:Str):Int:=ZeD (fun x=>decide (x=v)) xs
theorem Zpl {xs:List Str} {v:Str} : (0≤Zt7 xs v)↔v∈xs:=by
 rw [Zt7,Zf9];simp
theorem ZkX {q:DQueue} (h:Zda 0 q.items=none):false=ZaK q:=by simp [ZaK,h]
theorem ZkW {q:DQueue} {last:Int} (h:Zda 0 q.items=some last):(decide (last+1≤q.next) && decide (q.next≤100) && decide (q.items.length≤6))=ZaK q:=by simp [ZaK,h]
theorem ZmZ {q:DQueue} {k:Nat} {last:Int} {x:DItem} (hs:Zda 0 q.items=Zda last (q.items.drop k)) (hx:q.items[k]? = some x):Zda 0 q.items=if (last+1≤x.id∧x.id≤99)∧Zd4 x=true then Zda x.id (q.items.drop (k+1)) else none:=by
 rw [hs,Zic hx,Zda]
theorem Zd3 (x:DLetter):Zca x=(Zaf x.fr && (decide (1≤x.to_.length) && Zcm x.to_) && decide ((x.text.length:Int)≤20)):=by
 rw [Bool.eq_iff_iff];simp only [Zca,Bool.and_eq_true,decide_eq_true_eq]
 constructor
 ·rintro ⟨⟨⟨a,b⟩,c⟩,d⟩;exact ⟨⟨a,by omega,b⟩,by omega⟩
 ·rintro ⟨⟨a,c,b⟩,d⟩;exact ⟨⟨⟨a,b⟩,by omega⟩,by omega⟩
structure Gh (α:Type) where
 k:Nat
 p:Nat
 l:Cells
 a:Option Addr
 c:Nat
 xs:List α
theorem Zcb {α:Type} {l:List α} {k:Nat} {x:α} (hx:l[k]? = some x):l.take (k+1)=l.take k ++ [x]:=by
 rw [List.take_add_one,hx];rfl
theorem Zm0 :∀{xs:List DItem} {l r:Int},Zda l xs=some r→l≤r
 | [],l,r,h=>by simp only [Zda,Option.some.injEq] at h;omega
 | x :: xs,l,r,h=>by
  rw [Zda] at h
  split at h
  ·rename_i e;have:=Zm0 h;omega
  ·cases h
theorem ZdX {q:DQueue} (h:ZaK q=true):1≤q.next∧q.next≤100∧q.items.length≤6:=by
 unfold ZaK at h
 split at h
 ·rename_i last e
  have:=Zm0 e
  simp only [Bool.and_eq_true,decide_eq_true_eq] at h
  omega
 ·cases h
structure Gh2 (α β:Type) where
 k:Nat
 p:Nat
 l:Cells
 a:Option Addr
 c:Nat
 xs:List α
 e:β
theorem Zn6 {α:Type} {xs:List α} {j:Nat} {y:α} (h:xs[j]? = some y):xs.drop j=y :: xs.drop (j+1):=by
 obtain ⟨hj,rfl⟩:=List.getElem?_eq_some_iff.1 h
 exact List.drop_eq_getElem_cons hj
structure QOf where
 p:Option Addr
 ys:List DItem
 xs:List DItem
 l:Cells
 q:Option Addr
 c:Nat
 cells:Cells
theorem ZU.slice0 {α:Type} {B:Kn} {l:Cells} {p:Option Addr} {c:Nat} {T:TypeId} {w sz:Nat} {R:Rel α} {xs:List α} (h:ZU B l p c T w R xs):(if c=0 then p else p.map (fun a=>a.add (0*sz)))=p:=by
 obtain ⟨rows,_,_,_,⟨rfl,_,rfl,_⟩ | ⟨b,arr,rfl,_,_,_,_⟩⟩:=h
 ·rfl
 ·split
  ·rfl
  ·rw [Nat.zero_mul];simp [Addr.add_off]
theorem ZfE {q:DQueue} (h : ¬ (q.items.length≤6∧1≤q.next∧q.next≤100)):false=ZaK q:=by
 symm;rw [Bool.eq_false_iff];intro hq
 have:=ZdX hq
 omega
end Go.BL
namespace Go.BL
open Go
def hat (xs:List Int) (k:Nat):Int:=xs.getD k 0
def swp (xs:List Int) (i j:Nat):List Int:=(xs.set i (hat xs j)).set j (hat xs i)
def ZcV (xs:List Int):Prop:=∀k,0<k→k<xs.length→hat xs ((k - 1) / 2)≤hat xs k
def Ze2 (xs:List Int) (j:Nat):Prop:=(∀k,0<k→k<xs.length→k≠j→hat xs ((k - 1) / 2)≤hat xs k)∧(∀k,0<k→k<xs.length→(k - 1) / 2=j→0<j→hat xs ((j - 1) / 2)≤hat xs k)
theorem Zrs {xs:List Int} {k:Nat} {a:Int} (h:xs[k]? = some a):hat xs k=a:=by simp [hat,List.getD,h]
theorem ZaF {xs:List Int} {k:Nat} (h:k<xs.length):xs[k]? = some (hat xs k):=by simp [hat,List.getD,List.getElem?_eq_getElem h]
theorem ZcF (xs:List Int) (i j:Nat):(swp xs i j).length=xs.length:=by simp [swp]
theorem Zd7 {xs:List Int} {i j:Nat} (hi:i<xs.length) (hj:j<xs.length) (k:Nat):hat (swp xs i j) k=if k=j then hat xs i else if k=i then hat xs j else hat xs k:=by
 simp only [hat,swp,List.getD,List.getElem?_set]
 by_cases h1:k=j
 ·subst h1;simp [hj]
 ·have h1' : ¬j=k:=fun h=>h1 h.symm
  by_cases h2:k=i
  ·subst h2;simp [hi,h1,h1']
  ·have h2' : ¬i=k:=fun h=>h2 h.symm
   simp [h1,h1',h2,h2']
theorem Ze8 {xs:List Int} {i j:Nat} (hi:i<xs.length) (hj:j<xs.length):(swp xs i j).Perm xs:=by
 rw [List.perm_iff_count]
 intro a
 unfold swp
 rw [List.count_set (by simpa using hj),List.count_set hi]
 have e1:(xs.set i (hat xs j))[j]'(by simpa using hj)=hat xs j:=by
  rw [List.getElem_set];split
  ·rfl
  ·simp [hat,List.getD,List.getElem?_eq_getElem hj]
 have e2:xs[i]=hat xs i:=by simp [hat,List.getD,List.getElem?_eq_getElem hi]
 rw [e1,e2]
 have hp :∀v,(v == a)=true→v∈xs→0<List.count a xs:=fun v hv hm=>by
  rw [beq_iff_eq] at hv;subst hv;exact List.count_pos_iff.2 hm
 have hm1:hat xs i∈xs:=by rw [← e2];exact List.getElem_mem _
 by_cases h1:(hat xs i == a)=true <;> by_cases h2:(hat xs j == a)=true <;> simp [h1,h2] <;> (try have:=hp _ h1 hm1;omega)
theorem ZqN {xs:List Int} (h:Ze2 xs 0):ZcV xs:=fun k h0 hk=>h.1 k h0 hk (by omega)
theorem ZqP {xs:List Int} {j:Nat} (h:Ze2 xs j) (hj:hat xs ((j - 1) / 2)≤hat xs j):ZcV xs:=fun k h0 hk=>by
 by_cases e:k=j
 ·subst e;exact hj
 ·exact h.1 k h0 hk e
theorem ZqO {xs:List Int} {j:Nat} (h0:0<j) (hj:j<xs.length) (h:Ze2 xs j) (hlt:hat xs j<hat xs ((j - 1) / 2)):Ze2 (swp xs ((j - 1) / 2) j) ((j - 1) / 2):=by
 have hi:(j - 1) / 2<xs.length:=by omega
 have H:=fun k=>Zd7 hi hj k
 generalize hii:(j - 1) / 2=i at *
 refine ⟨fun k hk0 hk hne=>?_,fun k hk0 hk hpar hi0=>?_⟩
 ·rw [ZcF] at hk
  rw [H,H]
  by_cases e1:k=j
  ·subst e1
   rw [hii];rw [if_neg (by omega),if_pos rfl,if_pos rfl];omega
  ·rw [if_neg e1,if_neg hne]
   by_cases e2:(k - 1) / 2=j
   ·rw [if_pos e2];have:=h.2 k hk0 hk e2 h0;rw [hii] at this;exact this
   ·rw [if_neg e2]
    by_cases e3:(k - 1) / 2=i
    ·rw [if_pos e3];have:=h.1 k hk0 hk e1;rw [e3] at this;omega
    ·rw [if_neg e3];exact h.1 k hk0 hk e1
 ·rw [ZcF] at hk
  rw [H,H]
  have hpi:(i - 1) / 2≠i:=by omega
  have hpj:(i - 1) / 2≠j:=by omega
  rw [if_neg hpj,if_neg hpi]
  have hii2:=h.1 i hi0 hi (by omega)
  by_cases e1:k=j
  ·rw [if_pos e1];exact hii2
  ·rw [if_neg e1,if_neg (by omega)]
   have:=h.1 k hk0 hk e1;rw [hpar] at this;omega
theorem Zpp {xs:List Int} (h:ZcV xs) :∀k,k<xs.length→hat xs 0≤hat xs k:=fun k=>by
 induction k using Nat.strongRecOn with
 | ind k ih=>
  intro hk
  by_cases h0:k=0
  ·subst h0;exact Int.le_refl _
  ·have h1:=ih ((k - 1) / 2) (by omega) (by omega)
   have h2:=h k (by omega) hk
   omega
def ZpX (xs:List Int) (n:Nat):Prop:=∀k,0<k→k<n→hat xs ((k - 1) / 2)≤hat xs k
def Zeg (xs:List Int) (n i:Nat):Prop:=(∀k,0<k→k<n→(k - 1) / 2≠i→hat xs ((k - 1) / 2)≤hat xs k)∧(∀k,0<k→k<n→(k - 1) / 2=i→0<i→hat xs ((i - 1) / 2)≤hat xs k)
theorem Zn8 {xs:List Int} {n i:Nat} (h:Zeg xs n i) (hl:n≤2*i+1):ZpX xs n:=fun k h0 hk=>h.1 k h0 hk (by omega)
theorem ZgQ {xs:List Int} {n i:Nat} (h:Zeg xs n i) (hc :∀k,0<k→k<n→(k - 1) / 2=i→hat xs i≤hat xs k):ZpX xs n:=fun k h0 hk=>by
 by_cases e:(k - 1) / 2=i
 ·rw [e];exact hc k h0 hk e
 ·exact h.1 k h0 hk e
theorem ZgP {xs:List Int} {n i j:Nat} (hn:n≤xs.length) (hj0:0<j) (hj:j<n) (hpj:(j - 1) / 2=i) (h:Zeg xs n i) (hmin :∀k,0<k→k<n→(k - 1) / 2=i→hat xs j≤hat xs k) (hlt:hat xs j<hat xs i):Zeg (swp xs i j) n j:=by
 have hi:i<xs.length:=by omega
 have hij:i≠j:=by omega
 have H:=fun k=>Zd7 hi (show j<xs.length by omega) k
 refine ⟨fun k hk0 hk hne=>?_,fun k hk0 hk hpar _=>?_⟩
 ·rw [H,H,if_neg hne]
  by_cases e1:k=j
  ·subst e1;rw [if_pos hpj,if_pos rfl];omega
  ·rw [if_neg e1]
   by_cases e2:(k - 1) / 2=i
   ·rw [if_pos e2,if_neg (by omega)];exact hmin k hk0 hk e2
   ·rw [if_neg e2]
    by_cases e3:k=i
    ·rw [if_pos e3];subst e3;exact h.2 j hj0 hj hpj hk0
    ·rw [if_neg e3];exact h.1 k hk0 hk e2
 ·rw [H,H,hpj,if_neg hij,if_pos rfl,if_neg (by omega),if_neg (by omega)]
  have:=h.1 k hk0 hk (by omega)
  rwa [hpar] at this
theorem ZtL (k:Nat):Int.tdiv ((k:Int) - 1) 2=(((k - 1) / 2:Nat):Int):=by
 cases k with
 | zero=>rfl
 | succ k=>rw [show ((k+1:Nat):Int) - 1=(k:Int) from by omega,Int.tdiv_eq_ediv_of_nonneg (by omega)];simp
theorem ZnG {xs:List Int} {z:Int} {k:Nat} (h:k<xs.length):hat (xs ++ [z]) k=hat xs k:=by
 simp [hat,List.getD,List.getElem?_append_left h]
theorem ZoU {xs:List Int} {z:Int} (h:ZcV xs):Ze2 (xs ++ [z]) xs.length:=by
 refine ⟨fun k h0 hk hne=>?_,fun k h0 hk hp _=>?_⟩
 ·rw [List.length_append,List.length_singleton] at hk
  rw [ZnG (by omega),ZnG (by omega)]
  exact h k h0 (by omega)
 ·rw [List.length_append,List.length_singleton] at hk
  omega
theorem Zq3 {xs:List Int} (h:ZcV xs) (h0:0<xs.length):Zeg (swp xs 0 (xs.length - 1)) (xs.length - 1) 0:=by
 refine ⟨fun k hk0 hk hne=>?_,fun k hk0 hk hpar hh=>absurd hh (by omega)⟩
 rw [Zd7 h0 (by omega),Zd7 h0 (by omega),if_neg (by omega),if_neg (by omega),if_neg (by omega),if_neg (by omega)]
 exact h k hk0 (by omega)
theorem ZoO {xs:List Int} (h0:0<xs.length):hat (swp xs 0 (xs.length - 1)) (xs.length - 1)=hat xs 0:=by rw [Zd7 h0 (by omega),if_pos rfl]
theorem Zk9 {xs:List Int} {n k:Nat} (h:k<n):hat (xs.take n) k=hat xs k:=by simp [hat,List.getD,List.getElem?_take,h]
theorem ZlW {ys:List Int} {n:Nat} (h:ZpX ys n) (hn:n≤ys.length):ZcV (ys.take n):=fun k h0 hk=>by
 rw [List.length_take] at hk
 rw [Zk9 (by omega),Zk9 (by omega)]
 exact h k h0 (by omega)
theorem ZoW {xs ys:List Int} (h0:0<ys.length) (hp:ys.Perm xs) {z:Int} (hz:hat ys (ys.length - 1)=z):(z :: ys.take (ys.length - 1)).Perm xs:=by
 refine List.Perm.trans ?_ hp
 have e:ys=ys.take (ys.length - 1) ++ [z]:=by
  have h1:=Zcb (ZaF (xs:=ys) (k:=ys.length - 1) (by omega))
  rw [show ys.length - 1+1=ys.length from by omega,List.take_length] at h1
  rw [hz] at h1;exact h1
 have h2:(z :: ys.take (ys.length - 1)).Perm (ys.take (ys.length - 1) ++ [z]):=(List.perm_append_singleton z _).symm
 rwa [← e] at h2
theorem Zpo:ZcV []:=fun k h0 hk=>by simp at hk
def asc:Int→Int→List Int→Bool
 | _,_,[]=>true
 | b,l,x :: r=>decide (b<x) && decide (x≤l) && asc x l r
theorem Zoi :∀{r:List Int} {b l z:Int},asc b l r=true→z∈r→b<z
 | [],_,_,_,_,hz=>by cases hz
 | x :: r,b,l,z,h,hz=>by
  simp only [asc,Bool.and_eq_true,decide_eq_true_eq] at h
  rcases List.mem_cons.1 hz with rfl | hz
  ·exact h.1.1
  ·have:=Zoi h.2 hz;omega
theorem Zrr {xs:List Int} {k:Nat} (h:k<xs.length):hat xs k∈xs:=List.mem_of_getElem? (ZaF h)
theorem ZpO {b l x:Int} {r ys:List Int} (hp:ys.Perm (x :: r)) (hh:ZcV ys) (hne:hat ys 0≠x):false=asc b l (x :: r):=by
 symm;rw [Bool.eq_false_iff]
 intro h
 have h0:0<ys.length:=by rw [hp.length_eq];simp
 have hm:=hp.mem_iff.1 (Zrr h0)
 simp only [asc,Bool.and_eq_true,decide_eq_true_eq] at h
 rcases List.mem_cons.1 hm with e | hm
 ·exact hne e
 ·have h1:=Zoi h.2 hm
  obtain ⟨k,hk⟩:=List.mem_iff_getElem?.1 (hp.mem_iff.2 (List.mem_cons_self (a:=x) (l:=r)))
  have h2:=Zpp hh k (List.getElem?_eq_some_iff.1 hk).1
  rw [Zrs hk] at h2
  omega
theorem ZpN {b l x:Int} {r:List Int} (h:x≤b):false=asc b l (x :: r):=by simp [asc,show ¬ b<x from by omega]
theorem ZpM {b l x:Int} {r:List Int} (h:l<x):false=asc b l (x :: r):=by simp [asc,show ¬ x≤l from by omega]
theorem Zte {b l x:Int} {r:List Int} (h : ¬ x≤b) (h2 : ¬ l<x):asc b l (x :: r)=asc x l r:=by simp [asc,show b<x from by omega,show x≤l from by omega]
theorem ZkS :∀{xs:List DItem} {b:Int} {l:Int},l≤99→(match Zda b xs with | some r=>decide (r≤l) | none=>false)=(decide (b≤l) && xs.all Zd4 && asc b l (xs.map (·.id)))
 | [],b,l,_=>by simp [Zda,asc]
 | x :: xs,b,l,hl=>by
  have ih:=ZkS (xs:=xs) (b:=x.id) hl
  rw [Zda,List.map_cons,List.all_cons,asc]
  by_cases h1:b+1≤x.id
  ·by_cases h2:Zd4 x=true
   ·by_cases h3:x.id≤99
    ·rw [if_pos ⟨⟨h1,h3⟩,h2⟩,ih,h2]
     by_cases h4:x.id≤l
     ·simp [h4,show b≤l from by omega,show b<x.id from by omega]
     ·simp [h4]
    ·rw [if_neg (fun h=>h3 h.1.2)]
     simp [show ¬ x.id≤l from by omega]
   ·rw [if_neg (fun h=>h2 h.2)]
    simp [h2]
  ·rw [if_neg (fun h=>h1 h.1.1)]
   simp [show ¬ b<x.id from by omega]
theorem ZeS (q:DQueue):ZaK q=(decide (q.items.length≤6) && decide (1≤q.next) && decide (q.next≤100) && q.items.all Zd4 && asc 0 (q.next - 1) (q.items.map (·.id))):=by
 by_cases h:q.next≤100
 ·have:=ZkS (xs:=q.items) (b:=0) (l:=q.next - 1) (by omega)
  unfold ZaK
  cases hs:Zda 0 q.items with
  | none=>
   rw [hs] at this
   simp only at this
   rw [Bool.eq_iff_iff]
   simp only [Bool.and_eq_true,decide_eq_true_eq,Bool.false_eq_true,false_iff]
   rintro ⟨⟨⟨⟨_,h1⟩,_⟩,h2⟩,h3⟩
   rw [h2,h3] at this
   simp at this;omega
  | some r=>
   rw [hs] at this
   simp only at this
   rw [Bool.eq_iff_iff] at this ⊢
   simp only [Bool.and_eq_true,decide_eq_true_eq] at this ⊢
   constructor
   ·rintro ⟨⟨h1,h2⟩,h3⟩
    obtain ⟨⟨a,b⟩,c⟩:=this.1 (by omega)
    exact ⟨⟨⟨⟨h3,by omega⟩,h⟩,b⟩,c⟩
   ·rintro ⟨⟨⟨⟨h1,h2⟩,h3⟩,h4⟩,h5⟩
    have:=this.2 ⟨⟨by omega,h4⟩,h5⟩
    omega
 ·unfold ZaK
  cases Zda 0 q.items <;> simp [h]
theorem Ztg {α:Type} {p:α→Bool} {l:List α} {k:Nat} {x:α} (hx:l[k]? = some x) (h:p x=false):l.all p=false:=by
 rw [Bool.eq_false_iff];intro hp
 rw [List.all_eq_true] at hp
 have:=hp x (List.mem_of_getElem? hx)
 rw [h] at this;cases this
theorem Ztf {α:Type} {p:α→Bool} {l:List α} {k:Nat} {x:α} (hx:l[k]? = some x) (h:p x=true) (ha:(l.take k).all p=true):(l.take (k+1)).all p=true:=by
 rw [Zcb hx,List.all_append,ha];simp [h]
theorem ZjT {q:DQueue} {k:Nat} {x:DItem} (hx:q.items[k]? = some x) (h:Zd4 x=false):false=ZaK q:=by
 rw [ZeS,Ztg hx h];simp
theorem ZjS {q:DQueue} {k:Nat} (hk : ¬ (k:Int)<q.items.length) (ha:(q.items.take k).all Zd4=true) (h6:q.items.length≤6) (h1:1≤q.next) (h2:q.next≤100):asc 0 (q.next - 1) (q.items.map (·.id))=ZaK q:=by
 rw [List.take_of_length_le (by omega)] at ha
 rw [ZeS,ha];simp [h6,h1,h2]
theorem ZiG {q:DQueue} (h:ZaK q=true) {x:DItem} (hx:x∈q.items):Zd4 x=true:=by
 rw [ZeS] at h
 simp only [Bool.and_eq_true] at h
 exact List.all_eq_true.1 h.1.2 x hx
end Go.BL
namespace Go.BL
open Go
def Zcp (m:DMail):Bool:=(decide (1≤m.uid) && decide (m.uid≤99)) && (decide (0≤m.flags) && decide (m.flags≤31)) && decide (m.text.length≤20)
def scn {α β:Type} (p:β→α→Bool) (nx:β→α→β) (b0:β) (xs:List α):Bool × β:=xs.foldl (fun s x=>(s.1 && p s.2 x,nx s.2 x)) (true,b0)
theorem ZeQ {α β:Type} {p:β→α→Bool} {nx:β→α→β} {b0:β} {xs:List α} : scn p nx b0 (xs.take 0)=(true,b0):=by simp [scn]
theorem ZkP {α β:Type} {p:β→α→Bool} {nx:β→α→β} {b0:β} {xs:List α} {k:Nat} {x:α} (hx:xs[k]? = some x):scn p nx b0 (xs.take (k+1))=((scn p nx b0 (xs.take k)).1 && p (scn p nx b0 (xs.take k)).2 x,nx (scn p nx b0 (xs.take k)).2 x):=by
 have:xs.take (k+1)=xs.take k ++ [x]:=by rw [List.take_add_one,hx];rfl
 rw [this,scn,List.foldl_append];rfl
theorem ZcG {α β:Type} {p:β→α→Bool} {nx:β→α→β} :∀(xs:List α) (b:β),(xs.foldl (fun (s:Bool × β) x=>(s.1 && p s.2 x,nx s.2 x)) (false,b)).1=false
 | [],_=>rfl
 | x :: xs,b=>by simp only [List.foldl_cons,Bool.false_and];exact ZcG xs _
theorem ZqY {α β:Type} {p:β→α→Bool} {nx:β→α→β} {b0:β} {xs:List α} {k:Nat} (h:(scn p nx b0 (xs.take k)).1=false):(scn p nx b0 xs).1=false:=by
 have e:xs=xs.take k ++ xs.drop k:=(List.take_append_drop k xs).symm
 have:scn p nx b0 xs=(xs.drop k).foldl (fun s x=>(s.1 && p s.2 x,nx s.2 x)) (scn p nx b0 (xs.take k)):=by
  conv=>lhs;rw [e,scn,List.foldl_append]
  rfl
 rw [this]
 rcases hs:scn p nx b0 (xs.take k) with ⟨b,c⟩
 rw [hs] at h
 simp only at h
 subst h
 exact ZcG _ _
theorem ZeR {α β:Type} {p:β→α→Bool} {nx:β→α→β} {b0:β} {xs:List α} {k:Nat} {x:α} (hx:xs[k]? = some x) (h:p (scn p nx b0 (xs.take k)).2 x=false):(scn p nx b0 xs).1=false:=
 ZqY (k:=k+1) (by rw [ZkP hx,h,Bool.and_false])
theorem Zb9 {α β:Type} {p:β→α→Bool} {nx:β→α→β} {b0 b:β} {xs:List α} {k:Nat} {x:α} (hx:xs[k]? = some x) (hs:scn p nx b0 (xs.take k)=(true,b)) (h:p b x=true):scn p nx b0 (xs.take (k+1))=(true,nx b x):=by
 rw [ZkP hx,hs];simp [h]
theorem ZdA {α β:Type} {p:β→α→Bool} {nx:β→α→β} {b0 b:β} {xs:List α} {k:Nat} (hs:scn p nx b0 (xs.take k)=(true,b)) (hk:xs.length≤k):scn p nx b0 xs=(true,b):=by
 rwa [List.take_of_length_le hk] at hs
def ZdC (b:Int) (m:DMail):Bool:=Zcp m && decide (b<m.uid)
def Zcu (ms:List DMail):Bool × Int:=scn ZdC (fun _ m=>m.uid) 0 ms
def Zed (b:DBox):Bool:=(Zcu b.mail).1 && (decide ((Zcu b.mail).2+1≤b.next) && decide (b.next≤100)) && decide (b.mail.length≤10)
def Za8 (ms:List DMail):Nat:=(ms.map (·.text.length)).sum
theorem Zgq {ms:List DMail} {k:Nat} {x:DMail} (hx:ms[k]? = some x):Za8 (ms.take (k+1))=Za8 (ms.take k)+x.text.length:=by
 have:ms.take (k+1)=ms.take k ++ [x]:=by rw [List.take_add_one,hx];rfl
 simp [Za8,this]
theorem Zfs {b:DBox} (h:(Zcu b.mail).1=false):Zed b=false:=by simp [Zed,h]
theorem Zfr {b:DBox} {l:Int} (h:Zcu b.mail=(true,l)):Zed b=((decide (l+1≤b.next) && decide (b.next≤100)) && decide (b.mail.length≤10)):=by simp [Zed,h]
theorem Zhl {m:DMail} (h:Zcp m=true):0≤m.uid∧m.uid≤99:=by
 simp only [Zcp,Bool.and_eq_true,decide_eq_true_eq] at h;omega
theorem Zhd {ms:List DMail} {k n:Nat} (h:n=Za8 (ms.take k)) (hk:ms.length≤k):n=Za8 ms:=by rwa [List.take_of_length_le hk] at h
def Zc7 (b:DBox):Int:=if Zed b then (Za8 b.mail:Int) else -1
def anyone:Str:=[97,110,121,111,110,101]
def ZcX (u:DUser):Bool:=Zaf u.name && decide (u.name≠anyone) && Zaf u.pass && (decide (0≤u.quota) && decide (u.quota≤200))
theorem ZaP :∀(a b:Str),Op.bytesLess a b = !(Op.bytesLess b a || decide (b=a))
 | [],[]=>by simp [Op.bytesLess]
 | [],_ :: _=>by simp [Op.bytesLess]
 | _ :: _,[]=>by simp [Op.bytesLess]
 | a :: x,b :: y=>by
  have ih:=ZaP x y
  simp only [Op.bytesLess,ih]
  rcases UInt8.lt_or_lt_of_ne (a:=a) (b:=b) with h
  by_cases e:a=b
  ·subst e
   have : ¬ a<a:=UInt8.lt_irrefl a
   simp [this,ih]
  ·rcases h e with h | h
   ·have h2 : ¬ b<a:=UInt8.lt_asymm h
    simp [h,h2,e,Ne.symm e]
   ·have h2 : ¬ a<b:=UInt8.lt_asymm h
    simp [h,h2,e]
def Zev (b:Str) (u:DUser):Bool:=ZcX u && Op.bytesLess b u.name
def Zds (us:List DUser):Bool × Str:=scn Zev (fun _ u=>u.name) [] us
def Zaw (us:List DUser):Bool:=(Zds us).1 && (decide (1≤us.length) && decide (us.length≤4))
theorem ZeM {us:List DUser} (h:(Zds us).1=false):Zaw us=false:=by simp [Zaw,h]
theorem Zgl {us:List DUser} {b:Str} (h:Zds us=(true,b)):Zaw us=(decide (1≤us.length) && decide (us.length≤4)):=by simp [Zaw,h]
def Znb:DUser:=⟨[],[],0⟩
def Zf4 (t:DUser→Bool) (us:List DUser):DUser × Bool:=match us.find? t with | some x=>(x,true) | none=>(Znb,false)
theorem Zjd {α:Type} {t:α→Bool} {xs:List α} (h :∀y,y∈xs→t y=false):xs.find? t=none:=List.find?_eq_none.2 fun y hy=>by simp [h y hy]
theorem Zpz {α:Type} {t:α→Bool} {xs:List α} {k:Nat} {x:α} (hx:xs[k]? = some x) (ht:t x=true) (h :∀y,y∈xs.take k→t y=false):xs.find? t=some x:=by
 have hlt:=(List.getElem?_eq_some_iff.1 hx).1
 have e:xs=xs.take k ++ (x :: xs.drop (k+1)):=by
  rw [← (List.getElem?_eq_some_iff.1 hx).2,← List.drop_eq_getElem_cons hlt,List.take_append_drop]
 rw [e,List.find?_append,Zjd h];simp [ht]
theorem ZnS {t:DUser→Bool} {us:List DUser} {k:Nat} {x:DUser} (hx:us[k]? = some x) (ht:t x=true) (h :∀y,y∈us.take k→t y=false):Zf4 t us=(x,true):=by simp [Zf4,Zpz hx ht h]
theorem Zl5 {t:DUser→Bool} {us:List DUser} (h :∀y,y∈us→t y=false):Zf4 t us=(Znb,false):=by simp [Zf4,Zjd h]
theorem ZhL {B:Kn} {b:Nat} {T:TypeId} {vs:List Value} (h :∀p,p∈Zap b vs T→B.mem p.1=some p.2):ZaB B b 0 vs:=fun L j u hu=>
 ⟨rfl,vs.toArray,T,(0,0),.inl (h (b,.cells vs.toArray T) (List.mem_singleton.2 rfl)),by simpa using hu⟩
def Zac (us:List DUser) (n:Str):DUser × Bool:=if Zaw us then Zf4 (fun y=>decide (y.name=n)) us else (Znb,false)
def inF (o n:Str) (f:DFolder):Bool:=decide (f.owner=o) && decide (f.name=n)
def Zcv (us:List DUser) (x:DItem):Bool:=(Zac us x.fr).2 && x.left.all fun n=>(Zac us n).2
theorem Zc3 {α:Type} {p:α→Bool} {xs:List α} {k:Nat} {x:α} (hx:xs[k]? = some x) (h:p x=false):xs.all p=false:=by
 rw [List.all_eq_false];exact ⟨x,List.mem_of_getElem? hx,by simp [h]⟩
theorem Zet {α:Type} {p:α→Bool} {xs:List α} (h :∀y,y∈xs→p y=true):xs.all p=true:=List.all_eq_true.2 h
def ZbK (a b:DFolder):Bool:=Op.bytesLess a.owner b.owner || (decide (a.owner=b.owner) && Op.bytesLess a.name b.name)
theorem Zc2 (a:Str):Op.bytesLess a a=false:=by
 have:=ZaP a a
 cases h:Op.bytesLess a a with
 | false=>rfl
 | true=>rw [h] at this;simp at this
end Go.BL
namespace Go.BL
open Go
inductive Prev {α β:Type} (f:α→β) (z:β) (xs:List α):Nat→β→Prop
 | zero:Prev f z xs 0 z
 | succ {k:Nat} {x:α} : xs[k]? = some x→Prev f z xs (k+1) (f x)
theorem Prev.at {α β:Type} {f:α→β} {z:β} {xs:List α} {k:Nat} {b:β} {y:α} (h:Prev f z xs k b) (hy:xs[((k:Int) - 1).toNat]? = some y) (hk:0<(k:Int)):b=f y:=by
 cases h with
 | zero=>omega
 | succ hx=>
  rename_i k x
  rw [show (((k+1:Nat):Int) - 1).toNat=k from by omega,hx] at hy
  cases hy;rfl
theorem Prev.at0 {α β:Type} {f:α→β} {z:β} {xs:List α} {k:Nat} {b:β} (h:Prev f z xs k b) (hk:(k:Int)≤0):b=z:=by
 cases h with
 | zero=>rfl
 | succ hx=>omega
theorem ZhJ {α β:Type} {p:β→α→Bool} {nx:β→α→β} {b0 b:β} {xs:List α} {k:Nat} {x:α} (hx:xs[k]? = some x) (hs:scn p nx b0 (xs.take k)=(true,b)) (h:p b x=false):(scn p nx b0 xs).1=false:=
 ZeR hx (by rw [congrArg Prod.snd hs];exact h)
theorem ZcC {us:List DUser} {k:Nat} {x:DUser} {nm:Str} (hx:us[k]? = some x) (hs:Zds (us.take k)=(true,nm)) (h:Zev nm x=false):Zaw us=false:=
 ZeM (ZhJ hx hs h)
theorem Zk1 {s:Str} (h:0<s.length):Op.bytesLess [] s=true:=by
 cases s with
 | nil=>cases h
 | cons a s=>rfl
theorem Zhg {s:Str} (h:Zaf s=true):0<s.length:=by
 cases s with
 | nil=>simp [Zaf] at h
 | cons a s=>simp
def Zcq (b:Str) (g:DGrant):Bool:=Zaf g.user && (decide (1≤g.rights) && decide (g.rights≤63)) && Op.bytesLess b g.user
def ZcN (gs:List DGrant):Bool × Str:=scn Zcq (fun _ g=>g.user) [] gs
def Zey (gs:List DGrant):Bool:=(ZcN gs).1 && decide (gs.length≤4)
theorem ZcS {gs:List DGrant} {k:Nat} {x:DGrant} {nm:Str} (hx:gs[k]? = some x) (hs:ZcN (gs.take k)=(true,nm)) (h:Zcq nm x=false):Zey gs=false:=by
 rw [Zey,show (ZcN gs).1=false from ZhJ hx hs h,Bool.false_and]
theorem Zjt {gs:List DGrant} {b:Str} (h:ZcN gs=(true,b)):Zey gs=decide (gs.length≤4):=by rw [Zey,h,Bool.true_and]
def DFolder.box (f:DFolder):DBox:=⟨f.next,f.mail⟩
def inbox:Str:=[105,110,98,111,120]
def Zaj (us:List DUser) (f:DFolder):Bool:=decide (0≤Zho us f.owner) && Zaf f.name && Zey f.grants && Zed f.box
def Zbb (us:List DUser) (b:Option DFolder) (f:DFolder):Bool:=Zaj us f && (match b with | none=>true | some y=>ZbK y f)
def Zcy (us:List DUser) (fs:List DFolder):Bool × Option DFolder:=scn (Zbb us) (fun _ f=>some f) none fs
def ZbO (us:List DUser) (fs:List DFolder):Bool:=(Zcy us fs).1 && decide (fs.length≤8)
theorem ZbN {us:List DUser} {fs:List DFolder} {k:Nat} {x:DFolder} {b:Option DFolder} (hx:fs[k]? = some x) (hs:Zcy us (fs.take k)=(true,b)) (h:Zbb us b x=false):ZbO us fs=false:=by
 rw [ZbO,show (Zcy us fs).1=false from ZhJ hx hs h,Bool.false_and]
theorem Zh8 {us:List DUser} {fs:List DFolder} {b:Option DFolder} (h:Zcy us fs=(true,b)):ZbO us fs=decide (fs.length≤8):=by rw [ZbO,h,Bool.true_and]
def ZbR (fs:List DFolder) (u:Str):Nat:=(fs.map fun f=>if f.owner=u then Za8 f.mail else 0).sum
theorem Zhb {fs:List DFolder} {u:Str} {k:Nat} {x:DFolder} (hx:fs[k]? = some x):ZbR (fs.take (k+1)) u=ZbR (fs.take k) u+if x.owner=u then Za8 x.mail else 0:=by
 have:fs.take (k+1)=fs.take k ++ [x]:=by rw [List.take_add_one,hx];rfl
 simp [ZbR,this]
theorem ZmE {fs:List DFolder} {u:Str} {k n:Nat} (h:n=ZbR (fs.take k) u) (hk:fs.length≤k):n=ZbR fs u:=by rwa [List.take_of_length_le hk] at h
def ZiZ (us:List DUser) (ns:List Str):Bool:=ns.all fun n=>decide (0≤Zho us n)
def ZaV (fs:List DFolder) (u:DUser):Bool:=decide (0≤ZeD (inF u.name inbox) fs) && decide ((ZbR fs u.name:Int)≤u.quota)
def ZaH (us:List DUser) (x:DItem):Bool:=decide (0≤Zho us x.fr) && ZiZ us x.left
def Zah (h:DHost):Bool:=Zcl h.domain && Zaw h.users && ZaK h.queue && ZbO h.users h.folders && h.users.all (ZaV h.folders) && h.queue.items.all (ZaH h.users)
theorem Zau {B:Kn} {q:Option Addr} {cp:Nat} {ms:List DMail} (h:SlK B q cp 3 Z9 ms):Za8 ms≤4000000000000:=by
 have h1 :∀m,m∈ms→m.text.length≤2000000:=fun m hm=>by
  obtain ⟨i,hi⟩:=List.mem_iff_getElem?.1 hm
  obtain ⟨b,o,row,_,h2,_⟩:=h.rows i m hi
  exact h2.2
 have h2 :∀l:List DMail,(∀m,m∈l→m.text.length≤2000000)→Za8 l≤l.length*2000000:=by
  intro l
  induction l with
  | nil=>intro _;simp [Za8]
  | cons m l ih=>
   intro hl
   have:=ih fun y hy=>hl y (List.mem_cons_of_mem _ hy)
   have:=hl m (List.mem_cons_self ..)
   simp only [Za8,List.map_cons,List.sum_cons,List.length_cons] at *
   omega
 have:=h2 ms h1
 have:=h.len
 omega
theorem ZgC {h:DHost} {k:Nat} {u:DUser} (hu:h.users[k]? = some u) (hf:ZaV h.folders u=false):Zah h=false:=by
 rw [Zah,Zc3 hu hf,Bool.and_false,Bool.false_and]
theorem ZgD {h:DHost} {k:Nat} {y:DItem} (hy:h.queue.items[k]? = some y) (hf:ZaH h.users y=false):Zah h=false:=by
 rw [Zah,Zc3 hy hf,Bool.and_false]
theorem ZlR {h:DHost} (h1:Zcl h.domain=true) (h2:Zaw h.users=true) (h3:ZaK h.queue=true) (h4:ZbO h.users h.folders=true) (h5:h.users.all (ZaV h.folders)=true) (h6:h.queue.items.all (ZaH h.users)=true):Zah h=true:=by
 rw [Zah,h1,h2,h3,h4,h5,h6];rfl
theorem Ziu {fs:List DFolder} {u:DUser} (h:ZeD (inF u.name inbox) fs<0):ZaV fs u=false:=by
 rw [ZaV,decide_eq_false (by omega),Bool.false_and]
theorem Zit {fs:List DFolder} {u:DUser} (h:u.quota<ZbR fs u.name):ZaV fs u=false:=by
 rw [ZaV,decide_eq_false (p:=(ZbR fs u.name:Int)≤u.quota) (by omega),Bool.and_false]
theorem Zis {fs:List DFolder} {u:DUser} (h:0≤ZeD (inF u.name inbox) fs) (h':(ZbR fs u.name:Int)≤u.quota):ZaV fs u=true:=by
 rw [ZaV,decide_eq_true h,decide_eq_true h'];rfl
theorem Zh1 {us:List DUser} {x:DItem} (h:Zho us x.fr<0):ZaH us x=false:=by rw [ZaH,decide_eq_false (by omega),Bool.false_and]
theorem Zh0 {us:List DUser} {x:DItem} (h:ZiZ us x.left=false):ZaH us x=false:=by rw [ZaH,h,Bool.and_false]
theorem ZhZ {us:List DUser} {x:DItem} (h:0≤Zho us x.fr) (h':ZiZ us x.left=true):ZaH us x=true:=by rw [ZaH,decide_eq_true h,h'];rfl
theorem Zej :∀{a b c:Str},Op.bytesLess a b=true→Op.bytesLess b c=true→Op.bytesLess a c=true
 | [],[],_,h,_=>by simp [Op.bytesLess] at h
 | _ :: _,[],_,h,_=>by simp [Op.bytesLess] at h
 | _,_ :: _,[],_,h=>by simp [Op.bytesLess] at h
 | [],_ :: _,_ :: _,_,_=>by simp [Op.bytesLess]
 | a :: x,b :: y,c :: z,h,h'=>by
  simp only [Op.bytesLess,Bool.or_eq_true,decide_eq_true_eq,Bool.and_eq_true,beq_iff_eq] at h h' ⊢
  rcases h with h | ⟨rfl,h⟩
  ·rcases h' with h' | ⟨rfl,h'⟩
   ·exact .inl (UInt8.lt_trans h h')
   ·exact .inl h
  ·rcases h' with h' | ⟨rfl,h'⟩
   ·exact .inl h'
   ·exact .inr ⟨rfl,Zej h h'⟩
def Zqh (gs:List DGrant):List (Str × Int):=gs.map fun g=>(g.user,g.rights)
theorem Zf1 :∀(xs:List DGrant) (b0 b:Str),xs.foldl (fun s x=>(s.1 && Zcq s.2 x,x.user)) (true,b0)=(true,b)→(∀y,y∈xs→y.user=b∨Op.bytesLess y.user b=true)∧(b=b0∨Op.bytesLess b0 b=true)
 | [],b0,b,h=>by
  cases h;exact ⟨by simp,.inl rfl⟩
 | x :: xs,b0,b,h=>by
  simp only [List.foldl_cons,Bool.true_and] at h
  cases hp:Zcq b0 x with
  | false=>
   rw [hp] at h
   have:=ZcG (p:=Zcq) (nx:=fun _ g=>g.user) xs x.user
   rw [h] at this;cases this
  | true=>
   rw [hp] at h
   obtain ⟨h1,h2⟩:=Zf1 xs x.user b h
   have hl:Op.bytesLess b0 x.user=true:=by
    simp only [Zcq,Bool.and_eq_true] at hp;exact hp.2
   refine ⟨fun y hy=>?_,.inr ?_⟩
   ·rcases List.mem_cons.1 hy with rfl | hy
    ·rcases h2 with h2 | h2
     ·exact .inl h2.symm
     ·exact .inr h2
    ·exact h1 y hy
   ·rcases h2 with rfl | h2
    ·exact hl
    ·exact Zej hl h2
theorem Zo9 {kvs:List (Str × Int)} {k:Str} {v:Int} (h:k ∉ kvs.map (·.1)):mput kvs k v=kvs ++ [(k,v)]:=by
 induction kvs with
 | nil=>rfl
 | cons p r ih=>
  simp only [List.map_cons,List.mem_cons,not_or] at h
  simp only [mput,if_neg h.1,ih h.2,List.cons_append]
theorem Zri {gs:List DGrant} {k:Nat} {m:DGrant} {nm:Str} (hm:gs[k]? = some m) (hs:ZcN (gs.take k)=(true,nm)) (hl:Op.bytesLess nm m.user=true):mput (Zqh (gs.take k)) m.user m.rights=Zqh (gs.take (k+1)):=by
 have h1:=(Zf1 _ _ _ hs).1
 rw [Zo9]
 ·rw [Zqh,Zqh,List.take_add_one,hm];simp
 ·intro hc
  simp only [Zqh,List.map_map,List.mem_map,Function.comp] at hc
  obtain ⟨y,hy,e⟩:=hc
  rcases h1 y hy with h | h
  ·rw [← e,h,Zc2] at hl;cases hl
  ·rw [e] at h
   have:=Zej hl h
   rw [Zc2] at this;cases this
def ZkG (gs:List DGrant) (B:Kn):Value→Kn→List Cells→Prop:=fun v B' Ls=>∃m l,v = .tuple #[.map m,.bool (Zey gs)]∧Ls=[l]∧B'=B∧(Zey gs=true→∃b,m=some b∧ZrZ l b (Zqh gs))
theorem ZgO {P:PJ} {S:Env} {B:Kn} {L:List Cells} {rs:List ResultVar} {gs:List DGrant} (e:Exit) (he:e = .ret∨e = .normal) (vs:List Value) (hr:Zcc P S B L rs vs) (h:Zey gs=false) (hv:ZcH vs = .tuple #[.map none,.bool false]:=by rfl):Ze0 P rs (ZkG gs B) e S [] B L:=
 Zv3 e he vs hr ⟨none,[],by rw [hv,h],rfl,rfl,fun hc=>by rw [h] at hc;cases hc⟩
theorem ZrK {P:PJ} {S:Env} {B:Kn} {L:List Cells} {rs:List ResultVar} {gs:List DGrant} (e:Exit) (he:e = .ret∨e = .normal) (vs:List Value) {b:Nat} {l:Cells} {r:List Cells} (hp:Zas L [0]=some ([l],r)) (hr:Zcc P S B L rs vs) (h:Zey gs=true) (hm:ZrZ l b (Zqh gs)) (hv:ZcH vs = .tuple #[.map (some b),.bool true]:=by rfl):Ze0 P rs (ZkG gs B) e S [] B L:=
 Zes e he vs [0] hp hr ⟨some b,l,by rw [hv,h],rfl,rfl,fun _=>⟨b,rfl,hm⟩⟩
def Zqy (f:DFolder) (ow nm:Str):Int:=if Lib.compareBytes f.owner ow≠0 then Lib.compareBytes f.owner ow else Lib.compareBytes f.name nm
theorem Zfq (f g:DFolder):0≤Zqy f g.owner g.name↔ZbK f g=false:=by
 have h1:=Zky f.owner g.owner
 have h2:=Zky f.name g.name
 unfold Zqy ZbK
 by_cases e:f.owner=g.owner
 ·have e0:=h1.2.2 e
  have e1:Op.bytesLess f.owner g.owner=false:=by rw [e];exact Zc2 _
  rw [if_neg (fun h=>h e0),e1,decide_eq_true e,Bool.true_and,Bool.false_or,Bool.eq_false_iff,ne_eq,← h2.1];omega
 ·have e0:Lib.compareBytes f.owner g.owner≠0:=fun h=>e (h1.2.1 h)
  rw [if_pos e0,decide_eq_false e,Bool.false_and,Bool.or_false,Bool.eq_false_iff,ne_eq,← h1.1];omega
def ZeN (fs:List DFolder) (u:Str):Int:=(fs.map fun f=>if f.owner=u then Zc7 ⟨f.next,f.mail⟩ else 0).sum
theorem Zha {fs:List DFolder} {u:Str} {k:Nat} {x:DFolder} (hx:fs[k]? = some x):ZeN (fs.take (k+1)) u=ZeN (fs.take k) u+if x.owner=u then Zc7 ⟨x.next,x.mail⟩ else 0:=by
 have:fs.take (k+1)=fs.take k ++ [x]:=by rw [List.take_add_one,hx];rfl
 simp [ZeN,this]
theorem ZmC {fs:List DFolder} {u:Str} {k:Nat} {n:Int} (h:n=ZeN (fs.take k) u) (hk:fs.length≤k):n=ZeN fs u:=by rwa [List.take_of_length_le hk] at h
theorem Zk4 :∀(xs:List DMail) (b0 b:Int),xs.foldl (fun s x=>(s.1 && ZdC s.2 x,x.uid)) (true,b0)=(true,b)→∀y,y∈xs→Zcp y=true
 | [],_,_,_,_,h=>by cases h
 | x :: xs,b0,b,h,y,hy=>by
  simp only [List.foldl_cons,Bool.true_and] at h
  cases hp:ZdC b0 x with
  | false=>
   rw [hp] at h
   have:=ZcG (p:=ZdC) (nx:=fun _ m=>m.uid) xs x.uid
   rw [h] at this;cases this
  | true=>
   rw [hp] at h
   rcases List.mem_cons.1 hy with rfl | hy
   ·simp only [ZdC,Bool.and_eq_true] at hp;exact hp.1
   ·exact Zk4 xs x.uid b h y hy
theorem ZkA {b:DBox} (h:Zed b=true):(∀y,y∈b.mail→Zcp y=true)∧b.mail.length≤10:=by
 simp only [Zed,Bool.and_eq_true,decide_eq_true_eq] at h
 exact ⟨Zk4 b.mail 0 (Zcu b.mail).2 (Prod.ext h.1.1 rfl),h.2⟩
theorem Zgr :∀l:List DMail,(∀m,m∈l→Zcp m=true)→Za8 l≤l.length*20
 | [],_=>by simp [Za8]
 | m :: l,h=>by
  have h1:=Zgr l fun y hy=>h y (List.mem_cons_of_mem _ hy)
  have h2:=h m (List.mem_cons_self ..)
  simp only [Zcp,Bool.and_eq_true,decide_eq_true_eq] at h2
  simp only [Za8,List.map_cons,List.sum_cons,List.length_cons] at *
  omega
theorem Zhy (b:DBox) : -1≤Zc7 b∧Zc7 b≤200:=by
 unfold Zc7
 split
 ·rename_i h
  obtain ⟨h1,h2⟩:=ZkA h
  have:=Zgr _ h1
  omega
 ·omega
theorem ZoC (fs:List DFolder) (u:Str) : -1*fs.length≤ZeN fs u∧ZeN fs u≤fs.length*200:=by
 induction fs with
 | nil=>simp [ZeN]
 | cons f fs ih=>
  have:=Zhy ⟨f.next,f.mail⟩
  simp only [ZeN,List.map_cons,List.sum_cons,List.length_cons] at *
  split <;> omega
def ZdH (x:DHost) (u:Str) (more:Int):Bool:=!(Zac x.users u).2 || decide ((Zac x.users u).1.quota<ZeN x.folders u+more)
def Zb8 (x:DHost) (w:DUser):Bool:=decide (0≤ZeD (inF w.name inbox) x.folders) && !ZdH x w.name 0
theorem Zix {x:DHost} {w:DUser} (h:ZeD (inF w.name inbox) x.folders<0):Zb8 x w=false:=by rw [Zb8,decide_eq_false (by omega),Bool.false_and]
theorem Ziw {x:DHost} {w:DUser} (h:ZdH x w.name 0=true):Zb8 x w=false:=by rw [Zb8,h];simp
theorem Ziv {x:DHost} {w:DUser} (h:0≤ZeD (inF w.name inbox) x.folders) (h':ZdH x w.name 0=false):Zb8 x w=true:=by rw [Zb8,h',decide_eq_true h];rfl
def Zgm (x:DHost):Bool:=x.users.all (Zb8 x)
def ZrX:Rel Bool:=fun _ row x=>row=[.bool x]
def Zax (us:List DUser) (f:DFolder):Bool:=(Zac us f.owner).2 && Zaf f.name && Zey f.grants && Zed f.box
theorem Zf7 (C i:Nat):(some (ptr (Addr.add ⟨C,0,none⟩ ((i:Int).toNat*1))):Option Value)=some (ptr ⟨C,i,none⟩):=by
 rw [Addr.add_off _ _ rfl];simp
def Zoq (x:DHost) (i:Nat):Value:=.bool (match x.folders[i]? with | some m=>Zax x.users m | none=>false)
theorem ZkK {x:DHost} {i:Nat} {m:DFolder} (h:x.folders[i]? = some m):Zoq x i = .bool (Zax x.users m):=by simp [Zoq,h]
theorem ZmB {B:Kn} {x:DHost} {C:Nat} {T:TypeId} (hm :∀p,p∈[(C,Obj.cells ((List.range x.folders.length).map (Zoq x)).toArray T (0,0))]→B.mem p.1=some p.2) (hl:x.folders.length≤2000000):SlK B (some ⟨C,0,none⟩) (x.folders.map (Zax x.users)).length 1 ZrX (x.folders.map (Zax x.users)):=by
 refine ⟨fun i y hy=>⟨C,0,[.bool y],rfl,rfl,fun j u hu=>?_⟩,by simp,by simpa using hl⟩
 have hj:j=0:=by
  cases j with
  | zero=>rfl
  | succ j=>simp at hu
 subst hj
 simp only [List.getElem?_cons_zero,Option.some.injEq] at hu
 subst hu
 rw [List.getElem?_map] at hy
 obtain ⟨m,hm',rfl⟩:=Option.map_eq_some_iff.1 hy
 have hi:i<x.folders.length:=(List.getElem?_eq_some_iff.1 hm').1
 refine ⟨rfl,_,T,(0,0),.inl (hm _ (List.mem_singleton.2 rfl)),?_⟩
 simp only [Nat.mul_one,Nat.zero_add,Nat.add_zero,List.getElem?_toArray,List.getElem?_map,List.getElem?_range hi,Option.map_some,ZkK hm']
theorem Zih {us:List DUser} {fs:List DFolder} : (!decide (0≤ZeD (fun y=>decide (false=y)) (fs.map (Zax us))))=fs.all (Zax us):=by
 by_cases h :∀f,f∈fs→Zax us f=true
 ·rw [List.all_eq_true.2 h,Zd6 (fun y hy=>by
   obtain ⟨f,hf,rfl⟩:=List.mem_map.1 hy
   simp [h f hf])]
  rfl
 ·have h2:fs.all (Zax us)=false:=by
   rw [Bool.eq_false_iff,ne_eq,List.all_eq_true];exact h
  rw [h2]
  have h3 :∃k,(fs.map (Zax us)).findIdx? (fun y=>decide (false=y))=some k:=by
   cases hk:(fs.map (Zax us)).findIdx? (fun y=>decide (false=y)) with
   | some k=>exact ⟨k,rfl⟩
   | none=>
    exfalso;apply h
    intro f hf
    have:=List.findIdx?_eq_none_iff.1 hk (Zax us f) (List.mem_map_of_mem hf)
    cases hq:Zax us f with
    | true=>rfl
    | false=>rw [hq] at this;simp at this
  obtain ⟨k,hk⟩:=h3
  have e:ZeD (fun y=>decide (false=y)) (fs.map (Zax us))=(k:Int):=by unfold ZeD;rw [hk]
  rw [e];simp
def ZgZ:List DFolder→Bool
 | []=>true
 | [_]=>true
 | a :: b :: r=>ZbK a b && ZgZ (b :: r)
def ZcM (x:DHost):Bool:=Zcl x.domain && Zaw x.users && ZaK x.queue && decide (x.folders.length≤8) && ZgZ x.folders && (x.folders.all (Zax x.users) && Zgm x && x.queue.items.all (Zcv x.users))
def ZpV (fs:List DFolder) (k:Nat):Prop:=∀i a b,i<k→fs[i]? = some a→fs[i+1]? = some b→ZbK a b=true
theorem ZlF {fs:List DFolder} : ZpV fs 0:=fun i a b h=>by omega
theorem ZlG {fs:List DFolder} {k:Nat} {x y:DFolder} (h:ZpV fs k) (hx:fs[k]? = some x) (hy:fs[k+1]? = some y) (hl:ZbK x y=true):ZpV fs (k+1):=fun i a b hi ha hb=>by
 rcases Nat.lt_or_ge i k with h' | h'
 ·exact h i a b h' ha hb
 ·obtain rfl:i=k:=by omega
  rw [hx] at ha;rw [hy] at hb
  cases ha;cases hb;exact hl
theorem ZhN :∀(fs:List DFolder),ZgZ fs=true↔∀i a b,fs[i]? = some a→fs[i+1]? = some b→ZbK a b=true
 | []=>by simp [ZgZ]
 | [_]=>by simp [ZgZ]
 | x :: y :: r=>by
  rw [ZgZ,Bool.and_eq_true,ZhN (y :: r)]
  constructor
  ·rintro ⟨h1,h2⟩ i a b ha hb
   cases i with
   | zero=>simp at ha hb;rw [← ha,← hb];exact h1
   | succ i=>exact h2 i a b (by simpa using ha) (by simpa using hb)
  ·intro h
   exact ⟨h 0 x y rfl rfl,fun i a b ha hb=>h (i+1) a b (by simpa using ha) (by simpa using hb)⟩
theorem Zo1 {fs:List DFolder} {k:Nat} {x y:DFolder} (hx:fs[k]? = some x) (hy:fs[k+1]? = some y) (hl:ZbK x y=false):ZgZ fs=false:=by
 rw [Bool.eq_false_iff,ne_eq,ZhN]
 intro h
 have:=h k x y hx hy
 rw [hl] at this;cases this
theorem Zo0 {fs:List DFolder} (h :∀i a b,i<fs.length - 1→fs[i]? = some a→fs[i+1]? = some b→ZbK a b=true):ZgZ fs=true:=
 (ZhN fs).2 fun i a b ha hb=>h i a b (by have:=(List.getElem?_eq_some_iff.1 hb).1;omega) ha hb
theorem Zgt {α:Type} {p:Str→α→Bool} {f:α→Str} (hp :∀b x,p b x=true→Op.bytesLess b (f x)=true) :∀(xs:List α) (b0 b:Str),xs.foldl (fun s x=>(s.1 && p s.2 x,f x)) (true,b0)=(true,b)→(∀y,y∈xs→Op.bytesLess b0 (f y)=true)∧xs.Pairwise (fun x y=>Op.bytesLess (f x) (f y)=true)
 | [],_,_,_=>⟨by simp,.nil⟩
 | x :: xs,b0,b,h=>by
  simp only [List.foldl_cons,Bool.true_and] at h
  cases hq:p b0 x with
  | false=>
   rw [hq] at h
   have:=ZcG (p:=p) (nx:=fun _ g=>f g) xs (f x)
   rw [h] at this;cases this
  | true=>
   rw [hq] at h
   obtain ⟨h1,h2⟩:=Zgt hp xs (f x) b h
   refine ⟨fun y hy=>?_,.cons h1 h2⟩
   rcases List.mem_cons.1 hy with rfl | hy
   ·exact hp _ _ hq
   ·exact Zej (hp _ _ hq) (h1 y hy)
theorem Zg0 {us:List DUser} (h:Zaw us=true):us.Pairwise fun x y=>Op.bytesLess x.name y.name=true:=by
 simp only [Zaw,Bool.and_eq_true] at h
 exact (Zgt (p:=Zev) (f:=fun u=>u.name) (fun b x hq=>by simp only [Zev,Bool.and_eq_true] at hq;exact hq.2) us [] (Zds us).2 (Prod.ext h.1 rfl)).2
theorem Zkf {us:List DUser} {u:Str} : 0≤Zho us u↔∃x,x∈us∧x.name=u:=by
 unfold Zho
 cases h:us.findIdx? (fun x=>decide (x.name=u)) with
 | none=>
  have:=List.findIdx?_eq_none_iff.1 h
  simp only [decide_eq_false_iff_not] at this
  exact ⟨fun hc=>absurd hc (by simp only [];omega),fun ⟨x,hx,e⟩=>absurd e (this x hx)⟩
 | some i=>
  rw [List.findIdx?_eq_some_iff_getElem] at h
  obtain ⟨hi,h1,_⟩:=h
  exact ⟨fun _=>⟨us[i],List.getElem_mem hi,by simpa using h1⟩,fun _=>by simp only [];omega⟩
theorem ZnR {us:List DUser} {t:DUser→Bool} : (Zf4 t us).2=true↔∃x,x∈us∧t x=true:=by
 unfold Zf4
 cases h:us.find? t with
 | none=>simp only [Bool.false_eq_true,false_iff];rintro ⟨x,hx,e⟩;have:=List.find?_eq_none.1 h x hx;exact this e
 | some x=>simp only [true_iff];exact ⟨x,List.mem_of_find?_eq_some h,List.find?_some h⟩
theorem ZcY {us:List DUser} (h:Zaw us=true) (n:Str):(Zac us n).2=decide (0≤Zho us n):=by
 rw [Zac,if_pos h,Bool.eq_iff_iff,ZnR,decide_eq_true_eq,Zkf];simp
theorem ZgM :∀{us:List DUser},us.Pairwise (fun x y=>Op.bytesLess x.name y.name=true)→∀w,w∈us→us.find? (fun y=>decide (y.name=w.name))=some w
 | [],_,w,h=>by cases h
 | x :: us,hp,w,h=>by
  cases hp with
  | cons h1 h2=>
   rw [List.find?_cons]
   rcases List.mem_cons.1 h with rfl | h
   ·simp
   ·have hne:x.name≠w.name:=fun e=>by
     have:=h1 w h
     rw [e,Zc2] at this;cases this
    simp only [hne,decide_false]
    exact ZgM h2 w h
theorem ZhF {us:List DUser} (h:Zaw us=true) {w:DUser} (hw:w∈us):Zac us w.name=(w,true):=by
 rw [Zac,if_pos h,Zf4,ZgM (Zg0 h) w hw]
theorem Zl4 {us:List DUser} (h:Zaw us=true) (f:DFolder):Zax us f=Zaj us f:=by
 rw [Zax,Zaj,ZcY h]
theorem ZdK {us:List DUser} :∀(fs:List DFolder) (b0:Option DFolder),(fs.foldl (fun s x=>(s.1 && Zbb us s.2 x,some x)) (true,b0)).1=(fs.all (Zaj us) && ZgZ ((match b0 with | none=>[] | some y=>[y]) ++ fs))
 | [],none=>rfl
 | [],some y=>rfl
 | x :: fs,b0=>by
  simp only [List.foldl_cons,Bool.true_and]
  have hstep:(fs.foldl (fun (s:Bool × Option DFolder) x=>(s.1 && Zbb us s.2 x,some x)) (Zbb us b0 x,some x)).1=(Zbb us b0 x && (fs.all (Zaj us) && ZgZ (x :: fs))):=by
   cases hq:Zbb us b0 x with
   | false=>rw [Bool.false_and];exact ZcG (p:=Zbb us) (nx:=fun _ f=>some f) fs (some x)
   | true=>rw [Bool.true_and];exact ZdK fs (some x)
  rw [hstep]
  cases b0 with
  | none=>
   simp only [Zbb,Bool.and_true,List.all_cons,List.nil_append]
   cases Zaj us x <;> simp
  | some y=>
   simp only [Zbb,List.all_cons,List.cons_append,List.nil_append,ZgZ]
   cases Zaj us x <;> cases ZbK y x <;> simp
theorem Zd8 {us:List DUser} {fs:List DFolder} : ZbO us fs=(fs.all (Zaj us) && ZgZ fs && decide (fs.length≤8)):=by
 rw [ZbO,show (Zcy us fs).1=_ from ZdK fs none];rfl
theorem ZkL {us:List DUser} {u:Str} :∀{fs:List DFolder},fs.all (Zaj us)=true→ZeN fs u=(ZbR fs u:Int)
 | [],_=>rfl
 | f :: fs,h=>by
  simp only [List.all_cons,Bool.and_eq_true] at h
  have ih:=ZkL (u:=u) h.2
  have hb:Zed ⟨f.next,f.mail⟩=true:=by
   have:=h.1;simp only [Zaj,Bool.and_eq_true] at this;exact this.2
  simp only [ZeN,ZbR,List.map_cons,List.sum_cons] at ih ⊢
  rw [ih]
  by_cases he:f.owner=u
  ·simp [he,Zc7,hb]
  ·simp [he]
theorem ZjH {x:DHost} (hu:Zaw x.users=true) (hf:x.folders.all (Zaj x.users)=true) {w:DUser} (hw:w∈x.users):Zb8 x w=ZaV x.folders w:=by
 rw [Zb8,ZaV,ZdH,ZhF hu hw,ZkL hf]
 simp only [Bool.not_true,Bool.false_or,Int.add_zero]
 congr 1
 rw [Bool.eq_iff_iff];simp
theorem Zkb {us:List DUser} (h:Zaw us=true) (y:DItem):Zcv us y=ZaH us y:=by
 rw [Zcv,ZaH,ZcY h,ZiZ]
 simp only [ZcY h]
theorem Zoj {α:Type} {p q:α→Bool} {xs:List α} (h :∀x,x∈xs→p x=q x):xs.all p=xs.all q:=by
 rw [Bool.eq_iff_iff,List.all_eq_true,List.all_eq_true]
 exact ⟨fun a x hx=>h x hx ▸ a x hx,fun a x hx=>(h x hx).symm ▸ a x hx⟩
theorem ZlS (x:DHost):ZcM x=Zah x:=by
 cases hu:Zaw x.users with
 | false=>simp [ZcM,Zah,hu]
 | true=>
  have e1:x.folders.all (Zax x.users)=x.folders.all (Zaj x.users):=Zoj fun f _=>Zl4 hu f
  have e2:x.queue.items.all (Zcv x.users)=x.queue.items.all (ZaH x.users):=Zoj fun y _=>Zkb hu y
  rw [ZcM,Zah,hu,e1,e2,Zd8]
  cases hf:x.folders.all (Zaj x.users) with
  | false=>simp
  | true=>
   have e3:Zgm x=x.users.all (ZaV x.folders):=Zoj fun w hw=>ZjH hu hf hw
   rw [e3]
   cases Zcl x.domain <;> cases ZaK x.queue <;> cases ZgZ x.folders <;> cases decide (x.folders.length≤8) <;> simp
end Go.BL
namespace Go.BL
open Go
theorem Zi3 {x:DHost} (h:Zah x=true):Zaw x.users=true:=by
 simp only [Zah,Bool.and_eq_true] at h;exact h.1.1.1.1.2
theorem Zki {x:DHost} (h:Zah x=true) (n:Str):(Zac x.users n).2=decide (0≤Zho x.users n):=ZcY (Zi3 h) n
end Go.BL
namespace Go.BL
open Go
def ZcJ:DHost:=⟨[],[],[],⟨0,[]⟩⟩
theorem ZnA {α:Type} (p:α→Bool) (xs:List α):ZeD p xs<xs.length∧ZeD p xs ≥ -1:=by
 unfold ZeD
 cases hf:xs.findIdx? p with
 | none=>simp only [];omega
 | some i=>
  rw [List.findIdx?_eq_some_iff_getElem] at hf
  obtain ⟨hi,_⟩:=hf
  simp only [];omega
end Go.BL
namespace Go.BL
open Go
def dig (k:Nat):Str:=[UInt8.ofNat (IntKind.u8.wrap (48+((k % 10:Nat):Int))).toNat]
def digs (k:Nat):Str:=if h:k=0 then [] else digs (k / 10) ++ dig k
termination_by k
decreasing_by omega
theorem Zjg:digs 0=[]:=by unfold digs;rfl
theorem Zlh {k:Nat} (h:0<k):digs k=digs (k / 10) ++ dig k:=by
 conv=>lhs;unfold digs
 rw [dif_neg (by omega)]
theorem Zid :∀(n k:Nat),k<10 ^ n→(digs k).length≤n
 | n,0,_=>by rw [Zjg];simp
 | 0,k+1,h=>by simp at h
 | n+1,k+1,h=>by
  rw [Zlh (by omega),List.length_append]
  have h1:(k+1) / 10<10 ^ n:=by rw [Nat.pow_succ] at h;omega
  have:=Zid n _ h1
  simp only [dig,List.length_cons,List.length_nil];omega
def ZO (k:Nat):Str:=if k=0 then [109,48] else 109 :: digs k
theorem ZbJ {k:Nat} (h:k≤1000000000000000):(ZO k).length≤20:=by
 unfold ZO
 split
 ·simp
 ·have:=Zid 16 k (by omega)
  simp only [List.length_cons];omega
theorem Zn9 {k0 k:Nat} {t:Str} (h:digs k0=digs k ++ t) (hk:0<k):digs k0=digs (k / 10) ++ (dig k ++ t):=by
 rw [h,Zlh hk,List.append_assoc]
theorem ZrN {k0 k:Nat} {t:Str} (h0:k0≤1000000000000000) (h:digs k0=digs k ++ t):t.length≤16:=by
 have h1:=Zid 16 k0 (by omega)
 rw [h,List.length_append] at h1;omega
theorem ZbG {α:Type} {ys:List α} {i:Nat} {c:α} (h:i<ys.length):(ys.set i c).take (i+1)=ys.take i ++ [c]:=by
 rw [List.take_add_one,List.getElem?_set_self h,List.take_set_of_le (Nat.le_refl _)];rfl
def Zbu (k n:Nat):List DMail:=(List.range n).map fun i=>⟨((k+3*i:Nat):Int),((k+3*i+1:Nat):Int),ZO (k+3*i+1+1)⟩
theorem Zat (k n:Nat):(Zbu k n).length=n:=by simp [Zbu]
theorem ZiP {ys:List DMail} {i k:Nat} {z1 z2 z3:DMail} (ht:ys.take i=Zbu k i) (h1:ys[i]? = some z1) (h2:(ys.set i ⟨((k+3*i:Nat):Int),z1.flags,z1.text⟩)[i]? = some z2)
  (h3:((ys.set i ⟨((k+3*i:Nat):Int),z1.flags,z1.text⟩).set i ⟨z2.uid,((k+3*i+1:Nat):Int),z2.text⟩)[i]? = some z3) :
  (((ys.set i ⟨((k+3*i:Nat):Int),z1.flags,z1.text⟩).set i ⟨z2.uid,((k+3*i+1:Nat):Int),z2.text⟩).set i ⟨z3.uid,z3.flags,ZO (k+3*i+1+1)⟩).take (i+1)=Zbu k (i+1):=by
 have hl:=(List.getElem?_eq_some_iff.1 h1).1
 rw [List.getElem?_set_self hl] at h2;cases h2
 rw [List.set_set,List.getElem?_set_self hl] at h3;cases h3
 rw [List.set_set,List.set_set,ZbG hl,ht,Zbu,Zbu,List.range_succ,List.map_append];rfl
def Zar (k n:Nat):List DGrant:=(List.range n).map fun i=>⟨ZO (k+2*i),((k+2*i+1:Nat):Int)⟩
theorem Zan (k n:Nat):(Zar k n).length=n:=by simp [Zar]
theorem ZhS {ys:List DGrant} {i k:Nat} {z1 z2:DGrant} (ht:ys.take i=Zar k i) (h1:ys[i]? = some z1) (h2:(ys.set i ⟨ZO (k+2*i),z1.rights⟩)[i]? = some z2) :
  ((ys.set i ⟨ZO (k+2*i),z1.rights⟩).set i ⟨z2.user,((k+2*i+1:Nat):Int)⟩).take (i+1)=Zar k (i+1):=by
 have hl:=(List.getElem?_eq_some_iff.1 h1).1
 rw [List.getElem?_set_self hl] at h2;cases h2
 rw [List.set_set,ZbG hl,ht,Zar,Zar,List.range_succ,List.map_append];rfl
def Zb3 (k n:Nat):List DUser:=(List.range n).map fun i=>⟨ZO (k+3*i),ZO (k+3*i+1),((k+3*i+1+1:Nat):Int)⟩
theorem Za9 (k n:Nat):(Zb3 k n).length=n:=by simp [Zb3]
theorem ZiO {ys:List DUser} {i k:Nat} {z1 z2 z3:DUser} (ht:ys.take i=Zb3 k i) (h1:ys[i]? = some z1) (h2:(ys.set i ⟨ZO (k+3*i),z1.pass,z1.quota⟩)[i]? = some z2)
  (h3:((ys.set i ⟨ZO (k+3*i),z1.pass,z1.quota⟩).set i ⟨z2.name,ZO (k+3*i+1),z2.quota⟩)[i]? = some z3) :
  (((ys.set i ⟨ZO (k+3*i),z1.pass,z1.quota⟩).set i ⟨z2.name,ZO (k+3*i+1),z2.quota⟩).set i ⟨z3.name,z3.pass,((k+3*i+1+1:Nat):Int)⟩).take (i+1)=Zb3 k (i+1):=by
 have hl:=(List.getElem?_eq_some_iff.1 h1).1
 rw [List.getElem?_set_self hl] at h2;cases h2
 rw [List.set_set,List.getElem?_set_self hl] at h3;cases h3
 rw [List.set_set,List.set_set,ZbG hl,ht,Zb3,Zb3,List.range_succ,List.map_append];rfl
def ZcL (k n:Nat):List Str:=(List.range n).map fun i=>ZO (k+1*i)
theorem Za2 (k n:Nat):(ZcL k n).length=n:=by simp [ZcL]
theorem ZjX {ys:List Str} {i k:Nat} {z1:Str} (ht:ys.take i=ZcL k i) (h1:ys[i]? = some z1):(ys.set i (ZO (k+1*i))).take (i+1)=ZcL k (i+1):=by
 have hl:=(List.getElem?_eq_some_iff.1 h1).1
 rw [ZbG hl,ht,ZcL,ZcL,List.range_succ,List.map_append];rfl
theorem Zk2 {α:Type} {ys zs:List α} {i:Nat} (h:ys.take i=zs) (hi:ys.length≤i):ys=zs:=by rwa [List.take_of_length_le hi] at h
end Go.BL
namespace Go.BL
open Go
def ZvR (b:DBox) (fl:Int) (t:Str):DBox × Bool:=if 10≤b.mail.length∨99<b.next then (b,false) else (⟨b.next+1,b.mail ++ [⟨b.next,fl,t⟩]⟩,true)
def DFolder.withBox (f:DFolder) (b:DBox):DFolder:=⟨f.owner,f.name,f.grants,b.next,b.mail⟩
def DHost.withFolders (x:DHost) (fs:List DFolder):DHost:=⟨x.domain,x.users,fs,x.queue⟩
def Zq2 (us:List DUser) (n:Str):Int:=match us[(Zho us n).toNat]? with | some w=>w.quota | none=>0
def Zm5 (x:DHost) (k:Nat) (fl:Int) (t:Str):DHost × Int:=
 match x.folders[k]? with
 | none=>(x,0)
 | some f=>if Zq2 x.users f.owner<(ZbR x.folders f.owner:Int)+t.length then (x,3)
  else if (ZvR f.box fl t).2=true then (x.withFolders (x.folders.set k (f.withBox (ZvR f.box fl t).1)),0) else (x,4)
def ZaO (o n:Str):DFolder:=⟨o,n,[],1,[]⟩
def Zfj (fs:List DFolder) (f:DFolder):Nat:=(fs.takeWhile fun y=>ZbK y f).length
def ZfI (fs:List DFolder) (f:DFolder):List DFolder:=fs.take (Zfj fs f) ++ [f] ++ fs.drop (Zfj fs f)
def ZP (x:DHost) (u n:Str):DHost × Int:=
 if ¬ (Zah x=true∧Zaf n=true) then (ZcJ,5)
 else if Zho x.users u<0 then (x,1)
 else if 0≤ZeD (inF u n) x.folders∨8≤x.folders.length then (x,4)
 else (x.withFolders (ZfI x.folders (ZaO u n)),0)
end Go.BL
namespace Go.BL
open Go
theorem Zel {x:DHost} : Zah x=true↔(Zcl x.domain=true∧Zaw x.users=true∧ZaK x.queue=true)∧((∀f,f∈x.folders→Zaj x.users f=true)∧ZgZ x.folders=true∧x.folders.length≤8)∧(∀u,u∈x.users→ZaV x.folders u=true)∧(∀y,y∈x.queue.items→ZaH x.users y=true):=by
 simp only [Zah,Zd8,Bool.and_eq_true,decide_eq_true_eq,List.all_eq_true]
 constructor
 ·rintro ⟨⟨⟨⟨⟨h1,h2⟩,h3⟩,⟨h4,h5⟩,h6⟩,h7⟩,h8⟩
  exact ⟨⟨h1,h2,h3⟩,⟨h4,h5,h6⟩,h7,h8⟩
 ·rintro ⟨⟨h1,h2,h3⟩,⟨h4,h5,h6⟩,h7,h8⟩
  exact ⟨⟨⟨⟨⟨h1,h2⟩,h3⟩,⟨h4,h5⟩,h6⟩,h7⟩,h8⟩
theorem ZkY :∀{fs:List DFolder} {f:DFolder},ZgZ fs=true→(∀g,g∈fs→¬ (g.owner=f.owner∧g.name=f.name))→ZgZ (ZfI fs f)=true
 | [],f,_,_=>rfl
 | a :: r,f,h,hk=>by
  cases hl:ZbK a f with
  | true=>
   have e:ZfI (a :: r) f=a :: ZfI r f:=by simp [ZfI,Zfj,hl]
   have ih:=ZkY (fs:=r) (f:=f) (by cases r with | nil=>rfl | cons b r=>simp only [ZgZ,Bool.and_eq_true] at h;exact h.2) (fun g hg=>hk g (List.mem_cons_of_mem _ hg))
   rw [e]
   cases r with
   | nil=>simp [ZfI,Zfj,ZgZ,hl]
   | cons b r=>
    simp only [ZgZ,Bool.and_eq_true] at h
    cases hb:ZbK b f with
    | true=>
     have e2:ZfI (b :: r) f=b :: ZfI r f:=by simp [ZfI,Zfj,hb]
     rw [e2] at ih ⊢
     simp only [ZgZ,h.1,Bool.true_and];exact ih
    | false=>
     have e2:ZfI (b :: r) f=f :: b :: r:=by simp [ZfI,Zfj,hb]
     rw [e2] at ih ⊢
     simp only [ZgZ,hl,Bool.true_and] at ih ⊢;exact ih
  | false=>
   have e:ZfI (a :: r) f=f :: a :: r:=by simp [ZfI,Zfj,hl]
   rw [e]
   have hne:=hk a (List.mem_cons_self ..)
   have:ZbK f a=true:=by
    unfold ZbK at hl ⊢
    rw [ZaP f.owner a.owner,ZaP f.name a.name]
    simp only [Bool.or_eq_false_iff,Bool.and_eq_false_iff,decide_eq_false_iff_not] at hl
    by_cases e:a.owner=f.owner
    ·have e2:a.name≠f.name:=fun e2=>hne ⟨e,e2⟩
     rcases hl.2 with h2 | h2
     ·exact absurd e h2
     ·simp [e,Zc2,h2,e2]
    ·simp [hl.1,e]
   simp only [ZgZ,this,Bool.true_and];exact h
theorem Znl {fs:List DFolder} {f g:DFolder} : g∈ZfI fs f↔g∈fs∨g=f:=by
 have e:fs=fs.take (Zfj fs f) ++ fs.drop (Zfj fs f):=(List.take_append_drop _ _).symm
 constructor
 ·intro h
  simp only [ZfI,List.mem_append,List.mem_singleton] at h
  rcases h with (h | h) | h
  ·exact .inl (List.mem_of_mem_take h)
  ·exact .inr h
  ·exact .inl (List.mem_of_mem_drop h)
 ·intro h
  simp only [ZfI,List.mem_append,List.mem_singleton]
  rcases h with h | h
  ·rw [e,List.mem_append] at h
   rcases h with h | h
   ·exact .inl (.inl h)
   ·exact .inr h
  ·exact .inl (.inr h)
theorem Zgo (as bs:List DFolder) (u:Str):ZbR (as ++ bs) u=ZbR as u+ZbR bs u:=by simp [ZbR]
theorem ZmD (fs:List DFolder) (f:DFolder) (u:Str):ZbR (ZfI fs f) u=ZbR fs u+(if f.owner=u then Za8 f.mail else 0):=by
 have e:ZbR fs u=ZbR (fs.take (Zfj fs f)) u+ZbR (fs.drop (Zfj fs f)) u:=by rw [← Zgo,List.take_append_drop]
 rw [ZfI,Zgo,Zgo,e]
 simp only [ZbR,List.map_cons,List.map_nil,List.sum_cons,List.sum_nil];omega
theorem Zro (fs:List DFolder) (f:DFolder):(ZfI fs f).length=fs.length+1:=by
 have:=congrArg List.length (List.take_append_drop (Zfj fs f) fs)
 simp only [List.length_append] at this
 simp only [ZfI,List.length_append,List.length_cons,List.length_nil];omega
theorem Zh3 {x:DHost} {u n:Str} (h:Zah x=true) (hn:Zaf n=true) (hu : ¬ Zho x.users u<0) (hk : ¬ (0≤ZeD (inF u n) x.folders∨8≤x.folders.length)):Zah (x.withFolders (ZfI x.folders (ZaO u n)))=true:=by
 rw [Zel] at h ⊢
 obtain ⟨⟨h1,h2,h3⟩,⟨h4,h5,h6⟩,h7,h8⟩:=h
 refine ⟨⟨h1,h2,h3⟩,⟨?_,ZkY h5 ?_,by show (ZfI x.folders _).length≤8;rw [Zro];omega⟩,?_,h8⟩
 ·intro g hg
  rcases Znl.1 hg with hg | rfl
  ·exact h4 g hg
  ·have e2:Zey []=true:=by decide
   have e3:Zed ⟨1,[]⟩=true:=by decide
   simp only [Zaj,ZaO,DFolder.box,e2,e3,hn,Bool.and_true]
   exact decide_eq_true (by simp only [DHost.withFolders];omega)
 ·rintro g hg ⟨e1,e2⟩
  exact hk (.inl (Zf9.2 ⟨g,hg,by simp [inF,e1,e2,ZaO]⟩))
 ·intro w hw
  have:=h7 w hw
  simp only [ZaV,Bool.and_eq_true,decide_eq_true_eq] at this ⊢
  have e:ZbR (ZfI x.folders (ZaO u n)) w.name=ZbR x.folders w.name:=by
   rw [ZmD];simp [ZaO,Za8]
  obtain ⟨g,hg,hp⟩:=Zf9.1 this.1
  refine ⟨Zf9.2 ⟨g,Znl.2 (.inl hg),hp⟩,?_⟩
  show ((ZbR (ZfI x.folders (ZaO u n)) w.name:Nat):Int)≤w.quota
  rw [e];exact this.2
theorem Zl2 {x:DHost} {u n:Str} (h:Zah x=true):(ZP x u n).2=5∨Zah (ZP x u n).1=true:=by
 unfold ZP
 split
 ·exact .inl rfl
 ·rename_i h1
  split
  ·exact .inr h
  ·rename_i h2
   split
   ·exact .inr h
   ·rename_i h3
    exact .inr (Zh3 h (by simp only [h,true_and,Decidable.not_not] at h1;exact h1) h2 h3)
theorem Zmb {b:DBox} (h:Zed b=true) :∃l,Zcu b.mail=(true,l)∧l+1≤b.next∧b.next≤100∧b.mail.length≤10:=by
 simp only [Zed,Bool.and_eq_true,decide_eq_true_eq] at h
 exact ⟨(Zcu b.mail).2,Prod.ext h.1.1 rfl,h.1.2.1,h.1.2.2,h.2⟩
theorem ZkR :∀(xs:List DMail) (b0 b:Int),xs.foldl (fun (s:Bool × Int) x=>(s.1 && ZdC s.2 x,x.uid)) (true,b0)=(true,b)→b0≤b
 | [],b0,b,h=>by cases h;omega
 | x :: xs,b0,b,h=>by
  simp only [List.foldl_cons,Bool.true_and] at h
  cases hp:ZdC b0 x with
  | false=>
   rw [hp] at h
   have:=ZcG (p:=ZdC) (nx:=fun _ m=>m.uid) xs x.uid
   rw [h] at this;cases this
  | true=>
   rw [hp] at h
   have:=ZkR xs x.uid b h
   simp only [ZdC,Bool.and_eq_true,decide_eq_true_eq] at hp
   omega
theorem ZfF {x:DHost} {k:Nat} {fl:Int} {t:Str} : (Zm5 x k fl t).1.users=x.users∧(Zm5 x k fl t).1.queue=x.queue∧(Zm5 x k fl t).1.domain=x.domain∧(Zm5 x k fl t).1.folders.length=x.folders.length:=by
 unfold Zm5
 split
 ·exact ⟨rfl,rfl,rfl,rfl⟩
 ·split
  ·exact ⟨rfl,rfl,rfl,rfl⟩
  ·split
   ·exact ⟨rfl,rfl,rfl,by simp [DHost.withFolders]⟩
   ·exact ⟨rfl,rfl,rfl,rfl⟩
theorem Zpn {x:DHost} (h:Zah x=true):ZaK x.queue=true:=(Zel.1 h).1.2.2
end Go.BL
namespace Go.BL
open Go
theorem Zmc {b:DBox} (h:Zed b=true):1≤b.next∧b.next≤100∧b.mail.length≤10:=by
 obtain ⟨l,hs,h1,h2,h3⟩:=Zmb h
 have:=ZkR b.mail 0 l hs
 omega
structure GHC where
 q1:Option Addr
 c1:Nat
 q3:Option Addr
 c3:Nat
 b:Nat
theorem ZdV {α:Type} {p:α→Bool} :∀{fs:List α} {k:Nat},(∀y,y∈fs.take k→p y=true)→(fs.length≤k∨∃z,fs[k]? = some z∧p z=false)→k≤fs.length→(fs.takeWhile p).length=k
 | [],k,_,_,hk=>by simp at hk;subst hk;rfl
 | a :: fs,0,_,he,_=>by
  rcases he with he | ⟨z,hz,hp⟩
  ·simp at he
  ·simp at hz;subst hz;simp [hp]
 | a :: fs,k+1,ha,he,hk=>by
  have h1:p a=true:=ha a (by simp)
  have ih:=ZdV (fs:=fs) (k:=k) (fun y hy=>ha y (by simp [hy])) (by
   rcases he with he | ⟨z,hz,hp⟩
   ·exact .inl (by simpa using he)
   ·exact .inr ⟨z,by simpa using hz,hp⟩) (by simpa using hk)
  simp [h1,ih]
theorem ZbA {x:DHost} {u n:Str} {k:Nat} (h1:Zah x=true) (h2:Zaf n=true) (h3 : ¬ Zho x.users u<0) (h4 : ¬ 0≤ZeD (inF u n) x.folders) (h5 : ¬ 8≤x.folders.length) (hk:k≤x.folders.length)
  (ha :∀y,y∈x.folders.take k→ZbK y (ZaO u n)=true) (he:x.folders.length≤k∨∃z,x.folders[k]? = some z∧ZbK z (ZaO u n)=false) :
  ZP x u n=(x.withFolders (((x.folders.take k).drop 0 ++ [⟨u,n,[],1,[]⟩]) ++ (x.folders.take x.folders.length).drop k),0):=by
 rw [ZP,if_neg (fun h=>h ⟨h1,h2⟩),if_neg h3,if_neg (fun h=>h.elim h4 h5),ZfI,show Zfj x.folders (ZaO u n)=k from ZdV ha he hk,List.drop_zero,List.take_length]
 rfl
theorem Zok {gs:List DGrant} (h:Zey gs=true):gs.length≤4:=by simp only [Zey,Bool.and_eq_true,decide_eq_true_eq] at h;exact h.2
end Go.BL
namespace Go.BL
open Go
end Go.BL
namespace Go.BL
open Go
def Zbl (f:DFolder):Nat:=3+2*f.grants.length+3*f.mail.length
def mkF (k:Nat) (f:DFolder):DFolder:=⟨ZO k,ZO (k+1),Zar (k+1+1) f.grants.length,((k+1+1+2*f.grants.length:Nat):Int),Zbu (k+1+1+2*f.grants.length+1) f.mail.length⟩
def ZbD (x:DItem):Nat:=3+x.left.length
def mkI (k:Nat) (x:DItem):DItem:=⟨((k:Nat):Int),ZO (k+1),ZO (k+1+1),ZcL (k+1+1+1) x.left.length⟩
def kL {α:Type} (st:α→Nat) (k:Nat) (xs:List α):Nat:=k+(xs.map st).sum
def mkL {α:Type} (st:α→Nat) (mk:Nat→α→α):Nat→List α→List α
 | _,[]=>[]
 | k,x :: xs=>mk k x :: mkL st mk (k+st x) xs
theorem Zk6 {α:Type} {st:α→Nat} {k:Nat} : kL st k []=k:=by simp [kL]
theorem ZhY {α:Type} {st:α→Nat} {k:Nat} {x:α} {xs:List α} : kL st k (x :: xs)=kL st (k+st x) xs:=by simp [kL];omega
theorem Zgz {α:Type} {st:α→Nat} {k i:Nat} {xs:List α} {x:α} (hx:xs[i]? = some x):kL st k (xs.take (i+1))=kL st k (xs.take i)+st x:=by
 rw [Zcb hx,kL,kL,List.map_append,List.sum_append];simp;omega
theorem Zrk {α:Type} {st:α→Nat} {c:Nat} :∀{xs:List α} (k:Nat),(∀x,x∈xs→st x≤c)→kL st k xs≤k+xs.length*c
 | [],k,_=>by simp [kL]
 | x :: xs,k,h=>by
  have h1:=Zrk (st:=st) (c:=c) (xs:=xs) (k+st x) fun y hy=>h y (List.mem_cons_of_mem _ hy)
  have h2:=h x (List.mem_cons_self ..)
  rw [ZhY,List.length_cons,Nat.succ_mul];omega
theorem Zk3 {α:Type} {st:α→Nat} {mk:Nat→α→α} {x:α} :∀{xs:List α} (k:Nat),mkL st mk k (xs ++ [x])=mkL st mk k xs ++ [mk (kL st k xs) x]
 | [],k=>by simp [mkL,kL]
 | y :: xs,k=>by
  rw [List.cons_append,mkL,Zk3 (xs:=xs) (k+st y),mkL,ZhY,List.cons_append]
theorem ZdB {α:Type} {st:α→Nat} {mk:Nat→α→α} :∀{xs:List α} (k:Nat),(mkL st mk k xs).length=xs.length
 | [],k=>rfl
 | y :: xs,k=>by rw [mkL,List.length_cons,ZdB (k+st y),List.length_cons]
theorem Zpb {α:Type} {st:α→Nat} {mk:Nat→α→α} {xs ys:List α} {i k:Nat} {x:α} (ht:ys.take i=mkL st mk k (xs.take i)) (hx:xs[i]? = some x) (hl:ys.length=xs.length):(ys.set i (mk (kL st k (xs.take i)) x)).take (i+1)=mkL st mk k (xs.take (i+1)):=by
 have hi:=(List.getElem?_eq_some_iff.1 hx).1
 rw [ZbG (by omega),Zcb hx,Zk3,ht]
theorem Znk {α:Type} {st:α→Nat} {mk:Nat→α→α} {xs ys:List α} {i k:Nat} (ht:ys.take i=mkL st mk k (xs.take i)) (hl:ys.length=xs.length) (hi:xs.length≤i):ys=mkL st mk k xs:=by
 rwa [List.take_of_length_le (by omega),List.take_of_length_le hi] at ht
theorem ZjZ {α:Type} {st:α→Nat} {mk:Nat→α→α} :∀{xs:List α} {i:Nat} {x:α} (k:Nat),xs[i]? = some x→(mkL st mk k xs)[i]? = some (mk (kL st k (xs.take i)) x)
 | [],i,x,k,h=>by simp at h
 | y :: xs,0,x,k,h=>by
  simp only [List.getElem?_cons_zero,Option.some.injEq] at h
  subst h;simp [mkL,kL]
 | y :: xs,i+1,x,k,h=>by
  rw [mkL,List.getElem?_cons_succ,ZjZ (k+st y) (by simpa using h),List.take_succ_cons,ZhY]
theorem Zle {α:Type} {xs ys:List α} {i:Nat} {z:α} (hd:ys.drop i=xs.drop i):(ys.set i z).drop (i+1)=xs.drop (i+1):=by
 rw [List.drop_set_of_lt (by omega),← List.drop_drop,← List.drop_drop,hd]
theorem Zlf {α:Type} {xs ys:List α} {i:Nat} (hd:ys.drop i=xs.drop i):ys[i]? = xs[i]?:=by
 have:=congrArg (fun l=>l[0]?) hd
 simpa using this
theorem ZjY {k n g:Nat} (h:g<n):(Zbu k n)[g]? = some ⟨((k+3*g:Nat):Int),((k+3*g+1:Nat):Int),ZO (k+3*g+1+1)⟩:=by simp [Zbu,h]
theorem ZiR {k n g:Nat} (h:g<n):(Zar k n)[g]? = some ⟨ZO (k+2*g),((k+2*g+1:Nat):Int)⟩:=by simp [Zar,h]
theorem ZjW {k n g:Nat} (h:g<n):(Zb3 k n)[g]? = some ⟨ZO (k+3*g),ZO (k+3*g+1),((k+3*g+1+1:Nat):Int)⟩:=by simp [Zb3,h]
theorem ZlK {k n g:Nat} (h:g<n):(ZcL k n)[g]? = some (ZO (k+1*g)):=by simp [ZcL,h]
theorem Zdy {α:Type} {xs:List α} {k:Nat} {x z:α} (h:xs[k]? = some x):(xs.set k z)[k]? = some z:=List.getElem?_set_self (List.getElem?_eq_some_iff.1 h).1
theorem Zph {α:Type} {st:α→Nat} {k i:Nat} {xs:List α} {x:α} (hx:xs[i]? = some x):kL st k (xs.take i)+st x≤kL st k xs:=by
 have e:xs=xs.take (i+1) ++ xs.drop (i+1):=(List.take_append_drop _ _).symm
 have h1:=Zgz (st:=st) (k:=k) hx
 have h2:kL st k xs=kL st k (xs.take (i+1))+((xs.drop (i+1)).map st).sum:=by
  conv=>lhs;rw [e]
  simp only [kL,List.map_append,List.sum_append];omega
 omega
theorem Zk7 {α:Type} {st:α→Nat} {k i:Nat} {xs:List α} (h:xs.length≤i):kL st k (xs.take i)=kL st k xs:=by rw [List.take_of_length_le h]
theorem Zpg {α:Type} {st:α→Nat} {k:Nat} {xs:List α} : k≤kL st k xs:=by simp [kL]
theorem ZkM {α:Type} {xs ys:List α} {i:Nat} {z:α} (h:ys.length=xs.length):(ys.set i z).length=xs.length:=by rw [List.length_set,h]
theorem ZsO {α:Type} {st sz:α→Nat} {xs:List α} (k:Nat) (h :∀x,x∈xs→st x≤3+3*sz x):kL st k xs≤k+3*(xs.length+(xs.map sz).sum):=by
 induction xs generalizing k with
 | nil=>simp [kL]
 | cons x xs ih=>
  rw [ZhY]
  have h1:=ih (k+st x) fun y hy=>h y (List.mem_cons_of_mem _ hy)
  have h2:=h x (List.mem_cons_self ..)
  simp only [List.length_cons,List.map_cons,List.sum_cons];omega
theorem ZiQ {α:Type} {st:α→Nat} {mk:Nat→α→α} {xs ys:List α} {i k m:Nat} {x:α} (ht:ys.take i=mkL st mk k (xs.take i)) (hx:xs[i]? = some x) (hl:ys.length=xs.length) (hs:m=kL st k (xs.take i)):(ys.set i (mk m x)).take (i+1)=mkL st mk k (xs.take (i+1)):=by
 subst hs;exact Zpb ht hx hl
end Go.BL
namespace Go.BL
open Go
theorem Zt6 {k:Nat} {fs:List DFolder} : kL Zbl k fs≤k+3*szL Zaq fs:=ZsO k fun x _=>by simp only [Zbl,Zaq,szL];omega
theorem Zt3 {k:Nat} {xs:List DItem} : kL ZbD k xs≤k+3*szL Zbk xs:=ZsO k fun x _=>by simp only [ZbD,Zbk,ZeB,szL];omega
def kH (k:Nat) (x:DHost):Nat:=kL ZbD (kL Zbl (k+3*x.users.length) x.folders) x.queue.items
theorem Zt5 {x:DHost} (h:Zc0 x≤1048576):kH 1 x≤10000000:=by
 have h1:=@Zt3 (kL Zbl (1+3*x.users.length) x.folders) x.queue.items
 have h2:=@Zt6 (1+3*x.users.length) x.folders
 unfold Zc0 at h
 have h3:x.users.length≤szL ZcD x.users:=by simp only [szL];omega
 unfold kH;omega
end Go.BL
namespace Go.BL
open Go
end Go.BL
namespace Go.BL
open Go
end Go.BL
namespace Go.BL
open Go
end Go.BL
namespace Go.BL
open Go
end Go.BL
namespace Go.BL
open Go
end Go.BL
namespace Go.BL
open Go
end Go.BL
namespace Go.BL
open Go
theorem ZvV {B:Kn} {L:List Cells} {b o:Nat} {row vs:List Value} {a:Addr} (hc :∀(m:Nat) (u:Value),row[m]? = some u→ZaJ B L.flatten ⟨b,o+m,none⟩ u) (off:Nat) (ha:a=⟨b,o+off,none⟩) (hv:(row.drop off).take vs.length=vs):Zon B L a vs:=by
 intro i v hi
 subst ha
 rw [Addr.add_off _ _ rfl]
 have hlt:i<vs.length:=(List.getElem?_eq_some_iff.1 hi).1
 have:row[off+i]? = some v:=by
  have e:=congrArg (fun l=>l[i]?) hv
  simp only [List.getElem?_take,if_pos hlt,List.getElem?_drop] at e
  rw [e,hi]
 have:=hc _ v this
 rwa [show o+(off+i)=o+off+i from by omega] at this
theorem ZaR.cellA {α:Type} {l:Cells} {p:Option Addr} {c:Nat} {T:TypeId} {w:Nat} {R:Zfv α} {xs:List α} (h:ZaR l p c T w R xs) {i:Nat} {x:α} (hx:xs[i]? = some x) :
∃b row li lr,p=some ⟨b,0,none⟩∧R row x li∧row.length=w∧l.Perm (li ++ lr)∧(∀(B:Kn) (L:List Cells) (j:Nat),L[j]? = some l→∀(m:Nat) (u:Value),row[m]? = some u→ZaJ B L.flatten ⟨b,i*w+m,none⟩ u)∧(∀(B:Kn) (L:List Cells) (j:Nat),L[j]? = some lr→∀(m:Nat) (u:Value),row[m]? = some u→ZaJ B L.flatten ⟨b,i*w+m,none⟩ u)∧∀x' li',R row x' li'→ZaR (li' ++ lr) p c T w R (xs.set i x'):=by
 obtain ⟨b,arr,row,li,lr,e1,e2,e3,e4,e5,e6⟩:=h.open1 hx
 refine ⟨b,row,li,Zap b arr T ++ lr,e1,e2,e3,e4,fun B L j hj m u hm=>⟨rfl,arr.toArray,T,(0,0),.inr ?_,by simpa using e5 m u hm⟩,fun B L j hj m u hm=>⟨rfl,arr.toArray,T,(0,0),.inr ?_,by simpa using e5 m u hm⟩,e6⟩
 ·exact List.mem_flatten.2 ⟨l,List.mem_of_getElem? hj,e4.mem_iff.2 (List.mem_append_right _ (List.mem_append_left _ (List.mem_singleton.2 rfl)))⟩
 ·exact List.mem_flatten.2 ⟨_,List.mem_of_getElem? hj,List.mem_append_left _ (List.mem_singleton.2 rfl)⟩
end Go.BL
namespace Go.BL
open Go
end Go.BL
namespace Go.BL
open Go
end Go.BL
namespace Go.BL
open Go
end Go.BL
namespace Go.BL
open Go
end Go.BL
namespace Go.BL
open Go
end Go.BL
namespace Go.BL
open Go
end Go.BL
namespace Go.BL
open Go
end Go.BL
namespace Go.BL
open Go
end Go.BL
namespace Go.BL
open Go
end Go.BL
namespace Go.BL
open Go
theorem Zt4 {y:DHost} (h:Zah y=true):kH 1 y≤700000000000000∧y.users.length≤2000000∧y.folders.length≤2000000∧y.queue.items.length≤2000000:=by
 obtain ⟨⟨_,h2,h3⟩,⟨h4,_,h6⟩,_⟩:=Zel.1 h
 have hu:y.users.length≤4:=by
  simp only [Zaw,Bool.and_eq_true,decide_eq_true_eq] at h2;exact h2.2.2
 have hq:=(ZdX h3).2.2
 have hf:=Zrk (st:=Zbl) (c:=41) (xs:=y.folders) (1+3*y.users.length) fun f hf=>by
  have e:=h4 f hf
  simp only [Zaj,Bool.and_eq_true,decide_eq_true_eq] at e
  have e1:f.grants.length≤4:=Zok e.1.2
  have e2:f.mail.length≤10:=(Zmc e.2).2.2
  simp only [Zbl];omega
 have hi:=Zrk (st:=ZbD) (c:=6) (xs:=y.queue.items) (kL Zbl (1+3*y.users.length) y.folders) fun z hz=>by
  have e:=ZiG h3 hz
  have e2:z.left.length≤3:=by
   simp only [Zd4,Zca,Zcm,Bool.and_eq_true,decide_eq_true_eq] at e;exact e.1.1.2.2
  simp only [ZbD];omega
 have h8:y.folders.length*41≤8*41:=Nat.mul_le_mul_right _ h6
 have h9:y.queue.items.length*6≤6*6:=Nat.mul_le_mul_right _ hq
 refine ⟨?_,by omega,by omega,by omega⟩
 unfold kH;omega
theorem ZsQ:kH 1 ZcJ≤700000000000000∧ZcJ.users.length≤2000000∧ZcJ.folders.length≤2000000∧ZcJ.queue.items.length≤2000000:=by
 refine ⟨?_,?_,?_,?_⟩ <;> simp [ZcJ,kH,kL]
theorem ZsP {x y:DHost} (h1:Zah x=false→y=ZcJ) (h2:Zah x=true→y=ZcJ∨Zah y=true):kH 1 y≤700000000000000∧y.users.length≤2000000∧y.folders.length≤2000000∧y.queue.items.length≤2000000:=by
 cases hx:Zah x with
 | false=>rw [h1 hx];exact ZsQ
 | true=>
  rcases h2 hx with e | e
  ·rw [e];exact ZsQ
  ·exact Zt4 e
end Go.BL
namespace Go.BL
open Go
def Zjl (x:DHost) (u n:Str):Nat:=if (Zac x.users u).2=false then 1 else if 0≤ZeD (inF u n) x.folders∨8≤x.folders.length then 4 else 0
def Zjk (x:DHost) (u n:Str):DHost:=if Zjl x u n=0 then x.withFolders (ZfI x.folders (ZaO u n)) else x
theorem Zoc (x:DHost) (u n:Str):Zjl x u n<5:=by unfold Zjl;split <;> (try split) <;> omega
theorem Zlk {x:DHost} {u n:Str} (h:(Zac x.users u).2=false):Zjl x u n=1∧Zjk x u n=x:=by
 have e:Zjl x u n=1:=by rw [Zjl,if_pos h]
 exact ⟨e,by rw [Zjk,if_neg (by omega)]⟩
theorem Zif {x:DHost} {u n:Str} (h:(Zac x.users u).2=true) (h2:0≤ZeD (inF u n) x.folders∨8≤x.folders.length):Zjl x u n=4∧Zjk x u n=x:=by
 have e:Zjl x u n=4:=by rw [Zjl,if_neg (by simp [h]),if_pos h2]
 exact ⟨e,by rw [Zjk,if_neg (by omega)]⟩
theorem ZpK {x:DHost} {u n:Str} {k:Nat} (h:(Zac x.users u).2=true) (h2 : ¬ (0≤ZeD (inF u n) x.folders∨8≤x.folders.length)) (hk:k≤x.folders.length)
  (ha :∀y,y∈x.folders.take k→ZbK y (ZaO u n)=true) (he:x.folders.length≤k∨∃z,x.folders[k]? = some z∧ZbK z (ZaO u n)=false) :
  Zjl x u n=0∧Zjk x u n=x.withFolders (x.folders.take k ++ ZaO u n :: x.folders.drop k):=by
 have e:Zjl x u n=0:=by rw [Zjl,if_neg (by simp [h]),if_neg h2]
 refine ⟨e,?_⟩
 rw [Zjk,if_pos e,ZfI,show Zfj x.folders (ZaO u n)=k from ZdV ha he hk,List.append_assoc];rfl
theorem Zjj (x:DHost) (u n:Str):((if Zaf n=true∧Zah x=true then (Zjk x u n,(Zjl x u n:Int)) else (ZcJ,5)):DHost × Int)=ZP x u n:=by
 unfold ZP
 by_cases h:Zah x=true∧Zaf n=true
 ·rw [if_pos ⟨h.2,h.1⟩,if_neg (fun hh=>hh h)]
  have hk:=Zki h.1 u
  by_cases h1:Zho x.users u<0
  ·obtain ⟨e1,e2⟩:=Zlk (n:=n) (show (Zac x.users u).2=false by rw [hk];simp;omega)
   rw [if_pos h1,e1,e2];rfl
  ·have hu:(Zac x.users u).2=true:=by rw [hk];simp;omega
   rw [if_neg h1]
   by_cases h2:0≤ZeD (inF u n) x.folders∨8≤x.folders.length
   ·obtain ⟨e1,e2⟩:=Zif hu h2
    rw [if_pos h2,e1,e2];rfl
   ·have e:Zjl x u n=0:=by rw [Zjl,if_neg (by simp [hu]),if_neg h2]
    rw [if_neg h2,Zjk,if_pos e,e];rfl
 ·rw [if_neg (fun hh=>h ⟨hh.2,hh.1⟩),if_pos h]
theorem Zl3 {x:DHost} {u n:Str} (h:Zah x=false):(ZP x u n).1=ZcJ:=by rw [ZP,if_pos (by simp [h])]
theorem Zrl {x:DHost} {u n:Str} : kH 1 (ZP x u n).1≤700000000000000∧(ZP x u n).1.users.length≤2000000∧(ZP x u n).1.folders.length≤2000000∧(ZP x u n).1.queue.items.length≤2000000:=
 ZsP (x:=x) Zl3 fun h=>by
  by_cases h1:Zaf n=true
  ·rcases Zl2 (u:=u) (n:=n) h with e | e
   ·exfalso
    rw [← Zjj,if_pos ⟨h1,h⟩] at e
    have:=Zoc x u n
    simp only at e;omega
   ·exact .inr e
  ·left;rw [ZP,if_pos (fun hh=>h1 hh.2)]
theorem Zpe {f:DFolder} {u n:Str} (h:Zqy f u n<0):ZbK f (ZaO u n)=true:=by
 cases hq:ZbK f (ZaO u n) with
 | true=>rfl
 | false=>have:=(Zfq f (ZaO u n)).2 hq;exact absurd this (by show ¬ 0≤Zqy f u n;omega)
end Go.BL
namespace Go.BL
open Go
end Go.BL
namespace Go.BL
open Go
end Go.BL
namespace Go.BL
open Go
end Go.BL
namespace Go.BL
section
variable {P:PJ} {n:Nat} {ops:Array Oper} {i:Nat} {K:Z5} {S:Env} {D:List Deferred} {B:Kn} {L:List Cells}
variable {dst:Option Tmp} {ty:TypeId} {pos:String} {after:Array Edge} {g:Option (Nat × Bool)}
end
end Go.BL
