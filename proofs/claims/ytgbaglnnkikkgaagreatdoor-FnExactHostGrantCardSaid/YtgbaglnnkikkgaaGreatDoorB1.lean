/-
  THE WALK'S LOGIC: owned cells and known cells, goroutines started and awaited, calls, loops, data, and plain laws on lists: no program in sight.
-/
import Derived.Test.YtgbaglnnkikkgaaGreatDoorB0
set_option linter.unusedVariables false
set_option linter.unusedSimpArgs false
set_option linter.unusedSectionVars false
namespace Go.BL
open Go.Conc (G)
def Z1 (Tg Tm:TypeId):Zf6 DFolder:=fun row x ins=>∃q c q' c' i1 i2,row=[str x.owner,str x.name,.slice q x.grants.length c,.int .i64 x.next,.slice q' x.mail.length c']∧ins=i1 ++ i2∧ZP Kn.none i1 q c Tg 2 ZD x.grants∧ZP Kn.none i2 q' c' Tm 3 Zam x.mail∧
 x.owner.length≤2000000∧x.name.length≤2000000∧x.grants.length≤2000000∧x.mail.length≤2000000
theorem Z1.known {Tg Tm:TypeId} {B:Kn} {row:List Value} {x:DFolder} {ins:Cells} (h:Z1 Tg Tm row x ins) (hm :∀q,q∈ins→B.mem q.1=some q.2):Zs B row x:=by
 obtain ⟨q,c,q',c',i1,i2,h1,rfl,h2,h3,h4,h5,h6,h7⟩:=h
 exact ⟨q,c,q',c',h1,⟨h2.rowsF ZD.any fun p hp=>hm p (List.mem_append.2 (.inl hp)),h2.cap,h6⟩,⟨h3.rowsF Zam.any fun p hp=>hm p (List.mem_append.2 (.inr hp)),h3.cap,h7⟩,h4,h5⟩
theorem All3.set {α:Type} {R:Zf6 α} {rows:List (List Value)} {xs:List α} {s:Cells} (h:All3 R rows xs s) {row:List Value} {z:α} {ins:Cells} (hz:R row z ins) :∀k,k<xs.length→∃s' gl,All3 R (rows.set k row) (xs.set k z) s'∧(s ++ ins).Perm (s' ++ gl):=by
 induction h with
 | nil=>intro k hk;simp at hk
 | @cons row0 x ins0 rest rows xs h1 h2 ih=>
  intro k hk
  cases k with
  | zero=>
   refine ⟨ins ++ rest,ins0,.cons hz h2,?_⟩
   exact ZoK fun f g h0 ha hc=>by simp only [ha];omega
  | succ k=>
   obtain ⟨s',gl,h3,h4⟩:=ih k (by simpa using hk)
   refine ⟨ins0 ++ s',gl,.cons h1 h3,?_⟩
   rw [List.append_assoc,List.append_assoc]
   exact List.Perm.append_left _ h4
theorem All3.zeros {α:Type} {R:Zf6 α} {row:List Value} {d:α} (h:R row d []) :∀m,All3 R (List.replicate m row) (List.replicate m d) []
 | 0=>.nil
 | m+1=>by rw [List.replicate_succ,List.replicate_succ];exact All3.cons (ins:=[]) h (All3.zeros h m)
theorem ZaV.zeros {α:Type} {b:Nat} {T:TypeId} {R:Zf6 α} {zs:List Value} {d:α} {m c w:Nat} (hw:zs.length=w) (hR:R zs d []) (hmc:m≤c):ZaV (Zar b (zrow zs c) T) (some ⟨b,0,Option.none⟩) c T w R (List.replicate m d):=by
 refine ⟨List.replicate m zs,_,[],All3.zeros hR m,fun r hr=>by rw [(List.mem_replicate.1 hr).2];exact hw,by rw [List.append_nil],?_,.inr ⟨b,_,rfl,by rw [ZbV,hw],?_,rfl,by rw [List.length_replicate];exact hmc⟩⟩
 ·rw [List.length_replicate]
  exact (ZbV (z:=zs) (c:=m)).trans (by rw [hw])
 ·rw [List.length_replicate]
  have e:zrow zs c=zrow zs m ++ zrow zs (c - m):=by
   simp only [zrow,← List.flatten_append,List.replicate_append_replicate]
   rw [show m+(c - m)=c from by omega]
  rw [e,List.take_append_of_le_length (by rw [ZbV,hw];exact Nat.le_refl _),List.take_of_length_le (by rw [ZbV,hw];exact Nat.le_refl _)]
  rfl
theorem Zgc :∀{l vs:List Value},l.length=vs.length→Z4 l 0 vs=vs
 | l,[],h=>by rw [Zby];exact List.eq_nil_of_length_eq_zero h
 | [],v :: vs,h=>by simp at h
 | x :: l,v :: vs,h=>by
  have:=Zgc (l:=l) (vs:=vs) (by simpa using h)
  simp [Z4,this]
section
variable {P:PJ} {n:Nat} {ops:Array Oper} {i:Nat} {K:ZaG} {S:Env} {D:List Deferred} {B:Kn} {L:List Cells} {Q:Exit→Z8}
variable {dst:Option Tmp} {ty:TypeId} {pos:String} {after:Array Edge} {g:Option (Nat × Bool)}
theorem Zk9 {o:Oper} {L':List Cells} {K':ZaG} (hp:L.flatten.Perm L'.flatten) (h:opX P n ops i o K' S D B L') (hk :∀v D' B' L₁,B.le B'→K' v D' B' L₁→∃L₂ gl,L₁.flatten.Perm (L₂.flatten ++ gl)∧K v D' B' L₂):opX P n ops i o K S D B L:=⟨h.1,fun C todo k T ho hn hT hA=>
 C.X.perm (hp.append_right _) (h.2 C todo k T ho hn hT fun v D' B' L₁ hle hK=>by
  obtain ⟨L₂,gl,hp2,hK2⟩:=hk v D' B' L₁ hle hK
  refine C.X.drop (r:=L₂.flatten ++ C.F) (gl:=gl) ((hp2.append_right _).trans ?_) (hA v D' B' L₂ hle hK2)
  rw [List.append_assoc,List.append_assoc]
  exact List.Perm.append_left _ List.perm_append_comm)⟩
theorem Zt9 {α:Type} {R:Zf6 α} {xs:List α} (z:α) {t T:TypeId} {x y:Operand} {v:Value} {row:List Value} {sz k c b:Nat} {l:Cells} {p:Option Addr} {inss r:List Cells} (j:Nat) (ks:List Nat) (hpk:Zau L (j :: ks)=some (l :: inss,r)) (hnd:Zeb (j :: ks)=true) (hv:ZaV l p c T sz R xs) (hp:p=some ⟨b,0,Option.none⟩) (hk:k<xs.length) (hg:Zj ops S g=some true) (hd:Zq n dst=true) (hsz:ZS P t=some sz)
  (hx:ev S x=some (ptr ⟨b,k*sz,Option.none⟩)) (hy:ev S y=some v) (hvc:v.cells=row.toArray) (ho:row.all Zhc=true) (hrl:row.length=sz) (ins0:Cells) (hi0:inss.flatten=ins0) (hr:R row z ins0)
  (h :∀l',ZaV l' p c T sz R (xs.set k z)→K undef D B (Zb9 r (j :: ks) (l' :: inss.map fun _=>[]))):opX P n ops i ⟨dst,.store t x y,ty,pos,after,g⟩ K S D B L:=by
 subst hp
 subst hi0
 obtain ⟨rows,blk,ins,h1,h2,h3,hl1,⟨hc,_⟩ | ⟨b',arr,e,ha,ht,rfl,hmc⟩⟩:=hv
 ·cases hc
 ·cases e
  have hpp:=Z5 (j :: ks) L (l :: inss) r hpk
  have hb1:k*sz+row.length≤arr.length:=by
   have:(k+1)*sz≤c*sz:=Nat.mul_le_mul_right sz (by omega)
   rw [Nat.succ_mul] at this;omega
  obtain ⟨s',gl,a1,a2⟩:=h1.set hr k hk
  refine Zk9 (L':=[Zar b arr T ++ ins,inss.flatten ++ r.flatten]) (K':=fun u D' B' L₁=>u=undef∧D'=D∧B'=B∧L₁=[Zar b (Z4 arr (k*sz) row) T ++ ins,inss.flatten ++ r.flatten]) ?_ ?_ ?_
  ·refine hpp.trans ?_
   simp only [List.flatten_cons,List.flatten_nil,List.append_nil,List.append_assoc]
   refine (h3.append_right _).trans ?_
   rw [List.append_assoc]
  ·exact Z0 row 0 (Z4 arr (k*sz) row) hg hd (by rw [hrl];exact hsz) hx hy hvc ho (T:=T) (r:=ins) rfl rfl (by rw [Nat.ble_eq];exact hb1) rfl ⟨rfl,rfl,rfl,rfl⟩
  ·rintro u D' B' L₁ hle ⟨rfl,rfl,rfl,rfl⟩
   have hlen:k<rows.length:=by rw [h1.len];exact hk
   have hnew:ZaV (Zar b (Z4 arr (k*sz) row) T ++ s') (some ⟨b,0,Option.none⟩) c T sz R (xs.set k z):=by
    refine ⟨rows.set k row,_,s',a1,fun r' hr'=>?_,.refl _,?_,.inr ⟨b,_,rfl,by rw [ZY];exact ha,?_,rfl,by rw [List.length_set];exact hmc⟩⟩
    ·rcases List.mem_or_eq_of_mem_set hr' with hr' | rfl
     ·exact h2 r' hr'
     ·exact hrl
    ·rw [ZcY (w:=sz),List.length_set,List.length_set,h1.len]
     intro r' hr'
     rcases List.mem_or_eq_of_mem_set hr' with hr' | rfl
     ·exact h2 r' hr'
     ·exact hrl
    ·rw [List.length_set]
     have hr1:rows[k]? = some rows[k]:=List.getElem?_eq_getElem hlen
     have hrow0:rows[k].length=sz:=h2 _ (List.getElem_mem hlen)
     have e:=ZcR (us:=row) (off:=0) h2 hr1 (by omega)
     rw [Zgc (by rw [hrow0,hrl]),Nat.add_zero] at e
     have hb2:k*sz+row.length≤xs.length*sz:=by
      have:(k+1)*sz≤xs.length*sz:=Nat.mul_le_mul_right sz hk
      rw [Nat.succ_mul] at this;omega
     have hb3:xs.length*sz≤arr.length:=by rw [ha];exact Nat.mul_le_mul_right sz hmc
     rw [Zc3 _ _ _ _ hb2 hb3,ht,e]
   refine ⟨_,gl,?_,h _ hnew⟩
   have hq:=ZbJ ((Zar b (Z4 arr (k*sz) row) T ++ s') :: inss.map fun _=>[]) r (j :: ks) (ZbL hnd) (fun jj hj=>ZbK (j :: ks) L (l :: inss) r hpk jj (.inr hj))
   have hnil:((inss.map fun _=>([]:Cells))).flatten=[]:=by
    clear hpk hpp hq hr h
    induction inss with
    | nil=>rfl
    | cons a as ih=>simp
   rw [List.flatten_cons,hnil,List.append_nil] at hq
   simp only [List.flatten_cons,List.flatten_nil,List.append_nil]
   refine List.Perm.trans ?_ (hq.append_right gl)
   have e1:(Zar b (Z4 arr (k*sz) row) T ++ ins ++ (inss.flatten ++ r.flatten)).Perm (Zar b (Z4 arr (k*sz) row) T ++ ((ins ++ inss.flatten) ++ r.flatten)):=by simp only [List.append_assoc];exact .refl _
   have e2:(Zar b (Z4 arr (k*sz) row) T ++ ((ins ++ inss.flatten) ++ r.flatten)).Perm (Zar b (Z4 arr (k*sz) row) T ++ ((s' ++ gl) ++ r.flatten)):=List.Perm.append_left _ (a2.append_right _)
   refine (e1.trans e2).trans ?_
   exact ZoK fun f g h0 ha hc=>by simp only [ha];omega
end
section
variable {P:PJ} {n:Nat} {ops:Array Oper} {i:Nat} {K:ZaG} {S:Env} {D:List Deferred} {B BV:Kn} {L:List Cells}
variable {dst:Option Tmp} {ty:TypeId} {pos:String} {after:Array Edge} {g:Option (Nat × Bool)}
theorem Zqr {α:Type} {R:Rel α} {xs:List α} (z:α) {t T:TypeId} {x y:Operand} {v:Value} {row:List Value} {l:Cells} {p:Option Addr} {c sz k b:Nat} (j:Nat) (hj:L[j]? = some l) (hv:ZP BV l p c T sz R xs) (hp:p=some ⟨b,0,none⟩) (hk:k<xs.length) (hg:Zj ops S g=some true) (hd:Zq n dst=true) (hsz:ZS P t=some sz)
  (hx:ev S x=some (ptr ⟨b,k*sz,none⟩)) (hy:ev S y=some v) (hvc:v.cells=row.toArray) (ho:row.all Zhc=true) (hrl:row.length=sz) (hr:R BV row z)
  (h :∀l',ZP BV l' p c T sz R (xs.set k z)→K undef D B (L.set j l')):opX P n ops i ⟨dst,.store t x y,ty,pos,after,g⟩ K S D B L:=by
 obtain ⟨rows,h1,h2,h3,⟨rfl,_,_,_⟩ | ⟨b',arr,rfl,ha,ht,rfl,hmc⟩⟩:=hv
 ·cases hp
 ·cases hp
  have hlen:k<rows.length:=by rw [h1.len];exact hk
  have hr1:rows[k]? = some rows[k]:=List.getElem?_eq_getElem hlen
  have hrow0:rows[k].length=sz:=h2 _ (List.getElem_mem hlen)
  have hb1:k*sz+row.length≤xs.length*sz:=by
   have:(k+1)*sz≤xs.length*sz:=Nat.mul_le_mul_right sz hk
   rw [Nat.succ_mul] at this;omega
  have hb2:xs.length*sz≤arr.length:=by rw [ha];exact Nat.mul_le_mul_right sz hmc
  refine Z0 row j (Z4 arr (k*sz) row) hg hd (by rw [hrl];exact hsz) hx hy hvc ho (r:=[]) hj rfl (by rw [Nat.ble_eq];show k*sz+row.length≤arr.length;omega) rfl (h _ ?_)
  have e:=ZcR (us:=row) (off:=0) h2 hr1 (by omega)
  rw [Zgc (by rw [hrow0,hrl]),Nat.add_zero] at e
  refine ⟨rows.set k row,h1.set hr k,fun r hr'=>?_,?_,.inr ⟨b,_,rfl,by rw [ZY];exact ha,?_,rfl,by rw [List.length_set];exact hmc⟩⟩
  ·rcases List.mem_or_eq_of_mem_set hr' with hr' | rfl
   ·exact h2 r hr'
   ·exact hrl
  ·rw [← e,ZY,List.length_set];exact h3
  ·rw [List.length_set,Zc3 _ _ _ _ hb1 hb2,ht,e]
end
def fill {α:Type} (xs:List α) (d:α) (k:Nat):List α:=xs.take k ++ List.replicate (xs.length - k) d
theorem ZeN {α:Type} {xs:List α} {d:α} {k:Nat} (h:k≤xs.length):(fill xs d k).length=xs.length:=by
 rw [fill,List.length_append,List.length_take,List.length_replicate];omega
theorem ZdK {α:Type} {xs:List α} {d:α} : fill xs d 0=List.replicate xs.length d:=by simp [fill]
theorem ZeO {α:Type} {xs:List α} {d:α} {k:Nat} (h:xs.length≤k):fill xs d k=xs:=by
 rw [fill,List.take_of_length_le h,show xs.length - k=0 from by omega];simp
theorem ZdL {α:Type} {xs:List α} {d z:α} {k:Nat} (hz:xs[k]? = some z):(fill xs d k).set k z=fill xs d (k+1):=by
 have hk:=(List.getElem?_eq_some_iff.1 hz).1
 have e1:(xs.take k).length=k:=by rw [List.length_take];omega
 rw [fill,fill,List.set_append_right _ _ (by omega),e1,Nat.sub_self,List.take_add_one,hz,show xs.length - k=(xs.length - (k+1))+1 from by omega,List.replicate_succ]
 simp
theorem Zv.borrowL {P:PJ} {f:FuncId} {args:List Value} {B:Kn} {ls Ls:List Cells} {Post:Value→Kn→List Cells→Prop}
  (h:(∀p,p∈ls.flatten→(B.add ls.flatten).mem p.1=some p.2)→Zv P f args (B.add ls.flatten) Ls Post) :
  Zv P f args B (ls ++ Ls) (fun v B' Ls'=>∃B₂ Ls₂,Ls'=ls ++ Ls₂∧B'=B₂.minus ls.flatten∧(B.add ls.flatten).le B₂∧(∀p,p∈ls.flatten→(B.add ls.flatten).mem p.1=some p.2)∧(B.add ls.flatten).minus ls.flatten=B∧Post v B₂ Ls₂):=fun X kind c cs F hk hA=>by
 have key:=Zv.borrow (l:=ls.flatten) (Ls:=Ls) h X kind c cs F hk fun v B' Ls' hle ⟨B₂,Ls₂,h1,h2,h3,h4,h5,h6⟩=>by
  have:=hA v B' (ls ++ Ls₂) hle ⟨B₂,Ls₂,rfl,h2,h3,h4,h5,h6⟩
  subst h1
  rw [List.flatten_cons]
  rwa [List.flatten_append] at this
 rw [List.flatten_cons] at key
 rwa [List.flatten_append]
section
variable {P:PJ} {C:Cx P} {k:List Item} {n:Nat} {ops:Array Oper} {i:Nat} {S:Env} {D:List Deferred} {B BV:Kn} {L:List Cells} {Q:Exit→Z8}
variable {α:Type} {xs:List α} {l:Cells} {p:Option Addr} {cp:Nat} {T:TypeId} {w:Nat}
theorem ZxJ {R:Rel α} {B':Kn} (hv:ZP BV l p cp T w R xs) (hA:Zqj R) (hl:xs.length≤2000000) (hm :∀q,q∈l→B'.mem q.1=some q.2):SlK B' p cp w R xs:=⟨hv.rowsF hA hm,hv.cap,hl⟩
theorem Zsh {R:Rel α} {o:Oper} {K:Z8} (j:Nat) (hj:L[j]? = some l) (hv:ZP BV l p cp T w R xs) (hA:Zqj R) (hl:xs.length≤2000000) (h :∀B',B.le B'→SlK B' p cp w R xs→opW P n ops i o K S D B' (L.set j [])):opW P n ops i o K S D B L:=fun C todo k T ho hn hT hA'=>by
 obtain ⟨r,h1,h2⟩:=ZH C.F [] hj
 exact C.X.publish rfl h1 fun B' hle hm=>C.X.perm (by simpa using h2.symm) (h B' hle (ZxJ hv hA hl hm) C todo k T ho hn hT fun S' D' B'' L' T' hle' hq=>hA' S' D' B'' L' T' (hle.trans hle') hq)
theorem Zvt {R:Rel α} {I:Kn→List Cells→Prop} {ℓ:List Nat} {K:Z8} (j:Nat) (hj:L[j]? = some l) (hv:ZP BV l p cp T w R xs) (hA:Zqj R) (hl:xs.length≤2000000) (hI' :∀B',B.le B'→I B' (L.set j []))
  (h :∀B',B.le B'→SlK B' p cp w R xs→Zbc C k n ops I ℓ K S D B' (L.set j [])):Zbc C k n ops I ℓ K S D B L:=fun T ex pend π a1 a2 a3 a4 a5 a6 a7 a8 a9 hI hA'=>by
 obtain ⟨r,h1,h2⟩:=ZH C.F [] hj
 exact C.X.publish rfl h1 fun B' hle hm=>C.X.perm (by simpa using h2.symm) (h B' hle (ZxJ hv hA hl hm) T ex pend π a1 a2 a3 a4 a5 a6 a7 a8 a9 (hI' B' hle) fun S' D' B'' L' T' hle' hq=>hA' S' D' B'' L' T' (hle.trans hle') hq)
theorem Zmh {R:Zf6 α} {R':Rel α} {o:Oper} {K:Z8} (j:Nat) (hj:L[j]? = some l) (hv:ZaV l p cp T w R xs) (hR :∀{B:Kn} {row:List Value} {x:α} {ins:Cells},R row x ins→(∀q,q∈ins→B.mem q.1=some q.2)→R' B row x) (hM:Mono R') (hl:xs.length≤2000000)
  (h :∀B',B.le B'→SlK B' p cp w R' xs→opW P n ops i o K S D B' (L.set j [])):opW P n ops i o K S D B L:=fun C todo k T ho hn hT hA'=>by
 obtain ⟨r,h1,h2⟩:=ZH C.F [] hj
 exact C.X.publish rfl h1 fun B' hle hm=>C.X.perm (by simpa using h2.symm) (h B' hle (hv.known (fun _ _ _ a b=>hR a b) hM hm hl) C todo k T ho hn hT fun S' D' B'' L' T' hle' hq=>hA' S' D' B'' L' T' (hle.trans hle') hq)
theorem ZsC {R:Zf6 α} {R':Rel α} {I:Kn→List Cells→Prop} {ℓ:List Nat} {K:Z8} (j:Nat) (hj:L[j]? = some l) (hv:ZaV l p cp T w R xs) (hR :∀{B:Kn} {row:List Value} {x:α} {ins:Cells},R row x ins→(∀q,q∈ins→B.mem q.1=some q.2)→R' B row x) (hM:Mono R') (hl:xs.length≤2000000) (hI' :∀B',B.le B'→I B' (L.set j []))
  (h :∀B',B.le B'→SlK B' p cp w R' xs→Zbc C k n ops I ℓ K S D B' (L.set j [])):Zbc C k n ops I ℓ K S D B L:=fun T ex pend π a1 a2 a3 a4 a5 a6 a7 a8 a9 hI hA'=>by
 obtain ⟨r,h1,h2⟩:=ZH C.F [] hj
 exact C.X.publish rfl h1 fun B' hle hm=>C.X.perm (by simpa using h2.symm) (h B' hle (hv.known (fun _ _ _ a b=>hR a b) hM hm hl) T ex pend π a1 a2 a3 a4 a5 a6 a7 a8 a9 (hI' B' hle) fun S' D' B'' L' T' hle' hq=>hA' S' D' B'' L' T' (hle.trans hle') hq)
end
end Go.BL
namespace Go.BL
open Go.ChangeShapes Go.WideShapes Go.ChangeAt Go.RowKit
theorem Zj6 {α β:Type} {f:α→Option β} :∀{xs:List α} {ys:List β},xs.mapM f=some ys→ys.length=xs.length∧∀(i:Nat) (x:α),xs[i]? = some x→f x=ys[i]?
 | [],ys,h=>by
  simp only [List.mapM_nil,Option.pure_def,Option.some.injEq] at h
  subst h;simp
 | x :: xs,ys,h=>by
  simp only [List.mapM_cons,Option.bind_eq_bind,Option.pure_def,Option.bind_eq_some_iff,Option.some.injEq] at h
  obtain ⟨y,hy,zs,hz,rfl⟩:=h
  obtain ⟨h1,h2⟩:=Zj6 hz
  refine ⟨by simp [h1],fun i z hi=>?_⟩
  cases i with
  | zero=>simp only [List.getElem?_cons_zero,Option.some.injEq] at hi;subst hi;simpa using hy
  | succ i=>simpa using h2 i z (by simpa using hi)
theorem Zp4 {w:World} {a:Addr} {n:Nat} {cs:List Value} (h:w.cells? 0 a n=some cs):cs.length=n∧∀i,i<n→w.cell? (a.add i)=cs[i]?:=by
 unfold World.cells? at h
 rw [if_pos (Nat.zero_le _)] at h
 obtain ⟨h1,h2⟩:=Zj6 h
 exact ⟨by simpa using h1,fun i hi=>h2 i i (by simp [hi])⟩
section
variable {H:Type} (enc:TypeId × Value→H) (P:Program) (W:World)
def ZdO (t:TypeId) (p:List Value→Prop):Prop:=∀(fuel:Nat) (cs:List Value) (d:DataW H) (ps:List MemPlace),DataW.trod enc P W 0 (fun _=>true) true fuel t cs=some (d,ps)→(∀m,m∈d.weights P t→m≤reachBytes)→p cs
def Zcw {α:Type} (t:TypeId) (R:Rel α):Prop:=ZdO enc P W t fun cs=>∃x,R (Za4 W) cs x
def ZdN {α:Type} (w:Nat) (R:Rel α):Rel (List α):=fun B row xs=>∃q cp,row=[.slice q xs.length cp]∧SlB B q cp w R xs
def Parts:List (List Value→Prop)→List Value→Prop
 | [],cs=>cs=[]
 | p :: ps,cs=>∃a b,cs=a ++ b∧p a∧Parts ps b
def ZeP (P:Program):List Field→Nat→Nat→Bool
 | [],off,n=>off == n
 | f :: fs,off,n=>f.offset == off && ZeP P fs (off+P.cellsOf f.type) n
end
section
variable {H:Type} {enc:TypeId × Value→H} {P:Program} {W:World}
theorem ZdO.mono {t:TypeId} {p p':List Value→Prop} (h:ZdO enc P W t p) (hp :∀cs,p cs→p' cs):ZdO enc P W t p':=fun fuel cs d ps ht hw=>hp cs (h fuel cs d ps ht hw)
theorem ZoN {t:TypeId} (ht:P.underlying t=some (.int .i64)):Zcw enc P W t Zea:=fun fuel cs d ps h _=>by
 cases fuel with
 | zero=>simp [DataW.trod] at h
 | succ n=>
  unfold DataW.trod at h
  rw [ht] at h
  split at h <;> simp_all
  rename_i he
  subst he
  exact ⟨_,rfl⟩
theorem ZoM {t:TypeId} (ht:P.underlying t=some .string):Zcw enc P W t ZkH:=fun fuel cs d ps h hw=>by
 cases fuel with
 | zero=>simp [DataW.trod] at h
 | succ n=>
  unfold DataW.trod at h
  rw [ht] at h
  split at h <;> simp_all
  rename_i s
  obtain ⟨_,rfl,_⟩:=h
  have h1:=hw s.data.toList.length (by simp [DataW.weights])
  refine ⟨s.data.toList,rfl,?_⟩
  unfold reachBytes at h1
  omega
theorem ZqW {fs:List Field} {ps:List (List Value→Prop)} {n off:Nat} (hf:ZeP P fs off n=true) {cs:List Value} (hl:cs.length=n) (hlen:fs.length=ps.length)
  (h :∀(i:Nat) (f:Field) (p:List Value→Prop),fs[i]? = some f→ps[i]? = some p→p ((cs.drop f.offset).take (P.cellsOf f.type))):Parts ps (cs.drop off):=by
 induction fs generalizing ps off with
 | nil=>
  simp only [ZeP,beq_iff_eq] at hf
  cases ps with
  | nil=>show cs.drop off=[];rw [List.drop_eq_nil_iff];omega
  | cons p ps=>simp at hlen
 | cons f fs ih=>
  simp only [ZeP,Bool.and_eq_true,beq_iff_eq] at hf
  cases ps with
  | nil=>simp at hlen
  | cons p ps=>
   refine ⟨(cs.drop off).take (P.cellsOf f.type),(cs.drop off).drop (P.cellsOf f.type),(List.take_append_drop _ _).symm,?_,?_⟩
   ·have:=h 0 f p rfl rfl
    rwa [hf.1] at this
   ·rw [List.drop_drop]
    exact ih hf.2 (by simpa using hlen) fun i f' p' h1 h2=>h (i+1) f' p' (by simpa using h1) (by simpa using h2)
theorem ZcZ :∀{ts:List TypeId} {ds:List (DataW H)} {i:Nat} {t:TypeId} {d:DataW H},ts[i]? = some t→ds[i]? = some d→∀m,m∈d.weights P t→m∈DataW.weightsEach P ts ds
 | t :: ts,d :: ds,0,t',d',h1,h2,m,hm=>by
  simp only [List.getElem?_cons_zero,Option.some.injEq] at h1 h2
  subst h1;subst h2
  simp only [DataW.weightsEach,List.mem_append];exact .inl hm
 | t :: ts,d :: ds,i+1,t',d',h1,h2,m,hm=>by
  simp only [DataW.weightsEach,List.mem_append];exact .inr (ZcZ (by simpa using h1) (by simpa using h2) m hm)
 | [],_,_,_,_,h1,_,_,_=>by simp at h1
 | _ :: _,[],_,_,_,_,h2,_,_=>by simp at h2
theorem ZeZ {e:TypeId} :∀{ds:List (DataW H)} {i:Nat} {d:DataW H},ds[i]? = some d→∀m,m∈d.weights P e→m∈DataW.weightsAll P e ds
 | d :: ds,0,d',h2,m,hm=>by
  simp only [List.getElem?_cons_zero,Option.some.injEq] at h2
  subst h2
  simp only [DataW.weightsAll,List.mem_append];exact .inl hm
 | d :: ds,i+1,d',h2,m,hm=>by
  simp only [DataW.weightsAll,List.mem_append];exact .inr (ZeZ (by simpa using h2) m hm)
 | [],_,_,h2,_,_=>by simp at h2
theorem ZjW {t:TypeId} {fs:Array Field} (ht:P.underlying t=some (.struct fs)) (ps:List (List Value→Prop)) (hf:ZeP P fs.toList 0 (P.cellsOf t)=true) (hlen:fs.toList.length=ps.length)
  (h :∀(i:Nat) (f:Field) (p:List Value→Prop),fs.toList[i]? = some f→ps[i]? = some p→ZdO enc P W f.type p):ZdO enc P W t (Parts ps):=fun fuel cs d pl htr hw=>by
 obtain ⟨xs,n,rfl,hx,hl,hxl,hel⟩:=DataW.trod_struct ht htr
 simp only [Prod.mk.injEq] at hx
 obtain ⟨rfl,_⟩:=hx
 have:=ZqW (ps:=ps) hf hl hlen fun i f p h1 h2=>by
  have h3:=hel i f (by simpa using h1)
  have hi:i<xs.length:=by
   have:=(List.getElem?_eq_some_iff.1 h1).1
   simp only [Array.length_toList] at this
   omega
  rw [List.getElem?_eq_getElem hi] at h3
  rcases hxi:xs[i] with ⟨d,pl'⟩
  refine h i f p h1 h2 n _ d pl' (by rw [h3,hxi]) fun m hm=>hw m ?_
  simp only [DataW.weights,ht]
  exact ZcZ (i:=i) (t:=f.type) (d:=d) (by simp [h1]) (by simp [List.getElem?_eq_getElem hi,hxi]) m hm
 simpa using this
theorem Zcf {α:Type} {t e:TypeId} {w:Nat} {R:Rel α} (ht:P.underlying t=some (.slice e)) (hc:P.cellsOf e=w) (hb:0<P.bytesOf e) (hw0:0<w) (h:Zcw enc P W e R):Zcw enc P W t (ZdN w R):=fun fuel cs d pl htr hw=>by
 rcases DataW.trod_slice ht htr with ⟨rfl,_⟩ | ⟨a,len,cap,elems,rest,n,rfl,rfl,hx,_,hl,hm,hlen,hel,_,_⟩
 ·exact ⟨[],none,0,rfl,⟨fun i x hi=>by simp at hi,Nat.le_refl _,Nat.zero_le _⟩⟩
 ·simp only [Prod.mk.injEq] at hx
  obtain ⟨rfl,_⟩:=hx
  have hlen2:len≤140737488355328:=by
   have:=hw ((elems.length+rest.length)*P.bytesOf e) (by simp [DataW.weights,ht])
   have h2:elems.length+rest.length≤(elems.length+rest.length)*P.bytesOf e:=Nat.le_mul_of_pos_right _ hb
   unfold reachBytes at this
   omega
  have each :∀i,i<len→∃x row,R (Za4 W) row x∧row.length=w∧∀j,j<w→W.cell? ((a.add (i*w)).add j)=row[j]?:=fun i hi=>by
   have h1:=hel i hi
   have hi':i<elems.length:=by omega
   rw [List.getElem?_eq_getElem hi'] at h1
   obtain ⟨row,hr1,hr2⟩:=Option.bind_eq_some_iff.1 h1
   rw [hc] at hr1
   obtain ⟨hr3,hr4⟩:=Zp4 hr1
   rcases hxi:elems[i] with ⟨d,pl'⟩
   obtain ⟨x,hx⟩:=h n row d pl' (by rw [hr2,hxi]) fun m hm=>hw m (by
    simp only [DataW.weights,ht,List.mem_cons,List.mem_append]
    exact .inr (.inl (ZeZ (i:=i) (d:=d) (by simp [List.getElem?_eq_getElem hi',hxi]) m hm)))
   exact ⟨x,row,hx,hr3,hr4⟩
  have hsp:0<len→a.spot=none:=fun h0=>by
   obtain ⟨x,row,_,hr,hj⟩:=each 0 h0
   have h1:=hj 0 hw0
   rw [List.getElem?_eq_getElem (by omega)] at h1
   have:=(ZhE h1).1
   simpa [Addr.add] using this
  refine ⟨(List.range len).attach.map fun i=>(each i.1 (List.mem_range.1 i.2)).choose,some a,cap,by simp,⟨fun i x hi=>?_,by simpa using hl,by simpa using hlen2⟩⟩
  have hi':i<len:=by
   have:=(List.getElem?_eq_some_iff.1 hi).1
   simpa using this
  have hxx:x=(each i hi').choose:=by
   simp [hi'] at hi
   exact hi.symm
  obtain ⟨row,hr1,hr2,hr3⟩:=(each i hi').choose_spec
  have hs:=hsp (by omega)
  refine ⟨a.block,a.off,row,?_,by rw [hxx];exact hr1,fun j u hj=>?_⟩
  ·obtain ⟨b,o,s⟩:=a;simp only at hs;subst hs;rfl
  ·have hjw:j<w:=by rw [← hr2];exact (List.getElem?_eq_some_iff.1 hj).1
   have h4:=hr3 j hjw
   rw [hj] at h4
   have:=ZhE h4
   have ea:(a.add (i*w)).add j=⟨a.block,a.off+i*w+j,none⟩:=by
    rw [Addr.add_off _ _ (by rw [Addr.add_off _ _ hs]),Addr.add_off _ _ hs]
   rwa [ea] at this
def Zr1 (enc:TypeId × Value→H) (P:Program) (W:World):List Field→List (List Value→Prop)→Prop
 | [],[]=>True
 | f :: fs,p :: ps=>ZdO enc P W f.type p∧Zr1 enc P W fs ps
 | _,_=>False
theorem ZjX :∀{fs:List Field} {ps:List (List Value→Prop)},Zr1 enc P W fs ps→fs.length=ps.length
 | [],[],_=>rfl
 | _ :: _,_ :: _,h=>by simp only [List.length_cons,ZjX h.2]
 | [],_ :: _,h=>h.elim
 | _ :: _,[],h=>h.elim
theorem ZjY :∀{fs:List Field} {ps:List (List Value→Prop)},Zr1 enc P W fs ps→∀(i:Nat) (f:Field) (p:List Value→Prop),fs[i]? = some f→ps[i]? = some p→ZdO enc P W f.type p
 | _ :: _,_ :: _,h,0,f,p,h1,h2=>by
  simp only [List.getElem?_cons_zero,Option.some.injEq] at h1 h2
  subst h1;subst h2;exact h.1
 | _ :: _,_ :: _,h,i+1,f,p,h1,h2=>ZjY h.2 i f p (by simpa using h1) (by simpa using h2)
 | [],_,_,i,f,p,h1,h2=>by simp at h1
 | _ :: _,[],h,_,_,_,_,_=>h.elim
theorem Zct {t:TypeId} {fs:Array Field} (ht:P.underlying t=some (.struct fs)) (ps:List (List Value→Prop)) (hf:ZeP P fs.toList 0 (P.cellsOf t)=true) (h:Zr1 enc P W fs.toList ps):ZdO enc P W t (Parts ps):=
 ZjW ht ps hf (ZjX h) (ZjY h)
theorem ZfP {t:TypeId} {v:Value} {d:DataW H} {ps:List MemPlace} {p:List Value→Prop} (h:DataW.Trod enc P W 0 (fun _=>true) true t v d ps) (ho:ZdO enc P W t p) (hw :∀m,m∈d.weights P t→m≤reachBytes):p v.cells.toList:=by
 obtain ⟨n,hn⟩:=h;exact ho n _ _ _ hn hw
theorem weigh {ts:List TypeId} {ds:List (DataW H)} (h:(DataW.weightsEach P ts ds).all (·≤reachBytes)=true) {i:Nat} {t:TypeId} {d:DataW H} (h1:ts[i]? = some t) (h2:ds[i]? = some d) :∀m,m∈d.weights P t→m≤reachBytes:=fun m hm=>by
 have:=List.all_eq_true.1 h m (ZcZ h1 h2 m hm)
 simpa using this
end
end Go.BL
namespace Go.BL
section
variable {P:PJ} {n:Nat} {ops:Array Oper} {i:Nat} {K:ZaG} {S:Env} {D:List Deferred} {B:Kn} {L:List Cells}
variable {dst:Option Tmp} {ty:TypeId} {pos:String} {after:Array Edge} {g:Option (Nat × Bool)}
theorem Znx {P:Program} {B:Kn} {L:Cells} {q:Addr} {cp:Nat} {b:Int} (hs:Zb6 B L (some q) [.int .u8 b]) {Q:Value→Kn→Cells→Prop} (h:Q (str [UInt8.ofNat b.toNat]) B L):hb P (Conv.bytesToString (.slice (some q) 1 cp)) Q B L:=by
 simp only [Conv.bytesToString,Zh,loadCells]
 refine ZbG [.int .u8 b] 0 #[] (fun j v hj=>by simpa using hs j v hj) ?_
 have e:Q (Value.string (ByteArray.empty.push (UInt8.ofNat b.toNat))) B L:=h
 simpa [Zm,Zh] using e
theorem Zoc {s d e:TypeId} {x:Operand} {q:Addr} {cp:Nat} {b:Int} (hg:Zj ops S g=some true) (hd:Zq n dst=true) (hs:P.underlying s=some (.slice e)) (hd':P.underlying d=some .string) (he:P.underlying e=some (.int .u8))
  (hx:ev S x=some (.slice (some q) 1 cp)) (hc:Zb6 B L.flatten (some q) [.int .u8 b]) (h:K (str [UInt8.ofNat b.toNat]) D B L):opX P n ops i ⟨dst,.convert s d x,ty,pos,after,g⟩ K S D B L:=
 ZI hg hd (fun ρ hρ Q F q'=>by
  simp only [execOp,convert,hρ x _ hx,Zh,Zp hs,Zp hd',Zp he]
  exact Znx hc.app q') h
end
end Go.BL
namespace Go.BL
theorem All3.at {α:Type} {R:Zf6 α} {rows:List (List Value)} {xs:List α} {s:Cells} (h:All3 R rows xs s) :∀{i:Nat} {x:α},xs[i]? = some x→∃row li lr,rows[i]? = some row∧R row x li∧s.Perm (li ++ lr)∧∀x' li',R row x' li'→∃s',All3 R rows (xs.set i x') s'∧s'.Perm (li' ++ lr):=by
 induction h with
 | nil=>intro i x hx;simp at hx
 | @cons row0 x0 ins0 rest rows xs h1 h2 ih=>
  intro i x hx
  cases i with
  | zero=>
   simp only [List.getElem?_cons_zero,Option.some.injEq] at hx
   subst hx
   exact ⟨row0,ins0,rest,rfl,h1,.refl _,fun x' li' hr=>⟨li' ++ rest,.cons hr h2,.refl _⟩⟩
  | succ i=>
   obtain ⟨row,li,lr,e1,e2,e3,e4⟩:=ih (by simpa using hx)
   refine ⟨row,li,ins0 ++ lr,by simpa using e1,e2,?_,fun x' li' hr=>?_⟩
   ·exact (List.Perm.append_left ins0 e3).trans (by rw [← List.append_assoc,← List.append_assoc];exact List.Perm.append_right lr List.perm_append_comm)
   ·obtain ⟨s',f1,f2⟩:=e4 x' li' hr
    exact ⟨ins0 ++ s',.cons h1 f1,(List.Perm.append_left ins0 f2).trans (by rw [← List.append_assoc,← List.append_assoc];exact List.Perm.append_right lr List.perm_append_comm)⟩
theorem ZaV.open1 {α:Type} {l:Cells} {p:Option Addr} {c:Nat} {T:TypeId} {w:Nat} {R:Zf6 α} {xs:List α} (h:ZaV l p c T w R xs) {i:Nat} {x:α} (hx:xs[i]? = some x) :
∃b arr row li lr,p=some ⟨b,0,none⟩∧R row x li∧row.length=w∧l.Perm (li ++ (Zar b arr T ++ lr))∧(∀(j:Nat) (u:Value),row[j]? = some u→arr[i*w+j]? = some u)∧
∀x' li',R row x' li'→ZaV (li' ++ (Zar b arr T ++ lr)) p c T w R (xs.set i x'):=by
 obtain ⟨rows,blk,ins,h1,h2,h3,hvl⟩:=h
 have hlt:=(List.getElem?_eq_some_iff.1 hx).1
 obtain ⟨hl0,⟨_,h0,_,_⟩ | ⟨b,arr,rfl,ha,ht,rfl,hm⟩⟩:=hvl
 ·omega
 ·obtain ⟨row,li,lr,e1,e2,e3,e4⟩:=h1.at hx
  refine ⟨b,arr,row,li,lr,rfl,e2,h2 row (List.mem_of_getElem? e1),?_,fun j u hj=>?_,fun x' li' hr=>?_⟩
  ·refine h3.trans ((List.Perm.append_left _ e3).trans ?_)
   rw [← List.append_assoc,← List.append_assoc];exact List.Perm.append_right lr List.perm_append_comm
  ·have hu:=ZfC h2 e1 hj
   rw [← ht,List.getElem?_take] at hu
   split at hu
   ·exact hu
   ·cases hu
  ·obtain ⟨s',f1,f2⟩:=e4 x' li' hr
   refine ⟨rows,Zar b arr T,s',f1,h2,?_,by rw [List.length_set];exact hl0,.inr ⟨b,arr,rfl,ha,by rw [List.length_set];exact ht,rfl,by rw [List.length_set];exact hm⟩⟩
   refine List.Perm.trans ?_ (List.Perm.append_left _ f2.symm)
   rw [← List.append_assoc,← List.append_assoc];exact List.Perm.append_right lr List.perm_append_comm
section
variable {P:PJ} {n:Nat} {Q:Exit→Z8} {S:Env} {D:List Deferred} {B:Kn} {L:List Cells} {c:Code}
theorem Zr5 {L':List Cells} (hp:L.flatten.Perm L'.flatten) (h:wpS P n c Q S D B L'):wpS P n c Q S D B L:=fun C k T hn hT hA=>by
 refine C.X.drop (r:=L'.flatten ++ C.F) (gl:=[]) ?_ (h C k T hn hT hA)
 rw [List.append_nil];exact hp.append_right C.F
theorem Zg1 {a b:Cells} (j m:Nat) (hj:L[j]? = some a) (hm:L[m]? = some b) (hne:j≠m) (h:wpS P n c Q S D B ((L.set j (b ++ a)).set m [])):wpS P n c Q S D B L:=by
 refine Zr5 ?_ h
 obtain ⟨r,h1,h2⟩:=ZH [] (b ++ a) hj
 have hm':(L.set j (b ++ a))[m]? = some b:=by rw [List.getElem?_set_ne hne];exact hm
 obtain ⟨r2,h3,h4⟩:=ZH [] [] hm'
 rw [List.append_nil] at h1 h2 h3 h4
 rw [List.nil_append] at h4
 have h5:(b ++ (a ++ r)).Perm (b ++ r2):=by rw [← List.append_assoc];exact h2.symm.trans h3
 exact h1.trans (((List.perm_append_left_iff b).1 h5).trans h4.symm)
end
end Go.BL
namespace Go.BL
theorem All3.row {α:Type} {R:Zf6 α} {rows:List (List Value)} {xs:List α} {s:Cells} (h:All3 R rows xs s) {z x:α} (f:List Value→List Value) (hf :∀row li,R row x li→R (f row) z li) :∀{k:Nat},xs[k]? = some x→∃row,rows[k]? = some row∧All3 R (rows.set k (f row)) (xs.set k z) s:=by
 induction h with
 | nil=>intro k hx;simp at hx
 | @cons row0 x0 ins0 rest rows xs h1 h2 ih=>
  intro k hx
  cases k with
  | zero=>
   simp only [List.getElem?_cons_zero,Option.some.injEq] at hx
   subst hx
   exact ⟨row0,rfl,.cons (hf _ _ h1) h2⟩
  | succ k=>
   obtain ⟨row,e1,e2⟩:=ih (k:=k) (by simpa using hx)
   exact ⟨row,by simpa using e1,.cons h1 e2⟩
theorem ZaV.cell {α:Type} {l:Cells} {p:Option Addr} {c:Nat} {T:TypeId} {w:Nat} {R:Zf6 α} {xs:List α} (h:ZaV l p c T w R xs) {i:Nat} {x:α} (hx:xs[i]? = some x) {B:Kn} {L:List Cells} (j:Nat) (hj:L[j]? = some l) :
∃b row li lr,p=some ⟨b,0,none⟩∧R row x li∧row.length=w∧l.Perm (li ++ lr)∧(∀(m:Nat) (u:Value),row[m]? = some u→ZaP B L.flatten ⟨b,i*w+m,none⟩ u)∧∀x' li',R row x' li'→ZaV (li' ++ lr) p c T w R (xs.set i x'):=by
 obtain ⟨b,arr,row,li,lr,e1,e2,e3,e4,e5,e6⟩:=h.open1 hx
 refine ⟨b,row,li,Zar b arr T ++ lr,e1,e2,e3,e4,fun m u hm=>⟨rfl,arr.toArray,T,(0,0),.inr ?_,by simpa using e5 m u hm⟩,e6⟩
 obtain ⟨r,h1,h2⟩:=ZH [] [] hj
 rw [List.append_nil] at h1
 rw [h1.mem_iff]
 refine List.mem_append_left _ (e4.mem_iff.2 (List.mem_append_right _ (List.mem_append_left _ ?_)))
 exact List.mem_singleton.2 rfl
section
variable {P:PJ} {n:Nat} {ops:Array Oper} {i:Nat} {K:ZaG} {S:Env} {D:List Deferred} {B:Kn} {L:List Cells}
variable {dst:Option Tmp} {ty:TypeId} {pos:String} {after:Array Edge} {g:Option (Nat × Bool)}
theorem ZhY {α:Type} {R:Zf6 α} {xs:List α} {x0:α} (z:α) {t T:TypeId} {x y:Operand} {v:Value} {us:List Value} {sz k c b:Nat} (off:Nat) {l:Cells} {p:Option Addr} (j:Nat) (hj:L[j]? = some l) (hv:ZaV l p c T sz R xs) (hp:p=some ⟨b,0,Option.none⟩) (hx0:xs[k]? = some x0) (hg:Zj ops S g=some true) (hd:Zq n dst=true) (hsz:ZS P t=some us.length)
  (hx:ev S x=some (ptr ⟨b,k*sz+off,Option.none⟩)) (hy:ev S y=some v) (hvc:v.cells=us.toArray) (ho:us.all Zhc=true) (hoff:off+us.length≤sz) (hr :∀row li,R row x0 li→R (Z4 row off us) z li)
  (h :∀l',ZaV l' p c T sz R (xs.set k z)→K undef D B (L.set j l')):opX P n ops i ⟨dst,.store t x y,ty,pos,after,g⟩ K S D B L:=by
 subst hp
 obtain ⟨rows,blk,ins,h1,h2,h3,hl1,⟨hc,_⟩ | ⟨b',arr,e,ha,ht,rfl,hmc⟩⟩:=hv
 ·cases hc
 ·cases e
  have hk:=(List.getElem?_eq_some_iff.1 hx0).1
  obtain ⟨row,hrow,a1⟩:=h1.row (fun row=>Z4 row off us) hr hx0
  have hw:row.length=sz:=h2 row (List.mem_of_getElem? hrow)
  have hsz1:(k+1)*sz≤xs.length*sz:=Nat.mul_le_mul_right sz hk
  have hcs:xs.length*sz≤c*sz:=Nat.mul_le_mul_right sz hmc
  rw [Nat.succ_mul] at hsz1
  have hb1:k*sz+off+us.length≤arr.length:=by omega
  refine Zk9 (L':=L.set j (Zar b arr T ++ ins)) (K':=fun u D' B' L₁=>u=undef∧D'=D∧B'=B∧L₁=(L.set j (Zar b arr T ++ ins)).set j (Zar b (Z4 arr (k*sz+off) us) T ++ ins)) ?_ ?_ ?_
  ·obtain ⟨r,e1,e2⟩:=ZH [] (Zar b arr T ++ ins) hj
   rw [List.append_nil] at e1 e2
   exact e1.trans ((h3.append_right r).trans e2.symm)
  ·have hj':(L.set j (Zar b arr T ++ ins))[j]? = some (Zar b arr T ++ ins):=by
    rw [List.getElem?_set_self (List.getElem?_eq_some_iff.1 hj).1]
   exact Z0 us j (Z4 arr (k*sz+off) us) hg hd hsz hx hy hvc ho (T:=T) (r:=ins) hj' rfl (by rw [Nat.ble_eq];exact hb1) rfl ⟨rfl,rfl,rfl,rfl⟩
  ·rintro u D' B' L₁ hle ⟨rfl,rfl,rfl,rfl⟩
   have hnew:ZaV (Zar b (Z4 arr (k*sz+off) us) T ++ ins) (some ⟨b,0,Option.none⟩) c T sz R (xs.set k z):=by
    have hsl:(Z4 row off us).length=sz:=by rw [ZY];exact hw
    have hwide:wide sz (rows.set k (Z4 row off us)):=fun r' hr'=>by
     rcases List.mem_or_eq_of_mem_set hr' with hr' | rfl
     ·exact h2 r' hr'
     ·exact hsl
    refine ⟨rows.set k (Z4 row off us),_,ins,a1,hwide,.refl _,?_,.inr ⟨b,_,rfl,by rw [ZY];exact ha,?_,rfl,by rw [List.length_set];exact hmc⟩⟩
    ·rw [ZcY hwide,List.length_set,List.length_set,h1.len]
    ·rw [List.length_set]
     have e:=ZcR (us:=us) (off:=off) h2 hrow hoff
     rw [Zc3 _ _ _ _ (by omega) (by omega),ht,e]
   refine ⟨L.set j (Zar b (Z4 arr (k*sz+off) us) T ++ ins),[],?_,h _ hnew⟩
   rw [List.set_set,List.append_nil]
end
end Go.BL
namespace Go.BL
open Go.Conc (G)
section
variable {P:PJ} {n:Nat} {ops:Array Oper} {i:Nat} {K:ZaG} {S:Env} {D:List Deferred} {B:Kn} {L:List Cells}
variable {dst:Option Tmp} {ty:TypeId} {pos:String} {after:Array Edge} {g:Option (Nat × Bool)}
theorem ZsN {α:Type} {R:Zf6 α} {xs:List α} (z:α) {t u e:TypeId} {x y:Operand} {sz by_ m c c2:Nat} {p q:Option Addr} {row:List Value} {l:Cells} {inss r:List Cells} (j:Nat) (ks:List Nat) (hpk:Zau L (j :: ks)=some (l :: inss,r)) (hnd:Zeb (j :: ks)=true) (hv:ZaV l p c e sz R xs) (hm:m=xs.length) (hg:Zj ops S g=some true) (hd:Zq n dst=true)
  (he:ZcH P t e sz by_=true) (hu:(match P.underlying u with | some (.slice _)=>true | _=>false)=true) (hx:ev S x=some (.slice p m c)) (hy:ev S y=some (.slice q 1 c2)) (hs:Zb6 B L.flatten q row) (hone:row.all Zhc=true) (hrl:row.length=sz) (ins0:Cells) (hi0:inss.flatten=ins0) (hr:R row z ins0) (hb1:(xs.length+1)*by_≤140737488355328)
  (h :∀l' p' c',ZaV l' p' c' e sz R (xs ++ [z])→K (.slice p' (xs ++ [z]).length c') D B (Zb9 r (j :: ks) (l' :: inss.map fun _=>[]))):opX P n ops i ⟨dst,.call ⟨.builtin .append,#[x,y],#[t,u]⟩,ty,pos,after,g⟩ K S D B L:=by
 subst hm
 subst hi0
 obtain ⟨rows,blk,inn,h1,h2,h3,h4⟩:=hv
 have hpp:=Z5 (j :: ks) L (l :: inss) r hpk
 have p1:L.flatten.Perm (blk ++ (inn ++ (inss.flatten ++ r.flatten))):=by
  refine hpp.trans ?_
  simp only [List.flatten_cons,List.append_assoc]
  refine (h3.append_right _).trans ?_
  rw [List.append_assoc]
 refine Zml (L':=[blk,inn ++ (inss.flatten ++ r.flatten)]) (K':=fun v D' B' L₁=>∃blk' p' c',L₁=[blk',inn ++ (inss.flatten ++ r.flatten)]∧v = .slice p' (xs.length+1) c'∧D'=D∧B'=B∧ZhM blk' p' (xs.length+1) c' e sz (rows.flatten ++ row)) ?_ ?_ ?_
 ·simpa using p1
 ·refine ZeF 0 rfl h4 hg hd he hu hx hy ?_ (by rw [hrl,Nat.one_mul]) hone hb1 fun l' p' c' hv'=>⟨l',p',c',rfl,rfl,rfl,rfl,hv'⟩
  cases q with
  | none=>exact hs
  | some a=>
   intro jj v hjj
   exact (hs jj v hjj).perm (by simpa using p1)
 ·rintro v D' B' L₁ hle ⟨blk',p',c',rfl,rfl,rfl,rfl,hv'⟩
  have hnew:ZaV (blk' ++ (inn ++ inss.flatten)) p' c' e sz R (xs ++ [z]):=⟨rows ++ [row],blk',inn ++ inss.flatten,h1.snoc hr,fun r' hr'=>by
   rcases List.mem_append.1 hr' with hr' | hr'
   ·exact h2 r' hr'
   ·rw [List.mem_singleton.1 hr'];exact hrl,.refl _,by rw [List.length_append,List.flatten_append];simpa using hv'⟩
  refine ⟨_,?_,by have:=h _ _ _ hnew;rwa [List.length_append] at this⟩
  have hq:=ZbJ ((blk' ++ (inn ++ inss.flatten)) :: inss.map fun _=>[]) r (j :: ks) (ZbL hnd) (fun jj hj=>ZbK (j :: ks) L (l :: inss) r hpk jj (.inr hj))
  have hnil:((inss.map fun _=>([]:Cells))).flatten=[]:=by
   clear hpk hpp h hnew hs h3 p1 hq
   induction inss with
   | nil=>rfl
   | cons a as ih=>simp
  rw [List.flatten_cons,hnil,List.append_nil] at hq
  refine List.Perm.trans ?_ hq
  simp only [List.flatten_cons,List.flatten_nil,List.append_nil,List.append_assoc]
  exact .refl _
theorem Z6.borrowL {f:FuncId} {args:List Value} {ls:List Cells} {v:Value} (h:(∀p,p∈ls.flatten→(B.add ls.flatten).mem p.1=some p.2)→Z6 P f args (B.add ls.flatten) v):Zv P f args B ls (fun v' B' Ls=>v'=v∧B'=B∧Ls=ls):=by
 have:=(Zv.borrowL (P:=P) (Ls:=[]) h).mono (Post':=fun v' B' Ls=>v'=v∧B'=B∧Ls=ls) fun v' B' Ls' _ ⟨B₂,Ls₂,a1,a2,_,_,a3,a4,a5,a6⟩=>by subst a5;subst a6;exact ⟨a4,a2.trans a3,by rw [a1,List.append_nil]⟩
 rwa [List.append_nil] at this
theorem Zgx {f:FuncId} {xs:List Operand} {vs:List Value} {ats:Array TypeId} {v:Value} {ls r:List Cells} (js:List Nat) (hp:Zau L js=some (ls,r)) (hput:Zb9 r js ls=L) (hn:Zeb js=true) (hg:Zj ops S g=some true) (hd:Zq n dst=true) (he:enters P f=true) (ha:evs S xs=some vs)
  (hc:Zv P f vs B ls (fun v' B' Ls=>v'=v∧B'=B∧Ls=ls)) (h:K v D B L):opX P n ops i ⟨dst,.call ⟨.value (.func f),xs.toArray,ats⟩,ty,pos,after,g⟩ K S D B L:=
 ZdQ js hp hn hg hd he ha hc fun v' B' Ls' hle ⟨h1,h2,h3⟩=>by subst h1;subst h2;subst h3;rw [hput];exact h
end
theorem Zv.borrowK {P:PJ} {B:Kn} {f:FuncId} {args:List Value} {Ls:List Cells} {Post:Value→Kn→List Cells→Prop} (k:Nat)
  (h:(∀p,p∈(Ls.take k).flatten→(B.add (Ls.take k).flatten).mem p.1=some p.2)→Zv P f args (B.add (Ls.take k).flatten) (Ls.drop k) Post) :
  Zv P f args B Ls (fun v B' Ls'=>∃B₂ Ls₂,Ls'=Ls.take k ++ Ls₂∧B'=B₂.minus (Ls.take k).flatten∧(B.add (Ls.take k).flatten).le B₂∧(∀p,p∈(Ls.take k).flatten→(B.add (Ls.take k).flatten).mem p.1=some p.2)∧(B.add (Ls.take k).flatten).minus (Ls.take k).flatten=B∧Post v B₂ Ls₂):=by
 have:=Zv.borrowL (P:=P) (ls:=Ls.take k) (Ls:=Ls.drop k) h
 rwa [List.take_append_drop] at this
theorem Zo3 {B:Kn} {ls:List Cells} {l:Cells} (hm :∀p,p∈ls.flatten→B.mem p.1=some p.2) (k:Nat) (hk:ls[k]? = some l) :∀q,q∈l→B.mem q.1=some q.2:=fun q hq=>hm q (List.mem_flatten.2 ⟨l,List.mem_of_getElem? hk,hq⟩)
theorem ZP.lendK {α:Type} {B BV:Kn} {l:Cells} {ls:List Cells} {p:Option Addr} {c:Nat} {T:TypeId} {w:Nat} {R:Rel α} {xs:List α} (h:ZP BV l p c T w R xs) (hR:Zqj R) (k:Nat) (hk:ls[k]? = some l) (hm :∀q,q∈ls.flatten→(B.add ls.flatten).mem q.1=some q.2) (hl:xs.length≤2000000):SlK (B.add ls.flatten) p c w R xs:=⟨h.rowsF hR (Zo3 hm k hk),h.cap,hl⟩
theorem ZaV.lendK {α:Type} {B:Kn} {l:Cells} {ls:List Cells} {p:Option Addr} {c:Nat} {T:TypeId} {w:Nat} {R:Zf6 α} {R':Rel α} {xs:List α} (h:ZaV l p c T w R xs) (hR :∀{B:Kn} {row:List Value} {x:α} {ins:Cells},R row x ins→(∀q,q∈ins→B.mem q.1=some q.2)→R' B row x) (hM:Mono R') (k:Nat) (hk:ls[k]? = some l) (hm :∀q,q∈ls.flatten→(B.add ls.flatten).mem q.1=some q.2) (hl:xs.length≤2000000):SlK (B.add ls.flatten) p c w R' xs:=h.known (fun _ _ _ a b=>hR a b) hM (Zo3 hm k hk) hl
theorem ZuK {l a lr:Cells} (h:l.Perm (a ++ lr)):l.Perm (lr ++ ([a]:List Cells).flatten):=by
 simpa using h.trans List.perm_append_comm
theorem ZqV {l a b lr:Cells} (h:l.Perm (a ++ b ++ lr)):l.Perm (lr ++ ([a,b]:List Cells).flatten):=by
 simpa using h.trans List.perm_append_comm
theorem Zur {P:PJ} {n:Nat} {Q:Exit→Z8} {S:Env} {D:List Deferred} {B:Kn} {L:List Cells} {c:Code} (es:List Cells) (he:es.flatten=[]) (h:wpS P n c Q S D B (L ++ es)):wpS P n c Q S D B L:=
 Zr5 (by rw [List.flatten_append,he,List.append_nil]) h
end Go.BL
namespace Go.BL
open Go.Conc (G)
def errv (tE:TypeId) (a:Nat→Addr):Nat→Value
 | 0=>.nilIface
 | k+1=>.iface tE (.pointer (some (a k)))
structure ErrsB (tE:TypeId) (gs:List Nat) (B:Kn) (a:Nat→Addr):Prop where
 row :∀k,k<4→Zae B (gs.getD k 0) 0 [.iface tE (.pointer (some (a k)))]
 cell :∀k,k<4→∃cs T,B.mem (a k).block=some (.cells cs T (0,0))
 ne :∀i j,i<4→j<4→i≠j→a i≠a j
theorem ErrsB.mono {tE:TypeId} {gs:List Nat} {B B':Kn} {a:Nat→Addr} (h:ErrsB tE gs B a) (hle:B.le B'):ErrsB tE gs B' a:=
 ⟨fun k hk=>(h.row k hk).mono hle,fun k hk=>let ⟨cs,T,e⟩:=h.cell k hk;⟨cs,T,hle _ _ e⟩,h.ne⟩
section
variable {P:Program}
theorem Zrq {a:Addr} {B:Kn} {L:Cells} {Q:Bool→Kn→Cells→Prop} (q:Q true B L):hb P (sameAddr a a) Q B L:=by
 have e:sameAddr a a=pure true:=by simp [sameAddr]
 rw [e];exact q
theorem ZgG {x:Addr} {cx:Array Value} {tx:TypeId} {B:Kn} {L:Cells} {Q:Bool→Kn→Cells→Prop} (hx:Ziu B L x.block (.cells cx tx (0,0))) (q:Q false B L):hb P (stringish x) Q B L:=by
 unfold stringish
 rw [Zh]
 refine ⟨_,hx,?_⟩
 simp only [Zbq,Zm,Zaa,Nat.not_lt_zero,decide_false,Bool.and_false,Bool.false_eq_true,if_false]
 rw [Zh]
 refine ⟨_,hx,?_⟩
 simp only [ZiD,Zm,Zaa]
 refine ⟨_,hx,?_⟩
 simp only [Zbq,Nat.not_lt_zero,decide_false,Bool.and_false]
 exact q
theorem Zkk {x:Addr} {cx:Array Value} {tx:TypeId} {B:Kn} {L:Cells} {Q:Unit→Kn→Cells→Prop} (hx:Ziu B L x.block (.cells cx tx (0,0))) (q:Q () B L):hb P (noView x) Q B L:=by
 unfold noView viewAt
 simp only [Zh]
 refine ⟨_,hx,?_⟩
 simp only [ZiD,Option.isSome_some,if_true,Zm,Zaa]
 exact q
theorem Zrr {a b:Addr} {ca cb:Array Value} {ta tb:TypeId} {B:Kn} {L:Cells} {Q:Bool→Kn→Cells→Prop} (hne:a≠b) (ha:Ziu B L a.block (.cells ca ta (0,0))) (hb':Ziu B L b.block (.cells cb tb (0,0))) (q:Q false B L):hb P (sameAddr a b) Q B L:=by
 unfold sameAddr
 by_cases h:a.block=b.block
 ·have e1:(a.block == b.block)=true:=by simpa using h
  have e2:(a == b)=false:=by simpa using hne
  simp only [e1,if_true,e2];exact q
 ·have e1:(a.block == b.block)=false:=by simpa using h
  simp only [e1,Bool.false_eq_true,if_false,Zh]
  refine ⟨_,ha,?_⟩
  have f1:Zbq a.off (.cells ca ta (0,0))=false:=by simp [Zbq]
  simp only [f1,Zm,Zaa,Bool.false_eq_true,if_false,Bool.false_and,Zh]
  refine ⟨_,hb',?_⟩
  simp only [Zm,Zaa,Zh]
  refine Zkk ha ?_
  rw [Zh]
  refine Zkk hb' ?_
  unfold mayBeOne
  simp only [Zh]
  refine ZgG ha ?_
  rw [Zh]
  refine ZgG hb' ?_
  simp only [Zh]
  refine ⟨_,ha,?_⟩
  simp only [Zm,Zaa,Zh]
  refine ⟨_,hb',?_⟩
  simp only [Bool.false_and,Bool.or_false,Bool.false_eq_true,if_false,Zm,Zaa]
  exact q
theorem ZuZ {tI tE te:TypeId} {ms:Array (String × TypeId)} {i:TypeInfo} {d:Nat} {x y:Addr} {B:Kn} {L:Cells} {Q:Bool→Kn→Cells→Prop} (hi:P.underlying tI=some (.interface ms)) (hp:P.underlying tE=some (.pointer te)) (hinfo:P.info? tE=some i) (hc:i.comparable=true) (hs:ZS P te=some (d+1))
  (h:hb P (sameAddr x y) Q B L):hb P (Op.equal tI (.iface tE (.pointer (some x))) (.iface tE (.pointer (some y)))) Q B L:=by
 show hb P (Op.equalIn (9999+1) tI _ _) Q B L
 rw [Op.equalIn,Zh,Zp hi]
 simp only [ne_eq,not_true_eq_false,if_false,Zh,Zbh hinfo,hc,Bool.not_true,Bool.false_eq_true]
 show hb P (Op.equalIn (9998+1) tE _ _) Q B L
 rw [Op.equalIn,Zh,Zp hp]
 simp only [Zh,ZaA hs,ne_eq,Nat.add_eq_zero_iff,Nat.one_ne_zero,and_false,not_false_eq_true,if_true]
 exact h
theorem ZpG {tE:TypeId} {gs:List Nat} {B:Kn} {a:Nat→Addr} (h:ErrsB tE gs B a) {k:Nat} (hk:k<4) (L:Cells) :∃cs T,Ziu B L (a k).block (.cells cs T (0,0)):=
 let ⟨cs,T,e⟩:=h.cell k hk;⟨cs,T,.inl e⟩
theorem Zu0 {tI tE te:TypeId} {ms:Array (String × TypeId)} {i:TypeInfo} {d:Nat} {c k:Nat} {gs:List Nat} {a:Nat→Addr} {B:Kn} {L:Cells} {Q:Bool→Kn→Cells→Prop} (hE:ErrsB tE gs B a) (hcb:c<5) (hkb:k<4) (hi:P.underlying tI=some (.interface ms)) (hp:P.underlying tE=some (.pointer te)) (hinfo:P.info? tE=some i) (hc:i.comparable=true) (hs:ZS P te=some (d+1))
  (h:Q (decide (c=k+1)) B L):hb P (Op.equal tI (errv tE a c) (errv tE a (k+1))) Q B L:=by
 cases c with
 | zero=>
  show hb P (Op.equalIn (9999+1) tI .nilIface _) Q B L
  rw [Op.equalIn,Zh,Zp hi]
  simp only [errv,Zm]
  simpa using h
 | succ c=>
  refine ZuZ hi hp hinfo hc hs ?_
  by_cases e:c=k
  ·subst e
   exact Zrq (by simpa using h)
  ·obtain ⟨cs,T,h1⟩:=ZpG hE (k:=c) (by omega) L
   obtain ⟨cs',T',h2⟩:=ZpG hE hkb L
   exact Zrr (hE.ne c k (by omega) hkb e) h1 h2 (by simpa [e] using h)
end
section
variable {P:PJ} {n:Nat} {ops:Array Oper} {i:Nat} {K:ZaG} {S:Env} {D:List Deferred} {B:Kn} {L:List Cells}
variable {dst:Option Tmp} {ty:TypeId} {pos:String} {after:Array Edge} {g:Option (Nat × Bool)}
theorem Zl0 {t u:TypeId} {x:Operand} {tE:TypeId} {a:Nat→Addr} {c:Nat} {ms:Array (String × TypeId)} (hg:Zj ops S g=some true) (hd:Zq n dst=true) (hu:P.underlying t=some (.interface ms)) (hx:ev S x=some (errv tE a c)) (h:K (.bool (decide (c=0))) D B L):opX P n ops i ⟨dst,.binOp .eql t x (.const .nilIface) u,ty,pos,after,g⟩ K S D B L:=
 ZI hg hd (fun ρ hρ Q F q=>by
  have e0:ρ (.const .nilIface) = .nilIface:=hρ (.const .nilIface) _ rfl
  simp only [execOp,hρ x _ hx,e0,Zh]
  cases c with
  | zero=>
   simp only [errv,eqGuard,binOp,Bool.not_true,Bool.false_eq_true,if_false,Bool.or_true,if_true,Zm,Zh]
   show hb P (Op.equalIn (9999+1) t .nilIface .nilIface) _ B _
   rw [Op.equalIn,Zh,Zp hu]
   simp only [Zm]
   simpa using q
  | succ c=>
   simp only [errv,eqGuard,binOp,Bool.not_true,Bool.false_eq_true,if_false,Bool.or_true,if_true,Zm,Zh]
   show hb P (Op.equalIn (9999+1) t (.iface tE _) .nilIface) _ B _
   rw [Op.equalIn,Zh,Zp hu]
   simp only [Zm]
   simpa using q) h
theorem Zue {t u:TypeId} {x:Operand} {tE:TypeId} {a:Nat→Addr} {c:Nat} {ms:Array (String × TypeId)} (hg:Zj ops S g=some true) (hd:Zq n dst=true) (hu:P.underlying t=some (.interface ms)) (hx:ev S x=some (errv tE a c)) (h:K (.bool (decide (c≠0))) D B L):opX P n ops i ⟨dst,.binOp .neq t x (.const .nilIface) u,ty,pos,after,g⟩ K S D B L:=
 ZI hg hd (fun ρ hρ Q F q=>by
  have e0:ρ (.const .nilIface) = .nilIface:=hρ (.const .nilIface) _ rfl
  simp only [execOp,hρ x _ hx,e0,Zh]
  cases c with
  | zero=>
   simp only [errv,eqGuard,binOp,Bool.not_true,Bool.false_eq_true,if_false,Bool.or_true,if_true,Zm,Zh]
   show hb P (Op.equalIn (9999+1) t .nilIface .nilIface) _ B _
   rw [Op.equalIn,Zh,Zp hu]
   simp only [Zm]
   simpa using q
  | succ c=>
   simp only [errv,eqGuard,binOp,Bool.not_true,Bool.false_eq_true,if_false,Bool.or_true,if_true,Zm,Zh]
   show hb P (Op.equalIn (9999+1) t (.iface tE _) .nilIface) _ B _
   rw [Op.equalIn,Zh,Zp hu]
   simp only [Zm]
   simpa using q) h
theorem Zn9 {t u:TypeId} {x y:Operand} {tE te:TypeId} {gs:List Nat} {a:Nat→Addr} {c k:Nat} {ms:Array (String × TypeId)} (hE:ErrsB tE gs B a) (hcb:c<5) (hkb:k<4) (hg:Zj ops S g=some true) (hd:Zq n dst=true) (hu:P.underlying t=some (.interface ms)) (hp:P.underlying tE=some (.pointer te)) (hinf:(P.info? tE).map (·.comparable)=some true) (hs:ZS P te=some 1)
  (hx:ev S x=some (errv tE a c)) (hy:ev S y=some (errv tE a (k+1))) (h:K (.bool (decide (c=k+1))) D B L):opX P n ops i ⟨dst,.binOp .eql t x y u,ty,pos,after,g⟩ K S D B L:=
 ZI hg hd (fun ρ hρ Q F q=>by
  obtain ⟨inf,hinfo,hc⟩:=Option.map_eq_some_iff.1 hinf
  have hpl:Zgn (errv tE a c) (errv tE a (k+1))=true:=by cases c <;> rfl
  simp only [execOp,hρ x _ hx,hρ y _ hy,Zh,Zfp hpl,Zkz (.inl hpl)]
  exact Zu0 hE hcb hkb hu hp hinfo hc hs q) h
theorem Zg2 {x:Operand} {xt t asserted:TypeId} {v:Value} {want:Array (String × TypeId)} (hg:Zj ops S g=some true) (hd:Zq n dst=true) (hu:P.underlying asserted=some (.interface want)) (hl:(P.info? t).map (fun i=>(lacking want i.methods).isEmpty)=some false) (hz:Zaq P asserted=some .nilIface)
  (hx:ev S x=some (.iface t v)) (h:K (.tuple #[.nilIface,.bool false]) D B L):opX P n ops i ⟨dst,.typeAssert x xt asserted true,ty,pos,after,g⟩ K S D B L:=
 ZI hg hd (fun ρ hρ Q F q=>by
  obtain ⟨j,hj,hm⟩:=Option.map_eq_some_iff.1 hl
  obtain ⟨m,hm⟩:=missingMethod_some (want:=want) (got:=j.methods) (fun e=>by rw [e] at hm;cases hm)
  simp only [execOp,Instr.typeAssert,hρ x _ hx,Zh,Zp hu,Zbh hj,hm,if_true,Zbg hz,Zm]
  exact q) h
theorem Zup {f:FuncId} {fn:Func} {ext:Array Value→Sem Value} {x:Operand} {ats:Array TypeId} {v r:Value} (hg:Zj ops S g=some true) (hd:Zq n dst=true) (hf:P.funcs[f]? = some fn) (hname:(fn.name == "runtime.NumGoroutine")=false) (hb0:fn.body.isNone=true) (hn:Extern.findNext fn=none) (he:Extern.find fn=some ext)
  (hx:ev S x=some v) (hr :∀(Q:Value→Kn→Cells→Prop) B L,hb P (ext #[v]) Q B L=Q r B L) (h:K r D B L):opX P n ops i ⟨dst,.call ⟨.value (.func f),#[x],ats⟩,ty,pos,after,g⟩ K S D B L:=
 Zcb hg hd fun ρ hρ F=>by
  have e0:ρ (.func f) = .func (.func f) #[] #[]:=hρ (.func f) _ rfl
  simp only [execOp,resolve,e0,Deferred.ofValue,Zh,Zm,invoke,List.map_toArray,List.map_cons,List.map_nil,hρ x _ hx]
  have e:(#[] ++ #[v]:Array Value) ++ #[] = #[v]:=by simp
  rw [e]
  simp only [callFunc,Zh,ZbR,hf,hname,Bool.false_eq_true,if_false,hb0,if_true,hn,he]
  refine ⟨rfl,?_⟩
  simp only [Zaa,Zm,Zh,hr]
  exact ⟨L,.of (.refl _),h⟩
theorem Zum {f:FuncId} {fn:Func} {ext:Array Value→Sem Value} {x:Operand} {t:TypeId} {name:String} {ats:Array TypeId} {v u r:Value} (hg:Zj ops S g=some true) (hd:Zq n dst=true) (hf:P.funcs[f]? = some fn) (hname:(fn.name == "runtime.NumGoroutine")=false) (hb0:fn.body.isNone=true) (hn:Extern.findNext fn=none) (he:Extern.find fn=some ext)
  (hx:ev S x=some (.iface t v)) (hm :∀(k:Nat) (Q:FuncId × Value→Kn→Cells→Prop) B L,hb P (method (k+1) t v name) Q B L=Q (f,u) B L) (hr :∀(Q:Value→Kn→Cells→Prop) B L,hb P (ext #[u]) Q B L=Q r B L) (h:K r D B L):opX P n ops i ⟨dst,.call ⟨.invoke x name,#[],ats⟩,ty,pos,after,g⟩ K S D B L:=
 Zcb hg hd fun ρ hρ F=>by
  have e1:(#[Value.iface t v] ++ #[])[0]? = some (.iface t v):=by simp
  have e2:(#[Value.iface t v] ++ #[]).extract 1 (#[Value.iface t v] ++ #[]).size = #[]:=by apply Array.ext';simp
  have e3 : #[u] ++ #[] = #[u]:=by simp
  simp only [execOp,resolve,hρ x _ hx,Zh,Zm,invoke,List.map_toArray,List.map_nil,e1,e2,callMethod,ZbR]
  have hpos:0<Made.depth:=by decide
  obtain ⟨d,hd'⟩ :∃d,P.types.size+Made.depth=d+1:=⟨P.types.size+Made.depth - 1,by omega⟩
  rw [hd',hm]
  simp only [e3,callFunc,Zh,ZbR,hf,hname,Bool.false_eq_true,if_false,hb0,if_true,hn,he]
  refine ⟨rfl,?_⟩
  simp only [Zaa,Zm,Zh,hr]
  exact ⟨L,.of (.refl _),h⟩
end
end Go.BL
namespace Go.BL
open Go.ChangeShapes Go.WideShapes Go.ChangeAt Go.RowKit Go.Conc
section
variable {H:Type} {enc:TypeId × Value→H} {P:Program}
theorem ZmV {t:TypeId} {ms:Array (String × TypeId)} (hu:P.underlying t=some (.interface ms)) {W W':World} {sp sp':Nat→Bool} {fuel:Nat} {cs:List Value} : DataW.trod enc P W 0 sp true fuel t cs=DataW.trod enc P W' 0 sp' true fuel t cs:=by
 cases fuel with
 | zero=>simp [DataW.trod]
 | succ n=>
  cases cs with
  | nil=>simp [DataW.trod,hu]
  | cons x xs=>
   cases xs with
   | nil=>cases x <;> simp [DataW.trod,hu]
   | cons y ys=>cases x <;> simp [DataW.trod,hu]
theorem Zqx {W W':World} (hk:Kept W W') {n:String} {g:Nat} {cs:Array Value} (hg:P.globalNamed n=some g) (hlt:g<W.heap.size) (h:W.var? P n=some cs):W'.var? P n=some cs:=by
 simp only [World.var?,hg,Option.bind_some] at h ⊢
 rw [hk.1 g hlt];exact h
theorem ZjO {W W':World} (hk:Kept W W') {sp sp':Nat→Bool} :∀{ns:List String} {gs:List (DataW H)} {ps:List MemPlace},(∀n,n∈ns→∀g t,P.globalNamed n=some g→(P.globals[g]?).map (·.type)=some t→∃ms,P.underlying t=some (.interface ms))→
  DataW.TrodVars enc P W sp ns gs ps→(∀n,n∈ns→∀g,P.globalNamed n=some g→g<W.heap.size)→DataW.TrodVars enc P W' sp' ns gs ps
 | [],[],_,_,h,_=>h
 | n :: ns,d :: ds,ps,ht,⟨g,t,cs,fuel,p,q,hg,hty,hv,hd,hr,e⟩,hlt=>by
  obtain ⟨ms,hu⟩:=ht n (List.mem_cons_self ..) g t hg hty
  exact ⟨g,t,cs,fuel,p,q,hg,hty,Zqx hk hg (hlt n (List.mem_cons_self ..) g hg) hv,(ZmV hu).trans hd,
   ZjO hk (fun n hn=>ht n (List.mem_cons_of_mem _ hn)) hr (fun n hn=>hlt n (List.mem_cons_of_mem _ hn)),e⟩
 | [],_ :: _,_,_,h,_=>h.elim
 | _ :: _,[],_,_,h,_=>h.elim
theorem Zod {W:World} {sp:Nat→Bool} :∀{ns:List String} {gs:List (DataW H)} {ps:List MemPlace},DataW.TrodVars enc P W sp ns gs ps→∀n,n∈ns→∀g,P.globalNamed n=some g→g<W.heap.size
 | [],_,_,_,n,hn,_,_=>by cases hn
 | m :: ns,d :: ds,ps,⟨g,t,cs,fuel,p,q,hg,hty,hv,hd,hr,e⟩,n,hn,g',hg'=>by
  rcases List.mem_cons.1 hn with rfl | hn
  ·obtain rfl:=Option.some.inj (hg.symm.trans hg')
   simp only [World.var?,hg,Option.bind_some] at hv
   rcases Nat.lt_or_ge g W.heap.size with h | h
   ·exact h
   ·rw [Array.getElem?_eq_none h] at hv;cases hv
  ·exact Zod hr n hn g' hg'
 | _ :: _,[],_,h,_,_,_,_=>h.elim
theorem Zl1 {W:World} {sp:Nat→Bool} :∀{ns:List String} {gs:List (DataW H)} {ps:List MemPlace},DataW.TrodVars enc P W sp ns gs ps→gs.length=ns.length
 | [],[],_,_=>rfl
 | n :: ns,d :: ds,ps,⟨g,t,cs,fuel,p,q,hg,hty,hv,hd,hr,e⟩=>by rw [List.length_cons,List.length_cons,Zl1 hr]
 | [],_ :: _,_,h=>h.elim
 | _ :: _,[],_,h=>h.elim
theorem Zo4 {f:Func} {s:ChangeSpec} {apart fresh handsOn again:Bool} {W W':World} {args:Array Value} {ds gs:List (DataW H)} {before:List MemPlace} {tb:TypeId}
  (hl:laidOutB P=true) (hts:(f.params.toList.all fun t=>P.readableRec t && decide (t<P.types.size))=true) (hres:f.resultTypes.toList=[tb]) (hb:P.underlying tb=some .bool)
  (hvars :∀n,n∈s.vars→∀g t,P.globalNamed n=some g→(P.globals[g]?).map (·.type)=some t→∃ms,P.underlying t=some (.interface ms))
  (hW:DataW.Whole enc P f.params.toList s.vars apart W args.toList ds gs before) (hfn :∀ds' gs',gs'.length=s.vars.length→ds'.length=f.params.toList.length→s.fn H (ds' ++ gs') = { results:=[.lit (.bool true)],args:=ds',vars:=gs' })
  (hk:Kept W W'):s.post enc P f apart fresh handsOn again W args (.bool true) W':=by
 have hlt:=hW.lt
 have hW':=hW
 obtain ⟨p,q,hA0,hV,rfl,hfz,hnd⟩:=hW
 have hlen:=(trodAll_length hA0).2
 have hvl:gs.length=s.vars.length:=Zl1 hV
 have hf2:=hfn ds gs hvl hlen
 have hr2:f.resultTypes = #[tb]:=by apply Array.ext';rw [hres]
 refine post_of_same (pa:=p) (pv:=q) hW' (fun b sp hd=>?_) (fun sp hsp=>?_) (fun sp hsp=>?_) rfl (hk.2.frame _) hk.2.2.1 ?_
 ·rw [hf2,hr2]
  exact trodAll_cons_mk (shut_bool hb _) trodAll_mk0
 ·rw [hf2]
  exact Zme hl hk hts hA0 (fun x hx=>hlt x (List.mem_append_left _ hx)) (fun x hx=>hsp x (List.mem_append_left _ hx))
 ·rw [hf2]
  exact ZjO hk hvars hV (Zod hV)
 ·intro j t r h1 h2
  rw [hr2] at h1 h2
  cases j with
  | zero=>
   simp only [List.getElem?_toArray,List.getElem?_cons_zero,Option.some.injEq] at h1
   simp [Value.resultList] at h2
   subst h1;subst h2
   exact okWide_bool_mk hb _
  | succ j=>simp at h1
theorem ZkP {ns:List String} (h:(ns.all fun n=>match P.globalNamed n with | some g=>(match (P.globals[g]?).map (·.type) with | some t=>(match P.underlying t with | some (.interface _)=>true | _=>false) | none=>true) | none=>true)=true) :
∀n,n∈ns→∀g t,P.globalNamed n=some g→(P.globals[g]?).map (·.type)=some t→∃ms,P.underlying t=some (.interface ms):=fun n hn g t hg ht=>by
 have h1:=List.all_eq_true.1 h n hn
 simp only [hg,ht] at h1
 split at h1
 ·exact ⟨_,by assumption⟩
 ·cases h1
theorem ZqK {ts:Array TypeId} (h:(ts.toList.all fun t=>!P.wantsStandIn t)=true) {j:Nat} {t:TypeId} (ht:ts[j]? = some t):P.wantsStandIn t=false:=by
 have:=List.all_eq_true.1 h t (by
  rw [← Array.getElem?_toList] at ht
  exact List.mem_of_getElem? ht)
 simpa using this
theorem ZjR {a:Assume} {C:Checked} {os:Os} {f:FuncId} {fn:Func} {s:ChangeSpec} {conds:List PathCond} {apart fresh handsOn again:Bool} {laid:List (String × DataW Unit)}
  (own:ownKnob C.prog.godebug=none) (started:os.Started) (hfn:C.prog.funcs[f]? = some fn)
  (witness :∃(w:World) (tape:Tape) (i:Input),w.os=os∧(w.forCall tape i).Shaped C.prog∧i.vars=[]∧Input.okWide C.prog (w.forCall tape i) .any w.heap.size f i∧
   ((s.pre enc C.prog fn conds apart (w.forCall tape i).memory i.args∧laidMetH C.prog laid (w.forCall tape i).memory)∧sizedMet enc C.prog fn (OpenSpec.ofChange s) apart (w.forCall tape i).memory i.args)∧a.holds C.prog (lone (Frame.enter C.prog f i.args .normal) [] (w.forCall tape i)))
  (runs :∀(W:World) (base:Nat) (args:Array Value) (ds gs:List (DataW H)) (before:List MemPlace),
   (∀(j:Nat) t v,fn.params[j]? = some t→args[j]? = some v→Value.okWide C.prog W .any base t v)→
   DataW.Whole enc C.prog fn.params.toList s.vars apart W args.toList ds gs before→
   (DataW.weightsEach C.prog (fn.params.toList ++ s.plain.varTypes C.prog) (ds ++ gs)).all (·≤reachBytes)=true→
   laidMetH C.prog laid W→
∃M last o w' t',runNT C.prog (M+1) (solo (G (Frame.enter C.prog f args .normal) []) W) #[]=(.ended o w',t')∧runN C.prog M (solo (G (Frame.enter C.prog f args .normal) []) W) = .next last∧
    step C.prog last = .ended o w'∧Conc.Good C.prog (fun v W'=>s.post enc C.prog fn apart fresh handsOn again W args v W') last o w' t') :
  ReturnsInLeavingWide a C os f .any (fun w args=>(s.pre enc C.prog fn conds apart w args∧laidMetH C.prog laid w)∧sizedMet enc C.prog fn (OpenSpec.ofChange s) apart w args) (s.post enc C.prog fn apart fresh handsOn again):=by
 refine returnsInLeavingWide_of_good own started witness ?_
 intro w tape i _ _ _ hok hpre hholds
 obtain ⟨_,_,_,fn',hfn',_,_,_,_,hval⟩:=hok
 have e:fn'=fn:=Option.some.inj (hfn'.symm.trans hfn)
 subst e
 obtain ⟨⟨⟨ds,gs,before,hw,hc⟩,hL⟩,hz⟩:=hpre
 have hw':=DataW.Whole.of_heap (w':=w.forCall tape i) (by rfl) hw
 have hL':=hL.of_heap (w':=w.forCall tape i) (by rfl)
 obtain ⟨M,last,o,w',t',h1,h2,h3,h4⟩:=runs (w.forCall tape i) w.heap.size i.args ds gs before hval hw' (hz.weights hw) hL'
 exact ⟨M,last,o,w',t',h1,h2,h3,h4.mono fun v hp=>ChangeSpec.post_blind hp⟩
theorem ZpH {n0 n1 n2 n3 nm:String} {x0 x1 x2 x3:List UInt8} {r:List (String × DataW Unit)} {W:World} {k0 k1 k2 k3:Nat} {ti tp te ts:TypeId} {ms:Array (String × TypeId)} {f:Field}
  (h:laidMet P ((n0,.iface nm (.ptr (.agg [.lit (.string x0)]))) :: (n1,.iface nm (.ptr (.agg [.lit (.string x1)]))) :: (n2,.iface nm (.ptr (.agg [.lit (.string x2)]))) :: (n3,.iface nm (.ptr (.agg [.lit (.string x3)]))) :: r) W)
  (hg0:P.globalNamed n0=some k0) (hg1:P.globalNamed n1=some k1) (hg2:P.globalNamed n2=some k2) (hg3:P.globalNamed n3=some k3) (hy0:(P.globals[k0]?).map (·.type)=some ti) (hy1:(P.globals[k1]?).map (·.type)=some ti) (hy2:(P.globals[k2]?).map (·.type)=some ti) (hy3:(P.globals[k3]?).map (·.type)=some ti)
  (hi:P.underlying ti=some (.interface ms)) (hrow :∀u,P.typeName? 3 u=some nm→u=tp)
  (hp:P.underlying tp=some (.pointer te)) (he:P.underlying te=some (.struct #[f])) (hft:f.type=ts) (hfo:f.offset=0) (hs:P.underlying ts=some .string) (hc:P.cellsOf te=1) (hcs:P.cellsOf ts=1) :
∃a:Nat→Addr,ErrsB tp [k0,k1,k2,k3] (Za4 W) a:=by
 obtain ⟨ps,⟨g0,t0,cs0,f0,p0,q0,hg0',ht0',hv0,hd0,⟨g1,t1,cs1,f1,p1,q1,hg1',ht1',hv1,hd1,⟨g2,t2,cs2,f2,p2,q2,hg2',ht2',hv2,hd2,⟨g3,t3,cs3,f3,p3,q3,hg3',ht3',hv3,hd3,_,e3⟩,e2⟩,e1⟩,e0⟩,hnd,hrows⟩:=h
 obtain rfl:=Option.some.inj (hg0.symm.trans hg0')
 obtain rfl:=Option.some.inj (hg1.symm.trans hg1')
 obtain rfl:=Option.some.inj (hg2.symm.trans hg2')
 obtain rfl:=Option.some.inj (hg3.symm.trans hg3')
 obtain rfl:=Option.some.inj (hy0.symm.trans ht0')
 obtain rfl:=Option.some.inj (hy1.symm.trans ht1')
 obtain rfl:=Option.some.inj (hy2.symm.trans ht2')
 obtain rfl:=Option.some.inj (hy3.symm.trans ht3')
 subst e3
 subst e2
 subst e1
 subst e0
 obtain ⟨l0⟩:=cs0
 obtain ⟨l1⟩:=cs1
 obtain ⟨l2⟩:=cs2
 obtain ⟨l3⟩:=cs3
 have ok0 :∀u v,l0=[.iface u v]→Value.okWide P W .any 0 u v:=fun u v e=>by
  subst e
  exact (hrows k0 0 (by simp [MemPlace.row])).2 u v (by simpa using World.var?_cell hg0' hv0 0)
 have ok1 :∀u v,l1=[.iface u v]→Value.okWide P W .any 0 u v:=fun u v e=>by
  subst e
  exact (hrows k1 0 (by simp [MemPlace.row])).2 u v (by simpa using World.var?_cell hg1' hv1 0)
 have ok2 :∀u v,l2=[.iface u v]→Value.okWide P W .any 0 u v:=fun u v e=>by
  subst e
  exact (hrows k2 0 (by simp [MemPlace.row])).2 u v (by simpa using World.var?_cell hg2' hv2 0)
 have ok3 :∀u v,l3=[.iface u v]→Value.okWide P W .any 0 u v:=fun u v e=>by
  subst e
  exact (hrows k3 0 (by simp [MemPlace.row])).2 u v (by simpa using World.var?_cell hg3' hv3 0)
 obtain ⟨a0,s0,rfl,hc0,hs0,hz0,rfl⟩:=errorString_of_trod hi hrow hp he hft hfo hs hc hcs hd0 ok0
 obtain ⟨a1,s1,rfl,hc1,hs1,hz1,rfl⟩:=errorString_of_trod hi hrow hp he hft hfo hs hc hcs hd1 ok1
 obtain ⟨a2,s2,rfl,hc2,hs2,hz2,rfl⟩:=errorString_of_trod hi hrow hp he hft hfo hs hc hcs hd2 ok2
 obtain ⟨a3,s3,rfl,hc3,hs3,hz3,rfl⟩:=errorString_of_trod hi hrow hp he hft hfo hs hc hcs hd3 ok3
 have b0:=(hrows a0.block a0.off (by simp [MemPlace.row])).1
 have b1:=(hrows a1.block a1.off (by simp [MemPlace.row])).1
 have b2:=(hrows a2.block a2.off (by simp [MemPlace.row])).1
 have b3:=(hrows a3.block a3.off (by simp [MemPlace.row])).1
 have row :∀(g:Nat) (v:Value) (n:String),P.globalNamed n=some g→W.var? P n=some #[v]→Zae (Za4 W) g 0 [v]:=fun g v n hg hv L j u hj=>by
  cases j with
  | zero=>
   simp only [List.getElem?_cons_zero,Option.some.injEq] at hj
   subst hj
   have:=ZhE (by simpa using World.var?_cell hg hv 0:W.cell? ⟨g,0,none⟩=some v)
   obtain ⟨h1,cs,T,fr,h2,h3⟩:=this
   exact ⟨h1,cs,T,fr,h2.elim .inl (fun h=>by cases h),h3⟩
  | succ j=>simp at hj
 refine ⟨fun k=>if k=0 then a0 else if k=1 then a1 else if k=2 then a2 else a3,fun k hk=>?_,fun k hk=>?_,fun i j hi' hj' hne=>?_⟩
 ·match k,hk with
  | 0,_=>exact row k0 _ _ hg0 hv0
  | 1,_=>exact row k1 _ _ hg1 hv1
  | 2,_=>exact row k2 _ _ hg2 hv2
  | 3,_=>exact row k3 _ _ hg3 hv3
 ·match k,hk with
  | 0,_=>exact b0
  | 1,_=>exact b1
  | 2,_=>exact b2
  | 3,_=>exact b3
 ·have h01:a0≠a1:=by rintro rfl;simp [MemPlace.row] at hnd
  have h02:a0≠a2:=by rintro rfl;simp [MemPlace.row] at hnd
  have h03:a0≠a3:=by rintro rfl;simp [MemPlace.row] at hnd
  have h12:a1≠a2:=by rintro rfl;simp [MemPlace.row] at hnd
  have h13:a1≠a3:=by rintro rfl;simp [MemPlace.row] at hnd
  have h23:a2≠a3:=by rintro rfl;simp [MemPlace.row] at hnd
  match i,j,hi',hj',hne with
  | 0,1,_,_,_=>exact h01
  | 0,2,_,_,_=>exact h02
  | 0,3,_,_,_=>exact h03
  | 1,0,_,_,_=>exact h01.symm
  | 1,2,_,_,_=>exact h12
  | 1,3,_,_,_=>exact h13
  | 2,0,_,_,_=>exact h02.symm
  | 2,1,_,_,_=>exact h12.symm
  | 2,3,_,_,_=>exact h23
  | 3,0,_,_,_=>exact h03.symm
  | 3,1,_,_,_=>exact h13.symm
  | 3,2,_,_,_=>exact h23.symm
  | 0,0,_,_,h=>exact (h rfl).elim
  | 1,1,_,_,h=>exact (h rfl).elim
  | 2,2,_,_,h=>exact (h rfl).elim
  | 3,3,_,_,h=>exact (h rfl).elim
end
theorem Zp5 (Lk:Looks) {p:Pinned} {s:OpenSpec} {c:OpenClaim} (kinds:List LaidKind) (tests:Bool) (har:Bool × String) (lk:Bool)
  (hc:c.holds p s) (hw:c.wfByText s=true) (htie:c.laidByTextAt Lk p kinds tests)
  (hst:c.start = .entering) (hnb:c.noBlocks=false∧c.again=false) (hm:p.checked.prog.mainIs=some (har.1,har.2.toList)) (hn:(!har.1 && har.2.isEmpty && !lk)=false)
  (hl :∀f fn,p.checked.prog.funcNamed c.func=some f→p.checked.prog.funcs[f]? = some fn→lk=p.checked.prog.looks []∧∀(j:Nat) t,fn.params[j]? = some t→p.checked.prog.wantsStandIn t=false)
  (hg:true=c.goesBy p.checked.prog) :
  Claim7.holds p (.plain s) { stood:={ row:=c,standIns:=[],harness:=har,looks:=lk },kinds:=[],alts:=[],goes:=true,laidByText:=true,laidKinds:=kinds,laidTests:=tests,laidLooks:=Lk }:=by
 have h6 :∀r:OpenClaim,Claim7.isSixth { stood:={ row:=r,standIns:=[],harness:=har,looks:=lk },kinds:=[] } = false:=fun r=>by simpa [Claim7.isSixth] using hn
 refine ⟨Claim7.tied_new_at Lk kinds tests (Claim7.new_of_sixth hc har lk hst hnb hm (h6 c) hl) hw,(fun D hD=>by cases hD),htie,(fun h=>by cases h),hg⟩
end Go.BL
namespace Go.BL
open Go.Conc (G)
section
variable {P:PJ} {n:Nat} {ops:Array Oper} {i:Nat} {K:ZaG} {S:Env} {D:List Deferred} {B:Kn} {L:List Cells}
variable {dst:Option Tmp} {ty:TypeId} {pos:String} {after:Array Edge} {g:Option (Nat × Bool)}
theorem ZsK {f:FuncId} {x:Operand} {cap:Array Value} {xs:List Operand} {vs:List Value} {ats:Array TypeId} {Post:Value→Kn→List Cells→Prop} (js:List Nat) {ss r:List Cells} (hp:Zau L js=some (ss,r)) (hn:Zeb js=true) (hg:Zj ops S g=some true) (hd:Zq n dst=true) (he:enters P f=true) (hx:ev S x=some (.func (.func f) #[] cap)) (ha:evs S xs=some vs) (hc:Zv P f (vs ++ cap.toList) B ss Post)
  (h :∀v B' Ls',B.le B'→Post v B' Ls'→K v D B' (Zb9 r js Ls')):opX P n ops i ⟨dst,.call ⟨.value x,xs.toArray,ats⟩,ty,pos,after,g⟩ K S D B L:=
 ZdD (o:=⟨dst,.call ⟨.value x,xs.toArray,ats⟩,ty,pos,after,g⟩) (vs:=vs ++ cap.toList) hg (fun ρ hρ Q F q=>by
   have:=Zd8 (P:=P) (B:=B) (L:=L) (dst:=dst) (ty:=ty) (pos:=pos) (after:=after) (g:=g) (x:=x) (first:=#[]) (cap:=cap) (ats:=ats) he hx ha ρ hρ Q F
   exact this (by simpa using q)) hd (Ls:=ss) (Lk:=r) (Z5 js L ss r hp) hc
  fun v' B' Ls' hle hq=>⟨Zb9 r js Ls',ZbJ Ls' r js (ZbL hn) (fun j hj=>ZbK js L ss r hp j (.inr hj)),h v' B' Ls' hle hq⟩
theorem All3.turn {α:Type} {R:Zf6 α} {rows:List (List Value)} {xs:List α} {s:Cells} (h:All3 R rows xs s) {z x:α} {ex:Cells} (f:List Value→List Value) (hf :∀row li,R row x li→∃li' gl,R (f row) z li'∧(li ++ ex).Perm (li' ++ gl)) :∀{k:Nat},xs[k]? = some x→∃row s' gl,rows[k]? = some row∧All3 R (rows.set k (f row)) (xs.set k z) s'∧(s ++ ex).Perm (s' ++ gl):=by
 induction h with
 | nil=>intro k hx;simp at hx
 | @cons row0 x0 ins0 rest rows xs h1 h2 ih=>
  intro k hx
  cases k with
  | zero=>
   simp only [List.getElem?_cons_zero,Option.some.injEq] at hx
   subst hx
   obtain ⟨li',gl,e1,e2⟩:=hf _ _ h1
   refine ⟨row0,li' ++ rest,gl,rfl,.cons e1 h2,?_⟩
   have e3:(ins0 ++ rest ++ ex).Perm ((ins0 ++ ex) ++ rest):=by
    rw [List.append_assoc,List.append_assoc];exact List.Perm.append_left _ List.perm_append_comm
   refine e3.trans ((e2.append_right rest).trans ?_)
   rw [List.append_assoc,List.append_assoc];exact List.Perm.append_left _ List.perm_append_comm
  | succ k=>
   obtain ⟨row,s',gl,e1,e2,e3⟩:=ih (k:=k) (by simpa using hx)
   refine ⟨row,ins0 ++ s',gl,by simpa using e1,.cons h1 e2,?_⟩
   rw [List.append_assoc,List.append_assoc]
   exact List.Perm.append_left ins0 e3
theorem Zr3 {α:Type} {R:Zf6 α} {xs:List α} {x0:α} (z:α) {t T:TypeId} {x y:Operand} {v:Value} {us:List Value} {sz k c b:Nat} (off:Nat) {l:Cells} {p:Option Addr} {inss r:List Cells} (j:Nat) (ks:List Nat) (hpk:Zau L (j :: ks)=some (l :: inss,r)) (hnd:Zeb (j :: ks)=true) (hv:ZaV l p c T sz R xs) (hp:p=some ⟨b,0,Option.none⟩) (hx0:xs[k]? = some x0) (hg:Zj ops S g=some true) (hd:Zq n dst=true) (hsz:ZS P t=some us.length)
  (hx:ev S x=some (ptr ⟨b,k*sz+off,Option.none⟩)) (hy:ev S y=some v) (hvc:v.cells=us.toArray) (ho:us.all Zhc=true) (hoff:off+us.length≤sz) (hr :∀row li,R row x0 li→∃li' gl,R (Z4 row off us) z li'∧(li ++ inss.flatten).Perm (li' ++ gl))
  (h :∀l',ZaV l' p c T sz R (xs.set k z)→K undef D B (Zb9 r (j :: ks) (l' :: inss.map fun _=>[]))):opX P n ops i ⟨dst,.store t x y,ty,pos,after,g⟩ K S D B L:=by
 subst hp
 obtain ⟨rows,blk,ins,h1,h2,h3,hl1,⟨hc,_⟩ | ⟨b',arr,e,ha,ht,rfl,hmc⟩⟩:=hv
 ·cases hc
 ·cases e
  have hk:=(List.getElem?_eq_some_iff.1 hx0).1
  obtain ⟨row,s',gl,hrow,a1,a2⟩:=h1.turn (fun row=>Z4 row off us) hr hx0
  have hw:row.length=sz:=h2 row (List.mem_of_getElem? hrow)
  have hsz1:(k+1)*sz≤xs.length*sz:=Nat.mul_le_mul_right sz hk
  have hcs:xs.length*sz≤c*sz:=Nat.mul_le_mul_right sz hmc
  rw [Nat.succ_mul] at hsz1
  have hb1:k*sz+off+us.length≤arr.length:=by omega
  have hpp:=Z5 (j :: ks) L (l :: inss) r hpk
  refine Zk9 (L':=[Zar b arr T ++ ins,inss.flatten ++ r.flatten]) (K':=fun u D' B' L₁=>u=undef∧D'=D∧B'=B∧L₁=[Zar b (Z4 arr (k*sz+off) us) T ++ ins,inss.flatten ++ r.flatten]) ?_ ?_ ?_
  ·refine hpp.trans ?_
   simp only [List.flatten_cons,List.flatten_nil,List.append_nil,List.append_assoc]
   refine (h3.append_right _).trans ?_
   rw [List.append_assoc]
  ·exact Z0 us 0 (Z4 arr (k*sz+off) us) hg hd hsz hx hy hvc ho (T:=T) (r:=ins) rfl rfl (by rw [Nat.ble_eq];exact hb1) rfl ⟨rfl,rfl,rfl,rfl⟩
  ·rintro u D' B' L₁ hle ⟨rfl,rfl,rfl,rfl⟩
   have hnew:ZaV (Zar b (Z4 arr (k*sz+off) us) T ++ s') (some ⟨b,0,Option.none⟩) c T sz R (xs.set k z):=by
    have hsl:(Z4 row off us).length=sz:=by rw [ZY];exact hw
    have hwide:wide sz (rows.set k (Z4 row off us)):=fun r' hr'=>by
     rcases List.mem_or_eq_of_mem_set hr' with hr' | rfl
     ·exact h2 r' hr'
     ·exact hsl
    refine ⟨rows.set k (Z4 row off us),_,s',a1,hwide,.refl _,?_,.inr ⟨b,_,rfl,by rw [ZY];exact ha,?_,rfl,by rw [List.length_set];exact hmc⟩⟩
    ·rw [ZcY hwide,List.length_set,List.length_set,h1.len]
    ·rw [List.length_set]
     have e:=ZcR (us:=us) (off:=off) h2 hrow hoff
     rw [Zc3 _ _ _ _ (by omega) (by omega),ht,e]
   refine ⟨_,gl,?_,h _ hnew⟩
   have hq:=ZbJ ((Zar b (Z4 arr (k*sz+off) us) T ++ s') :: inss.map fun _=>[]) r (j :: ks) (ZbL hnd) (fun jj hj=>ZbK (j :: ks) L (l :: inss) r hpk jj (.inr hj))
   have hnil:((inss.map fun _=>([]:Cells))).flatten=[]:=by
    clear hpk hpp hr h a2 hq
    induction inss with
    | nil=>rfl
    | cons a as ih=>simp
   rw [List.flatten_cons,hnil,List.append_nil] at hq
   refine List.Perm.trans ?_ (hq.append_right gl)
   simp only [List.flatten_cons,List.flatten_nil,List.append_nil]
   have e1:(Zar b (Z4 arr (k*sz+off) us) T ++ ins ++ (inss.flatten ++ r.flatten)).Perm (Zar b (Z4 arr (k*sz+off) us) T ++ ((ins ++ inss.flatten) ++ r.flatten)):=by simp only [List.append_assoc];exact .refl _
   refine (e1.trans (List.Perm.append_left _ (a2.append_right _))).trans ?_
   exact ZoK fun f g h0 ha hc=>by simp only [ha];omega
end
theorem Zyf {B:Kn} {ls:List Cells} {b:Nat} {row:List Value} {T:TypeId} (k:Nat) (hk:ls[k]? = some (Zar b row T)) (hm :∀q,q∈ls.flatten→(B.add ls.flatten).mem q.1=some q.2):Zae (B.add ls.flatten) b 0 row:=ZaT (Zo3 hm k hk)
end Go.BL
namespace Go.BL
open Go.Conc (G)
end Go.BL
namespace Go.BL
section
variable {P:PJ} {n:Nat} {ops:Array Oper} {i:Nat} {K:ZaG} {S:Env} {D:List Deferred} {B:Kn} {L:List Cells}
variable {dst:Option Tmp} {ty:TypeId} {pos:String} {after:Array Edge} {g:Option (Nat × Bool)}
end
end Go.BL
namespace Go.BL
section
variable {P:PJ} {n:Nat} {ops:Array Oper} {i:Nat} {K:ZaG} {S:Env} {D:List Deferred} {B:Kn} {L:List Cells}
variable {dst:Option Tmp} {ty:TypeId} {pos:String} {after:Array Edge} {g:Option (Nat × Bool)}
variable {α:Type} {R:Rel α} {xs:List α}
end
end Go.BL
namespace Go.BL
theorem ZnU {P:PJ} {n:Nat} {Q:Exit→Z8} {S:Env} {D:List Deferred} {B:Kn} {L:List Cells} {c:Code} (L':List Cells) (hl:L=L') (h:wpS P n c Q S D B L'):wpS P n c Q S D B L:=by subst hl;exact h
theorem sQ:(∀(p:Prop) [Decidable p],(decide p=true)=p)∧(∀(p:Prop) [Decidable p],(decide p=false) = ¬p)∧(∀b:Bool,((!b)=true)=(b=false))∧(∀b:Bool,((!b)=false)=(b=true))∧(∀(p:Prop) [Decidable p],(decide (¬p)) = !decide p)∧(∀(p:Prop) [Decidable p],(¬¬p)=p)∧(∀a b:Int,(¬a<b)=(b≤a))∧(∀a b:Int,(¬a≤b)=(b<a)):=
 ⟨fun p _=>by simp,fun p _=>by simp,by simp,by simp,fun p _=>by simp,fun p _=>by simp,by simp,by simp⟩
end Go.BL
namespace Go.BL
def orI (a b:Int):Int:=IntKind.i64.wrap (BitVec.ofInt 64 a ||| BitVec.ofInt 64 b).toNat
def Zvo (a b:Int):Int:=IntKind.i64.wrap (BitVec.ofInt 64 a &&& BitVec.ofInt 64 b).toNat
section
variable {P:PJ} {n:Nat} {ops:Array Oper} {i:Nat} {K:ZaG} {S:Env} {D:List Deferred} {B:Kn} {L:List Cells}
variable {dst:Option Tmp} {ty:TypeId} {pos:String} {after:Array Edge} {g:Option (Nat × Bool)}
theorem Zix {t kt et:TypeId} {x y:Operand} {b:Nat} {l:Cells} {kvs:KV} {k:List UInt8} (j:Nat) (hj:L[j]? = some l) (hl:Zjs l b kvs) (hg:Zj ops S g=some true) (hd:Zq n dst=true) (hu:P.underlying t=some (.map kt et)) (hk:P.underlying kt=some .string)
  (hz:Zaq P et=some (.int .i64 0)) (hx:ev S x=some (.map (some b))) (hy:ev S y=some (str k)) (h:K (.int .i64 ((mget kvs k).getD 0)) D B L):opX P n ops i ⟨dst,.lookup t x y false,ty,pos,after,g⟩ K S D B L:=
 Zcb hg hd fun ρ hρ F=>by
  obtain ⟨es,clock,rfl,ok⟩:=hl
  have hin:(b,Obj.map es clock)∈L.flatten ++ F:=by
   rw [((ZH F [] hj).choose_spec.1).mem_iff];simp
  simp only [execOp,Instr.lookup,hρ x _ hx,hρ y _ hy,Zh,Zp hu]
  refine ⟨_,.inr hin,rfl,rfl,?_⟩
  simp only [Zaa,Zh,Zm]
  refine Zfq hk ?_
  rw [Zh]
  refine Zgk hk ok.ent ?_
  cases hm:mlook kvs k 0 with
  | none=>
   obtain ⟨_,_,_,m4⟩:=ZeJ hm
   simp only [Zbg hz,Zm,Zh,Zpl,Bool.false_eq_true,if_false]
   rw [m4] at h
   exact ⟨L,.of (List.Perm.refl _),h⟩
  | some p=>
   obtain ⟨jj,u⟩:=p
   obtain ⟨m,w,rfl,rfl,m3,m4,_,m6⟩:=ZeI hm
   simp only [Zm,Zh,Bool.false_eq_true,if_false]
   rw [m6] at h
   exact ⟨L,.of (List.Perm.refl _),h⟩
section
variable {t u:TypeId} {x y:Operand} {a b r:Int}
theorem ZvN (hg:Zj ops S g=some true) (hd:Zq n dst=true) (hx:ev S x=some (.int .i64 a)) (hy:ev S y=some (.int .i64 b)) (h:K (.int .i64 (orI a b)) D B L):opX P n ops i ⟨dst,.binOp .or t x y u,ty,pos,after,g⟩ K S D B L:=
 ZI hg hd (fun ρ hρ Q F q=>by
  simp only [execOp,hρ x _ hx,hρ y _ hy,Zh,Zac,binOp,ne_eq,not_true_eq_false,if_false,Op.intBits,Zm];exact q) h
theorem Zuw (hg:Zj ops S g=some true) (hd:Zq n dst=true) (hx:ev S x=some (.int .i64 a)) (hy:ev S y=some (.int .i64 b)) (h:K (.int .i64 (Zvo a b)) D B L):opX P n ops i ⟨dst,.binOp .and t x y u,ty,pos,after,g⟩ K S D B L:=
 ZI hg hd (fun ρ hρ Q F q=>by
  simp only [execOp,hρ x _ hx,hρ y _ hy,Zh,Zac,binOp,ne_eq,not_true_eq_false,if_false,Op.intBits,Zm];exact q) h
end
end
end Go.BL
namespace Go.BL
theorem om {p:Prop} (h:p:=by first | omega | (simp;done) | (simp;omega)):p:=h
theorem om2 {p:Prop} (h:p:=by first | assumption | omega | (simp;done) | (simp;omega)):p:=h
theorem oz {p:Prop} (h:p:=by omega):p:=h
theorem kr {p:Prop} (h:p:=by kernel_rfl):p:=h
theorem so {p:Prop} (h:p:=by simp only [];omega):p:=h
theorem so2 {p:Prop} (h:p:=by first | omega | (simp only [];omega)):p:=h
theorem oa {p:Prop} (h:p:=by first | assumption | omega):p:=h
theorem oy {p:Prop} (h:p:=by assumption):p:=h
theorem om3 {p:Prop} (h:p:=by first | omega | decide | (simp;done) | (simp;omega)):p:=h
theorem t1 {α0:Sort _} {a0:α0} : a0=a0∧True:=⟨rfl,trivial⟩
theorem t2 {α0 α1:Sort _} {a0:α0} {a1:α1} : a0=a0∧a1=a1∧True:=⟨rfl,rfl,trivial⟩
theorem t3 {α0 α1 α2:Sort _} {a0:α0} {a1:α1} {a2:α2} : a0=a0∧a1=a1∧a2=a2∧True:=⟨rfl,rfl,rfl,trivial⟩
theorem t4 {α0 α1 α2 α3:Sort _} {a0:α0} {a1:α1} {a2:α2} {a3:α3} : a0=a0∧a1=a1∧a2=a2∧a3=a3∧True:=⟨rfl,rfl,rfl,rfl,trivial⟩
theorem t5 {α0 α1 α2 α3 α4:Sort _} {a0:α0} {a1:α1} {a2:α2} {a3:α3} {a4:α4} : a0=a0∧a1=a1∧a2=a2∧a3=a3∧a4=a4∧True:=⟨rfl,rfl,rfl,rfl,rfl,trivial⟩
theorem t6 {α0 α1 α2 α3 α4 α5:Sort _} {a0:α0} {a1:α1} {a2:α2} {a3:α3} {a4:α4} {a5:α5} : a0=a0∧a1=a1∧a2=a2∧a3=a3∧a4=a4∧a5=a5∧True:=⟨rfl,rfl,rfl,rfl,rfl,rfl,trivial⟩
theorem t7 {α0 α1 α2 α3 α4 α5 α6:Sort _} {a0:α0} {a1:α1} {a2:α2} {a3:α3} {a4:α4} {a5:α5} {a6:α6} : a0=a0∧a1=a1∧a2=a2∧a3=a3∧a4=a4∧a5=a5∧a6=a6∧True:=⟨rfl,rfl,rfl,rfl,rfl,rfl,rfl,trivial⟩
theorem t8 {α0 α1 α2 α3 α4 α5 α6 α7:Sort _} {a0:α0} {a1:α1} {a2:α2} {a3:α3} {a4:α4} {a5:α5} {a6:α6} {a7:α7} : a0=a0∧a1=a1∧a2=a2∧a3=a3∧a4=a4∧a5=a5∧a6=a6∧a7=a7∧True:=⟨rfl,rfl,rfl,rfl,rfl,rfl,rfl,rfl,trivial⟩
theorem t9 {α0 α1 α2 α3 α4 α5 α6 α7 α8:Sort _} {a0:α0} {a1:α1} {a2:α2} {a3:α3} {a4:α4} {a5:α5} {a6:α6} {a7:α7} {a8:α8} : a0=a0∧a1=a1∧a2=a2∧a3=a3∧a4=a4∧a5=a5∧a6=a6∧a7=a7∧a8=a8∧True:=⟨rfl,rfl,rfl,rfl,rfl,rfl,rfl,rfl,rfl,trivial⟩
theorem t10 {α0 α1 α2 α3 α4 α5 α6 α7 α8 α9:Sort _} {a0:α0} {a1:α1} {a2:α2} {a3:α3} {a4:α4} {a5:α5} {a6:α6} {a7:α7} {a8:α8} {a9:α9} : a0=a0∧a1=a1∧a2=a2∧a3=a3∧a4=a4∧a5=a5∧a6=a6∧a7=a7∧a8=a8∧a9=a9∧True:=⟨rfl,rfl,rfl,rfl,rfl,rfl,rfl,rfl,rfl,rfl,trivial⟩
theorem t11 {α0 α1 α2 α3 α4 α5 α6 α7 α8 α9 α10:Sort _} {a0:α0} {a1:α1} {a2:α2} {a3:α3} {a4:α4} {a5:α5} {a6:α6} {a7:α7} {a8:α8} {a9:α9} {a10:α10} : a0=a0∧a1=a1∧a2=a2∧a3=a3∧a4=a4∧a5=a5∧a6=a6∧a7=a7∧a8=a8∧a9=a9∧a10=a10∧True:=⟨rfl,rfl,rfl,rfl,rfl,rfl,rfl,rfl,rfl,rfl,rfl,trivial⟩
section
variable {P:PJ} {n:Nat} {ops:Array Oper} {i:Nat} {K:Z8} {S:Env} {D:List Deferred} {B:Kn} {L:List Cells}
variable {dst:Option Tmp} {ty:TypeId} {pos:String} {after:Array Edge} {g:Option (Nat × Bool)} {t u:TypeId} {x y:Operand}
theorem xM {x:Operand} {v:Value} (hg:Zj ops S g=some true:=by exact rfl) (hd:Zq n dst=true:=by exact rfl) (hx:ev S x=some v:=by exact rfl) (h:K (Zbm S dst v) D B L):opW P n ops i ⟨dst,.move x,ty,pos,after,g⟩ K S D B L:=Zk (ZgZ hg hd hx h)
theorem xA {x:Operand} {v:Value} (hg:Zj ops S g=some true:=by exact rfl) (hd:Zq n dst=true:=by exact rfl) (hx:ev S x=some v:=by exact rfl) (h:K (Zbm S dst v) D B L):opW P n ops i ⟨dst,.assign x,ty,pos,after,g⟩ K S D B L:=Zk (ZcJ hg hd hx h)
theorem xP  {dst:Option Tmp} {op:Op} {t:TypeId} {pos:String} {after:Array Edge} {g:Option (Nat × Bool)}   (hg:Zj ops S g=some false:=by exact rfl) (hd:Zq n dst=true:=by exact rfl) (h:K (Zbm S dst undef) D B L):opW P n ops i ⟨dst,op,t,pos,after,g⟩ K S D B L:=Zk (Zr6  hg hd h)
theorem xT  {c:Operand} {a:Operand} {b:Operand} {v:Value}   (hg:Zj ops S g=some true:=by exact rfl) (hd:Zq n dst=true:=by exact rfl) (hc:ev S c=some (.bool true):=by exact rfl) (hx:ev S a=some v:=by exact rfl) (h:K (Zbm S dst v) D B L):opW P n ops i ⟨dst,.pick c a b,ty,pos,after,g⟩ K S D B L:=Zk (Zn5  hg hd hc hx h)
theorem xF  {c:Operand} {a:Operand} {b:Operand} {v:Value}   (hg:Zj ops S g=some true:=by exact rfl) (hd:Zq n dst=true:=by exact rfl) (hc:ev S c=some (.bool false):=by exact rfl) (hx:ev S b=some v:=by exact rfl) (h:K (Zbm S dst v) D B L):opW P n ops i ⟨dst,.pick c a b,ty,pos,after,g⟩ K S D B L:=Zk (Zn6  hg hd hc hx h)
theorem xE  {x:Operand} {ix:Nat} {vs:List Value} {v:Value}   (hg:Zj ops S g=some true:=by exact rfl) (hd:Zq n dst=true:=by exact rfl) (hx:ev S x=some (.tuple vs.toArray):=by exact rfl) (hi:vs[ix]? = some v:=by exact rfl) (h:K (Zbm S dst v) D B L):opW P n ops i ⟨dst,.extract x ix,ty,pos,after,g⟩ K S D B L:=Zk (Zjx  hg hd hx hi h)
theorem xN  {x:Operand} {b:Bool} {t:TypeId}   (hg:Zj ops S g=some true:=by exact rfl) (hd:Zq n dst=true:=by exact rfl) (hx:ev S x=some (.bool b):=by exact rfl) (h:K (Zbm S dst (.bool (!b))) D B L):opW P n ops i ⟨dst,.unOp .not t x,ty,pos,after,g⟩ K S D B L:=Zk (Zuc  hg hd hx h)
theorem xW  {s:TypeId} {x:Operand} {fi:Nat} {off:Nat} {a:Addr}  (hf:Zz P s fi=some off) (hg:Zj ops S g=some true:=by exact rfl) (hd:Zq n dst=true:=by exact rfl) (hx:ev S x=some (ptr a):=by exact rfl) (h:K (Zbm S dst (ptr (a.add off))) D B L):opW P n ops i ⟨dst,.fieldAddr s x fi,ty,pos,after,g⟩ K S D B L:=Zk (Zfd  hg hd hf hx h)
theorem xD  {k:IntKind} {a b r:Int}   (hg:Zj ops S g=some true:=by exact rfl) (hd:Zq n dst=true:=by exact rfl) (hx:ev S x=some (.int k a):=by exact rfl) (hy:ev S y=some (.int k b):=by exact rfl) (hr:k.wrap (a+b)=r:=by first | exact Zbd (by first | omega | (simp;done) | (simp;omega)) (by first | omega | (simp;done) | (simp;omega)) | exact rfl) (h:K (Zbm S dst (.int k r)) D B L):opW P n ops i ⟨dst,.binOp .add t x y u,ty,pos,after,g⟩ K S D B L:=Zk (ZfF  hg hd hx hy hr h)
theorem xU  {k:IntKind} {a b r:Int}   (hg:Zj ops S g=some true:=by exact rfl) (hd:Zq n dst=true:=by exact rfl) (hx:ev S x=some (.int k a):=by exact rfl) (hy:ev S y=some (.int k b):=by exact rfl) (hr:k.wrap (a - b)=r:=by first | exact Zbd (by first | omega | (simp;done) | (simp;omega)) (by first | omega | (simp;done) | (simp;omega)) | exact rfl) (h:K (Zbm S dst (.int k r)) D B L):opW P n ops i ⟨dst,.binOp .sub t x y u,ty,pos,after,g⟩ K S D B L:=Zk (ZfD  hg hd hx hy hr h)
theorem ZE  {k:IntKind} {a b:Int}   (hg:Zj ops S g=some true:=by exact rfl) (hd:Zq n dst=true:=by exact rfl) (hx:ev S x=some (.int k a):=by exact rfl) (hy:ev S y=some (.int k b):=by exact rfl) (h:K (Zbm S dst (.bool (decide (a<b)))) D B L):opW P n ops i ⟨dst,.binOp .lss t x y u,ty,pos,after,g⟩ K S D B L:=Zk (Zui  hg hd hx hy h)
theorem Zb7  {k:IntKind} {a b:Int}   (hg:Zj ops S g=some true:=by exact rfl) (hd:Zq n dst=true:=by exact rfl) (hx:ev S x=some (.int k a):=by exact rfl) (hy:ev S y=some (.int k b):=by exact rfl) (h:K (Zbm S dst (.bool (decide (a≤b)))) D B L):opW P n ops i ⟨dst,.binOp .leq t x y u,ty,pos,after,g⟩ K S D B L:=Zk (Zuj  hg hd hx hy h)
theorem Zdx  {k:IntKind} {a b:Int}   (hg:Zj ops S g=some true:=by exact rfl) (hd:Zq n dst=true:=by exact rfl) (hx:ev S x=some (.int k a):=by exact rfl) (hy:ev S y=some (.int k b):=by exact rfl) (h:K (Zbm S dst (.bool (decide (b<a)))) D B L):opW P n ops i ⟨dst,.binOp .gtr t x y u,ty,pos,after,g⟩ K S D B L:=Zk (Zun  hg hd hx hy h)
theorem Zdy  {k:IntKind} {a b:Int}   (hg:Zj ops S g=some true:=by exact rfl) (hd:Zq n dst=true:=by exact rfl) (hx:ev S x=some (.int k a):=by exact rfl) (hy:ev S y=some (.int k b):=by exact rfl) (h:K (Zbm S dst (.bool (decide (b≤a)))) D B L):opW P n ops i ⟨dst,.binOp .geq t x y u,ty,pos,after,g⟩ K S D B L:=Zk (Zuo  hg hd hx hy h)
theorem Zju  {k:IntKind} {a b:Int}   (hg:Zj ops S g=some true:=by exact rfl) (hd:Zq n dst=true:=by exact rfl) (hx:ev S x=some (.int k a):=by exact rfl) (hy:ev S y=some (.int k b):=by exact rfl) (h:K (Zbm S dst (.bool (decide (a=b)))) D B L):opW P n ops i ⟨dst,.binOp .eql t x y u,ty,pos,after,g⟩ K S D B L:=Zk (Zsd  hg hd hx hy h)
theorem ZaO  {k:IntKind} {a b:Int}   (hg:Zj ops S g=some true:=by exact rfl) (hd:Zq n dst=true:=by exact rfl) (hx:ev S x=some (.int k a):=by exact rfl) (hy:ev S y=some (.int k b):=by exact rfl) (h:K (Zbm S dst (.bool (decide (a≠b)))) D B L):opW P n ops i ⟨dst,.binOp .neq t x y u,ty,pos,after,g⟩ K S D B L:=Zk (Zr8  hg hd hx hy h)
theorem Zdz  {a b:List UInt8}   (hg:Zj ops S g=some true:=by exact rfl) (hd:Zq n dst=true:=by exact rfl) (hx:ev S x=some (str a):=by exact rfl) (hy:ev S y=some (str b):=by exact rfl) (h:K (Zbm S dst (.bool (decide (a=b)))) D B L):opW P n ops i ⟨dst,.binOp .eql t x y u,ty,pos,after,g⟩ K S D B L:=Zk (Zsc  hg hd hx hy h)
theorem ZcD  {a b:List UInt8}   (hg:Zj ops S g=some true:=by exact rfl) (hd:Zq n dst=true:=by exact rfl) (hx:ev S x=some (str a):=by exact rfl) (hy:ev S y=some (str b):=by exact rfl) (h:K (Zbm S dst (.bool (decide (a≠b)))) D B L):opW P n ops i ⟨dst,.binOp .neq t x y u,ty,pos,after,g⟩ K S D B L:=Zk (Zr7  hg hd hx hy h)
theorem ZnZ  {a b:List UInt8}   (hg:Zj ops S g=some true:=by exact rfl) (hd:Zq n dst=true:=by exact rfl) (hx:ev S x=some (str a):=by exact rfl) (hy:ev S y=some (str b):=by exact rfl) (h:K (Zbm S dst (.bool (Op.bytesLess a b))) D B L):opW P n ops i ⟨dst,.binOp .lss t x y u,ty,pos,after,g⟩ K S D B L:=Zk (Zuh  hg hd hx hy h)
theorem Zt7  {a b:List UInt8}   (hg:Zj ops S g=some true:=by exact rfl) (hd:Zq n dst=true:=by exact rfl) (hx:ev S x=some (str a):=by exact rfl) (hy:ev S y=some (str b):=by exact rfl) (h:K (Zbm S dst (.bool (!Op.bytesLess a b))) D B L):opW P n ops i ⟨dst,.binOp .geq t x y u,ty,pos,after,g⟩ K S D B L:=Zk (Zn8  hg hd hx hy h)
theorem xV  {x:Operand} {t:TypeId} {e:TypeId} {p:Option Addr} {len:Nat} {cap:Nat}  (hu:P.underlying t=some (.slice e)) (hg:Zj ops S g=some true:=by exact rfl) (hd:Zq n dst=true:=by exact rfl) (hx:ev S x=some (.slice p len cap):=by exact rfl) (h:K (Zbm S dst (.int .i64 len)) D B L):opW P n ops i ⟨dst,.call ⟨.builtin .len,#[x],#[t]⟩,ty,pos,after,g⟩ K S D B L:=Zk (Zuk  hg hd hu hx h)
theorem xVs  {x:Operand} {t:TypeId} {l:List UInt8}  (hu:P.underlying t=some .string) (hg:Zj ops S g=some true:=by exact rfl) (hd:Zq n dst=true:=by exact rfl) (hx:ev S x=some (str l):=by exact rfl) (h:K (Zbm S dst (.int .i64 l.length)) D B L):opW P n ops i ⟨dst,.call ⟨.builtin .len,#[x],#[t]⟩,ty,pos,after,g⟩ K S D B L:=Zk (Zsa  hg hd hu hx h)
theorem xNc  {x:Operand} {a:Addr}   (hg:Zj ops S g=some true:=by exact rfl) (hd:Zq n dst=true:=by exact rfl) (hx:ev S x=some (.pointer (some a)):=by exact rfl) (h:K (Zbm S dst (.pointer (some a))) D B L):opW P n ops i ⟨dst,.nilCheck x,ty,pos,after,g⟩ K S D B L:=Zk (ZhZ  hg hd hx h)
theorem x1  {t:TypeId} {x:Operand} {a:Addr} {v:Value} {l:List Value} {T:TypeId} {fr:Nat × Nat} {r:Cells}  (hl:lk P t=some none) (j:Nat) (hg:Zj ops S g=some true:=by exact rfl) (hd:Zq n dst=true:=by exact rfl) (hx:ev S x=some (ptr a):=by exact rfl) (hj:L[j]? = some ((a.block,.cells l.toArray T fr) :: r):=by exact rfl) (hs:a.spot=none:=by exact rfl) (hv:l[a.off]? = some v:=by exact rfl) (h:K (Zbm S dst v) D B L):opW P n ops i ⟨dst,.load t x,ty,pos,after,g⟩ K S D B L:=Zk (Zn  hg hd hl hx (atL j hj hs hv) h)
theorem xL  {t:TypeId} {x:Operand} {a:Addr} {l:List Value} {T:TypeId} {fr:Nat × Nat} {r:Cells}  (vs:List Value) (hl:lk P t=some (some vs.length)) (j:Nat) (hg:Zj ops S g=some true:=by exact rfl) (hd:Zq n dst=true:=by exact rfl) (hx:ev S x=some (ptr a):=by exact rfl) (hj:L[j]? = some ((a.block,.cells l.toArray T fr) :: r):=by exact rfl) (hs:a.spot=none:=by exact rfl) (hv:(l.drop a.off).take vs.length=vs:=by exact rfl) (h:K (Zbm S dst (.agg vs.toArray)) D B L):opW P n ops i ⟨dst,.load t x,ty,pos,after,g⟩ K S D B L:=Zk (Zaj  vs hg hd hl hx (ZcF j hj hs hv) h)
theorem y1  {t:TypeId} {x:Operand} {a:Addr} {v:Value} {b o:Nat} {row:List Value}  (hl:lk P t=some none) (hc:Zae B b o row) (off:Nat) (hg:Zj ops S g=some true:=by exact rfl) (hd:Zq n dst=true:=by exact rfl) (hx:ev S x=some (ptr a):=by exact rfl) (ha:a=⟨b,o+off,none⟩:=by exact rfl) (hv:row[off]? = some v:=by exact rfl) (h:K (Zbm S dst v) D B L):opW P n ops i ⟨dst,.load t x,ty,pos,after,g⟩ K S D B L:=Zk (Zn  hg hd hl hx (by subst ha;exact hc _ off _ hv) h)
theorem yL  {t:TypeId} {x:Operand} {a:Addr} {b o:Nat} {row:List Value}  (vs:List Value) (hl:lk P t=some (some vs.length)) (hc:Zae B b o row) (off:Nat) (hg:Zj ops S g=some true:=by exact rfl) (hd:Zq n dst=true:=by exact rfl) (hx:ev S x=some (ptr a):=by exact rfl) (ha:a=⟨b,o+off,none⟩:=by exact rfl) (hv:(row.drop off).take vs.length=vs:=by exact rfl) (h:K (Zbm S dst (.agg vs.toArray)) D B L):opW P n ops i ⟨dst,.load t x,ty,pos,after,g⟩ K S D B L:=Zk (Zaj  vs hg hd hl hx (Zmg hc off ha hv) h)
theorem xS  {t:TypeId} {x:Operand} {y:Operand} {a:Addr} {v:Value} {l:List Value} {T:TypeId} {r:Cells}  (vs:List Value) (j:Nat) (l':List Value) (hsz:ZS P t=some vs.length) (hg:Zj ops S g=some true:=by exact rfl) (hd:Zq n dst=true:=by exact rfl) (hx:ev S x=some (ptr a):=by exact rfl) (hy:ev S y=some v:=by exact rfl) (hv:v.cells=vs.toArray:=by exact rfl) (ho:vs.all Zhc=true:=by exact rfl) (hj:L[j]? = some ((a.block,.cells l.toArray T (0,0)) :: r):=by exact rfl) (hs:a.spot=none:=by exact rfl) (hlen:Nat.ble (a.off+vs.length) l.length=true:=by exact rfl) (hl':Z4 l a.off vs=l':=by exact rfl) (h:K (Zbm S dst undef) D B (L.set j ((a.block,.cells l'.toArray T (0,0)) :: r))):opW P n ops i ⟨dst,.store t x y,ty,pos,after,g⟩ K S D B L:=Zk (Z0  vs j l' hg hd hsz hx hy hv ho hj hs hlen hl' h)
theorem xB  {t:TypeId} {z:Value} {pl:List (Nat × Nat)} {vs:List Value} (parts:List (Nat × Operand)) (zl l':List Value) (hpl:ZbY P t=some pl) (hz:Zaq P t=some z) (hg:Zj ops S g=some true:=by exact rfl) (hd:Zq n dst=true:=by exact rfl) (hzl:z.cells.toList=zl:=by exact rfl) (ha:evs S (parts.map (·.2))=some vs:=by exact rfl) (hf:ZhU (fun i=>pl[i]?) zl ((parts.map (·.1)).zip vs)=some l':=by exact rfl) (h:K (Zbm S dst (.agg l'.toArray)) D B L):opW P n ops i ⟨dst,.build t parts.toArray,ty,pos,after,g⟩ K S D B L:=Zk (ZaB (parts:=parts) zl l' hg hd hpl hz hzl ha hf h)
theorem xAl  {t:TypeId} {z:Value} (l:List Value) (hz:Zaq P t=some z) (hg:Zj ops S g=some true:=by exact rfl) (hd:Zq n dst=true:=by exact rfl) (hl:z.cells=l.toArray:=by exact rfl) (h :∀b,K (Zbm S dst (ptr ⟨b,0,none⟩)) D B (L ++ [Zar b l t])):opW P n ops i ⟨dst,.alloc t,ty,pos,after,g⟩ K S D B L:=Zk (Zbt (l:=l) hg hd hz hl h)
theorem xBx  {t:TypeId} {x:Operand} {v:Value} (l:List Value)  (hg:Zj ops S g=some true:=by exact rfl) (hd:Zq n dst=true:=by exact rfl) (hx:ev S x=some v:=by exact rfl) (hl:v.cells=l.toArray:=by exact rfl) (h :∀b,K (Zbm S dst (ptr ⟨b,0,none⟩)) D B (L ++ [Zar b l t])):opW P n ops i ⟨dst,.box t x,ty,pos,after,g⟩ K S D B L:=Zk (Zuu (l:=l) hg hd hx hl h)
theorem xIx  {t:TypeId} {e:TypeId} {x:Operand} {y:Operand} {k:IntKind} {b:Nat} {o:Nat} {len:Nat} {cap:Nat} {sz:Nat} {ix:Int}  (hu:P.underlying t=some (.slice e)) (hsz:ZS P e=some sz) (hg:Zj ops S g=some true:=by exact rfl) (hd:Zq n dst=true:=by exact rfl) (hx:ev S x=some (.slice (some ⟨b,o,none⟩) len cap):=by exact rfl) (hy:ev S y=some (.int k ix):=by exact rfl) (h0:0≤ix:=by first | omega | (simp;done) | (simp;omega)) (h1:ix<len:=by first | omega | (simp;done) | (simp;omega)) (h:K (Zbm S dst (ptr ⟨b,o+ix.toNat*sz,none⟩)) D B L):opW P n ops i ⟨dst,.indexAddr t x y,ty,pos,after,g⟩ K S D B L:=Zk (Zul  hg hd hu hsz hx hy h0 h1 h)
theorem xIp  {t:TypeId} {e:TypeId} {x:Operand} {y:Operand} {k:IntKind} {p:Option Addr} {b:Nat} {len:Nat} {cap:Nat} {sz:Nat} {ix:Int}  (hp:p=some ⟨b,0,none⟩) (hu:P.underlying t=some (.slice e)) (hsz:ZS P e=some sz) (hg:Zj ops S g=some true:=by exact rfl) (hd:Zq n dst=true:=by exact rfl) (hx:ev S x=some (.slice p len cap):=by exact rfl) (hy:ev S y=some (.int k ix):=by exact rfl) (h0:0≤ix:=by first | omega | (simp;done) | (simp;omega)) (h1:ix<len:=by first | omega | (simp;done) | (simp;omega)) (h:K (Zbm S dst (ptr ⟨b,ix.toNat*sz,none⟩)) D B L):opW P n ops i ⟨dst,.indexAddr t x y,ty,pos,after,g⟩ K S D B L:=Zk (Zef  hp hg hd hu hsz hx hy h0 h1 h)
theorem xR  {f:FuncId} {xs:List Operand} {vs:List Value} {ats:Array TypeId} {v:Value}  (he:enters P f=true) (ha:evs S xs=some vs) (hc:Z6 P f vs B v) (hg:Zj ops S g=some true:=by exact rfl) (hd:Zq n dst=true:=by exact rfl) (h:K (Zbm S dst v) D B L):opW P n ops i ⟨dst,.call ⟨.value (.func f),xs.toArray,ats⟩,ty,pos,after,g⟩ K S D B L:=Zk (Zaf  hg hd he ha hc h)
theorem xC  {f:FuncId} {xs:List Operand} {vs:List Value} {ats:Array TypeId} {Post:Value→Kn→List Cells→Prop}  (he:enters P f=true) (ha:evs S xs=some vs) (hc:Zv P f vs B [] Post) (hg:Zj ops S g=some true:=by exact rfl) (hd:Zq n dst=true:=by exact rfl) (h :∀v B' Ls',B.le B'→Post v B' Ls'→K (Zbm S dst v) D B' (L ++ Ls')):opW P n ops i ⟨dst,.call ⟨.value (.func f),xs.toArray,ats⟩,ty,pos,after,g⟩ K S D B L:=Zk (ZaK  hg hd he ha hc h)
theorem xQ  {f:FuncId} {xs:List Operand} {vs:List Value} {ats:Array TypeId} {Post:Value→Kn→Prop}  (he:enters P f=true) (ha:evs S xs=some vs) (hc:Zv P f vs B [] (fun v B' Ls=>Ls=[]∧Post v B')) (hg:Zj ops S g=some true:=by exact rfl) (hd:Zq n dst=true:=by exact rfl) (h :∀v B',B.le B'→Post v B'→K (Zbm S dst v) D B' L):opW P n ops i ⟨dst,.call ⟨.value (.func f),xs.toArray,ats⟩,ty,pos,after,g⟩ K S D B L:=Zk (ZsL  hg hd he ha hc h)
theorem xK  {f:FuncId} {xs:List Operand} {vs:List Value} {ats:Array TypeId} {Post:Value→Kn→List Cells→Prop} {ss:List Cells} {r:List Cells}  (js:List Nat) (hp:Zau L js=some (ss,r)) (he:enters P f=true) (ha:evs S xs=some vs) (hc:Zv P f vs B ss Post) (hn:Zeb js=true:=by exact rfl) (hg:Zj ops S g=some true:=by exact rfl) (hd:Zq n dst=true:=by exact rfl) (h :∀v B' Ls',B.le B'→Post v B' Ls'→K (Zbm S dst v) D B' (Zb9 r js Ls')):opW P n ops i ⟨dst,.call ⟨.value (.func f),xs.toArray,ats⟩,ty,pos,after,g⟩ K S D B L:=Zk (ZdQ  js hp hn hg hd he ha hc h)
theorem xBs  {t:TypeId} {e:TypeId} {len:Nat} {sz:Nat} {z:Value} {vs:List Value} (parts:List (Nat × Operand)) (l':List Value) (hu:P.underlying t=some (.slice e)) (hsz:ZS P e=some sz) (hz:Zaq P e=some z) (hg:Zj ops S g=some true:=by exact rfl) (hd:Zq n dst=true:=by exact rfl) (hbig:Nat.ble (len*sz) 1024=true:=by exact rfl) (hidx:parts.map (·.1)=List.range len:=by exact rfl) (ha:evs S (parts.map (·.2))=some vs:=by exact rfl) (hall:vs.all (fun v=>Nat.beq v.cells.toList.length sz)=true:=by exact rfl) (hl':(vs.map fun v=>v.cells.toList).flatten=l':=by exact rfl) (h :∀b,K (Zbm S dst (.slice (some ⟨b,0,none⟩) len len)) D B (L ++ [Zar b l' e])):opW P n ops i ⟨dst,.buildSlice t len parts.toArray,ty,pos,after,g⟩ K S D B L:=Zk (ZJ (parts:=parts) l' hg hd hu hsz hz hbig hidx ha hall hl' h)
end
section
variable {P:PJ} {n:Nat} {ops:Array Oper} {K:Z8} {S:Env} {D:List Deferred} {B:Kn} {L:List Cells}
variable {dst:Option Tmp} {ty:TypeId} {pos:String} {after:Array Edge} {g:Option (Nat × Bool)} {t u:TypeId} {x y:Operand}
theorem aT {C:Cx P} {k':List Item} {I:Kn→List Cells→Prop} {ℓ:List Nat} (i:Nat) {o:Oper} {v:Value} (hi:ops[i]? = some o) (hq:quiet P n ops I i o v (sel (o.looksAt ops) S)) (hr:(ZaH ops ℓ).contains i=true:=by kernel_rfl) (hd:Zq n o.dst=true:=by exact rfl) (hp:Zic o=false:=by rfl) (h:Zbc C k' n ops I (i :: ℓ) K (Zbm S o.dst v) D B L):Zbc C k' n ops I ℓ K S D B L:=ZrQ i hi hr hd hq h hp
theorem r4 {α β γ δ:Type} {a:α} {b:β} {c:γ} {d:δ} : a=a∧b=b∧c=c∧d=d:=⟨rfl,rfl,rfl,rfl⟩
variable {C:Cx P} {k':List Item} {I:Kn→List Cells→Prop} {ℓ:List Nat}
theorem aM  {x:Operand} {v:Value} (i:Nat) (hii:ops[i]? = some ⟨dst,.move x,ty,pos,after,g⟩)  (hrr:(ZaH ops ℓ).contains i=true:=by kernel_rfl) (hdd:Zq n dst=true:=by exact rfl) (hg:Zj ops (sel ((⟨dst,.move x,ty,pos,after,g⟩:Oper).looksAt ops) S) g=some true:=by exact rfl) (hd:Zq n dst=true:=by exact rfl) (hx:ev (sel ((⟨dst,.move x,ty,pos,after,g⟩:Oper).looksAt ops) S) x=some v:=by exact rfl) (h:Zbc C k' n ops I (i :: ℓ) K (Zbm S dst v) D B L):Zbc C k' n ops I ℓ K S D B L:=Zai i hii hrr hdd (fun _ _ _=>ZgZ hg hd hx ⟨rfl,rfl,rfl,rfl⟩) h
theorem aA  {x:Operand} {v:Value} (i:Nat) (hii:ops[i]? = some ⟨dst,.assign x,ty,pos,after,g⟩)  (hrr:(ZaH ops ℓ).contains i=true:=by kernel_rfl) (hdd:Zq n dst=true:=by exact rfl) (hg:Zj ops (sel ((⟨dst,.assign x,ty,pos,after,g⟩:Oper).looksAt ops) S) g=some true:=by exact rfl) (hd:Zq n dst=true:=by exact rfl) (hx:ev (sel ((⟨dst,.assign x,ty,pos,after,g⟩:Oper).looksAt ops) S) x=some v:=by exact rfl) (h:Zbc C k' n ops I (i :: ℓ) K (Zbm S dst v) D B L):Zbc C k' n ops I ℓ K S D B L:=Zai i hii hrr hdd (fun _ _ _=>ZcJ hg hd hx ⟨rfl,rfl,rfl,rfl⟩) h
theorem aZ  {dst:Option Tmp} {op:Op} {t:TypeId} {pos:String} {after:Array Edge} {g:Option (Nat × Bool)} (i:Nat) (hii:ops[i]? = some ⟨dst,op,t,pos,after,g⟩)  (hrr:(ZaH ops ℓ).contains i=true:=by kernel_rfl) (hdd:Zq n dst=true:=by exact rfl) (hg:Zj ops (sel ((⟨dst,op,t,pos,after,g⟩:Oper).looksAt ops) S) g=some false:=by exact rfl) (hd:Zq n dst=true:=by exact rfl) (h:Zbc C k' n ops I (i :: ℓ) K (Zbm S dst undef) D B L):Zbc C k' n ops I ℓ K S D B L:=Zai i hii hrr hdd (fun _ _ _=>Zr6 hg hd ⟨rfl,rfl,rfl,rfl⟩) h
theorem aPT  {c:Operand} {a:Operand} {b:Operand} {v:Value} (i:Nat) (hii:ops[i]? = some ⟨dst,.pick c a b,ty,pos,after,g⟩)  (hrr:(ZaH ops ℓ).contains i=true:=by kernel_rfl) (hdd:Zq n dst=true:=by exact rfl) (hg:Zj ops (sel ((⟨dst,.pick c a b,ty,pos,after,g⟩:Oper).looksAt ops) S) g=some true:=by exact rfl) (hd:Zq n dst=true:=by exact rfl) (hc:ev (sel ((⟨dst,.pick c a b,ty,pos,after,g⟩:Oper).looksAt ops) S) c=some (.bool true):=by exact rfl) (hx:ev (sel ((⟨dst,.pick c a b,ty,pos,after,g⟩:Oper).looksAt ops) S) a=some v:=by exact rfl) (h:Zbc C k' n ops I (i :: ℓ) K (Zbm S dst v) D B L):Zbc C k' n ops I ℓ K S D B L:=Zai i hii hrr hdd (fun _ _ _=>Zn5 hg hd hc hx ⟨rfl,rfl,rfl,rfl⟩) h
theorem aPF  {c:Operand} {a:Operand} {b:Operand} {v:Value} (i:Nat) (hii:ops[i]? = some ⟨dst,.pick c a b,ty,pos,after,g⟩)  (hrr:(ZaH ops ℓ).contains i=true:=by kernel_rfl) (hdd:Zq n dst=true:=by exact rfl) (hg:Zj ops (sel ((⟨dst,.pick c a b,ty,pos,after,g⟩:Oper).looksAt ops) S) g=some true:=by exact rfl) (hd:Zq n dst=true:=by exact rfl) (hc:ev (sel ((⟨dst,.pick c a b,ty,pos,after,g⟩:Oper).looksAt ops) S) c=some (.bool false):=by exact rfl) (hx:ev (sel ((⟨dst,.pick c a b,ty,pos,after,g⟩:Oper).looksAt ops) S) b=some v:=by exact rfl) (h:Zbc C k' n ops I (i :: ℓ) K (Zbm S dst v) D B L):Zbc C k' n ops I ℓ K S D B L:=Zai i hii hrr hdd (fun _ _ _=>Zn6 hg hd hc hx ⟨rfl,rfl,rfl,rfl⟩) h
theorem aE  {x:Operand} {ix:Nat} {vs:List Value} {v:Value} (i:Nat) (hii:ops[i]? = some ⟨dst,.extract x ix,ty,pos,after,g⟩)  (hrr:(ZaH ops ℓ).contains i=true:=by kernel_rfl) (hdd:Zq n dst=true:=by exact rfl) (hg:Zj ops (sel ((⟨dst,.extract x ix,ty,pos,after,g⟩:Oper).looksAt ops) S) g=some true:=by exact rfl) (hd:Zq n dst=true:=by exact rfl) (hx:ev (sel ((⟨dst,.extract x ix,ty,pos,after,g⟩:Oper).looksAt ops) S) x=some (.tuple vs.toArray):=by exact rfl) (hi:vs[ix]? = some v:=by exact rfl) (h:Zbc C k' n ops I (i :: ℓ) K (Zbm S dst v) D B L):Zbc C k' n ops I ℓ K S D B L:=Zai i hii hrr hdd (fun _ _ _=>Zjx hg hd hx hi ⟨rfl,rfl,rfl,rfl⟩) h
theorem aW  {s:TypeId} {x:Operand} {fi:Nat} {off:Nat} {a:Addr} (i:Nat) (hii:ops[i]? = some ⟨dst,.fieldAddr s x fi,ty,pos,after,g⟩) (hf:Zz P s fi=some off) (hrr:(ZaH ops ℓ).contains i=true:=by kernel_rfl) (hdd:Zq n dst=true:=by exact rfl) (hg:Zj ops (sel ((⟨dst,.fieldAddr s x fi,ty,pos,after,g⟩:Oper).looksAt ops) S) g=some true:=by exact rfl) (hd:Zq n dst=true:=by exact rfl) (hx:ev (sel ((⟨dst,.fieldAddr s x fi,ty,pos,after,g⟩:Oper).looksAt ops) S) x=some (ptr a):=by exact rfl) (h:Zbc C k' n ops I (i :: ℓ) K (Zbm S dst (ptr (a.add off))) D B L):Zbc C k' n ops I ℓ K S D B L:=Zai i hii hrr hdd (fun _ _ _=>Zfd hg hd hf hx ⟨rfl,rfl,rfl,rfl⟩) h
theorem aN  {x:Operand} {b:Bool} {t:TypeId} (i:Nat) (hii:ops[i]? = some ⟨dst,.unOp .not t x,ty,pos,after,g⟩)  (hrr:(ZaH ops ℓ).contains i=true:=by kernel_rfl) (hdd:Zq n dst=true:=by exact rfl) (hg:Zj ops (sel ((⟨dst,.unOp .not t x,ty,pos,after,g⟩:Oper).looksAt ops) S) g=some true:=by exact rfl) (hd:Zq n dst=true:=by exact rfl) (hx:ev (sel ((⟨dst,.unOp .not t x,ty,pos,after,g⟩:Oper).looksAt ops) S) x=some (.bool b):=by exact rfl) (h:Zbc C k' n ops I (i :: ℓ) K (Zbm S dst (.bool (!b))) D B L):Zbc C k' n ops I ℓ K S D B L:=Zai i hii hrr hdd (fun _ _ _=>Zuc hg hd hx ⟨rfl,rfl,rfl,rfl⟩) h
theorem aNc  {x:Operand} {a:Addr} (i:Nat) (hii:ops[i]? = some ⟨dst,.nilCheck x,ty,pos,after,g⟩)  (hrr:(ZaH ops ℓ).contains i=true:=by kernel_rfl) (hdd:Zq n dst=true:=by exact rfl) (hg:Zj ops (sel ((⟨dst,.nilCheck x,ty,pos,after,g⟩:Oper).looksAt ops) S) g=some true:=by exact rfl) (hd:Zq n dst=true:=by exact rfl) (hx:ev (sel ((⟨dst,.nilCheck x,ty,pos,after,g⟩:Oper).looksAt ops) S) x=some (.pointer (some a)):=by exact rfl) (h:Zbc C k' n ops I (i :: ℓ) K (Zbm S dst (.pointer (some a))) D B L):Zbc C k' n ops I ℓ K S D B L:=Zai i hii hrr hdd (fun _ _ _=>ZhZ hg hd hx ⟨rfl,rfl,rfl,rfl⟩) h
theorem ZrY  {k:IntKind} {a b:Int} (i:Nat) (hii:ops[i]? = some ⟨dst,.binOp .lss t x y u,ty,pos,after,g⟩)  (hrr:(ZaH ops ℓ).contains i=true:=by kernel_rfl) (hdd:Zq n dst=true:=by exact rfl) (hg:Zj ops (sel ((⟨dst,.binOp .lss t x y u,ty,pos,after,g⟩:Oper).looksAt ops) S) g=some true:=by exact rfl) (hd:Zq n dst=true:=by exact rfl) (hx:ev (sel ((⟨dst,.binOp .lss t x y u,ty,pos,after,g⟩:Oper).looksAt ops) S) x=some (.int k a):=by exact rfl) (hy:ev (sel ((⟨dst,.binOp .lss t x y u,ty,pos,after,g⟩:Oper).looksAt ops) S) y=some (.int k b):=by exact rfl) (h:Zbc C k' n ops I (i :: ℓ) K (Zbm S dst (.bool (decide (a<b)))) D B L):Zbc C k' n ops I ℓ K S D B L:=Zai i hii hrr hdd (fun _ _ _=>Zui hg hd hx hy ⟨rfl,rfl,rfl,rfl⟩) h
theorem ZtZ  {k:IntKind} {a b:Int} (i:Nat) (hii:ops[i]? = some ⟨dst,.binOp .leq t x y u,ty,pos,after,g⟩)  (hrr:(ZaH ops ℓ).contains i=true:=by kernel_rfl) (hdd:Zq n dst=true:=by exact rfl) (hg:Zj ops (sel ((⟨dst,.binOp .leq t x y u,ty,pos,after,g⟩:Oper).looksAt ops) S) g=some true:=by exact rfl) (hd:Zq n dst=true:=by exact rfl) (hx:ev (sel ((⟨dst,.binOp .leq t x y u,ty,pos,after,g⟩:Oper).looksAt ops) S) x=some (.int k a):=by exact rfl) (hy:ev (sel ((⟨dst,.binOp .leq t x y u,ty,pos,after,g⟩:Oper).looksAt ops) S) y=some (.int k b):=by exact rfl) (h:Zbc C k' n ops I (i :: ℓ) K (Zbm S dst (.bool (decide (a≤b)))) D B L):Zbc C k' n ops I ℓ K S D B L:=Zai i hii hrr hdd (fun _ _ _=>Zuj hg hd hx hy ⟨rfl,rfl,rfl,rfl⟩) h
theorem ZnR  {k:IntKind} {a b:Int} (i:Nat) (hii:ops[i]? = some ⟨dst,.binOp .gtr t x y u,ty,pos,after,g⟩)  (hrr:(ZaH ops ℓ).contains i=true:=by kernel_rfl) (hdd:Zq n dst=true:=by exact rfl) (hg:Zj ops (sel ((⟨dst,.binOp .gtr t x y u,ty,pos,after,g⟩:Oper).looksAt ops) S) g=some true:=by exact rfl) (hd:Zq n dst=true:=by exact rfl) (hx:ev (sel ((⟨dst,.binOp .gtr t x y u,ty,pos,after,g⟩:Oper).looksAt ops) S) x=some (.int k a):=by exact rfl) (hy:ev (sel ((⟨dst,.binOp .gtr t x y u,ty,pos,after,g⟩:Oper).looksAt ops) S) y=some (.int k b):=by exact rfl) (h:Zbc C k' n ops I (i :: ℓ) K (Zbm S dst (.bool (decide (b<a)))) D B L):Zbc C k' n ops I ℓ K S D B L:=Zai i hii hrr hdd (fun _ _ _=>Zun hg hd hx hy ⟨rfl,rfl,rfl,rfl⟩) h
theorem ZxG  {k:IntKind} {a b:Int} (i:Nat) (hii:ops[i]? = some ⟨dst,.binOp .geq t x y u,ty,pos,after,g⟩)  (hrr:(ZaH ops ℓ).contains i=true:=by kernel_rfl) (hdd:Zq n dst=true:=by exact rfl) (hg:Zj ops (sel ((⟨dst,.binOp .geq t x y u,ty,pos,after,g⟩:Oper).looksAt ops) S) g=some true:=by exact rfl) (hd:Zq n dst=true:=by exact rfl) (hx:ev (sel ((⟨dst,.binOp .geq t x y u,ty,pos,after,g⟩:Oper).looksAt ops) S) x=some (.int k a):=by exact rfl) (hy:ev (sel ((⟨dst,.binOp .geq t x y u,ty,pos,after,g⟩:Oper).looksAt ops) S) y=some (.int k b):=by exact rfl) (h:Zbc C k' n ops I (i :: ℓ) K (Zbm S dst (.bool (decide (b≤a)))) D B L):Zbc C k' n ops I ℓ K S D B L:=Zai i hii hrr hdd (fun _ _ _=>Zuo hg hd hx hy ⟨rfl,rfl,rfl,rfl⟩) h
theorem Zqh  {k:IntKind} {a b:Int} (i:Nat) (hii:ops[i]? = some ⟨dst,.binOp .eql t x y u,ty,pos,after,g⟩)  (hrr:(ZaH ops ℓ).contains i=true:=by kernel_rfl) (hdd:Zq n dst=true:=by exact rfl) (hg:Zj ops (sel ((⟨dst,.binOp .eql t x y u,ty,pos,after,g⟩:Oper).looksAt ops) S) g=some true:=by exact rfl) (hd:Zq n dst=true:=by exact rfl) (hx:ev (sel ((⟨dst,.binOp .eql t x y u,ty,pos,after,g⟩:Oper).looksAt ops) S) x=some (.int k a):=by exact rfl) (hy:ev (sel ((⟨dst,.binOp .eql t x y u,ty,pos,after,g⟩:Oper).looksAt ops) S) y=some (.int k b):=by exact rfl) (h:Zbc C k' n ops I (i :: ℓ) K (Zbm S dst (.bool (decide (a=b)))) D B L):Zbc C k' n ops I ℓ K S D B L:=Zai i hii hrr hdd (fun _ _ _=>Zsd hg hd hx hy ⟨rfl,rfl,rfl,rfl⟩) h
theorem Zvu  {k:IntKind} {a b:Int} (i:Nat) (hii:ops[i]? = some ⟨dst,.binOp .neq t x y u,ty,pos,after,g⟩)  (hrr:(ZaH ops ℓ).contains i=true:=by kernel_rfl) (hdd:Zq n dst=true:=by exact rfl) (hg:Zj ops (sel ((⟨dst,.binOp .neq t x y u,ty,pos,after,g⟩:Oper).looksAt ops) S) g=some true:=by exact rfl) (hd:Zq n dst=true:=by exact rfl) (hx:ev (sel ((⟨dst,.binOp .neq t x y u,ty,pos,after,g⟩:Oper).looksAt ops) S) x=some (.int k a):=by exact rfl) (hy:ev (sel ((⟨dst,.binOp .neq t x y u,ty,pos,after,g⟩:Oper).looksAt ops) S) y=some (.int k b):=by exact rfl) (h:Zbc C k' n ops I (i :: ℓ) K (Zbm S dst (.bool (decide (a≠b)))) D B L):Zbc C k' n ops I ℓ K S D B L:=Zai i hii hrr hdd (fun _ _ _=>Zr8 hg hd hx hy ⟨rfl,rfl,rfl,rfl⟩) h
theorem Zqg  {a b:List UInt8} (i:Nat) (hii:ops[i]? = some ⟨dst,.binOp .eql t x y u,ty,pos,after,g⟩)  (hrr:(ZaH ops ℓ).contains i=true:=by kernel_rfl) (hdd:Zq n dst=true:=by exact rfl) (hg:Zj ops (sel ((⟨dst,.binOp .eql t x y u,ty,pos,after,g⟩:Oper).looksAt ops) S) g=some true:=by exact rfl) (hd:Zq n dst=true:=by exact rfl) (hx:ev (sel ((⟨dst,.binOp .eql t x y u,ty,pos,after,g⟩:Oper).looksAt ops) S) x=some (str a):=by exact rfl) (hy:ev (sel ((⟨dst,.binOp .eql t x y u,ty,pos,after,g⟩:Oper).looksAt ops) S) y=some (str b):=by exact rfl) (h:Zbc C k' n ops I (i :: ℓ) K (Zbm S dst (.bool (decide (a=b)))) D B L):Zbc C k' n ops I ℓ K S D B L:=Zai i hii hrr hdd (fun _ _ _=>Zsc hg hd hx hy ⟨rfl,rfl,rfl,rfl⟩) h
theorem Zfa  {a b:List UInt8} (i:Nat) (hii:ops[i]? = some ⟨dst,.binOp .neq t x y u,ty,pos,after,g⟩)  (hrr:(ZaH ops ℓ).contains i=true:=by kernel_rfl) (hdd:Zq n dst=true:=by exact rfl) (hg:Zj ops (sel ((⟨dst,.binOp .neq t x y u,ty,pos,after,g⟩:Oper).looksAt ops) S) g=some true:=by exact rfl) (hd:Zq n dst=true:=by exact rfl) (hx:ev (sel ((⟨dst,.binOp .neq t x y u,ty,pos,after,g⟩:Oper).looksAt ops) S) x=some (str a):=by exact rfl) (hy:ev (sel ((⟨dst,.binOp .neq t x y u,ty,pos,after,g⟩:Oper).looksAt ops) S) y=some (str b):=by exact rfl) (h:Zbc C k' n ops I (i :: ℓ) K (Zbm S dst (.bool (decide (a≠b)))) D B L):Zbc C k' n ops I ℓ K S D B L:=Zai i hii hrr hdd (fun _ _ _=>Zr7 hg hd hx hy ⟨rfl,rfl,rfl,rfl⟩) h
theorem aD  {k:IntKind} {a b r:Int} (i:Nat) (hii:ops[i]? = some ⟨dst,.binOp .add t x y u,ty,pos,after,g⟩)  (hrr:(ZaH ops ℓ).contains i=true:=by kernel_rfl) (hdd:Zq n dst=true:=by exact rfl) (hg:Zj ops (sel ((⟨dst,.binOp .add t x y u,ty,pos,after,g⟩:Oper).looksAt ops) S) g=some true:=by exact rfl) (hd:Zq n dst=true:=by exact rfl) (hx:ev (sel ((⟨dst,.binOp .add t x y u,ty,pos,after,g⟩:Oper).looksAt ops) S) x=some (.int k a):=by exact rfl) (hy:ev (sel ((⟨dst,.binOp .add t x y u,ty,pos,after,g⟩:Oper).looksAt ops) S) y=some (.int k b):=by exact rfl) (hr:k.wrap (a+b)=r:=by first | exact Zbd (by first | omega | (simp;done) | (simp;omega)) (by first | omega | (simp;done) | (simp;omega)) | exact rfl) (h:Zbc C k' n ops I (i :: ℓ) K (Zbm S dst (.int k r)) D B L):Zbc C k' n ops I ℓ K S D B L:=Zai i hii hrr hdd (fun _ _ _=>ZfF hg hd hx hy hr ⟨rfl,rfl,rfl,rfl⟩) h
theorem aU  {k:IntKind} {a b r:Int} (i:Nat) (hii:ops[i]? = some ⟨dst,.binOp .sub t x y u,ty,pos,after,g⟩)  (hrr:(ZaH ops ℓ).contains i=true:=by kernel_rfl) (hdd:Zq n dst=true:=by exact rfl) (hg:Zj ops (sel ((⟨dst,.binOp .sub t x y u,ty,pos,after,g⟩:Oper).looksAt ops) S) g=some true:=by exact rfl) (hd:Zq n dst=true:=by exact rfl) (hx:ev (sel ((⟨dst,.binOp .sub t x y u,ty,pos,after,g⟩:Oper).looksAt ops) S) x=some (.int k a):=by exact rfl) (hy:ev (sel ((⟨dst,.binOp .sub t x y u,ty,pos,after,g⟩:Oper).looksAt ops) S) y=some (.int k b):=by exact rfl) (hr:k.wrap (a - b)=r:=by first | exact Zbd (by first | omega | (simp;done) | (simp;omega)) (by first | omega | (simp;done) | (simp;omega)) | exact rfl) (h:Zbc C k' n ops I (i :: ℓ) K (Zbm S dst (.int k r)) D B L):Zbc C k' n ops I ℓ K S D B L:=Zai i hii hrr hdd (fun _ _ _=>ZfD hg hd hx hy hr ⟨rfl,rfl,rfl,rfl⟩) h
theorem aIx  {t:TypeId} {e:TypeId} {x:Operand} {y:Operand} {k:IntKind} {b:Nat} {o:Nat} {len:Nat} {cap:Nat} {sz:Nat} {ix:Int} (i:Nat) (hii:ops[i]? = some ⟨dst,.indexAddr t x y,ty,pos,after,g⟩) (hu:P.underlying t=some (.slice e)) (hsz:ZS P e=some sz) (hrr:(ZaH ops ℓ).contains i=true:=by kernel_rfl) (hdd:Zq n dst=true:=by exact rfl) (hg:Zj ops (sel ((⟨dst,.indexAddr t x y,ty,pos,after,g⟩:Oper).looksAt ops) S) g=some true:=by exact rfl) (hd:Zq n dst=true:=by exact rfl) (hx:ev (sel ((⟨dst,.indexAddr t x y,ty,pos,after,g⟩:Oper).looksAt ops) S) x=some (.slice (some ⟨b,o,none⟩) len cap):=by exact rfl) (hy:ev (sel ((⟨dst,.indexAddr t x y,ty,pos,after,g⟩:Oper).looksAt ops) S) y=some (.int k ix):=by exact rfl) (h0:0≤ix:=by first | omega | (simp;done) | (simp;omega)) (h1:ix<len:=by first | omega | (simp;done) | (simp;omega)) (h:Zbc C k' n ops I (i :: ℓ) K (Zbm S dst (ptr ⟨b,o+ix.toNat*sz,none⟩)) D B L):Zbc C k' n ops I ℓ K S D B L:=Zai i hii hrr hdd (fun _ _ _=>Zul hg hd hu hsz hx hy h0 h1 ⟨rfl,rfl,rfl,rfl⟩) h
end
section
variable {P:PJ} {n:Nat} {Q:Exit→Z8} {S:Env} {D:List Deferred} {B:Kn} {L:List Cells}
theorem tL0 {c:Code} (h:wpS P n c Q S D B []):wpS P n c Q S D B []:=h
theorem tL1 {c:Code} {x0:Cells} (h:wpS P n c Q S D B [x0]):wpS P n c Q S D B [x0]:=h
theorem tL2 {c:Code} {x0 x1:Cells} (h:wpS P n c Q S D B [x0,x1]):wpS P n c Q S D B [x0,x1]:=h
theorem tL3 {c:Code} {x0 x1 x2:Cells} (h:wpS P n c Q S D B [x0,x1,x2]):wpS P n c Q S D B [x0,x1,x2]:=h
theorem tL4 {c:Code} {x0 x1 x2 x3:Cells} (h:wpS P n c Q S D B [x0,x1,x2,x3]):wpS P n c Q S D B [x0,x1,x2,x3]:=h
theorem tL5 {c:Code} {x0 x1 x2 x3 x4:Cells} (h:wpS P n c Q S D B [x0,x1,x2,x3,x4]):wpS P n c Q S D B [x0,x1,x2,x3,x4]:=h
theorem tL6 {c:Code} {x0 x1 x2 x3 x4 x5:Cells} (h:wpS P n c Q S D B [x0,x1,x2,x3,x4,x5]):wpS P n c Q S D B [x0,x1,x2,x3,x4,x5]:=h
theorem tL7 {c:Code} {x0 x1 x2 x3 x4 x5 x6:Cells} (h:wpS P n c Q S D B [x0,x1,x2,x3,x4,x5,x6]):wpS P n c Q S D B [x0,x1,x2,x3,x4,x5,x6]:=h
theorem tL9 {c:Code} {x0 x1 x2 x3 x4 x5 x6 x7 x8:Cells} (h:wpS P n c Q S D B [x0,x1,x2,x3,x4,x5,x6,x7,x8]):wpS P n c Q S D B [x0,x1,x2,x3,x4,x5,x6,x7,x8]:=h
theorem Zyk {c:Code} {x0 x1 x2 x3 x4 x5 x6 x7 x8 x9:Cells} (h:wpS P n c Q S D B [x0,x1,x2,x3,x4,x5,x6,x7,x8,x9]):wpS P n c Q S D B [x0,x1,x2,x3,x4,x5,x6,x7,x8,x9]:=h
theorem Zyj {c:Code} {x0 x1 x2 x3 x4 x5 x6 x7 x8 x9 x10 x11 x12:Cells} (h:wpS P n c Q S D B [x0,x1,x2,x3,x4,x5,x6,x7,x8,x9,x10,x11,x12]):wpS P n c Q S D B [x0,x1,x2,x3,x4,x5,x6,x7,x8,x9,x10,x11,x12]:=h
theorem wSk {K:Z8} (h:K S D B L):wpS P n .skip (thn K Q) S D B L:=ZT (Zo h)
theorem eR {rs:List ResultVar} {Post:Value→Kn→List Cells→Prop} {v:Value} (hr:Zcr P S B L rs [v]) (hp:Post v B []):Zfy P rs Post .ret S [] B L:=ZrD .ret (.inl rfl) [v] hr hp
theorem eN {rs:List ResultVar} {Post:Value→Kn→List Cells→Prop} {v:Value} (js:List Nat) {ss r:List Cells} (hp:Zau L js=some (ss,r)) (hr:Zcr P S B L rs [v]) (hq:Post v B ss):Zfy P rs Post .ret S [] B L:=Zdl .ret (.inl rfl) [v] js hp hr hq
theorem e1 {rs:List ResultVar} {Post:Value→Kn→List Cells→Prop} {v:Value} (j:Nat) {s:Cells} (hj:L[j]? = some s) (hr:Zcr P S B L rs [v]) (hp:Post v B [s]):Zfy P rs Post .ret S [] B L:=ZtO .ret (.inl rfl) [v] j hj hr hp
end
theorem mT {α:Type} {R:Rel α} (h:Mono R:=by first | exact Zr.mono | exact Zs.mono | exact ZK.mono | exact Zam.mono | exact ZD.mono | exact Zt0.mono | exact ZbU.mono | exact Zea.mono):Mono R:=h
theorem up1 {B B':Kn} {α1:Type} {q1:Option Addr} {c1 w1:Nat} {R1:Rel α1} {x1:List α1} (hle:B.le B') (h1:SlK B q1 c1 w1 R1 x1) (g1:Mono R1:=by exact mT):SlK B' q1 c1 w1 R1 x1:=h1.mono g1 hle
theorem up2 {B B':Kn} {α1:Type} {q1:Option Addr} {c1 w1:Nat} {R1:Rel α1} {x1:List α1} {α2:Type} {q2:Option Addr} {c2 w2:Nat} {R2:Rel α2} {x2:List α2} (hle:B.le B') (h1:SlK B q1 c1 w1 R1 x1) (h2:SlK B q2 c2 w2 R2 x2) (g1:Mono R1:=by exact mT) (g2:Mono R2:=by exact mT):SlK B' q1 c1 w1 R1 x1∧SlK B' q2 c2 w2 R2 x2:=⟨h1.mono g1 hle,h2.mono g2 hle⟩
theorem up3 {B B':Kn} {α1:Type} {q1:Option Addr} {c1 w1:Nat} {R1:Rel α1} {x1:List α1} {α2:Type} {q2:Option Addr} {c2 w2:Nat} {R2:Rel α2} {x2:List α2} {α3:Type} {q3:Option Addr} {c3 w3:Nat} {R3:Rel α3} {x3:List α3} (hle:B.le B') (h1:SlK B q1 c1 w1 R1 x1) (h2:SlK B q2 c2 w2 R2 x2) (h3:SlK B q3 c3 w3 R3 x3) (g1:Mono R1:=by exact mT) (g2:Mono R2:=by exact mT) (g3:Mono R3:=by exact mT):SlK B' q1 c1 w1 R1 x1∧SlK B' q2 c2 w2 R2 x2∧SlK B' q3 c3 w3 R3 x3:=⟨h1.mono g1 hle,h2.mono g2 hle,h3.mono g3 hle⟩
theorem up4 {B B':Kn} {α1:Type} {q1:Option Addr} {c1 w1:Nat} {R1:Rel α1} {x1:List α1} {α2:Type} {q2:Option Addr} {c2 w2:Nat} {R2:Rel α2} {x2:List α2} {α3:Type} {q3:Option Addr} {c3 w3:Nat} {R3:Rel α3} {x3:List α3} {α4:Type} {q4:Option Addr} {c4 w4:Nat} {R4:Rel α4} {x4:List α4} (hle:B.le B') (h1:SlK B q1 c1 w1 R1 x1) (h2:SlK B q2 c2 w2 R2 x2) (h3:SlK B q3 c3 w3 R3 x3) (h4:SlK B q4 c4 w4 R4 x4) (g1:Mono R1:=by exact mT) (g2:Mono R2:=by exact mT) (g3:Mono R3:=by exact mT) (g4:Mono R4:=by exact mT):SlK B' q1 c1 w1 R1 x1∧SlK B' q2 c2 w2 R2 x2∧SlK B' q3 c3 w3 R3 x3∧SlK B' q4 c4 w4 R4 x4:=⟨h1.mono g1 hle,h2.mono g2 hle,h3.mono g3 hle,h4.mono g4 hle⟩
theorem cB {P:PJ} {f:FuncId} {fn:Func} {code:Code} {rs:List ResultVar} (n:Nat) (hf:P.funcs[f]? = some fn) (hb:fn.body=some code:=by exact rfl) (hn:fn.ntmps=n:=by exact rfl) (hrs:fn.results.toList=rs:=by exact rfl) {args:List Value} (ha:args.length≤n:=by exact Nat.le_of_ble_eq_true rfl) {B:Kn} {Ls:List Cells} {Post:Value→Kn→List Cells→Prop} (h:wpS P n code (Zfy P rs Post) (Zdf args 0) [] B Ls):Zv P f args B Ls Post:=ZhG n hf hb hn hrs ha h
end Go.BL
namespace Go.BL
open Go.Conc (G)
end Go.BL
namespace Go.BL
open Go.Conc (G)
section
variable {P:PJ} {n:Nat} {ops:Array Oper} {i:Nat} {K:ZaG} {S:Env} {D:List Deferred} {B:Kn} {L:List Cells}
variable {dst:Option Tmp} {ty:TypeId} {pos:String} {after:Array Edge} {g:Option (Nat × Bool)}
end
end Go.BL
namespace Go.BL
open Go.Conc (G)
section
variable {P:PJ} {n:Nat} {ops:Array Oper} {i:Nat} {K:ZaG} {S:Env} {D:List Deferred} {B:Kn} {L:List Cells}
variable {dst:Option Tmp} {ty:TypeId} {pos:String} {after:Array Edge} {g:Option (Nat × Bool)}
end
end Go.BL
namespace Go.BL
open Go.Conc (G)
def ZhN (lm li:Cells) (b r:Nat) (kvs:KV) (done:List (List UInt8)):Prop:=
∃(es:Array MapEntry) (clock:Nat) (seen:Array Nat) (zs:List MapEntry),lm=[(b,Obj.map es clock)]∧MapOk es clock kvs∧li=[(r,Obj.mapIter (some b) clock seen clock)]∧(∀e,e∈zs→e∈es.toList)∧zs.Nodup∧seen.toList=zs.map (·.born)∧zs.map (·.key)=done.map str
theorem ZkX {a b:List UInt8} (h:str a=str b):a=b:=by
 have e:({ data:=a.toArray } : ByteArray) = { data:=b.toArray }:=by injection h
 have e2:a.toArray=b.toArray:=by injection e
 simpa using e2
theorem MapOk.kv {es:Array MapEntry} {clock:Nat} {kvs:KV} (ok:MapOk es clock kvs) {e:MapEntry} (he:e∈es.toList) :∃k v,(k,v)∈kvs∧e.key=str k∧e.val = .int .i64 v:=by
 have h1:ZnX e∈es.toList.map ZnX:=List.mem_map_of_mem he
 rw [ok.ent] at h1
 obtain ⟨⟨k,v⟩,h2,h3⟩:=List.mem_map.1 h1
 simp only [kvV,ZnX,Prod.mk.injEq] at h3
 exact ⟨k,v,h2,h3.1.symm,h3.2.symm⟩
theorem ZdY {α β:Type} {f:α→β} :∀{l:List α},(l.map f).Nodup→∀{x y:α},x∈l→y∈l→f x=f y→x=y
 | [],_,_,_,hx,_,_=>by cases hx
 | a :: l,h,x,y,hx,hy,e=>by
  rw [List.map_cons,List.nodup_cons] at h
  rcases List.mem_cons.1 hx with hx1 | hx1
  ·rcases List.mem_cons.1 hy with hy1 | hy1
   ·rw [hx1,hy1]
   ·exact absurd (by rw [← hx1,e];exact List.mem_map_of_mem hy1) h.1
  ·rcases List.mem_cons.1 hy with hy1 | hy1
   ·exact absurd (by rw [← hy1,← e];exact List.mem_map_of_mem hx1) h.1
   ·exact ZdY h.2 hx1 hy1 e
theorem MapOk.key_inj {es:Array MapEntry} {clock:Nat} {kvs:KV} (ok:MapOk es clock kvs) {e e':MapEntry} (he:e∈es.toList) (he':e'∈es.toList) (h:e.key=e'.key):e=e':=by
 have h1:(es.toList.map (·.key)).Nodup:=by
  have h2:es.toList.map (·.key)=(kvs.map (·.1)).map str:=by
   have:=congrArg (List.map Prod.fst) ok.ent
   simpa [List.map_map,ZnX,kvV,Function.comp_def] using this
  rw [h2]
  exact (List.pairwise_map.2 (ok.keys.imp fun {a b} hne e=>hne (ZkX e)))
 exact ZdY h1 he he' h
theorem ZhN.keys {lm li:Cells} {b r:Nat} {kvs:KV} {done:List (List UInt8)} (h:ZhN lm li b r kvs done):done.Nodup∧∀k,k∈done→k∈kvs.map (·.1):=by
 obtain ⟨es,clock,seen,zs,rfl,ok,rfl,h1,h2,h3,h4⟩:=h
 refine ⟨?_,fun k hk=>?_⟩
 ·have h5:(zs.map (·.key)).Nodup:=by
   refine List.pairwise_map.2 (List.Pairwise.imp_of_mem (fun {a b} ha hb hne e=>hne ?_) h2)
   exact ok.key_inj (h1 a ha) (h1 b hb) e
  rw [h4] at h5
  exact (List.pairwise_map.1 h5).imp fun {a b} hne e=>hne (by rw [e])
 ·have h5:str k∈zs.map (·.key):=by rw [h4];exact List.mem_map_of_mem hk
  obtain ⟨e,he,hek⟩:=List.mem_map.1 h5
  obtain ⟨k',v,h6,h7,_⟩:=ok.kv (h1 e he)
  have:=ZkX (hek.symm.trans h7)
  subst this
  exact List.mem_map.2 ⟨_,h6,rfl⟩
section
variable {P:PJ} {n:Nat} {ops:Array Oper} {i:Nat} {K:ZaG} {S:Env} {D:List Deferred} {B:Kn} {L:List Cells}
variable {dst:Option Tmp} {ty:TypeId} {pos:String} {after:Array Edge} {g:Option (Nat × Bool)}
theorem Zsb {x:Operand} {t kt et:TypeId} {b:Nat} {l:Cells} {kvs:KV} (j:Nat) (hj:L[j]? = some l) (hl:Zjs l b kvs) (hg:Zj ops S g=some true) (hd:Zq n dst=true) (hu:P.underlying t=some (.map kt et)) (hx:ev S x=some (.map (some b))) (h:K (.int .i64 kvs.length) D B L) :
  opX P n ops i ⟨dst,.call ⟨.builtin .len,#[x],#[t]⟩,ty,pos,after,g⟩ K S D B L:=
 Zcb hg hd fun ρ hρ F=>by
  obtain ⟨es,clock,rfl,ok⟩:=hl
  have hin:(b,Obj.map es clock)∈L.flatten ++ F:=by
   rw [((ZH F [] hj).choose_spec.1).mem_iff];simp
  simp only [execOp,resolve,Zh,Zm,invoke,builtin,Builtin.len_,List.map_toArray,List.map_cons,List.map_nil,hρ x _ hx,List.getElem?_toArray,List.getElem?_cons_zero,Zp hu]
  refine ⟨_,.inr hin,rfl,rfl,?_⟩
  have e:es.size=kvs.length:=by
   have:=congrArg List.length ok.ent
   simpa using this
  simp only [Zaa,Zm,goInt,e]
  exact ⟨L,.of (.refl _),h⟩
theorem Zqt {x:Operand} {t kt et:TypeId} {b:Nat} {l:Cells} {kvs:KV} (j:Nat) (hj:L[j]? = some l) (hl:Zjs l b kvs) (hg:Zj ops S g=some true) (hd:Zq n dst=true) (hu:P.underlying t=some (.map kt et)) (hx:ev S x=some (.map (some b)))
  (h :∀r li,ZhN l li b r kvs []→K (ptr ⟨r,0,none⟩) D B (L ++ [li])):opX P n ops i ⟨dst,.range t x,ty,pos,after,g⟩ K S D B L:=
 Zcb hg hd fun ρ hρ F=>by
  obtain ⟨es,clock,rfl,ok⟩:=hl
  have hin:(b,Obj.map es clock)∈L.flatten ++ F:=by
   rw [((ZH F [] hj).choose_spec.1).mem_iff];simp
  simp only [execOp,Instr.range,Zh,hρ x _ hx,Zp hu]
  refine ⟨_,.inr hin,rfl,rfl,?_⟩
  simp only [Zaa,Zm,Zh]
  refine ⟨rfl,fun r _ _=>?_⟩
  simp only [Zaa,Zm]
  exact ⟨L ++ [[(r,Obj.mapIter (some b) clock #[] clock)]],.of (Zdc L [(r,Obj.mapIter (some b) clock #[] clock)] F),h r _ ⟨es,clock,#[],[],rfl,ok,rfl,by simp,by simp,by simp,by simp⟩⟩
theorem ZsI {x:Operand} {b r:Nat} {lm li:Cells} {kvs:KV} {done:List (List UInt8)} (j k:Nat) (hjk:j≠k) (hj:L[j]? = some lm) (hk:L[k]? = some li) (hm:ZhN lm li b r kvs done) (hg:Zj ops S g=some true) (hd:Zq n dst=true) (hx:ev S x=some (ptr ⟨r,0,none⟩))
  (h1:(∀y,y∈kvs.map (·.1)→y∈done)→K (.tuple #[.bool false]) D B L)
  (h2 :∀y v li',(y,v)∈kvs→y ∉ done→ZhN lm li' b r kvs (done ++ [y])→K (.tuple #[.bool true,str y,.int .i64 v]) D B (L.set k li')):opX P n ops i ⟨dst,.next x false,ty,pos,after,g⟩ K S D B L:=
 Zcb hg hd fun ρ hρ F=>by
  obtain ⟨es,clock,seen,zs,rfl,ok,rfl,z1,z2,z3,z4⟩:=hm
  have hinm:(b,Obj.map es clock)∈L.flatten ++ F:=by
   rw [((ZH F [] hj).choose_spec.1).mem_iff];simp
  have hini:(r,Obj.mapIter (some b) clock seen clock)∈L.flatten ++ F:=by
   rw [((ZH F [] hk).choose_spec.1).mem_iff];simp
  have htest:(!seen.isEmpty && !es.isEmpty && es.all (fun e=>decide (e.born ≥ clock)))=false:=by
   cases he:es.isEmpty with
   | true=>simp
   | false=>
    have h0:0<es.size:=by
     rcases Nat.eq_zero_or_pos es.size with h0 | h0
     ·simp [Array.isEmpty,h0] at he
     ·exact h0
    have hall:es.all (fun e=>decide (e.born ≥ clock))=false:=by
     rw [Bool.eq_false_iff]
     intro h
     rw [Array.all_eq_true_iff_forall_mem] at h
     have h3:=h es[0] (Array.getElem_mem h0)
     have h4:=ok.old es[0] (by simp)
     simp at h3;omega
    simp [hall]
  simp only [execOp,Instr.next,Zh,hρ x _ hx]
  refine ⟨_,.inr hini,rfl,rfl,?_⟩
  simp only [Zaa,Zm,Zh]
  refine ⟨_,.inr hinm,rfl,rfl,?_⟩
  simp only [Zaa,Zm,Zh,htest,Bool.false_eq_true,if_false]
  have hmem :∀e,e∈es.filter (fun e=>!seen.contains e.born)↔e∈es.toList∧e ∉ zs:=by
   intro e
   have hs:seen.contains e.born=true↔e.born∈zs.map (·.born):=by
    rw [Array.contains_iff_mem,← z3,Array.mem_toList_iff]
   rw [Array.mem_filter,← Array.mem_toList_iff]
   refine and_congr_right fun he=>?_
   have hz:e.born∈zs.map (·.born)↔e∈zs:=⟨fun hq=>by
    obtain ⟨e',h5,h6⟩:=List.mem_map.1 hq
    have:=ZdY ok.born (z1 e' h5) he h6
    exact this ▸ h5,fun hq=>List.mem_map_of_mem hq⟩
   cases hc:seen.contains e.born with
   | true=>simp [hz.1 (hs.1 hc)]
   | false=>
    have:e ∉ zs:=fun hq=>by have:=hs.2 (hz.2 hq);rw [hc] at this;cases this
    simp [this]
  have hold :∀e,e∈es.filter (fun e=>!seen.contains e.born)→e.born<clock:=fun e he=>ok.old e ((hmem e).1 he).1
  generalize hLf:es.filter (fun e=>!seen.contains e.born)=Lf at hmem hold
  have e1:Lf.filter (fun e=>decide (e.born<clock))=Lf:=Array.filter_eq_self.2 (fun e he=>by simpa using hold e he)
  have e2:Lf.filter (fun e=>decide (e.born ≥ clock)) = #[]:=by
   rw [Array.filter_eq_empty_iff]
   intro e he
   have:=hold e he
   simp;omega
  simp only [e1,e2,Array.append_empty]
  by_cases h0:Lf.size=0
  ·have hLe:Lf = #[]:=Array.eq_empty_of_size_eq_zero h0
   subst hLe
   intro nc hf1 _
   have:nc=0:=hf1 (by simp [Question.forced])
   subst this
   have hg0:((if (#[]:Array MapEntry).isEmpty=true then (#[Option.none]:Array (Option MapEntry)) else #[]) ++ Array.map some #[])[0]? = some Option.none:=by simp
   simp only [Zaa,hg0,Zm]
   refine ⟨L,.of (.refl _),h1 fun y hy=>?_⟩
   obtain ⟨⟨k',v⟩,h3,rfl⟩:=List.mem_map.1 hy
   have h4:kvV (k',v)∈kvs.map kvV:=List.mem_map_of_mem h3
   rw [← ok.ent] at h4
   obtain ⟨e,h5,h6⟩:=List.mem_map.1 h4
   have h7:e∈zs:=by
    by_cases hz:e∈zs
    ·exact hz
    ·have:=(hmem e).2 ⟨h5,hz⟩
     simp at this
   have h8:e.key∈zs.map (·.key):=List.mem_map_of_mem h7
   simp only [ZnX,kvV,Prod.mk.injEq] at h6
   rw [z4,h6.1] at h8
   obtain ⟨d,h9,h10⟩:=List.mem_map.1 h8
   exact ZkX h10 ▸ h9
  ·have hne:Lf.isEmpty=false:=by
    cases hq:Lf.isEmpty with
    | false=>rfl
    | true=>exact absurd (by simpa [Array.isEmpty] using hq) h0
   simp only [hne,Bool.false_eq_true,if_false,Array.empty_append]
   intro nc hf1 hf2
   have hlt:nc<Lf.size:=by
    by_cases hfo:Lf.size≤1
    ·have:nc=0:=hf1 (by simp [Question.forced,hfo])
     omega
    ·obtain ⟨t,rfl⟩:=hf2 (by simp [Question.forced];omega)
     simp only [Question.cut,Array.size_map]
     exact Nat.mod_lt _ (by omega)
   have hget:(Lf.map some)[nc]? = some (some Lf[nc]):=by simp [hlt]
   have he:=(hmem Lf[nc]).1 (Array.getElem_mem hlt)
   obtain ⟨k',v,h3,h4,h5⟩:=ok.kv he.1
   simp only [Zaa,hget,Zh,Zm]
   obtain ⟨rr,hp1,_⟩:=ZH F [] hk
   refine ⟨⟨rfl,rfl⟩,_,rr,hp1,rfl,?_⟩
   simp only [Zaa,Zm,h4,h5]
   refine ⟨L.set k [(r,Obj.mapIter (some b) clock (seen.push Lf[nc].born) clock)],?_,h2 k' v _ h3 ?_ ⟨es,clock,seen.push Lf[nc].born,zs ++ [Lf[nc]],rfl,ok,rfl,?_,?_,?_,?_⟩⟩
   ·obtain ⟨r2,a1,a2⟩:=ZH F [(r,Obj.mapIter (some b) clock (seen.push Lf[nc].born) clock)] hk
    have hrr:rr.Perm r2:=(List.perm_append_left_iff _).1 (hp1.symm.trans a1)
    exact .of ((List.Perm.append_left _ hrr).trans a2.symm)
   ·intro hq
    have h6:str k'∈zs.map (·.key):=by rw [z4];exact List.mem_map_of_mem hq
    obtain ⟨e',h7,h8⟩:=List.mem_map.1 h6
    have:=ok.key_inj (z1 e' h7) he.1 (h8.trans h4.symm)
    exact he.2 (this ▸ h7)
   ·intro e hq
    rcases List.mem_append.1 hq with hq | hq
    ·exact z1 e hq
    ·rw [List.mem_singleton.1 hq];exact he.1
   ·rw [List.nodup_append]
    exact ⟨z2,by simp,fun a ha c hc e=>he.2 (by rw [List.mem_singleton] at hc;exact hc ▸ e ▸ ha)⟩
   ·rw [Array.toList_push,z3];simp
   ·rw [List.map_append,z4,List.map_append];simp [h4]
theorem Zii {e:MapEntry} :∀{l:List MapEntry},(l.map (·.born)).Nodup→e∈l→l.find? (fun z=>z.born == e.born)=some e
 | [],_,h=>by cases h
 | a :: l,hn,h=>by
  rw [List.map_cons,List.nodup_cons] at hn
  rw [List.find?_cons]
  cases hq:(a.born == e.born) with
  | true=>
   rcases List.mem_cons.1 h with h1 | h1
   ·simp [h1]
   ·exact absurd (by rw [beq_iff_eq.1 hq];exact List.mem_map_of_mem h1) hn.1
  | false=>
   rcases List.mem_cons.1 h with h1 | h1
   ·rw [h1] at hq;simp at hq
   ·exact Zii hn.2 h1
theorem Zqu {x:Operand} {b r:Nat} {lm li:Cells} {kvs:KV} {done:List (List UInt8)} {y:List UInt8} (j k:Nat) (hj:L[j]? = some lm) (hk:L[k]? = some li) (hm:ZhN lm li b r kvs (done ++ [y])) (hg:Zj ops S g=some true) (hd:Zq n dst=true) (hx:ev S x=some (ptr ⟨r,0,none⟩))
  (h :∀w,K (.tuple #[str y,.int .i64 w]) D B L):opX P n ops i ⟨dst,.entry x,ty,pos,after,g⟩ K S D B L:=
 Zcb hg hd fun ρ hρ F=>by
  obtain ⟨es,clock,seen,zs,rfl,ok,rfl,z1,z2,z3,z4⟩:=hm
  have hinm:(b,Obj.map es clock)∈L.flatten ++ F:=by
   rw [((ZH F [] hj).choose_spec.1).mem_iff];simp
  have hini:(r,Obj.mapIter (some b) clock seen clock)∈L.flatten ++ F:=by
   rw [((ZH F [] hk).choose_spec.1).mem_iff];simp
  rw [List.map_append,List.map_cons,List.map_nil] at z4
  obtain ⟨za,zb,rfl,_,hzb⟩:=List.map_eq_append_iff.1 z4
  obtain ⟨e,rfl,hek⟩ :∃e,zb=[e]∧e.key=str y:=by
   cases zb with
   | nil=>simp at hzb
   | cons e t=>
    simp only [List.map_cons,List.cons.injEq,List.map_eq_nil_iff] at hzb
    exact ⟨e,by rw [hzb.2],hzb.1⟩
  have he:e∈es.toList:=z1 e (by simp)
  have hback:seen.back? = some e.born:=by
   rw [← Array.getLast?_toList,z3];simp
  obtain ⟨k',v,_,h4,h5⟩:=ok.kv he
  have hfind:es.find? (fun z=>z.born == e.born)=some e:=by
   rw [← Array.find?_toList];exact Zii ok.born he
  simp only [execOp,Instr.entry,Zh,hρ x _ hx]
  refine ⟨_,.inr hini,rfl,rfl,?_⟩
  simp only [Zaa,Zm,Zh,hback]
  refine ⟨_,.inr hinm,rfl,rfl,?_⟩
  simp only [Zaa,Zm,Zh,bne_self_eq_false,Bool.false_eq_true,if_false,hfind,hek,h5]
  exact ⟨L,.of (.refl _),h v⟩
theorem Zcu {α β:Type} (f:α→β) :∀(l:List α) (m:Nat),(l.eraseIdx m).map f=(l.map f).eraseIdx m
 | [],m=>by simp
 | a :: l,0=>by simp
 | a :: l,m+1=>by simp [Zcu f l m]
theorem Zus {t kt et u:TypeId} {x y:Operand} {b:Nat} {l:Cells} {kvs:KV} {k:List UInt8} (j:Nat) (hj:L[j]? = some l) (hl:Zjs l b kvs) (hg:Zj ops S g=some true) (hd:Zq n dst=true) (hu:P.underlying t=some (.map kt et)) (hk:P.underlying kt=some .string)
  (hx:ev S x=some (.map (some b))) (hy:ev S y=some (str k)) (h :∀l',Zjs l' b (mdel kvs k)→K (.tuple #[]) D B (L.set j l')):opX P n ops i ⟨dst,.call ⟨.builtin .delete,#[x,y],#[t,u]⟩,ty,pos,after,g⟩ K S D B L:=
 Zcb hg hd fun ρ hρ F=>by
  obtain ⟨es,clock,rfl,ok⟩:=hl
  obtain ⟨rr,hp1,_⟩:=ZH F [] hj
  have hput :∀l',((L.set j l').flatten ++ F).Perm (l' ++ rr):=fun l'=>by
   obtain ⟨r2,a1,a2⟩:=ZH F l' hj
   have:rr.Perm r2:=(List.perm_append_left_iff [(b,Obj.map es clock)]).1 (hp1.symm.trans a1)
   exact a2.trans (List.Perm.append_left l' this.symm)
  have hin:(b,Obj.map es clock)∈L.flatten ++ F:=by rw [hp1.mem_iff];simp
  simp only [execOp,resolve,Zh,Zm,invoke,builtin,Builtin.delete_,List.map_toArray,List.map_cons,List.map_nil,hρ x _ hx,hρ y _ hy,List.getElem?_toArray,List.getElem?_cons_zero,List.getElem?_cons_succ,Zp hu]
  refine ⟨_,.inr hin,rfl,rfl,?_⟩
  simp only [Zaa,Zh]
  refine Zfq hk ?_
  rw [Zh]
  refine Zgk hk ok.ent ?_
  cases hm:mlook kvs k 0 with
  | none=>
   obtain ⟨_,_,m3,_⟩:=ZeJ hm
   refine ⟨⟨rfl,rfl⟩,_,rr,hp1,rfl,?_⟩
   refine ⟨L.set j [(b,Obj.map es clock)],.of (hput [(b,Obj.map es clock)]).symm,h _ ⟨es,clock,rfl,?_⟩⟩
   rw [m3];exact ok
  | some p=>
   obtain ⟨jj,u⟩:=p
   obtain ⟨m,w,rfl,rfl,m3,_,m5,_⟩:=ZeI hm
   rw [Nat.zero_add]
   refine ⟨⟨rfl,rfl⟩,_,rr,hp1,rfl,?_⟩
   have et:(es.eraseIdxIfInBounds m).toList=es.toList.eraseIdx m:=by
    unfold Array.eraseIdxIfInBounds
    split
    ·exact Array.toList_eraseIdx ..
    ·rename_i hn;rw [List.eraseIdx_of_length_le (by simpa using hn)]
   refine ⟨L.set j [(b,Obj.map (es.eraseIdxIfInBounds m) clock)],.of (hput [(b,Obj.map (es.eraseIdxIfInBounds m) clock)]).symm,h _ ⟨_,_,rfl,⟨?_,?_,?_,?_⟩⟩⟩
   ·rw [et,m5,Zcu,Zcu,ok.ent]
   ·rw [et,Zcu];exact ok.born.sublist (List.eraseIdx_sublist ..)
   ·intro e he
    rw [et] at he
    exact ok.old e (List.mem_of_mem_eraseIdx he)
   ·rw [m5,Zcu];exact ok.keys.sublist (List.eraseIdx_sublist ..)
end
end Go.BL
namespace Go.BL
open Go
def Za6 (c:UInt8):Bool:=(decide (97≤c.toNat) && decide (c.toNat≤122)) || (decide (48≤c.toNat) && decide (c.toNat≤57))
def ZZ (l:List UInt8):Bool:=l.all Za6 && decide (1≤l.length) && decide (l.length≤8)
theorem ZrR {l:List UInt8} {k:Nat} {c:UInt8} (hc:l[k]? = some c) (h:Za6 c=false):l.all Za6=false:=by
 rw [Bool.eq_false_iff];intro ha
 have:=List.all_eq_true.1 ha c (List.mem_of_getElem? hc)
 rw [h] at this;cases this
theorem ZmN {l:List UInt8} {k:Nat} {c:UInt8} (hc:l[k]? = some c) (h:Za6 c=true) (ha:(l.take k).all Za6=true):(l.take (k+1)).all Za6=true:=by
 rw [List.take_add_one,hc];simp only [Option.toList_some,List.all_append,ha,List.all_cons,h,List.all_nil];rfl
def word (l:List UInt8) (i:Nat):List UInt8:=(l.drop i).takeWhile Za6
def Zdm (w:List UInt8):Bool:=decide (1≤w.length) && decide (w.length≤8)
theorem ZoB {o:Option UInt8} {f:UInt8→Bool} (h:(match o with | some c=>f c | none=>false)=true) :∃c,o=some c∧f c=true:=by
 cases o with
 | none=>cases h
 | some c=>exact ⟨c,rfl,h⟩
theorem Zbz {α:Type} {l:List α} {k:Nat} {c:α} (h:l[k]? = some c):k<l.length:=(List.getElem?_eq_some_iff.1 h).1
theorem ZfG {p:UInt8→Bool} :∀{m:List UInt8} {k:Nat},(m.take k).all p=true→(∀c,m[k]? = some c→p c=false)→m.takeWhile p=m.take k
 | [],k,_,_=>by simp
 | c :: m,0,_,h=>by simp [List.takeWhile,h c rfl]
 | c :: m,k+1,ha,h=>by
  simp only [List.take_succ_cons,List.all_cons,Bool.and_eq_true] at ha
  simp only [List.takeWhile,ha.1,List.take_succ_cons]
  rw [ZfG ha.2 (fun c hc=>h c (by simpa using hc))]
theorem Zqp {l:List UInt8} {i k:Nat} (ha:((l.drop i).take k).all Za6=true) (h :∀c,l[i+k]? = some c→Za6 c=false):word l i=(l.drop i).take k:=
 ZfG ha (fun c hc=>h c (by simpa using hc))
theorem Ze7 {l:List UInt8} {i k:Nat} : (l.take (i+k)).drop i=(l.drop i).take k:=by
 rw [List.drop_take,Nat.add_sub_cancel_left]
theorem Zh2 {a b c d:Value} (h:a=c) (h':b=d):Value.tuple #[a,b]=Value.tuple #[c,d]:=by rw [h,h']
def more:Nat→List UInt8→Nat→Bool × Nat
 | 0,_,i=>(true,i)
 | n+1,l,i=>if l[i]? = some 46 then (if Zdm (word l (i+1))=true then more n l (i+1+(word l (i+1)).length) else (false,i+1+(word l (i+1)).length)) else (true,i)
def dom (l:List UInt8) (i:Nat):Bool × Nat:=if Zdm (word l i)=true then more 2 l (i+(word l i).length) else (false,i+(word l i).length)
def ZhC (l:List UInt8) (i:Nat):List UInt8:=if (dom l i).1=true then (l.take (dom l i).2).drop i else []
def ZlH (l:List UInt8) (i:Nat):Bool:=(dom l i).1 && decide ((dom l i).2 - i≤20)
theorem ZlG {l:List UInt8} {i:Nat} (h:Zdm (word l i)=false):dom l i=(false,i+(word l i).length):=by simp [dom,h]
theorem ZrH {l:List UInt8} {i:Nat} (h:Zdm (word l i)=true):dom l i=more 2 l (i+(word l i).length):=by simp [dom,h]
theorem ZgW {l:List UInt8} {i:Nat} (h:i≤l.length):i+(word l i).length≤l.length:=by
 have:=List.IsPrefix.length_le (List.takeWhile_prefix Za6 (l:=l.drop i))
 rw [List.length_drop] at this
 unfold word;omega
theorem Zhf {l:List UInt8} {n j:Nat} (h : ¬ l[j]? = some 46):more n l j=(true,j):=by
 cases n with
 | zero=>rfl
 | succ n=>rw [more,if_neg h]
theorem Zq9 {l:List UInt8} {n j:Nat} (hn:1≤n) (h:l[j]? = some 46) (hw:Zdm (word l (j+1))=false):more n l j=(false,j+1+(word l (j+1)).length):=by
 cases n with
 | zero=>omega
 | succ n=>rw [more,if_pos h,if_neg (by simp [hw])]
theorem ZoY {l:List UInt8} {n j:Nat} (hn:1≤n) (h:l[j]? = some 46) (hw:Zdm (word l (j+1))=true):more n l j=more (n - 1) l (j+1+(word l (j+1)).length):=by
 cases n with
 | zero=>omega
 | succ n=>rw [more,if_pos h,if_pos hw];rfl
theorem ZdS {p:UInt8→Bool} :∀l:List UInt8,(l.takeWhile p).length=l.length↔l.all p=true
 | []=>by simp
 | c :: l=>by
  have h:=ZdS (p:=p) l
  cases hc:p c with
  | true=>simp [List.takeWhile,hc] at h ⊢;exact h
  | false=>simp [List.takeWhile,hc]
theorem Zc6 {l:List UInt8} : ZZ l=(Zdm (word l 0) && decide ((word l 0).length=l.length)):=by
 have h:=ZdS (p:=Za6) l
 have e:word l 0=l.takeWhile Za6:=by simp [word]
 rw [Bool.eq_iff_iff]
 simp only [ZZ,Zdm,e,Bool.and_eq_true,decide_eq_true_eq]
 constructor
 ·rintro ⟨⟨h1,h2⟩,h3⟩
  have:=h.2 h1
  omega
 ·rintro ⟨⟨h1,h2⟩,h3⟩
  exact ⟨⟨h.1 h3,by omega⟩,by omega⟩
theorem ZoX {l:List UInt8} :∀(n j:Nat),j≤l.length→(more n l j).2≤l.length
 | 0,j,h=>h
 | n+1,j,h=>by
  rw [more]
  split
  ·rename_i e
   have:=Zbz e
   have h2:=ZgW (l:=l) (i:=j+1) (by omega)
   split
   ·exact ZoX n _ h2
   ·exact h2
  ·exact h
theorem Zvh {l:List UInt8} {i:Nat} (h:i≤l.length):(dom l i).2≤l.length:=by
 unfold dom
 have h2:=ZgW h
 split
 ·exact ZoX 2 _ h2
 ·exact h2
def glue (a:List UInt8):List (List UInt8)→List (List UInt8)
 | []=>[a]
 | p :: ps=>(a ++ p) :: ps
def cut (x:UInt8):List UInt8→List (List UInt8)
 | []=>[[]]
 | c :: r=>if c=x then [] :: cut x r else glue [c] (cut x r)
theorem ZmK (x:UInt8) :∀l,cut x l≠[]
 | []=>by simp [cut]
 | c :: r=>by
  rw [cut]
  split
  ·simp
  ·cases cut x r <;> simp [glue]
theorem ZmB {m:List (List UInt8)} (h:m≠[]):glue [] m=m:=by
 cases m with
 | nil=>exact absurd rfl h
 | cons p ps=>rfl
theorem Zps (a b:List UInt8) (m:List (List UInt8)):glue a (glue b m)=glue (a ++ b) m:=by
 cases m <;> simp [glue]
structure CutSt where
 i:Nat
 f:Nat
 m:Nat
 ps:List (List UInt8)
 q:Option Addr
 cp:Nat
 s:Cells
theorem ZvS {a b:UInt8} (h:(a.toNat:Int)=b.toNat):a=b:=UInt8.toNat_inj.1 (by exact_mod_cast h)
theorem ZtT {l:List UInt8} {x c:UInt8} {i:Nat} (h:l[i]? = some c) (e:c=x):cut x (l.drop i)=[] :: cut x (l.drop (i+1)):=by
 obtain ⟨hlt,he⟩:=List.getElem?_eq_some_iff.1 h
 rw [List.drop_eq_getElem_cons hlt,he,cut,if_pos e]
theorem ZrJ {l:List UInt8} {x c:UInt8} {i:Nat} (h:l[i]? = some c) (e:c≠x):cut x (l.drop i)=glue [c] (cut x (l.drop (i+1))):=by
 obtain ⟨hlt,he⟩:=List.getElem?_eq_some_iff.1 h
 rw [List.drop_eq_getElem_cons hlt,he,cut,if_neg e]
theorem ZvR {a b:UInt8} (h : ¬ (a.toNat:Int)=b.toNat):a≠b:=fun e=>h (by rw [e])
theorem Zon {l:List UInt8} {c:UInt8} {i f:Nat} (h:l[i]? = some c) (hf:f≤i):(l.take i).drop f ++ [c]=(l.take (i+1)).drop f:=by
 have hlt:=Zbz h
 rw [List.take_add_one,h]
 simp only [Option.toList_some]
 rw [List.drop_append_of_le_length (by rw [List.length_take];omega)]
theorem Zrw (a:List UInt8) (m:List (List UInt8)):glue a ([] :: m)=a :: m:=by simp [glue]
def Zcz (l:List UInt8):Bool:=(cut 46 l).all ZZ && decide ((cut 46 l).length≤3) && decide (l.length≤20)
theorem Zrv {a:List UInt8} {m:List (List UInt8)} {n:Nat} (h :∀p,p∈m→p.length≤n) :∀p,p∈glue a m→p.length≤a.length+n:=by
 cases m with
 | nil=>intro p hp;simp [glue] at hp;subst hp;omega
 | cons q qs=>
  intro p hp
  simp only [glue,List.mem_cons] at hp
  rcases hp with rfl | hp
  ·rw [List.length_append];have:=h q (List.mem_cons_self ..);omega
  ·have:=h p (List.mem_cons_of_mem _ hp);omega
theorem ZlI (x:UInt8) :∀(l p:List UInt8),p∈cut x l→p.length≤l.length
 | [],p,h=>by simp [cut] at h;subst h;simp
 | c :: r,p,h=>by
  rw [cut] at h
  split at h
  ·rcases List.mem_cons.1 h with rfl | h
   ·simp
   ·have:=ZlI x r p h;simp;omega
  ·have:=Zrv (ZlI x r) p h;simp at this ⊢;omega
theorem ZkC {l:List (List UInt8)} {k:Nat} {c:List UInt8} (hc:l[k]? = some c) (h:ZZ c=false):l.all ZZ=false:=by
 rw [Bool.eq_false_iff];intro ha
 have:=List.all_eq_true.1 ha c (List.mem_of_getElem? hc)
 rw [h] at this;cases this
theorem ZhJ {l:List (List UInt8)} {k:Nat} {c:List UInt8} (hc:l[k]? = some c) (h:ZZ c=true) (ha:(l.take k).all ZZ=true):(l.take (k+1)).all ZZ=true:=by
 rw [List.take_add_one,hc];simp only [Option.toList_some,List.all_append,ha,List.all_cons,h,List.all_nil];rfl
theorem Zkv (x:UInt8) :∀l:List UInt8,(cut x l).length≤l.length+1
 | []=>by simp [cut]
 | c :: r=>by
  have h:=Zkv x r
  rw [cut]
  split
  ·simp;omega
  ·cases hq:cut x r with
   | nil=>exact absurd hq (ZmK x r)
   | cons p ps=>rw [hq] at h;simp [glue] at h ⊢;omega
end Go.BL
namespace Go.BL
open Go
theorem Zjg {x:UInt8} :∀{l:List UInt8},x ∉ l→cut x l=[l]
 | [],_=>rfl
 | c :: r,h=>by
  rw [cut,if_neg (fun e=>h (by rw [e];exact List.mem_cons_self ..)),Zjg (fun hm=>h (List.mem_cons_of_mem _ hm))]
  rfl
theorem ZhD {x:UInt8} {b:List UInt8} :∀{a:List UInt8},x ∉ a→cut x (a ++ x :: b)=a :: cut x b
 | [],_=>by simp [cut]
 | c :: r,h=>by
  rw [List.cons_append,cut,if_neg (fun e=>h (by rw [e];exact List.mem_cons_self ..)),ZhD (fun hm=>h (List.mem_cons_of_mem _ hm))]
  rfl
theorem Zfg {x:UInt8} :∀{l:List UInt8},x∈l→∃a b,l=a ++ x :: b∧x ∉ a
 | c :: r,h=>by
  by_cases e:c=x
  ·exact ⟨[],r,by simp [e],by simp⟩
  ·have hr:x∈r:=(List.mem_cons.1 h).resolve_left (Ne.symm e)
   obtain ⟨a,b,h1,h2⟩:=Zfg hr
   exact ⟨c :: a,b,by simp [h1],by simp [Ne.symm e,h2]⟩
theorem ZhW (l:List UInt8) (i j:Nat):word l (i+j)=word (l.drop i) j:=by
 unfold word;rw [List.drop_drop]
theorem Zh7 (l:List UInt8) (i:Nat) :∀n j,more n l (i+j)=((more n (l.drop i) j).1,i+(more n (l.drop i) j).2)
 | 0,j=>rfl
 | n+1,j=>by
  simp only [more,List.getElem?_drop]
  rw [show i+j+1=i+(j+1) from by omega,ZhW]
  split
  ·split
   ·rw [show i+(j+1)+(word (l.drop i) (j+1)).length=i+(j+1+(word (l.drop i) (j+1)).length) from by omega,Zh7 l i n]
   ·simp only [Prod.mk.injEq,true_and];omega
  ·rfl
theorem Zqq {l:List UInt8} (h:l.all Za6=true):word l 0=l:=by
 have:=(ZdS (p:=Za6) l).2 h
 have h2:=List.takeWhile_prefix Za6 (l:=l)
 simp only [word,List.drop_zero]
 exact List.IsPrefix.eq_of_length h2 this
theorem Zgw {a b:List UInt8} {x:UInt8} (hx:Za6 x=false) (h:a.all Za6=true):word (a ++ x :: b) 0=a:=by
 simp only [word,List.drop_zero]
 induction a with
 | nil=>simp [List.takeWhile,hx]
 | cons c a ih=>
  simp only [List.all_cons,Bool.and_eq_true] at h
  simp only [List.cons_append,List.takeWhile,h.1,ih h.2]
theorem Zgv {a:List UInt8} (b:List UInt8) (h:a.all Za6=false):(word (a ++ b) 0).length<a.length∧word (a ++ b) 0=word a 0:=by
 simp only [word,List.drop_zero]
 induction a with
 | nil=>simp at h
 | cons c a ih=>
  cases hc:Za6 c with
  | false=>simp [List.takeWhile,hc]
  | true=>
   have h':a.all Za6=false:=by simpa [hc] using h
   have:=ih h'
   simp only [List.cons_append,List.takeWhile,hc,List.length_cons]
   exact ⟨by omega,by rw [this.2]⟩
theorem Ztx {a:List UInt8} (b:List UInt8) {k:Nat} (h:k<a.length):(a ++ b)[k]? = a[k]?:=List.getElem?_append_left h
theorem Zht {x:UInt8} {a:List UInt8} (h:x ∉ a) (k:Nat):a[k]?≠some x:=fun e=>h (List.mem_of_getElem? e)
theorem ZoS :∀(n:Nat) (b:List UInt8),(Zdm (word b 0)=true∧more n b (word b 0).length=(true,b.length))↔((cut 46 b).all ZZ=true∧(cut 46 b).length≤n+1):=by
 intro n
 induction n with
 | zero=>
  intro b
  by_cases hd:(46:UInt8)∈b
  ·obtain ⟨a,r,rfl,ha⟩:=Zfg hd
   rw [ZhD ha]
   have hlen:(word (a ++ 46 :: r) 0).length≤a.length:=by
    cases hna:a.all Za6 with
    | true=>rw [Zgw (by decide) hna];exact Nat.le_refl _
    | false=>exact Nat.le_of_lt (Zgv _ hna).1
   constructor
   ·rintro ⟨_,h2⟩
    simp only [more,Prod.mk.injEq,true_and] at h2
    rw [List.length_append,List.length_cons] at h2
    omega
   ·rintro ⟨_,h2⟩
    have:=ZmK 46 r
    simp only [List.length_cons] at h2
    exact absurd (List.eq_nil_of_length_eq_zero (by omega)) this
  ·rw [Zjg hd]
   simp only [more,List.all_cons,List.all_nil,Bool.and_true,List.length_cons,List.length_nil,Nat.zero_add,Nat.le_refl,and_true,Prod.mk.injEq,true_and,Zc6,Bool.and_eq_true,decide_eq_true_eq]
 | succ n ih=>
  intro b
  by_cases hd:(46:UInt8)∈b
  ·obtain ⟨a,r,rfl,ha⟩:=Zfg hd
   rw [ZhD ha]
   cases hna:a.all Za6 with
   | true=>
    rw [Zgw (by decide) hna]
    have hg:(a ++ 46 :: r)[a.length]? = some 46:=by simp
    have hdr:(a ++ 46 :: r).drop (a.length+1)=r:=by rw [List.drop_append];simp
    have hw:word (a ++ 46 :: r) (a.length+1)=word r 0:=by
     have:=ZhW (a ++ 46 :: r) (a.length+1) 0
     rw [Nat.add_zero,hdr] at this;exact this
    have hm:more n (a ++ 46 :: r) (a.length+1+(word r 0).length)=((more n r (word r 0).length).1,a.length+1+(more n r (word r 0).length).2):=by
     rw [Zh7,hdr]
    simp only [more,hg,if_true,hw,hm,List.all_cons,Bool.and_eq_true,List.length_cons]
    have hna':ZZ a=Zdm a:=by rw [Zc6,Zqq hna];simp
    have hi:=ih r
    constructor
    ·rintro ⟨h1,h2⟩
     split at h2
     ·rename_i h3
      simp only [Prod.mk.injEq,List.length_append,List.length_cons] at h2
      have:=hi.1 ⟨h3,by ext1;exact h2.1;simp only [];omega⟩
      exact ⟨⟨by rw [hna'];exact h1,this.1⟩,by omega⟩
     ·simp at h2
    ·rintro ⟨⟨h1,h2⟩,h3⟩
     obtain ⟨h4,h5⟩:=hi.2 ⟨h2,by omega⟩
     refine ⟨by rw [← hna'];exact h1,?_⟩
     rw [if_pos h4,h5]
     simp;omega
   | false=>
    obtain ⟨h1,h2⟩:=Zgv (46 :: r) hna
    have hne:ZZ a=false:=by simp [ZZ,hna]
    constructor
    ·rintro ⟨_,h3⟩
     rw [Zhf (by rw [Ztx _ h1];exact Zht ha _)] at h3
     simp only [Prod.mk.injEq,true_and,List.length_append,List.length_cons] at h3
     omega
    ·rintro ⟨h3,_⟩
     simp [hne] at h3
  ·rw [Zjg hd]
   rw [Zhf (Zht hd _)]
   simp only [List.all_cons,List.all_nil,Bool.and_true,List.length_cons,List.length_nil,Prod.mk.injEq,true_and,Zc6,Bool.and_eq_true,decide_eq_true_eq]
   constructor
   ·rintro ⟨h1,h2⟩;exact ⟨⟨h1,h2⟩,by omega⟩
   ·rintro ⟨⟨h1,h2⟩,_⟩;exact ⟨h1,h2⟩
theorem Zks (b:List UInt8):((dom b 0).1=true∧(dom b 0).2≤20∧(dom b 0).2=b.length)↔Zcz b=true:=by
 have h:=ZoS 2 b
 simp only [Zcz,Bool.and_eq_true,decide_eq_true_eq]
 constructor
 ·rintro ⟨h1,h2,h3⟩
  cases hw:Zdm (word b 0) with
  | false=>simp [dom,hw] at h1
  | true=>
   simp only [dom,hw,if_true,Nat.zero_add] at h1 h2 h3
   have:=h.1 ⟨hw,by ext1;exact h1;exact h3⟩
   exact ⟨⟨this.1,this.2⟩,by omega⟩
 ·rintro ⟨⟨h1,h2⟩,h3⟩
  obtain ⟨h4,h5⟩:=h.2 ⟨h1,h2⟩
  simp only [dom,h4,if_true,Nat.zero_add,h5]
  exact ⟨trivial,h3,trivial⟩
end Go.BL
namespace Go.BL
open Go
theorem Zba {α:Type} {p:α→Prop} {l:List α} {k:Nat} {x:α} (hx:l[k]? = some x) (h :∀y,y∈l.take k→p y) (hp:p x) :∀y,y∈l.take (k+1)→p y:=by
 intro y hy
 rw [List.take_add_one,hx] at hy
 simp only [Option.toList_some,List.mem_append,List.mem_singleton] at hy
 rcases hy with hy | rfl
 ·exact h y hy
 ·exact hp
def Zei (us:List DUser) (u:Str):Int:=match us.findIdx? (fun x=>decide (x.name=u)) with | some i=>i | none=>-1
theorem Zrj {us:List DUser} {u:Str} {k:Nat} {x:DUser} (hx:us[k]? = some x) (he:x.name=u) (h :∀y,y∈us.take k→y.name≠u):Zei us u=k:=by
 have:us.findIdx? (fun x=>decide (x.name=u))=some k:=by
  rw [List.findIdx?_eq_some_iff_getElem]
  obtain ⟨hk,rfl⟩:=List.getElem?_eq_some_iff.1 hx
  refine ⟨hk,by simpa using he,fun j hj=>?_⟩
  have:=h us[j] (by rw [List.mem_take_iff_getElem];exact ⟨j,by omega,rfl⟩)
  simpa using this
 rw [Zei,this]
theorem Zpf {us:List DUser} {u:Str} (h :∀y,y∈us→y.name≠u):Zei us u = -1:=by
 have:us.findIdx? (fun x=>decide (x.name=u))=none:=by
  rw [List.findIdx?_eq_none_iff]
  intro x hx
  simpa using h x hx
 rw [Zei,this]
theorem ZbO {α:Type} {as bs:List α} {k:Nat} {x y:α} (hx:as[k]? = some x) (hy:bs[k]? = some y) (e:x=y) (h:as.take k=bs.take k):as.take (k+1)=bs.take (k+1):=by
 rw [List.take_add_one,List.take_add_one,hx,hy,e,h]
theorem Zgo {α:Type} {as bs:List α} {inst:Decidable (as=bs)} (h : ¬ (as.length:Int)=bs.length):false=decide (as=bs):=by
 symm;rw [decide_eq_false_iff_not];intro e;exact h (by rw [e])
theorem ZeR {α:Type} {as bs:List α} {inst:Decidable (as=bs)} {k:Nat} {x y:α} (hx:as[k]? = some x) (hy:bs[k]? = some y) (e : ¬ x=y):false=decide (as=bs):=by
 symm;rw [decide_eq_false_iff_not];intro h;rw [h,hy] at hx;exact e (Option.some.inj hx).symm
theorem eqT {α:Type} {as bs:List α} {inst:Decidable (as=bs)} {k:Nat} (hl:as.length=bs.length) (hk:k=as.length) (h:as.take k=bs.take k):true=decide (as=bs):=by
 symm;rw [decide_eq_true_eq]
 rw [List.take_of_length_le (by omega),List.take_of_length_le (by omega)] at h;exact h
theorem Zyr {α:Type} {as:List α} {x:α} {inst:Decidable (x∈as)} (h :∀y,y∈as→y≠x):false=decide (x∈as):=by
 symm;rw [decide_eq_false_iff_not];intro hx;exact h x hx rfl
theorem Zyq {α:Type} {as:List α} {x y:α} {inst:Decidable (x∈as)} {k:Nat} (hy:as[k]? = some y) (e:y=x):true=decide (x∈as):=by
 symm;rw [decide_eq_true_eq];subst e;exact List.mem_of_getElem? hy
theorem Zbk {α:Type} {p:α→Prop} {l:List α} {k:Nat} (hk : ¬ (k:Int)<l.length) (h :∀y,y∈l.take k→p y) :∀y,y∈l→p y:=by
 rwa [List.take_of_length_le (by omega)] at h
theorem Zje {α:Type} {l:List α} {k:Nat} {x:α} (h:l[k]? = some x):l.drop k=x :: l.drop (k+1):=by
 obtain ⟨hlt,he⟩:=List.getElem?_eq_some_iff.1 h
 rw [List.drop_eq_getElem_cons hlt,he]
theorem ZpS {α:Type} {l:List α} {k:Nat} (h : ¬ (k:Int)<l.length):l.drop k=[]:=List.drop_eq_nil_of_le (by omega)
def ZcA (l:List Str):Bool:=l.all ZZ && decide l.Nodup && decide (l.length≤3)
def Zco (x:DLetter):Bool:=ZZ x.fr && ZcA x.to_ && decide (0<x.to_.length) && decide (x.text.length≤20)
def Zet (x:DItem):Bool:=Zco ⟨x.fr,x.left,x.text⟩
def ZdB:Int→List DItem→Option Int
 | last,[]=>some last
 | last,x :: r=>if (last+1≤x.id∧x.id≤99)∧Zet x=true then ZdB x.id r else none
def ZaU (q:DQueue):Bool:=match ZdB 0 q.items with
 | some last=>decide (last+1≤q.next) && decide (q.next≤100) && decide (q.items.length≤6)
 | none=>false
theorem ZoR {α:Type} {l:List α} {k:Nat} {x:α} (hx:l[k]? = some x) (h:(l.take k).Nodup) (hn : ¬ x∈l.take k):(l.take (k+1)).Nodup:=by
 rw [List.take_add_one,hx]
 simp only [Option.toList_some]
 rw [List.nodup_append]
 exact ⟨h,by simp,fun a ha b hb=>by rw [List.mem_singleton.1 hb];exact fun e=>hn (e ▸ ha)⟩
theorem Ztd {α:Type} {l:List α} {k:Nat} {x:α} (hx:l[k]? = some x) (h:x∈l.take k) : ¬ l.Nodup:=by
 intro hn
 have e:l=l.take k ++ l.drop k:=(List.take_append_drop k l).symm
 rw [e,Zje hx,List.nodup_append] at hn
 exact hn.2.2 x h x (List.mem_cons_self ..) rfl
theorem ZgE {l:List Str} {k:Nat} {x:Str} (hx:l[k]? = some x) (h:ZZ x=false):false=ZcA l:=by
 simp [ZcA,ZkC hx h]
theorem ZgD {l:List Str} {k:Nat} {x:Str} (hx:l[k]? = some x) (h:x∈l.take k):false=ZcA l:=by
 simp [ZcA,Ztd hx h]
theorem Zhe {l:List Str} {k:Nat} (hk : ¬ (k:Int)<l.length) (ha:(l.take k).all ZZ=true) (hn:(l.take k).Nodup):decide ((l.length:Int)≤3)=ZcA l:=by
 rw [List.take_of_length_le (by omega)] at ha hn
 rw [Bool.eq_iff_iff];simp only [ZcA,ha,decide_eq_true hn,Bool.true_and,decide_eq_true_eq];omega
def Zb8 {α:Type} (p:α→Bool) (xs:List α):Int:=match xs.findIdx? p with | some i=>i | none=>-1
theorem ZgS {α:Type} {p:α→Bool} {xs:List α} {k:Nat} {x:α} (hx:xs[k]? = some x) (he:p x=true) (h :∀y,y∈xs.take k→p y=false):Zb8 p xs=k:=by
 have:xs.findIdx? p=some k:=by
  rw [List.findIdx?_eq_some_iff_getElem]
  obtain ⟨hk,rfl⟩:=List.getElem?_eq_some_iff.1 hx
  refine ⟨hk,he,fun j hj=>?_⟩
  have:=h xs[j] (by rw [List.mem_take_iff_getElem];exact ⟨j,by omega,rfl⟩)
  simpa using this
 rw [Zb8,this]
theorem Zev {α:Type} {p:α→Bool} {xs:List α} (h :∀y,y∈xs→p y=false):Zb8 p xs = -1:=by
 have:xs.findIdx? p=none:=by
  rw [List.findIdx?_eq_none_iff]
  intro x hx
  simpa using h x hx
 rw [Zb8,this]
theorem Zmw {α:Type} {p:α→Bool} {xs:List α} : (0≤Zb8 p xs)↔∃x,x∈xs∧p x=true:=by
 cases h:xs.findIdx? p with
 | none=>
  rw [List.findIdx?_eq_none_iff] at h
  simp only [Zb8,List.findIdx?_eq_none_iff.2 h]
  refine ⟨fun e=>absurd e (by omega),fun ⟨x,hx,hp⟩=>?_⟩
  rw [h x hx] at hp;cases hp
 | some i=>
  simp only [Zb8,h]
  rw [List.findIdx?_eq_some_iff_getElem] at h
  obtain ⟨hi,hp,_⟩:=h
  exact ⟨fun _=>⟨_,List.getElem_mem hi,hp⟩,fun _=>by omega⟩
def Zwc (xs:List Str) (v:Str):Int:=Zb8 (fun x=>decide (x=v)) xs
theorem Zrk {xs:List Str} {v:Str} : (0≤Zwc xs v)↔v∈xs:=by
 rw [Zwc,Zmw];simp
theorem Zmj {q:DQueue} (h:ZdB 0 q.items=none):false=ZaU q:=by simp [ZaU,h]
theorem Zmi {q:DQueue} {last:Int} (h:ZdB 0 q.items=some last):(decide (last+1≤q.next) && decide (q.next≤100) && decide (q.items.length≤6))=ZaU q:=by simp [ZaU,h]
theorem ZoC {q:DQueue} {k:Nat} {last:Int} {x:DItem} (hs:ZdB 0 q.items=ZdB last (q.items.drop k)) (hx:q.items[k]? = some x):ZdB 0 q.items=if (last+1≤x.id∧x.id≤99)∧Zet x=true then ZdB x.id (q.items.drop (k+1)) else none:=by
 rw [hs,Zje hx,ZdB]
theorem Zep (x:DLetter):Zco x=(ZZ x.fr && (decide (1≤x.to_.length) && ZcA x.to_) && decide ((x.text.length:Int)≤20)):=by
 rw [Bool.eq_iff_iff];simp only [Zco,Bool.and_eq_true,decide_eq_true_eq]
 constructor
 ·rintro ⟨⟨⟨a,b⟩,c⟩,d⟩;exact ⟨⟨a,by omega,b⟩,by omega⟩
 ·rintro ⟨⟨a,c,b⟩,d⟩;exact ⟨⟨⟨a,b⟩,by omega⟩,by omega⟩
structure Gh (α:Type) where
 k:Nat
 p:Nat
 l:Cells
 a:Option Addr
 c:Nat
 xs:List α
theorem Zbe {α:Type} {l:List α} {k:Nat} {x:α} (hx:l[k]? = some x):l.take (k+1)=l.take k ++ [x]:=by
 rw [List.take_add_one,hx];rfl
theorem ZoD :∀{xs:List DItem} {l r:Int},ZdB l xs=some r→l≤r
 | [],l,r,h=>by simp only [ZdB,Option.some.injEq] at h;omega
 | x :: xs,l,r,h=>by
  rw [ZdB] at h
  split at h
  ·rename_i e;have:=ZoD h;omega
  ·cases h
theorem ZgB {q:DQueue} (h:ZaU q=true):1≤q.next∧q.next≤100∧q.items.length≤6:=by
 unfold ZaU at h
 split at h
 ·rename_i last e
  have:=ZoD e
  simp only [Bool.and_eq_true,decide_eq_true_eq] at h
  omega
 ·cases h
structure Gh2 (α β:Type) where
 k:Nat
 p:Nat
 l:Cells
 a:Option Addr
 c:Nat
 xs:List α
 e:β
theorem ZpR {α:Type} {xs:List α} {j:Nat} {y:α} (h:xs[j]? = some y):xs.drop j=y :: xs.drop (j+1):=by
 obtain ⟨hj,rfl⟩:=List.getElem?_eq_some_iff.1 h
 exact List.drop_eq_getElem_cons hj
structure QOf where
 p:Option Addr
 ys:List DItem
 xs:List DItem
 l:Cells
 q:Option Addr
 c:Nat
 cells:Cells
theorem ZP.slice0 {α:Type} {B:Kn} {l:Cells} {p:Option Addr} {c:Nat} {T:TypeId} {w sz:Nat} {R:Rel α} {xs:List α} (h:ZP B l p c T w R xs):(if c=0 then p else p.map (fun a=>a.add (0*sz)))=p:=by
 obtain ⟨rows,_,_,_,⟨rfl,_,rfl,_⟩ | ⟨b,arr,rfl,_,_,_,_⟩⟩:=h
 ·rfl
 ·split
  ·rfl
  ·rw [Nat.zero_mul];simp [Addr.add_off]
theorem Zge {q:DQueue} (h : ¬ (q.items.length≤6∧1≤q.next∧q.next≤100)):false=ZaU q:=by
 symm;rw [Bool.eq_false_iff];intro hq
 have:=ZgB hq
 omega
end Go.BL
namespace Go.BL
open Go
def hat (xs:List Int) (k:Nat):Int:=xs.getD k 0
def swp (xs:List Int) (i j:Nat):List Int:=(xs.set i (hat xs j)).set j (hat xs i)
def Zdk (xs:List Int):Prop:=∀k,0<k→k<xs.length→hat xs ((k - 1) / 2)≤hat xs k
def ZfA (xs:List Int) (j:Nat):Prop:=(∀k,0<k→k<xs.length→k≠j→hat xs ((k - 1) / 2)≤hat xs k)∧(∀k,0<k→k<xs.length→(k - 1) / 2=j→0<j→hat xs ((j - 1) / 2)≤hat xs k)
theorem Ztw {xs:List Int} {k:Nat} {a:Int} (h:xs[k]? = some a):hat xs k=a:=by simp [hat,List.getD,h]
theorem ZaI {xs:List Int} {k:Nat} (h:k<xs.length):xs[k]? = some (hat xs k):=by simp [hat,List.getD,List.getElem?_eq_getElem h]
theorem Zc2 (xs:List Int) (i j:Nat):(swp xs i j).length=xs.length:=by simp [swp]
theorem Zew {xs:List Int} {i j:Nat} (hi:i<xs.length) (hj:j<xs.length) (k:Nat):hat (swp xs i j) k=if k=j then hat xs i else if k=i then hat xs j else hat xs k:=by
 simp only [hat,swp,List.getD,List.getElem?_set]
 by_cases h1:k=j
 ·subst h1;simp [hj]
 ·have h1' : ¬j=k:=fun h=>h1 h.symm
  by_cases h2:k=i
  ·subst h2;simp [hi,h1,h1']
  ·have h2' : ¬i=k:=fun h=>h2 h.symm
   simp [h1,h1',h2,h2']
theorem ZfH {xs:List Int} {i j:Nat} (hi:i<xs.length) (hj:j<xs.length):(swp xs i j).Perm xs:=by
 rw [List.perm_iff_count]
 intro a
 unfold swp
 rw [List.count_set (by simpa using hj),List.count_set hi]
 have e1:(xs.set i (hat xs j))[j]'(by simpa using hj)=hat xs j:=by
  rw [List.getElem_set];split
  ·rfl
  ·simp [hat,List.getD,List.getElem?_eq_getElem hj]
 have e2:xs[i]=hat xs i:=by simp [hat,List.getD,List.getElem?_eq_getElem hi]
 rw [e1,e2]
 have hp :∀v,(v == a)=true→v∈xs→0<List.count a xs:=fun v hv hm=>by
  rw [beq_iff_eq] at hv;subst hv;exact List.count_pos_iff.2 hm
 have hm1:hat xs i∈xs:=by rw [← e2];exact List.getElem_mem _
 by_cases h1:(hat xs i == a)=true <;> by_cases h2:(hat xs j == a)=true <;> simp [h1,h2] <;> (try have:=hp _ h1 hm1;omega)
theorem ZsO {xs:List Int} (h:ZfA xs 0):Zdk xs:=fun k h0 hk=>h.1 k h0 hk (by omega)
theorem ZsQ {xs:List Int} {j:Nat} (h:ZfA xs j) (hj:hat xs ((j - 1) / 2)≤hat xs j):Zdk xs:=fun k h0 hk=>by
 by_cases e:k=j
 ·subst e;exact hj
 ·exact h.1 k h0 hk e
theorem ZsP {xs:List Int} {j:Nat} (h0:0<j) (hj:j<xs.length) (h:ZfA xs j) (hlt:hat xs j<hat xs ((j - 1) / 2)):ZfA (swp xs ((j - 1) / 2) j) ((j - 1) / 2):=by
 have hi:(j - 1) / 2<xs.length:=by omega
 have H:=fun k=>Zew hi hj k
 generalize hii:(j - 1) / 2=i at *
 refine ⟨fun k hk0 hk hne=>?_,fun k hk0 hk hpar hi0=>?_⟩
 ·rw [Zc2] at hk
  rw [H,H]
  by_cases e1:k=j
  ·subst e1
   rw [hii];rw [if_neg (by omega),if_pos rfl,if_pos rfl];omega
  ·rw [if_neg e1,if_neg hne]
   by_cases e2:(k - 1) / 2=j
   ·rw [if_pos e2];have:=h.2 k hk0 hk e2 h0;rw [hii] at this;exact this
   ·rw [if_neg e2]
    by_cases e3:(k - 1) / 2=i
    ·rw [if_pos e3];have:=h.1 k hk0 hk e1;rw [e3] at this;omega
    ·rw [if_neg e3];exact h.1 k hk0 hk e1
 ·rw [Zc2] at hk
  rw [H,H]
  have hpi:(i - 1) / 2≠i:=by omega
  have hpj:(i - 1) / 2≠j:=by omega
  rw [if_neg hpj,if_neg hpi]
  have hii2:=h.1 i hi0 hi (by omega)
  by_cases e1:k=j
  ·rw [if_pos e1];exact hii2
  ·rw [if_neg e1,if_neg (by omega)]
   have:=h.1 k hk0 hk e1;rw [hpar] at this;omega
theorem Zrn {xs:List Int} (h:Zdk xs) :∀k,k<xs.length→hat xs 0≤hat xs k:=fun k=>by
 induction k using Nat.strongRecOn with
 | ind k ih=>
  intro hk
  by_cases h0:k=0
  ·subst h0;exact Int.le_refl _
  ·have h1:=ih ((k - 1) / 2) (by omega) (by omega)
   have h2:=h k (by omega) hk
   omega
def Zr2 (xs:List Int) (n:Nat):Prop:=∀k,0<k→k<n→hat xs ((k - 1) / 2)≤hat xs k
def ZeE (xs:List Int) (n i:Nat):Prop:=(∀k,0<k→k<n→(k - 1) / 2≠i→hat xs ((k - 1) / 2)≤hat xs k)∧(∀k,0<k→k<n→(k - 1) / 2=i→0<i→hat xs ((i - 1) / 2)≤hat xs k)
theorem ZpT {xs:List Int} {n i:Nat} (h:ZeE xs n i) (hl:n≤2*i+1):Zr2 xs n:=fun k h0 hk=>h.1 k h0 hk (by omega)
theorem ZhB {xs:List Int} {n i:Nat} (h:ZeE xs n i) (hc :∀k,0<k→k<n→(k - 1) / 2=i→hat xs i≤hat xs k):Zr2 xs n:=fun k h0 hk=>by
 by_cases e:(k - 1) / 2=i
 ·rw [e];exact hc k h0 hk e
 ·exact h.1 k h0 hk e
theorem ZhA {xs:List Int} {n i j:Nat} (hn:n≤xs.length) (hj0:0<j) (hj:j<n) (hpj:(j - 1) / 2=i) (h:ZeE xs n i) (hmin :∀k,0<k→k<n→(k - 1) / 2=i→hat xs j≤hat xs k) (hlt:hat xs j<hat xs i):ZeE (swp xs i j) n j:=by
 have hi:i<xs.length:=by omega
 have hij:i≠j:=by omega
 have H:=fun k=>Zew hi (show j<xs.length by omega) k
 refine ⟨fun k hk0 hk hne=>?_,fun k hk0 hk hpar _=>?_⟩
 ·rw [H,H,if_neg hne]
  by_cases e1:k=j
  ·subst e1;rw [if_pos hpj,if_pos rfl];omega
  ·rw [if_neg e1]
   by_cases e2:(k - 1) / 2=i
   ·rw [if_pos e2,if_neg (by omega)];exact hmin k hk0 hk e2
   ·rw [if_neg e2]
    by_cases e3:k=i
    ·rw [if_pos e3];subst e3;exact h.2 j hj0 hj hpj hk0
    ·rw [if_neg e3];exact h.1 k hk0 hk e2
 ·rw [H,H,hpj,if_neg hij,if_pos rfl,if_neg (by omega),if_neg (by omega)]
  have:=h.1 k hk0 hk (by omega)
  rwa [hpar] at this
theorem ZvT (k:Nat):Int.tdiv ((k:Int) - 1) 2=(((k - 1) / 2:Nat):Int):=by
 cases k with
 | zero=>rfl
 | succ k=>rw [show ((k+1:Nat):Int) - 1=(k:Int) from by omega,Int.tdiv_eq_ediv_of_nonneg (by omega)];simp
theorem Zpn {xs:List Int} {z:Int} {k:Nat} (h:k<xs.length):hat (xs ++ [z]) k=hat xs k:=by
 simp [hat,List.getD,List.getElem?_append_left h]
theorem ZqQ {xs:List Int} {z:Int} (h:Zdk xs):ZfA (xs ++ [z]) xs.length:=by
 refine ⟨fun k h0 hk hne=>?_,fun k h0 hk hp _=>?_⟩
 ·rw [List.length_append,List.length_singleton] at hk
  rw [Zpn (by omega),Zpn (by omega)]
  exact h k h0 (by omega)
 ·rw [List.length_append,List.length_singleton] at hk
  omega
theorem Zs2 {xs:List Int} (h:Zdk xs) (h0:0<xs.length):ZeE (swp xs 0 (xs.length - 1)) (xs.length - 1) 0:=by
 refine ⟨fun k hk0 hk hne=>?_,fun k hk0 hk hpar hh=>absurd hh (by omega)⟩
 rw [Zew h0 (by omega),Zew h0 (by omega),if_neg (by omega),if_neg (by omega),if_neg (by omega),if_neg (by omega)]
 exact h k hk0 (by omega)
theorem ZqJ {xs:List Int} (h0:0<xs.length):hat (swp xs 0 (xs.length - 1)) (xs.length - 1)=hat xs 0:=by rw [Zew h0 (by omega),if_pos rfl]
theorem Zmy {xs:List Int} {n k:Nat} (h:k<n):hat (xs.take n) k=hat xs k:=by simp [hat,List.getD,List.getElem?_take,h]
theorem Znt {ys:List Int} {n:Nat} (h:Zr2 ys n) (hn:n≤ys.length):Zdk (ys.take n):=fun k h0 hk=>by
 rw [List.length_take] at hk
 rw [Zmy (by omega),Zmy (by omega)]
 exact h k h0 (by omega)
theorem ZqT {xs ys:List Int} (h0:0<ys.length) (hp:ys.Perm xs) {z:Int} (hz:hat ys (ys.length - 1)=z):(z :: ys.take (ys.length - 1)).Perm xs:=by
 refine List.Perm.trans ?_ hp
 have e:ys=ys.take (ys.length - 1) ++ [z]:=by
  have h1:=Zbe (ZaI (xs:=ys) (k:=ys.length - 1) (by omega))
  rw [show ys.length - 1+1=ys.length from by omega,List.take_length] at h1
  rw [hz] at h1;exact h1
 have h2:(z :: ys.take (ys.length - 1)).Perm (ys.take (ys.length - 1) ++ [z]):=(List.perm_append_singleton z _).symm
 rwa [← e] at h2
theorem Zrm:Zdk []:=fun k h0 hk=>by simp at hk
def asc:Int→Int→List Int→Bool
 | _,_,[]=>true
 | b,l,x :: r=>decide (b<x) && decide (x≤l) && asc x l r
theorem Zqd :∀{r:List Int} {b l z:Int},asc b l r=true→z∈r→b<z
 | [],_,_,_,_,hz=>by cases hz
 | x :: r,b,l,z,h,hz=>by
  simp only [asc,Bool.and_eq_true,decide_eq_true_eq] at h
  rcases List.mem_cons.1 hz with rfl | hz
  ·exact h.1.1
  ·have:=Zqd h.2 hz;omega
theorem Ztv {xs:List Int} {k:Nat} (h:k<xs.length):hat xs k∈xs:=List.mem_of_getElem? (ZaI h)
theorem ZrO {b l x:Int} {r ys:List Int} (hp:ys.Perm (x :: r)) (hh:Zdk ys) (hne:hat ys 0≠x):false=asc b l (x :: r):=by
 symm;rw [Bool.eq_false_iff]
 intro h
 have h0:0<ys.length:=by rw [hp.length_eq];simp
 have hm:=hp.mem_iff.1 (Ztv h0)
 simp only [asc,Bool.and_eq_true,decide_eq_true_eq] at h
 rcases List.mem_cons.1 hm with e | hm
 ·exact hne e
 ·have h1:=Zqd h.2 hm
  obtain ⟨k,hk⟩:=List.mem_iff_getElem?.1 (hp.mem_iff.2 (List.mem_cons_self (a:=x) (l:=r)))
  have h2:=Zrn hh k (List.getElem?_eq_some_iff.1 hk).1
  rw [Ztw hk] at h2
  omega
theorem ZrN {b l x:Int} {r:List Int} (h:x≤b):false=asc b l (x :: r):=by simp [asc,show ¬ b<x from by omega]
theorem ZrM {b l x:Int} {r:List Int} (h:l<x):false=asc b l (x :: r):=by simp [asc,show ¬ x≤l from by omega]
theorem Zvn {b l x:Int} {r:List Int} (h : ¬ x≤b) (h2 : ¬ l<x):asc b l (x :: r)=asc x l r:=by simp [asc,show b<x from by omega,show x≤l from by omega]
theorem Zmd :∀{xs:List DItem} {b:Int} {l:Int},l≤99→(match ZdB b xs with | some r=>decide (r≤l) | none=>false)=(decide (b≤l) && xs.all Zet && asc b l (xs.map (·.id)))
 | [],b,l,_=>by simp [ZdB,asc]
 | x :: xs,b,l,hl=>by
  have ih:=Zmd (xs:=xs) (b:=x.id) hl
  rw [ZdB,List.map_cons,List.all_cons,asc]
  by_cases h1:b+1≤x.id
  ·by_cases h2:Zet x=true
   ·by_cases h3:x.id≤99
    ·rw [if_pos ⟨⟨h1,h3⟩,h2⟩,ih,h2]
     by_cases h4:x.id≤l
     ·simp [h4,show b≤l from by omega,show b<x.id from by omega]
     ·simp [h4]
    ·rw [if_neg (fun h=>h3 h.1.2)]
     simp [show ¬ x.id≤l from by omega]
   ·rw [if_neg (fun h=>h2 h.2)]
    simp [h2]
  ·rw [if_neg (fun h=>h1 h.1.1)]
   simp [show ¬ b<x.id from by omega]
theorem Zfl (q:DQueue):ZaU q=(decide (q.items.length≤6) && decide (1≤q.next) && decide (q.next≤100) && q.items.all Zet && asc 0 (q.next - 1) (q.items.map (·.id))):=by
 by_cases h:q.next≤100
 ·have:=Zmd (xs:=q.items) (b:=0) (l:=q.next - 1) (by omega)
  unfold ZaU
  cases hs:ZdB 0 q.items with
  | none=>
   rw [hs] at this
   simp only at this
   rw [Bool.eq_iff_iff]
   simp only [Bool.and_eq_true,decide_eq_true_eq,Bool.false_eq_true,false_iff]
   rintro ⟨⟨⟨⟨_,h1⟩,_⟩,h2⟩,h3⟩
   rw [h2,h3] at this
   simp at this;omega
  | some r=>
   rw [hs] at this
   simp only at this
   rw [Bool.eq_iff_iff] at this ⊢
   simp only [Bool.and_eq_true,decide_eq_true_eq] at this ⊢
   constructor
   ·rintro ⟨⟨h1,h2⟩,h3⟩
    obtain ⟨⟨a,b⟩,c⟩:=this.1 (by omega)
    exact ⟨⟨⟨⟨h3,by omega⟩,h⟩,b⟩,c⟩
   ·rintro ⟨⟨⟨⟨h1,h2⟩,h3⟩,h4⟩,h5⟩
    have:=this.2 ⟨⟨by omega,h4⟩,h5⟩
    omega
 ·unfold ZaU
  cases ZdB 0 q.items <;> simp [h]
theorem Zvq {α:Type} {p:α→Bool} {l:List α} {k:Nat} {x:α} (hx:l[k]? = some x) (h:p x=false):l.all p=false:=by
 rw [Bool.eq_false_iff];intro hp
 rw [List.all_eq_true] at hp
 have:=hp x (List.mem_of_getElem? hx)
 rw [h] at this;cases this
theorem Zvp {α:Type} {p:α→Bool} {l:List α} {k:Nat} {x:α} (hx:l[k]? = some x) (h:p x=true) (ha:(l.take k).all p=true):(l.take (k+1)).all p=true:=by
 rw [Zbe hx,List.all_append,ha];simp [h]
theorem Zk6 {q:DQueue} {k:Nat} {x:DItem} (hx:q.items[k]? = some x) (h:Zet x=false):false=ZaU q:=by
 rw [Zfl,Zvq hx h];simp
theorem Zk5 {q:DQueue} {k:Nat} (hk : ¬ (k:Int)<q.items.length) (ha:(q.items.take k).all Zet=true) (h6:q.items.length≤6) (h1:1≤q.next) (h2:q.next≤100):asc 0 (q.next - 1) (q.items.map (·.id))=ZaU q:=by
 rw [List.take_of_length_le (by omega)] at ha
 rw [Zfl,ha];simp [h6,h1,h2]
theorem ZjS {q:DQueue} (h:ZaU q=true) {x:DItem} (hx:x∈q.items):Zet x=true:=by
 rw [Zfl] at h
 simp only [Bool.and_eq_true] at h
 exact List.all_eq_true.1 h.1.2 x hx
end Go.BL
namespace Go.BL
open Go
def ZcG (m:DMail):Bool:=(decide (1≤m.uid) && decide (m.uid≤99)) && (decide (0≤m.flags) && decide (m.flags≤31)) && decide (m.text.length≤20)
def scn {α β:Type} (p:β→α→Bool) (nx:β→α→β) (b0:β) (xs:List α):Bool × β:=xs.foldl (fun s x=>(s.1 && p s.2 x,nx s.2 x)) (true,b0)
theorem Zfi {α β:Type} {p:β→α→Bool} {nx:β→α→β} {b0:β} {xs:List α} : scn p nx b0 (xs.take 0)=(true,b0):=by simp [scn]
theorem Zma {α β:Type} {p:β→α→Bool} {nx:β→α→β} {b0:β} {xs:List α} {k:Nat} {x:α} (hx:xs[k]? = some x):scn p nx b0 (xs.take (k+1))=((scn p nx b0 (xs.take k)).1 && p (scn p nx b0 (xs.take k)).2 x,nx (scn p nx b0 (xs.take k)).2 x):=by
 have:xs.take (k+1)=xs.take k ++ [x]:=by rw [List.take_add_one,hx];rfl
 rw [this,scn,List.foldl_append];rfl
theorem Zcq {α β:Type} {p:β→α→Bool} {nx:β→α→β} :∀(xs:List α) (b:β),(xs.foldl (fun (s:Bool × β) x=>(s.1 && p s.2 x,nx s.2 x)) (false,b)).1=false
 | [],_=>rfl
 | x :: xs,b=>by simp only [List.foldl_cons,Bool.false_and];exact Zcq xs _
theorem ZsY {α β:Type} {p:β→α→Bool} {nx:β→α→β} {b0:β} {xs:List α} {k:Nat} (h:(scn p nx b0 (xs.take k)).1=false):(scn p nx b0 xs).1=false:=by
 have e:xs=xs.take k ++ xs.drop k:=(List.take_append_drop k xs).symm
 have:scn p nx b0 xs=(xs.drop k).foldl (fun s x=>(s.1 && p s.2 x,nx s.2 x)) (scn p nx b0 (xs.take k)):=by
  conv=>lhs;rw [e,scn,List.foldl_append]
  rfl
 rw [this]
 rcases hs:scn p nx b0 (xs.take k) with ⟨b,c⟩
 rw [hs] at h
 simp only at h
 subst h
 exact Zcq _ _
theorem Zfj {α β:Type} {p:β→α→Bool} {nx:β→α→β} {b0:β} {xs:List α} {k:Nat} {x:α} (hx:xs[k]? = some x) (h:p (scn p nx b0 (xs.take k)).2 x=false):(scn p nx b0 xs).1=false:=
 ZsY (k:=k+1) (by rw [Zma hx,h,Bool.and_false])
theorem Zcn {α β:Type} {p:β→α→Bool} {nx:β→α→β} {b0 b:β} {xs:List α} {k:Nat} {x:α} (hx:xs[k]? = some x) (hs:scn p nx b0 (xs.take k)=(true,b)) (h:p b x=true):scn p nx b0 (xs.take (k+1))=(true,nx b x):=by
 rw [Zma hx,hs];simp [h]
theorem ZdX {α β:Type} {p:β→α→Bool} {nx:β→α→β} {b0 b:β} {xs:List α} {k:Nat} (hs:scn p nx b0 (xs.take k)=(true,b)) (hk:xs.length≤k):scn p nx b0 xs=(true,b):=by
 rwa [List.take_of_length_le hk] at hs
def Zd0 (b:Int) (m:DMail):Bool:=ZcG m && decide (b<m.uid)
def ZcM (ms:List DMail):Bool × Int:=scn Zd0 (fun _ m=>m.uid) 0 ms
def ZeY (b:DBox):Bool:=(ZcM b.mail).1 && (decide ((ZcM b.mail).2+1≤b.next) && decide (b.next≤100)) && decide (b.mail.length≤10)
def ZaS (ms:List DMail):Nat:=(ms.map (·.text.length)).sum
theorem Zg7 {ms:List DMail} {k:Nat} {x:DMail} (hx:ms[k]? = some x):ZaS (ms.take (k+1))=ZaS (ms.take k)+x.text.length:=by
 have:ms.take (k+1)=ms.take k ++ [x]:=by rw [List.take_add_one,hx];rfl
 simp [ZaS,this]
theorem Zf1 {b:DBox} (h:(ZcM b.mail).1=false):ZeY b=false:=by simp [ZeY,h]
theorem Zf0 {b:DBox} {l:Int} (h:ZcM b.mail=(true,l)):ZeY b=((decide (l+1≤b.next) && decide (b.next≤100)) && decide (b.mail.length≤10)):=by simp [ZeY,h]
theorem Zh9 {m:DMail} (h:ZcG m=true):0≤m.uid∧m.uid≤99:=by
 simp only [ZcG,Bool.and_eq_true,decide_eq_true_eq] at h;omega
theorem Zh3 {ms:List DMail} {k n:Nat} (h:n=ZaS (ms.take k)) (hk:ms.length≤k):n=ZaS ms:=by rwa [List.take_of_length_le hk] at h
def Zdw (b:DBox):Int:=if ZeY b then (ZaS b.mail:Int) else -1
def anyone:Str:=[97,110,121,111,110,101]
def ZcE (u:DUser):Bool:=ZZ u.name && decide (u.name≠anyone) && ZZ u.pass && (decide (0≤u.quota) && decide (u.quota≤200))
theorem Zay :∀(a b:Str),Op.bytesLess a b = !(Op.bytesLess b a || decide (b=a))
 | [],[]=>by simp [Op.bytesLess]
 | [],_ :: _=>by simp [Op.bytesLess]
 | _ :: _,[]=>by simp [Op.bytesLess]
 | a :: x,b :: y=>by
  have ih:=Zay x y
  simp only [Op.bytesLess,ih]
  rcases UInt8.lt_or_lt_of_ne (a:=a) (b:=b) with h
  by_cases e:a=b
  ·subst e
   have : ¬ a<a:=UInt8.lt_irrefl a
   simp [this,ih]
  ·rcases h e with h | h
   ·have h2 : ¬ b<a:=UInt8.lt_asymm h
    simp [h,h2,e,Ne.symm e]
   ·have h2 : ¬ a<b:=UInt8.lt_asymm h
    simp [h,h2,e]
def Zeg (b:Str) (u:DUser):Bool:=ZcE u && Op.bytesLess b u.name
def ZdR (us:List DUser):Bool × Str:=scn Zeg (fun _ u=>u.name) [] us
def Zas (us:List DUser):Bool:=(ZdR us).1 && (decide (1≤us.length) && decide (us.length≤4))
theorem Zfe {us:List DUser} (h:(ZdR us).1=false):Zas us=false:=by simp [Zas,h]
theorem Zg3 {us:List DUser} {b:Str} (h:ZdR us=(true,b)):Zas us=(decide (1≤us.length) && decide (us.length≤4)):=by simp [Zas,h]
def ZoQ:DUser:=⟨[],[],0⟩
def Zfv (t:DUser→Bool) (us:List DUser):DUser × Bool:=match us.find? t with | some x=>(x,true) | none=>(ZoQ,false)
theorem Zkq {α:Type} {t:α→Bool} {xs:List α} (h :∀y,y∈xs→t y=false):xs.find? t=none:=List.find?_eq_none.2 fun y hy=>by simp [h y hy]
theorem Zry {α:Type} {t:α→Bool} {xs:List α} {k:Nat} {x:α} (hx:xs[k]? = some x) (ht:t x=true) (h :∀y,y∈xs.take k→t y=false):xs.find? t=some x:=by
 have hlt:=(List.getElem?_eq_some_iff.1 hx).1
 have e:xs=xs.take k ++ (x :: xs.drop (k+1)):=by
  rw [← (List.getElem?_eq_some_iff.1 hx).2,← List.drop_eq_getElem_cons hlt,List.take_append_drop]
 rw [e,List.find?_append,Zkq h];simp [ht]
theorem ZpD {t:DUser→Bool} {us:List DUser} {k:Nat} {x:DUser} (hx:us[k]? = some x) (ht:t x=true) (h :∀y,y∈us.take k→t y=false):Zfv t us=(x,true):=by simp [Zfv,Zry hx ht h]
theorem Znz {t:DUser→Bool} {us:List DUser} (h :∀y,y∈us→t y=false):Zfv t us=(ZoQ,false):=by simp [Zfv,Zkq h]
theorem ZiH {B:Kn} {b:Nat} {T:TypeId} {vs:List Value} (h :∀p,p∈Zar b vs T→B.mem p.1=some p.2):Zae B b 0 vs:=fun L j u hu=>
 ⟨rfl,vs.toArray,T,(0,0),.inl (h (b,.cells vs.toArray T) (List.mem_singleton.2 rfl)),by simpa using hu⟩
def Z9 (us:List DUser) (n:Str):DUser × Bool:=if Zas us then Zfv (fun y=>decide (y.name=n)) us else (ZoQ,false)
def inF (o n:Str) (f:DFolder):Bool:=decide (f.owner=o) && decide (f.name=n)
def ZcO (us:List DUser) (x:DItem):Bool:=(Z9 us x.fr).2 && x.left.all fun n=>(Z9 us n).2
theorem Zdq {α:Type} {p:α→Bool} {xs:List α} {k:Nat} {x:α} (hx:xs[k]? = some x) (h:p x=false):xs.all p=false:=by
 rw [List.all_eq_false];exact ⟨x,List.mem_of_getElem? hx,by simp [h]⟩
theorem ZeS {α:Type} {p:α→Bool} {xs:List α} (h :∀y,y∈xs→p y=true):xs.all p=true:=List.all_eq_true.2 h
def Zeq (a b:DFolder):Bool:=Op.bytesLess a.owner b.owner || (decide (a.owner=b.owner) && Op.bytesLess a.name b.name)
theorem ZaL (a:Str):Op.bytesLess a a=false:=by
 have:=Zay a a
 cases h:Op.bytesLess a a with
 | false=>rfl
 | true=>rw [h] at this;simp at this
end Go.BL
namespace Go.BL
open Go
inductive Prev {α β:Type} (f:α→β) (z:β) (xs:List α):Nat→β→Prop
 | zero:Prev f z xs 0 z
 | succ {k:Nat} {x:α} : xs[k]? = some x→Prev f z xs (k+1) (f x)
theorem Prev.at {α β:Type} {f:α→β} {z:β} {xs:List α} {k:Nat} {b:β} {y:α} (h:Prev f z xs k b) (hy:xs[((k:Int) - 1).toNat]? = some y) (hk:0<(k:Int)):b=f y:=by
 cases h with
 | zero=>omega
 | succ hx=>
  rename_i k x
  rw [show (((k+1:Nat):Int) - 1).toNat=k from by omega,hx] at hy
  cases hy;rfl
theorem Prev.at0 {α β:Type} {f:α→β} {z:β} {xs:List α} {k:Nat} {b:β} (h:Prev f z xs k b) (hk:(k:Int)≤0):b=z:=by
 cases h with
 | zero=>rfl
 | succ hx=>omega
theorem ZiE {α β:Type} {p:β→α→Bool} {nx:β→α→β} {b0 b:β} {xs:List α} {k:Nat} {x:α} (hx:xs[k]? = some x) (hs:scn p nx b0 (xs.take k)=(true,b)) (h:p b x=false):(scn p nx b0 xs).1=false:=
 Zfj hx (by rw [congrArg Prod.snd hs];exact h)
theorem Zc0 {us:List DUser} {k:Nat} {x:DUser} {nm:Str} (hx:us[k]? = some x) (hs:ZdR (us.take k)=(true,nm)) (h:Zeg nm x=false):Zas us=false:=
 Zfe (ZiE hx hs h)
theorem ZiM {s:Str} (h:0<s.length):Op.bytesLess [] s=true:=by
 cases s with
 | nil=>cases h
 | cons a s=>rfl
theorem Zgf {s:Str} (h:ZZ s=true):0<s.length:=by
 cases s with
 | nil=>simp [ZZ] at h
 | cons a s=>simp
def Za1 (b:Str) (g:DGrant):Bool:=ZZ g.user && (decide (1≤g.rights) && decide (g.rights≤63)) && Op.bytesLess b g.user
def Zb1 (gs:List DGrant):Bool × Str:=scn Za1 (fun _ g=>g.user) [] gs
def ZaF (gs:List DGrant):Bool:=(Zb1 gs).1 && decide (gs.length≤4)
theorem Zdh {gs:List DGrant} {k:Nat} {x:DGrant} {nm:Str} (hx:gs[k]? = some x) (hs:Zb1 (gs.take k)=(true,nm)) (h:Za1 nm x=false):ZaF gs=false:=by
 rw [ZaF,show (Zb1 gs).1=false from ZiE hx hs h,Bool.false_and]
theorem ZkD {gs:List DGrant} {b:Str} (h:Zb1 gs=(true,b)):ZaF gs=decide (gs.length≤4):=by rw [ZaF,h,Bool.true_and]
def DFolder.box (f:DFolder):DBox:=⟨f.next,f.mail⟩
def inbox:Str:=[105,110,98,111,120]
def ZX (us:List DUser) (f:DFolder):Bool:=decide (0≤Zei us f.owner) && ZZ f.name && ZaF f.grants && ZeY f.box
def Zbi (us:List DUser) (b:Option DFolder) (f:DFolder):Bool:=ZX us f && (match b with | none=>true | some y=>Zeq y f)
def ZcV (us:List DUser) (fs:List DFolder):Bool × Option DFolder:=scn (Zbi us) (fun _ f=>some f) none fs
def Zb3 (us:List DUser) (fs:List DFolder):Bool:=(ZcV us fs).1 && decide (fs.length≤8)
theorem Zb2 {us:List DUser} {fs:List DFolder} {k:Nat} {x:DFolder} {b:Option DFolder} (hx:fs[k]? = some x) (hs:ZcV us (fs.take k)=(true,b)) (h:Zbi us b x=false):Zb3 us fs=false:=by
 rw [Zb3,show (ZcV us fs).1=false from ZiE hx hs h,Bool.false_and]
theorem Zja {us:List DUser} {fs:List DFolder} {b:Option DFolder} (h:ZcV us fs=(true,b)):Zb3 us fs=decide (fs.length≤8):=by rw [Zb3,h,Bool.true_and]
def Zdt (fs:List DFolder) (u:Str):Nat:=(fs.map fun f=>if f.owner=u then ZaS f.mail else 0).sum
theorem Zh1 {fs:List DFolder} {u:Str} {k:Nat} {x:DFolder} (hx:fs[k]? = some x):Zdt (fs.take (k+1)) u=Zdt (fs.take k) u+if x.owner=u then ZaS x.mail else 0:=by
 have:fs.take (k+1)=fs.take k ++ [x]:=by rw [List.take_add_one,hx];rfl
 simp [Zdt,this]
theorem Zog {fs:List DFolder} {u:Str} {k n:Nat} (h:n=Zdt (fs.take k) u) (hk:fs.length≤k):n=Zdt fs u:=by rwa [List.take_of_length_le hk] at h
def Zke (us:List DUser) (ns:List Str):Bool:=ns.all fun n=>decide (0≤Zei us n)
def ZaY (fs:List DFolder) (u:DUser):Bool:=decide (0≤Zb8 (inF u.name inbox) fs) && decide ((Zdt fs u.name:Int)≤u.quota)
def ZaM (us:List DUser) (x:DItem):Bool:=decide (0≤Zei us x.fr) && Zke us x.left
def Z7 (h:DHost):Bool:=Zcz h.domain && Zas h.users && ZaU h.queue && Zb3 h.users h.folders && h.users.all (ZaY h.folders) && h.queue.items.all (ZaM h.users)
theorem Zad {B:Kn} {q:Option Addr} {cp:Nat} {ms:List DMail} (h:SlK B q cp 3 Zam ms):ZaS ms≤4000000000000:=by
 have h1 :∀m,m∈ms→m.text.length≤2000000:=fun m hm=>by
  obtain ⟨i,hi⟩:=List.mem_iff_getElem?.1 hm
  obtain ⟨b,o,row,_,h2,_⟩:=h.rows i m hi
  exact h2.2
 have h2 :∀l:List DMail,(∀m,m∈l→m.text.length≤2000000)→ZaS l≤l.length*2000000:=by
  intro l
  induction l with
  | nil=>intro _;simp [ZaS]
  | cons m l ih=>
   intro hl
   have:=ih fun y hy=>hl y (List.mem_cons_of_mem _ hy)
   have:=hl m (List.mem_cons_self ..)
   simp only [ZaS,List.map_cons,List.sum_cons,List.length_cons] at *
   omega
 have:=h2 ms h1
 have:=h.len
 omega
theorem Zhn {h:DHost} {k:Nat} {u:DUser} (hu:h.users[k]? = some u) (hf:ZaY h.folders u=false):Z7 h=false:=by
 rw [Z7,Zdq hu hf,Bool.and_false,Bool.false_and]
theorem Zhp {h:DHost} {k:Nat} {y:DItem} (hy:h.queue.items[k]? = some y) (hf:ZaM h.users y=false):Z7 h=false:=by
 rw [Z7,Zdq hy hf,Bool.and_false]
theorem Zno {h:DHost} (h1:Zcz h.domain=true) (h2:Zas h.users=true) (h3:ZaU h.queue=true) (h4:Zb3 h.users h.folders=true) (h5:h.users.all (ZaY h.folders)=true) (h6:h.queue.items.all (ZaM h.users)=true):Z7 h=true:=by
 rw [Z7,h1,h2,h3,h4,h5,h6];rfl
theorem ZjF {fs:List DFolder} {u:DUser} (h:Zb8 (inF u.name inbox) fs<0):ZaY fs u=false:=by
 rw [ZaY,decide_eq_false (by omega),Bool.false_and]
theorem ZjE {fs:List DFolder} {u:DUser} (h:u.quota<Zdt fs u.name):ZaY fs u=false:=by
 rw [ZaY,decide_eq_false (p:=(Zdt fs u.name:Int)≤u.quota) (by omega),Bool.and_false]
theorem ZjD {fs:List DFolder} {u:DUser} (h:0≤Zb8 (inF u.name inbox) fs) (h':(Zdt fs u.name:Int)≤u.quota):ZaY fs u=true:=by
 rw [ZaY,decide_eq_true h,decide_eq_true h'];rfl
theorem Zi0 {us:List DUser} {x:DItem} (h:Zei us x.fr<0):ZaM us x=false:=by rw [ZaM,decide_eq_false (by omega),Bool.false_and]
theorem ZiZ {us:List DUser} {x:DItem} (h:Zke us x.left=false):ZaM us x=false:=by rw [ZaM,h,Bool.and_false]
theorem ZiY {us:List DUser} {x:DItem} (h:0≤Zei us x.fr) (h':Zke us x.left=true):ZaM us x=true:=by rw [ZaM,decide_eq_true h,h'];rfl
theorem Zbn :∀{a b c:Str},Op.bytesLess a b=true→Op.bytesLess b c=true→Op.bytesLess a c=true
 | [],[],_,h,_=>by simp [Op.bytesLess] at h
 | _ :: _,[],_,h,_=>by simp [Op.bytesLess] at h
 | _,_ :: _,[],_,h=>by simp [Op.bytesLess] at h
 | [],_ :: _,_ :: _,_,_=>by simp [Op.bytesLess]
 | a :: x,b :: y,c :: z,h,h'=>by
  simp only [Op.bytesLess,Bool.or_eq_true,decide_eq_true_eq,Bool.and_eq_true,beq_iff_eq] at h h' ⊢
  rcases h with h | ⟨rfl,h⟩
  ·rcases h' with h' | ⟨rfl,h'⟩
   ·exact .inl (UInt8.lt_trans h h')
   ·exact .inl h
  ·rcases h' with h' | ⟨rfl,h'⟩
   ·exact .inl h'
   ·exact .inr ⟨rfl,Zbn h h'⟩
def ZcB (gs:List DGrant):List (Str × Int):=gs.map fun g=>(g.user,g.rights)
theorem ZgH :∀(xs:List DGrant) (b0 b:Str),xs.foldl (fun s x=>(s.1 && Za1 s.2 x,x.user)) (true,b0)=(true,b)→(∀y,y∈xs→y.user=b∨Op.bytesLess y.user b=true)∧(b=b0∨Op.bytesLess b0 b=true)
 | [],b0,b,h=>by
  cases h;exact ⟨by simp,.inl rfl⟩
 | x :: xs,b0,b,h=>by
  simp only [List.foldl_cons,Bool.true_and] at h
  cases hp:Za1 b0 x with
  | false=>
   rw [hp] at h
   have:=Zcq (p:=Za1) (nx:=fun _ g=>g.user) xs x.user
   rw [h] at this;cases this
  | true=>
   rw [hp] at h
   obtain ⟨h1,h2⟩:=ZgH xs x.user b h
   have hl:Op.bytesLess b0 x.user=true:=by
    simp only [Za1,Bool.and_eq_true] at hp;exact hp.2
   refine ⟨fun y hy=>?_,.inr ?_⟩
   ·rcases List.mem_cons.1 hy with rfl | hy
    ·rcases h2 with h2 | h2
     ·exact .inl h2.symm
     ·exact .inr h2
    ·exact h1 y hy
   ·rcases h2 with rfl | h2
    ·exact hl
    ·exact Zbn hl h2
theorem Zq7 {kvs:List (Str × Int)} {k:Str} {v:Int} (h:k ∉ kvs.map (·.1)):mput kvs k v=kvs ++ [(k,v)]:=by
 induction kvs with
 | nil=>rfl
 | cons p r ih=>
  simp only [List.map_cons,List.mem_cons,not_or] at h
  simp only [mput,if_neg h.1,ih h.2,List.cons_append]
theorem Ztk {gs:List DGrant} {k:Nat} {m:DGrant} {nm:Str} (hm:gs[k]? = some m) (hs:Zb1 (gs.take k)=(true,nm)) (hl:Op.bytesLess nm m.user=true):mput (ZcB (gs.take k)) m.user m.rights=ZcB (gs.take (k+1)):=by
 have h1:=(ZgH _ _ _ hs).1
 rw [Zq7]
 ·rw [ZcB,ZcB,List.take_add_one,hm];simp
 ·intro hc
  simp only [ZcB,List.map_map,List.mem_map,Function.comp] at hc
  obtain ⟨y,hy,e⟩:=hc
  rcases h1 y hy with h | h
  ·rw [← e,h,ZaL] at hl;cases hl
  ·rw [e] at h
   have:=Zbn hl h
   rw [ZaL] at this;cases this
def ZlW (gs:List DGrant) (B:Kn):Value→Kn→List Cells→Prop:=fun v B' Ls=>∃m l,v = .tuple #[.map m,.bool (ZaF gs)]∧Ls=[l]∧B'=B∧(ZaF gs=true→∃b,m=some b∧Zjs l b (ZcB gs))
theorem Zhz {P:PJ} {S:Env} {B:Kn} {L:List Cells} {rs:List ResultVar} {gs:List DGrant} (e:Exit) (he:e = .ret∨e = .normal) (vs:List Value) (hr:Zcr P S B L rs vs) (h:ZaF gs=false) (hv:Zc4 vs = .tuple #[.map none,.bool false]:=by rfl):Zfy P rs (ZlW gs B) e S [] B L:=
 Zyu e he vs hr ⟨none,[],by rw [hv,h],rfl,rfl,fun hc=>by rw [h] at hc;cases hc⟩
theorem ZtN {P:PJ} {S:Env} {B:Kn} {L:List Cells} {rs:List ResultVar} {gs:List DGrant} (e:Exit) (he:e = .ret∨e = .normal) (vs:List Value) {b:Nat} {l:Cells} {r:List Cells} (hp:Zau L [0]=some ([l],r)) (hr:Zcr P S B L rs vs) (h:ZaF gs=true) (hm:Zjs l b (ZcB gs)) (hv:Zc4 vs = .tuple #[.map (some b),.bool true]:=by rfl):Zfy P rs (ZlW gs B) e S [] B L:=
 Zdl e he vs [0] hp hr ⟨some b,l,by rw [hv,h],rfl,rfl,fun _=>⟨b,rfl,hm⟩⟩
def Zvi (f:DFolder) (ow nm:Str):Int:=if Lib.compareBytes f.owner ow≠0 then Lib.compareBytes f.owner ow else Lib.compareBytes f.name nm
theorem Zkw (f g:DFolder):0≤Zvi f g.owner g.name↔Zeq f g=false:=by
 have h1:=ZlK f.owner g.owner
 have h2:=ZlK f.name g.name
 unfold Zvi Zeq
 by_cases e:f.owner=g.owner
 ·have e0:=h1.2.2 e
  have e1:Op.bytesLess f.owner g.owner=false:=by rw [e];exact ZaL _
  rw [if_neg (fun h=>h e0),e1,decide_eq_true e,Bool.true_and,Bool.false_or,Bool.eq_false_iff,ne_eq,← h2.1];omega
 ·have e0:Lib.compareBytes f.owner g.owner≠0:=fun h=>e (h1.2.1 h)
  rw [if_pos e0,decide_eq_false e,Bool.false_and,Bool.or_false,Bool.eq_false_iff,ne_eq,← h1.1];omega
def Zff (fs:List DFolder) (u:Str):Int:=(fs.map fun f=>if f.owner=u then Zdw ⟨f.next,f.mail⟩ else 0).sum
theorem Zh0 {fs:List DFolder} {u:Str} {k:Nat} {x:DFolder} (hx:fs[k]? = some x):Zff (fs.take (k+1)) u=Zff (fs.take k) u+if x.owner=u then Zdw ⟨x.next,x.mail⟩ else 0:=by
 have:fs.take (k+1)=fs.take k ++ [x]:=by rw [List.take_add_one,hx];rfl
 simp [Zff,this]
theorem Zof {fs:List DFolder} {u:Str} {k:Nat} {n:Int} (h:n=Zff (fs.take k) u) (hk:fs.length≤k):n=Zff fs u:=by rwa [List.take_of_length_le hk] at h
theorem Zmq :∀(xs:List DMail) (b0 b:Int),xs.foldl (fun s x=>(s.1 && Zd0 s.2 x,x.uid)) (true,b0)=(true,b)→∀y,y∈xs→ZcG y=true
 | [],_,_,_,_,h=>by cases h
 | x :: xs,b0,b,h,y,hy=>by
  simp only [List.foldl_cons,Bool.true_and] at h
  cases hp:Zd0 b0 x with
  | false=>
   rw [hp] at h
   have:=Zcq (p:=Zd0) (nx:=fun _ m=>m.uid) xs x.uid
   rw [h] at this;cases this
  | true=>
   rw [hp] at h
   rcases List.mem_cons.1 hy with rfl | hy
   ·simp only [Zd0,Bool.and_eq_true] at hp;exact hp.1
   ·exact Zmq xs x.uid b h y hy
theorem ZlM {b:DBox} (h:ZeY b=true):(∀y,y∈b.mail→ZcG y=true)∧b.mail.length≤10:=by
 simp only [ZeY,Bool.and_eq_true,decide_eq_true_eq] at h
 exact ⟨Zmq b.mail 0 (ZcM b.mail).2 (Prod.ext h.1.1 rfl),h.2⟩
theorem Zg8 :∀l:List DMail,(∀m,m∈l→ZcG m=true)→ZaS l≤l.length*20
 | [],_=>by simp [ZaS]
 | m :: l,h=>by
  have h1:=Zg8 l fun y hy=>h y (List.mem_cons_of_mem _ hy)
  have h2:=h m (List.mem_cons_self ..)
  simp only [ZcG,Bool.and_eq_true,decide_eq_true_eq] at h2
  simp only [ZaS,List.map_cons,List.sum_cons,List.length_cons] at *
  omega
theorem Zip (b:DBox) : -1≤Zdw b∧Zdw b≤200:=by
 unfold Zdw
 split
 ·rename_i h
  obtain ⟨h1,h2⟩:=ZlM h
  have:=Zg8 _ h1
  omega
 ·omega
theorem Zqy (fs:List DFolder) (u:Str) : -1*fs.length≤Zff fs u∧Zff fs u≤fs.length*200:=by
 induction fs with
 | nil=>simp [Zff]
 | cons f fs ih=>
  have:=Zip ⟨f.next,f.mail⟩
  simp only [Zff,List.map_cons,List.sum_cons,List.length_cons] at *
  split <;> omega
def Zd7 (x:DHost) (u:Str) (more:Int):Bool:=!(Z9 x.users u).2 || decide ((Z9 x.users u).1.quota<Zff x.folders u+more)
def Zcm (x:DHost) (w:DUser):Bool:=decide (0≤Zb8 (inF w.name inbox) x.folders) && !Zd7 x w.name 0
theorem ZjI {x:DHost} {w:DUser} (h:Zb8 (inF w.name inbox) x.folders<0):Zcm x w=false:=by rw [Zcm,decide_eq_false (by omega),Bool.false_and]
theorem ZjH {x:DHost} {w:DUser} (h:Zd7 x w.name 0=true):Zcm x w=false:=by rw [Zcm,h];simp
theorem ZjG {x:DHost} {w:DUser} (h:0≤Zb8 (inF w.name inbox) x.folders) (h':Zd7 x w.name 0=false):Zcm x w=true:=by rw [Zcm,h',decide_eq_true h];rfl
def Zg4 (x:DHost):Bool:=x.users.all (Zcm x)
def Zt2:Rel Bool:=fun _ row x=>row=[.bool x]
def ZaD (us:List DUser) (f:DFolder):Bool:=(Z9 us f.owner).2 && ZZ f.name && ZaF f.grants && ZeY f.box
theorem ZgO (C i:Nat):(some (ptr (Addr.add ⟨C,0,none⟩ ((i:Int).toNat*1))):Option Value)=some (ptr ⟨C,i,none⟩):=by
 rw [Addr.add_off _ _ rfl];simp
def Zqk (x:DHost) (i:Nat):Value:=.bool (match x.folders[i]? with | some m=>ZaD x.users m | none=>false)
theorem Zl2 {x:DHost} {i:Nat} {m:DFolder} (h:x.folders[i]? = some m):Zqk x i = .bool (ZaD x.users m):=by simp [Zqk,h]
theorem Zoe {B:Kn} {x:DHost} {C:Nat} {T:TypeId} (hm :∀p,p∈[(C,Obj.cells ((List.range x.folders.length).map (Zqk x)).toArray T (0,0))]→B.mem p.1=some p.2) (hl:x.folders.length≤2000000):SlK B (some ⟨C,0,none⟩) (x.folders.map (ZaD x.users)).length 1 Zt2 (x.folders.map (ZaD x.users)):=by
 refine ⟨fun i y hy=>⟨C,0,[.bool y],rfl,rfl,fun j u hu=>?_⟩,by simp,by simpa using hl⟩
 have hj:j=0:=by
  cases j with
  | zero=>rfl
  | succ j=>simp at hu
 subst hj
 simp only [List.getElem?_cons_zero,Option.some.injEq] at hu
 subst hu
 rw [List.getElem?_map] at hy
 obtain ⟨m,hm',rfl⟩:=Option.map_eq_some_iff.1 hy
 have hi:i<x.folders.length:=(List.getElem?_eq_some_iff.1 hm').1
 refine ⟨rfl,_,T,(0,0),.inl (hm _ (List.mem_singleton.2 rfl)),?_⟩
 simp only [Nat.mul_one,Nat.zero_add,Nat.add_zero,List.getElem?_toArray,List.getElem?_map,List.getElem?_range hi,Option.map_some,Zl2 hm']
theorem Zjk {us:List DUser} {fs:List DFolder} : (!decide (0≤Zb8 (fun y=>decide (false=y)) (fs.map (ZaD us))))=fs.all (ZaD us):=by
 by_cases h :∀f,f∈fs→ZaD us f=true
 ·rw [List.all_eq_true.2 h,Zev (fun y hy=>by
   obtain ⟨f,hf,rfl⟩:=List.mem_map.1 hy
   simp [h f hf])]
  rfl
 ·have h2:fs.all (ZaD us)=false:=by
   rw [Bool.eq_false_iff,ne_eq,List.all_eq_true];exact h
  rw [h2]
  have h3 :∃k,(fs.map (ZaD us)).findIdx? (fun y=>decide (false=y))=some k:=by
   cases hk:(fs.map (ZaD us)).findIdx? (fun y=>decide (false=y)) with
   | some k=>exact ⟨k,rfl⟩
   | none=>
    exfalso;apply h
    intro f hf
    have:=List.findIdx?_eq_none_iff.1 hk (ZaD us f) (List.mem_map_of_mem hf)
    cases hq:ZaD us f with
    | true=>rfl
    | false=>rw [hq] at this;simp at this
  obtain ⟨k,hk⟩:=h3
  have e:Zb8 (fun y=>decide (false=y)) (fs.map (ZaD us))=(k:Int):=by unfold Zb8;rw [hk]
  rw [e];simp
def ZkI:List DFolder→Bool
 | []=>true
 | [_]=>true
 | a :: b :: r=>Zeq a b && ZkI (b :: r)
def Zc8 (x:DHost):Bool:=Zcz x.domain && Zas x.users && ZaU x.queue && decide (x.folders.length≤8) && ZkI x.folders && (x.folders.all (ZaD x.users) && Zg4 x && x.queue.items.all (ZcO x.users))
def Zr0 (fs:List DFolder) (k:Nat):Prop:=∀i a b,i<k→fs[i]? = some a→fs[i+1]? = some b→Zeq a b=true
theorem Znb {fs:List DFolder} : Zr0 fs 0:=fun i a b h=>by omega
theorem Znc {fs:List DFolder} {k:Nat} {x y:DFolder} (h:Zr0 fs k) (hx:fs[k]? = some x) (hy:fs[k+1]? = some y) (hl:Zeq x y=true):Zr0 fs (k+1):=fun i a b hi ha hb=>by
 rcases Nat.lt_or_ge i k with h' | h'
 ·exact h i a b h' ha hb
 ·obtain rfl:i=k:=by omega
  rw [hx] at ha;rw [hy] at hb
  cases ha;cases hb;exact hl
theorem ZgP :∀(fs:List DFolder),ZkI fs=true↔∀i a b,fs[i]? = some a→fs[i+1]? = some b→Zeq a b=true
 | []=>by simp [ZkI]
 | [_]=>by simp [ZkI]
 | x :: y :: r=>by
  rw [ZkI,Bool.and_eq_true,ZgP (y :: r)]
  constructor
  ·rintro ⟨h1,h2⟩ i a b ha hb
   cases i with
   | zero=>simp at ha hb;rw [← ha,← hb];exact h1
   | succ i=>exact h2 i a b (by simpa using ha) (by simpa using hb)
  ·intro h
   exact ⟨h 0 x y rfl rfl,fun i a b ha hb=>h (i+1) a b (by simpa using ha) (by simpa using hb)⟩
theorem ZqZ {fs:List DFolder} {k:Nat} {x y:DFolder} (hx:fs[k]? = some x) (hy:fs[k+1]? = some y) (hl:Zeq x y=false):ZkI fs=false:=by
 rw [Bool.eq_false_iff,ne_eq,ZgP]
 intro h
 have:=h k x y hx hy
 rw [hl] at this;cases this
theorem ZqY {fs:List DFolder} (h :∀i a b,i<fs.length - 1→fs[i]? = some a→fs[i+1]? = some b→Zeq a b=true):ZkI fs=true:=
 (ZgP fs).2 fun i a b ha hb=>h i a b (by have:=(List.getElem?_eq_some_iff.1 hb).1;omega) ha hb
theorem Zfk {α:Type} {p:Str→α→Bool} {f:α→Str} (hp :∀b x,p b x=true→Op.bytesLess b (f x)=true) :∀(xs:List α) (b0 b:Str),xs.foldl (fun s x=>(s.1 && p s.2 x,f x)) (true,b0)=(true,b)→(∀y,y∈xs→Op.bytesLess b0 (f y)=true)∧xs.Pairwise (fun x y=>Op.bytesLess (f x) (f y)=true)
 | [],_,_,_=>⟨by simp,.nil⟩
 | x :: xs,b0,b,h=>by
  simp only [List.foldl_cons,Bool.true_and] at h
  cases hq:p b0 x with
  | false=>
   rw [hq] at h
   have:=Zcq (p:=p) (nx:=fun _ g=>f g) xs (f x)
   rw [h] at this;cases this
  | true=>
   rw [hq] at h
   obtain ⟨h1,h2⟩:=Zfk hp xs (f x) b h
   refine ⟨fun y hy=>?_,.cons h1 h2⟩
   rcases List.mem_cons.1 hy with rfl | hy
   ·exact hp _ _ hq
   ·exact Zbn (hp _ _ hq) (h1 y hy)
theorem Ze1 {us:List DUser} (h:Zas us=true):us.Pairwise fun x y=>Op.bytesLess x.name y.name=true:=by
 simp only [Zas,Bool.and_eq_true] at h
 exact (Zfk (p:=Zeg) (f:=fun u=>u.name) (fun b x hq=>by simp only [Zeg,Bool.and_eq_true] at hq;exact hq.2) us [] (ZdR us).2 (Prod.ext h.1 rfl)).2
theorem Zfn {us:List DUser} {u:Str} : 0≤Zei us u↔∃x,x∈us∧x.name=u:=by
 unfold Zei
 cases h:us.findIdx? (fun x=>decide (x.name=u)) with
 | none=>
  have:=List.findIdx?_eq_none_iff.1 h
  simp only [decide_eq_false_iff_not] at this
  exact ⟨fun hc=>absurd hc (by simp only [];omega),fun ⟨x,hx,e⟩=>absurd e (this x hx)⟩
 | some i=>
  rw [List.findIdx?_eq_some_iff_getElem] at h
  obtain ⟨hi,h1,_⟩:=h
  exact ⟨fun _=>⟨us[i],List.getElem_mem hi,by simpa using h1⟩,fun _=>by simp only [];omega⟩
theorem ZpC {us:List DUser} {t:DUser→Bool} : (Zfv t us).2=true↔∃x,x∈us∧t x=true:=by
 unfold Zfv
 cases h:us.find? t with
 | none=>simp only [Bool.false_eq_true,false_iff];rintro ⟨x,hx,e⟩;have:=List.find?_eq_none.1 h x hx;exact this e
 | some x=>simp only [true_iff];exact ⟨x,List.mem_of_find?_eq_some h,List.find?_some h⟩
theorem Zdn {us:List DUser} (h:Zas us=true) (n:Str):(Z9 us n).2=decide (0≤Zei us n):=by
 rw [Z9,if_pos h,Bool.eq_iff_iff,ZpC,decide_eq_true_eq,Zfn];simp
theorem Zfu :∀{us:List DUser},us.Pairwise (fun x y=>Op.bytesLess x.name y.name=true)→∀w,w∈us→us.find? (fun y=>decide (y.name=w.name))=some w
 | [],_,w,h=>by cases h
 | x :: us,hp,w,h=>by
  cases hp with
  | cons h1 h2=>
   rw [List.find?_cons]
   rcases List.mem_cons.1 h with rfl | h
   ·simp
   ·have hne:x.name≠w.name:=fun e=>by
     have:=h1 w h
     rw [e,ZaL] at this;cases this
    simp only [hne,decide_false]
    exact Zfu h2 w h
theorem Ziz {us:List DUser} (h:Zas us=true) {w:DUser} (hw:w∈us):Z9 us w.name=(w,true):=by
 rw [Z9,if_pos h,Zfv,Zfu (Ze1 h) w hw]
theorem Zny {us:List DUser} (h:Zas us=true) (f:DFolder):ZaD us f=ZX us f:=by
 rw [ZaD,ZX,Zdn h]
theorem Zed {us:List DUser} :∀(fs:List DFolder) (b0:Option DFolder),(fs.foldl (fun s x=>(s.1 && Zbi us s.2 x,some x)) (true,b0)).1=(fs.all (ZX us) && ZkI ((match b0 with | none=>[] | some y=>[y]) ++ fs))
 | [],none=>rfl
 | [],some y=>rfl
 | x :: fs,b0=>by
  simp only [List.foldl_cons,Bool.true_and]
  have hstep:(fs.foldl (fun (s:Bool × Option DFolder) x=>(s.1 && Zbi us s.2 x,some x)) (Zbi us b0 x,some x)).1=(Zbi us b0 x && (fs.all (ZX us) && ZkI (x :: fs))):=by
   cases hq:Zbi us b0 x with
   | false=>rw [Bool.false_and];exact Zcq (p:=Zbi us) (nx:=fun _ f=>some f) fs (some x)
   | true=>rw [Bool.true_and];exact Zed fs (some x)
  rw [hstep]
  cases b0 with
  | none=>
   simp only [Zbi,Bool.and_true,List.all_cons,List.nil_append]
   cases ZX us x <;> simp
  | some y=>
   simp only [Zbi,List.all_cons,List.cons_append,List.nil_append,ZkI]
   cases ZX us x <;> cases Zeq y x <;> simp
theorem Zex {us:List DUser} {fs:List DFolder} : Zb3 us fs=(fs.all (ZX us) && ZkI fs && decide (fs.length≤8)):=by
 rw [Zb3,show (ZcV us fs).1=_ from Zed fs none];rfl
theorem Zl3 {us:List DUser} {u:Str} :∀{fs:List DFolder},fs.all (ZX us)=true→Zff fs u=(Zdt fs u:Int)
 | [],_=>rfl
 | f :: fs,h=>by
  simp only [List.all_cons,Bool.and_eq_true] at h
  have ih:=Zl3 (u:=u) h.2
  have hb:ZeY ⟨f.next,f.mail⟩=true:=by
   have:=h.1;simp only [ZX,Bool.and_eq_true] at this;exact this.2
  simp only [Zff,Zdt,List.map_cons,List.sum_cons] at ih ⊢
  rw [ih]
  by_cases he:f.owner=u
  ·simp [he,Zdw,hb]
  ·simp [he]
theorem ZkS {x:DHost} (hu:Zas x.users=true) (hf:x.folders.all (ZX x.users)=true) {w:DUser} (hw:w∈x.users):Zcm x w=ZaY x.folders w:=by
 rw [Zcm,ZaY,Zd7,Ziz hu hw,Zl3 hf]
 simp only [Bool.not_true,Bool.false_or,Int.add_zero]
 congr 1
 rw [Bool.eq_iff_iff];simp
theorem Zlp {us:List DUser} (h:Zas us=true) (y:DItem):ZcO us y=ZaM us y:=by
 rw [ZcO,ZaM,Zdn h,Zke]
 simp only [Zdn h]
theorem Zqe {α:Type} {p q:α→Bool} {xs:List α} (h :∀x,x∈xs→p x=q x):xs.all p=xs.all q:=by
 rw [Bool.eq_iff_iff,List.all_eq_true,List.all_eq_true]
 exact ⟨fun a x hx=>h x hx ▸ a x hx,fun a x hx=>(h x hx).symm ▸ a x hx⟩
theorem Znp (x:DHost):Zc8 x=Z7 x:=by
 cases hu:Zas x.users with
 | false=>simp [Zc8,Z7,hu]
 | true=>
  have e1:x.folders.all (ZaD x.users)=x.folders.all (ZX x.users):=Zqe fun f _=>Zny hu f
  have e2:x.queue.items.all (ZcO x.users)=x.queue.items.all (ZaM x.users):=Zqe fun y _=>Zlp hu y
  rw [Zc8,Z7,hu,e1,e2,Zex]
  cases hf:x.folders.all (ZX x.users) with
  | false=>simp
  | true=>
   have e3:Zg4 x=x.users.all (ZaY x.folders):=Zqe fun w hw=>ZkS hu hf hw
   rw [e3]
   cases Zcz x.domain <;> cases ZaU x.queue <;> cases ZkI x.folders <;> cases decide (x.folders.length≤8) <;> simp
end Go.BL
namespace Go.BL
open Go
theorem ZgF {x:DHost} (h:Z7 x=true):Zas x.users=true:=by
 simp only [Z7,Bool.and_eq_true] at h;exact h.1.1.1.1.2
theorem Zho {x:DHost} (h:Z7 x=true) (n:Str):(Z9 x.users n).2=decide (0≤Zei x.users n):=Zdn (ZgF h) n
theorem Zrx {us:List DUser} {n:Str} (h:0≤Zei us n) {x:DUser} (hx:us[(Zei us n).toNat]? = some x):Zfv (fun y=>decide (y.name=n)) us=(x,true):=by
 unfold Zei at h hx
 cases hf:us.findIdx? (fun x=>decide (x.name=n)) with
 | none=>rw [hf] at h;simp at h
 | some i=>
  rw [hf] at hx
  simp only [Int.toNat_natCast] at hx
  rw [List.findIdx?_eq_some_iff_getElem] at hf
  obtain ⟨hi,h1,h2⟩:=hf
  rw [List.getElem?_eq_getElem hi] at hx
  cases hx
  have:us.find? (fun y=>decide (y.name=n))=some us[i]:=by
   rw [List.find?_eq_some_iff_getElem]
   exact ⟨h1,i,hi,rfl,fun j hj=>by simpa using h2 j hj⟩
  rw [Zfv,this]
theorem Ztt (us:List DUser) (n:Str):Zei us n<us.length∧Zei us n ≥ -1:=by
 unfold Zei
 cases hf:us.findIdx? (fun x=>decide (x.name=n)) with
 | none=>simp only [];omega
 | some i=>
  rw [List.findIdx?_eq_some_iff_getElem] at hf
  obtain ⟨hi,_⟩:=hf
  simp only [];omega
end Go.BL
namespace Go.BL
open Go
def Zc5:DHost:=⟨[],[],[],⟨0,[]⟩⟩
theorem ZiF {α β:Type} {p:β→α→Bool} {nx:β→α→β} :∀(xs:List α) (b:β),(xs.foldl (fun (s:Bool × β) x=>(s.1 && p s.2 x,nx s.2 x)) (true,b)).1=true→∀x,x∈xs→∃b',p b' x=true
 | [],_,_,x,hx=>by cases hx
 | x :: xs,b,h,y,hy=>by
  simp only [List.foldl_cons,Bool.true_and] at h
  cases hq:p b x with
  | false=>
   rw [hq] at h
   have:=Zcq (p:=p) (nx:=nx) xs (nx b x)
   rw [this] at h;cases h
  | true=>
   rw [hq] at h
   rcases List.mem_cons.1 hy with rfl | hy
   ·exact ⟨b,hq⟩
   ·exact ZiF xs _ h y hy
theorem ZjA {us:List DUser} (h:Zas us=true) {u:DUser} (hu:u∈us):ZcE u=true:=by
 simp only [Zas,Bool.and_eq_true] at h
 obtain ⟨b,hb⟩:=ZiF (p:=Zeg) (nx:=fun _ u=>u.name) us [] h.1 u hu
 simp only [Zeg,Bool.and_eq_true] at hb;exact hb.1
theorem Zhm {α:Type} (p:α→Bool) (xs:List α):Zb8 p xs<xs.length∧Zb8 p xs ≥ -1:=by
 unfold Zb8
 cases hf:xs.findIdx? p with
 | none=>simp only [];omega
 | some i=>
  rw [List.findIdx?_eq_some_iff_getElem] at hf
  obtain ⟨hi,_⟩:=hf
  simp only [];omega
end Go.BL
namespace Go.BL
open Go
def dig (k:Nat):Str:=[UInt8.ofNat (IntKind.u8.wrap (48+((k % 10:Nat):Int))).toNat]
def digs (k:Nat):Str:=if h:k=0 then [] else digs (k / 10) ++ dig k
termination_by k
decreasing_by omega
theorem Zkt:digs 0=[]:=by unfold digs;rfl
theorem ZmI {k:Nat} (h:0<k):digs k=digs (k / 10) ++ dig k:=by
 conv=>lhs;unfold digs
 rw [dif_neg (by omega)]
theorem Zjf :∀(n k:Nat),k<10 ^ n→(digs k).length≤n
 | n,0,_=>by rw [Zkt];simp
 | 0,k+1,h=>by simp at h
 | n+1,k+1,h=>by
  rw [ZmI (by omega),List.length_append]
  have h1:(k+1) / 10<10 ^ n:=by rw [Nat.pow_succ] at h;omega
  have:=Zjf n _ h1
  simp only [dig,List.length_cons,List.length_nil];omega
def ZQ (k:Nat):Str:=if k=0 then [109,48] else 109 :: digs k
theorem ZbZ {k:Nat} (h:k≤1000000000000000):(ZQ k).length≤20:=by
 unfold ZQ
 split
 ·simp
 ·have:=Zjf 16 k (by omega)
  simp only [List.length_cons];omega
theorem ZpU {k0 k:Nat} {t:Str} (h:digs k0=digs k ++ t) (hk:0<k):digs k0=digs (k / 10) ++ (dig k ++ t):=by
 rw [h,ZmI hk,List.append_assoc]
theorem ZtQ {k0 k:Nat} {t:Str} (h0:k0≤1000000000000000) (h:digs k0=digs k ++ t):t.length≤16:=by
 have h1:=Zjf 16 k0 (by omega)
 rw [h,List.length_append] at h1;omega
theorem ZbX {α:Type} {ys:List α} {i:Nat} {c:α} (h:i<ys.length):(ys.set i c).take (i+1)=ys.take i ++ [c]:=by
 rw [List.take_add_one,List.getElem?_set_self h,List.take_set_of_le (Nat.le_refl _)];rfl
def ZbM (k n:Nat):List DMail:=(List.range n).map fun i=>⟨((k+3*i:Nat):Int),((k+3*i+1:Nat):Int),ZQ (k+3*i+1+1)⟩
theorem Zaz (k n:Nat):(ZbM k n).length=n:=by simp [ZbM]
theorem Zj1 {ys:List DMail} {i k:Nat} {z1 z2 z3:DMail} (ht:ys.take i=ZbM k i) (h1:ys[i]? = some z1) (h2:(ys.set i ⟨((k+3*i:Nat):Int),z1.flags,z1.text⟩)[i]? = some z2)
  (h3:((ys.set i ⟨((k+3*i:Nat):Int),z1.flags,z1.text⟩).set i ⟨z2.uid,((k+3*i+1:Nat):Int),z2.text⟩)[i]? = some z3) :
  (((ys.set i ⟨((k+3*i:Nat):Int),z1.flags,z1.text⟩).set i ⟨z2.uid,((k+3*i+1:Nat):Int),z2.text⟩).set i ⟨z3.uid,z3.flags,ZQ (k+3*i+1+1)⟩).take (i+1)=ZbM k (i+1):=by
 have hl:=(List.getElem?_eq_some_iff.1 h1).1
 rw [List.getElem?_set_self hl] at h2;cases h2
 rw [List.set_set,List.getElem?_set_self hl] at h3;cases h3
 rw [List.set_set,List.set_set,ZbX hl,ht,ZbM,ZbM,List.range_succ,List.map_append];rfl
def Zaw (k n:Nat):List DGrant:=(List.range n).map fun i=>⟨ZQ (k+2*i),((k+2*i+1:Nat):Int)⟩
theorem Zao (k n:Nat):(Zaw k n).length=n:=by simp [Zaw]
theorem ZiP {ys:List DGrant} {i k:Nat} {z1 z2:DGrant} (ht:ys.take i=Zaw k i) (h1:ys[i]? = some z1) (h2:(ys.set i ⟨ZQ (k+2*i),z1.rights⟩)[i]? = some z2) :
  ((ys.set i ⟨ZQ (k+2*i),z1.rights⟩).set i ⟨z2.user,((k+2*i+1:Nat):Int)⟩).take (i+1)=Zaw k (i+1):=by
 have hl:=(List.getElem?_eq_some_iff.1 h1).1
 rw [List.getElem?_set_self hl] at h2;cases h2
 rw [List.set_set,ZbX hl,ht,Zaw,Zaw,List.range_succ,List.map_append];rfl
def Zch (k n:Nat):List DUser:=(List.range n).map fun i=>⟨ZQ (k+3*i),ZQ (k+3*i+1),((k+3*i+1+1:Nat):Int)⟩
theorem Zbf (k n:Nat):(Zch k n).length=n:=by simp [Zch]
theorem Zj0 {ys:List DUser} {i k:Nat} {z1 z2 z3:DUser} (ht:ys.take i=Zch k i) (h1:ys[i]? = some z1) (h2:(ys.set i ⟨ZQ (k+3*i),z1.pass,z1.quota⟩)[i]? = some z2)
  (h3:((ys.set i ⟨ZQ (k+3*i),z1.pass,z1.quota⟩).set i ⟨z2.name,ZQ (k+3*i+1),z2.quota⟩)[i]? = some z3) :
  (((ys.set i ⟨ZQ (k+3*i),z1.pass,z1.quota⟩).set i ⟨z2.name,ZQ (k+3*i+1),z2.quota⟩).set i ⟨z3.name,z3.pass,((k+3*i+1+1:Nat):Int)⟩).take (i+1)=Zch k (i+1):=by
 have hl:=(List.getElem?_eq_some_iff.1 h1).1
 rw [List.getElem?_set_self hl] at h2;cases h2
 rw [List.set_set,List.getElem?_set_self hl] at h3;cases h3
 rw [List.set_set,List.set_set,ZbX hl,ht,Zch,Zch,List.range_succ,List.map_append];rfl
def Zc7 (k n:Nat):List Str:=(List.range n).map fun i=>ZQ (k+1*i)
theorem Za5 (k n:Nat):(Zc7 k n).length=n:=by simp [Zc7]
theorem Zlb {ys:List Str} {i k:Nat} {z1:Str} (ht:ys.take i=Zc7 k i) (h1:ys[i]? = some z1):(ys.set i (ZQ (k+1*i))).take (i+1)=Zc7 k (i+1):=by
 have hl:=(List.getElem?_eq_some_iff.1 h1).1
 rw [ZbX hl,ht,Zc7,Zc7,List.range_succ,List.map_append];rfl
theorem Zmo {α:Type} {ys zs:List α} {i:Nat} (h:ys.take i=zs) (hi:ys.length≤i):ys=zs:=by rwa [List.take_of_length_le hi] at h
end Go.BL
namespace Go.BL
open Go
def Zca (k:Nat):Int:=([1,2,4,8,16,32]:List Int).getD k 0
theorem Zqa {k:Nat} (h:k<6):(k=0∧Zca k=1)∨(k=1∧Zca k=2)∨(k=2∧Zca k=4)∨(k=3∧Zca k=8)∨(k=4∧Zca k=16)∨(k=5∧Zca k=32):=by
 have:k=0∨k=1∨k=2∨k=3∨k=4∨k=5:=by omega
 rcases this with rfl | rfl | rfl | rfl | rfl | rfl <;> simp [Zca]
theorem Zp9 {k:Nat} (h:k<6):0<Zca k∧Zca k≤32:=by rcases Zqa h with h | h | h | h | h | h <;> omega
theorem ZgV {α:Type} {p:α→Bool} {xs:List α} {k:Nat} {x:α} (hx:xs[k]? = some x):(xs.take (k+1)).any p=((xs.take k).any p || p x):=by
 rw [Zbe hx,List.any_append];simp
theorem ZtX {α:Type} {p:α→Bool} {xs:List α} {k:Nat} {b:Bool} (h:b=(xs.take k).any p) (hk:xs.length≤k):b=xs.any p:=by rwa [List.take_of_length_le hk] at h
def onB (u:Str) (b:Int) (g:DGrant):Bool:=(decide (g.user=u) || decide (g.user=anyone)) && decide (Int.tmod (Int.tdiv g.rights b) 2=1)
def Ze8 (gs:List DGrant) (u:Str):Nat→Int
 | 0=>0
 | k+1=>if gs.any (onB u (Zca k))=true then Ze8 gs u k+Zca k else Ze8 gs u k
theorem ZhH (gs:List DGrant) (u:Str) :∀k,k≤6→0≤Ze8 gs u k∧Ze8 gs u k≤100*k
 | 0,_=>by simp [Ze8]
 | k+1,h=>by
  have:=ZhH gs u k (by omega)
  have:=Zp9 (k:=k) (by omega)
  simp only [Ze8]
  split <;> omega
def Za9 (gs:List DGrant) (u:Str):Int:=Ze8 gs u 6
def ZmM (f:DFolder) (u:Str) (r:Int):Bool:=decide (u=f.owner) || decide (Int.tmod (Int.tdiv (Za9 f.grants u) r) 2=1)
def Zp3 (us:List DUser) (fs:List DFolder) (u:Str) (k:Int) (r:Int):Int:=
 if Zei us u<0∨k<0 then 1 else match fs[k.toNat]? with
  | none=>1
  | some f=>if ZmM f u 1=false then 1 else if ZmM f u r=false then 2 else 0
theorem Zji {us:List DUser} {fs:List DFolder} {u:Str} {k r:Int} (h:Zei us u<0∨k<0):Zp3 us fs u k r=1:=by rw [Zp3,if_pos h]
theorem Zp2 {us:List DUser} {fs:List DFolder} {u:Str} {k r:Int} {f:DFolder} (h : ¬ (Zei us u<0∨k<0)) (hf:fs[k.toNat]? = some f):Zp3 us fs u k r=if ZmM f u 1=false then 1 else if ZmM f u r=false then 2 else 0:=by
 rw [Zp3,if_neg h,hf]
theorem Zkx {us:List DUser} {fs:List DFolder} {u:Str} {k r:Int} (h:Zp3 us fs u k r=0):0≤Zei us u∧0≤k∧∃f,fs[k.toNat]? = some f∧ZmM f u 1=true∧ZmM f u r=true:=by
 unfold Zp3 at h
 split at h
 ·cases h
 ·split at h
  ·cases h
  ·rename_i f hf
   split at h
   ·cases h
   ·split at h
    ·cases h
    ·rename_i h1 h2 h3
     exact ⟨by omega,by omega,f,hf,by simpa using h2,by simpa using h3⟩
def Zyh (b:DBox) (fl:Int) (t:Str):DBox × Bool:=if 10≤b.mail.length∨99<b.next then (b,false) else (⟨b.next+1,b.mail ++ [⟨b.next,fl,t⟩]⟩,true)
def DFolder.withBox (f:DFolder) (b:DBox):DFolder:=⟨f.owner,f.name,f.grants,b.next,b.mail⟩
def DHost.withFolders (x:DHost) (fs:List DFolder):DHost:=⟨x.domain,x.users,fs,x.queue⟩
def ZiJ (us:List DUser) (n:Str):Int:=match us[(Zei us n).toNat]? with | some w=>w.quota | none=>0
def ZoJ (x:DHost) (k:Nat) (fl:Int) (t:Str):DHost × Int:=
 match x.folders[k]? with
 | none=>(x,0)
 | some f=>if ZiJ x.users f.owner<(Zdt x.folders f.owner:Int)+t.length then (x,3)
  else if (Zyh f.box fl t).2=true then (x.withFolders (x.folders.set k (f.withBox (Zyh f.box fl t).1)),0) else (x,4)
def ZaJ (u:Str) (r:Int) (s:Bool × List DGrant) (g:DGrant):Bool × List DGrant:=
 let s1:Bool × List DGrant:=if s.1=false∧Op.bytesLess g.user u=false then (true,s.2 ++ [⟨u,r⟩]) else s
 if g.user≠u then (s1.1,s1.2 ++ [g]) else s1
def Zdi (u:Str) (r:Int) (gs:List DGrant):Bool × List DGrant:=gs.foldl (ZaJ u r) (decide (r=0),[])
theorem ZbS {u:Str} {r:Int} {gs:List DGrant} {k:Nat} {x:DGrant} (hx:gs[k]? = some x):Zdi u r (gs.take (k+1))=ZaJ u r (Zdi u r (gs.take k)) x:=by
 rw [Zbe hx,Zdi,List.foldl_append];rfl
def Zbb (gs:List DGrant) (u:Str) (r:Int):List DGrant:=if (Zdi u r gs).1=true then (Zdi u r gs).2 else (Zdi u r gs).2 ++ [⟨u,r⟩]
def ZaC (r:Int):Bool:=decide (0≤r) && decide (r≤63)
def Zap (gs:List DGrant) (u:Str) (r:Int):List DGrant × Bool:=
 if ¬ (ZaF gs=true∧ZZ u=true∧ZaC r=true) then ([],false)
 else if ZaF (Zbb gs u r)=true then (Zbb gs u r,true) else (gs,false)
def DFolder.withGrants (f:DFolder) (gs:List DGrant):DFolder:=⟨f.owner,f.name,gs,f.next,f.mail⟩
def Zd3 (x:DHost) (k:Nat) (u:Str) (r:Int):DHost × Int:=
 match x.folders[k]? with
 | none=>(x,0)
 | some f=>if (Zap f.grants u r).2=true then (x.withFolders (x.folders.set k (f.withGrants (Zap f.grants u r).1)),0) else (x,4)
def Z3 (x:DHost) (by_ o n u:Str) (r:Int):DHost × Int:=
 if ¬ (Z7 x=true∧ZaC r=true) then (Zc5,5)
 else if Zp3 x.users x.folders by_ (Zb8 (inF o n) x.folders) 32≠0 then (x,Zp3 x.users x.folders by_ (Zb8 (inF o n) x.folders) 32)
 else if u≠anyone∧Zei x.users u<0 then (x,1)
 else Zd3 x (Zb8 (inF o n) x.folders).toNat u r
end Go.BL
namespace Go.BL
open Go
theorem ZcU {x:DHost} : Z7 x=true↔(Zcz x.domain=true∧Zas x.users=true∧ZaU x.queue=true)∧((∀f,f∈x.folders→ZX x.users f=true)∧ZkI x.folders=true∧x.folders.length≤8)∧(∀u,u∈x.users→ZaY x.folders u=true)∧(∀y,y∈x.queue.items→ZaM x.users y=true):=by
 simp only [Z7,Zex,Bool.and_eq_true,decide_eq_true_eq,List.all_eq_true]
 constructor
 ·rintro ⟨⟨⟨⟨⟨h1,h2⟩,h3⟩,⟨h4,h5⟩,h6⟩,h7⟩,h8⟩
  exact ⟨⟨h1,h2,h3⟩,⟨h4,h5,h6⟩,h7,h8⟩
 ·rintro ⟨⟨h1,h2,h3⟩,⟨h4,h5,h6⟩,h7,h8⟩
  exact ⟨⟨⟨⟨⟨h1,h2⟩,h3⟩,⟨h4,h5⟩,h6⟩,h7⟩,h8⟩
theorem Zi7 {α:Type} {fs:List α} {k i:Nat} {y g:α} (h:(fs.set k y)[i]? = some g):(i=k∧g=y∧k<fs.length)∨(i≠k∧fs[i]? = some g):=by
 have hi:=(List.getElem?_eq_some_iff.1 h).1
 rw [List.length_set] at hi
 rw [List.getElem?_set] at h
 split at h
 ·rename_i e
  subst e
  simp [hi] at h
  exact .inl ⟨rfl,h.symm,hi⟩
 ·rename_i e
  exact .inr ⟨fun e'=>e e'.symm,h⟩
theorem ZjJ :∀{fs:List DFolder} {k:Nat} {f:DFolder} (f':DFolder) (u:Str),fs[k]? = some f→Zdt (fs.set k f') u+(if f.owner=u then ZaS f.mail else 0)=Zdt fs u+(if f'.owner=u then ZaS f'.mail else 0)
 | [],_,_,_,_,h=>by simp at h
 | g :: fs,0,f,f',u,h=>by
  simp only [List.getElem?_cons_zero,Option.some.injEq] at h
  subst h
  simp only [List.set_cons_zero,Zdt,List.map_cons,List.sum_cons]
  omega
 | g :: fs,k+1,f,f',u,h=>by
  have:=ZjJ (fs:=fs) (k:=k) f' u (by simpa using h)
  simp only [Zdt] at this
  simp only [List.set_cons_succ,Zdt,List.map_cons,List.sum_cons]
  omega
theorem Zka {a b a' b':DFolder} (h1:a.owner=a'.owner) (h2:a.name=a'.name) (h3:b.owner=b'.owner) (h4:b.name=b'.name):Zeq a b=Zeq a' b':=by simp only [Zeq,h1,h2,h3,h4]
theorem ZqX {fs:List DFolder} {k:Nat} {f f':DFolder} (h:ZkI fs=true) (hf:fs[k]? = some f) (ho:f'.owner=f.owner) (hn:f'.name=f.name):ZkI (fs.set k f')=true:=by
 rw [ZgP] at h ⊢
 intro i a b ha hb
 rcases Zi7 ha with ⟨e1,e2,_⟩ | ⟨hi,ha'⟩
 ·rcases Zi7 hb with ⟨e,_,_⟩ | ⟨_,hb'⟩
  ·omega
  ·rw [e2,Zka ho hn rfl rfl];exact h i _ _ (by rw [e1];exact hf) hb'
 ·rcases Zi7 hb with ⟨e,e2,_⟩ | ⟨_,hb'⟩
  ·rw [e2,Zka rfl rfl ho hn];exact h i _ _ ha' (by rw [e];exact hf)
  ·exact h _ _ _ ha' hb'
theorem Zts {fs:List DFolder} {k:Nat} {f f':DFolder} {o n:Str} (hf:fs[k]? = some f) (ho:f'.owner=f.owner) (hn:f'.name=f.name) (h:0≤Zb8 (inF o n) fs):0≤Zb8 (inF o n) (fs.set k f'):=by
 rw [Zmw] at h ⊢
 obtain ⟨y,hy,hp⟩:=h
 obtain ⟨i,hi⟩:=List.mem_iff_getElem?.1 hy
 by_cases e:i=k
 ·subst e
  rw [hf] at hi;cases hi
  refine ⟨f',List.mem_iff_getElem?.2 ⟨i,?_⟩,by simp only [inF,ho,hn] at hp ⊢;exact hp⟩
  have:=(List.getElem?_eq_some_iff.1 hf).1
  simp [List.getElem?_set,this]
 ·exact ⟨y,List.mem_iff_getElem?.2 ⟨i,by rw [List.getElem?_set,if_neg (fun e'=>e e'.symm)];exact hi⟩,hp⟩
theorem Zm9 {us:List DUser} (h:Zas us=true) {w:DUser} (hw:w∈us):ZiJ us w.name=w.quota:=by
 have h0:0≤Zei us w.name:=Zfn.2 ⟨w,hw,rfl⟩
 have h1:=Ztt us w.name
 obtain ⟨v,hv⟩ :∃v,us[(Zei us w.name).toNat]? = some v:=⟨_,List.getElem?_eq_getElem (by omega)⟩
 have h2:=Zrx h0 hv
 rw [Zfv,Zfu (Ze1 h) w hw] at h2
 cases h2
 simp only [ZiJ,hv]
theorem Znn {x:DHost} {k:Nat} {f f':DFolder} (h:Z7 x=true) (hf:x.folders[k]? = some f) (ho:f'.owner=f.owner) (hn:f'.name=f.name) (hi:ZX x.users f'=true)
  (hq:(Zdt x.folders f.owner:Int)+ZaS f'.mail≤ZiJ x.users f.owner+ZaS f.mail∨ZaS f'.mail≤ZaS f.mail):Z7 (x.withFolders (x.folders.set k f'))=true:=by
 rw [ZcU] at h ⊢
 obtain ⟨⟨h1,h2,h3⟩,⟨h4,h5,h6⟩,h7,h8⟩:=h
 refine ⟨⟨h1,h2,h3⟩,⟨?_,ZqX h5 hf ho hn,by simpa [DHost.withFolders] using h6⟩,?_,h8⟩
 ·intro g hg
  obtain ⟨i,hg⟩:=List.mem_iff_getElem?.1 hg
  rcases Zi7 hg with ⟨_,rfl,_⟩ | ⟨_,hg⟩
  ·exact hi
  ·exact h4 g (List.mem_of_getElem? hg)
 ·intro w hw
  have:=h7 w hw
  simp only [ZaY,Bool.and_eq_true,decide_eq_true_eq] at this ⊢
  refine ⟨Zts hf ho hn this.1,?_⟩
  have hu:=ZjJ f' w.name hf
  simp only [DHost.withFolders]
  by_cases e:f.owner=w.name
  ·rw [if_pos e,if_pos (ho.trans e)] at hu
   rw [e,Zm9 h2 hw] at hq
   omega
  ·rw [if_neg e,if_neg (fun e'=>e (ho ▸ e'))] at hu
   omega
theorem ZnG {b:DBox} (h:ZeY b=true) :∃l,ZcM b.mail=(true,l)∧l+1≤b.next∧b.next≤100∧b.mail.length≤10:=by
 simp only [ZeY,Bool.and_eq_true,decide_eq_true_eq] at h
 exact ⟨(ZcM b.mail).2,Prod.ext h.1.1 rfl,h.1.2.1,h.1.2.2,h.2⟩
theorem Zmc :∀(xs:List DMail) (b0 b:Int),xs.foldl (fun (s:Bool × Int) x=>(s.1 && Zd0 s.2 x,x.uid)) (true,b0)=(true,b)→b0≤b
 | [],b0,b,h=>by cases h;omega
 | x :: xs,b0,b,h=>by
  simp only [List.foldl_cons,Bool.true_and] at h
  cases hp:Zd0 b0 x with
  | false=>
   rw [hp] at h
   have:=Zcq (p:=Zd0) (nx:=fun _ m=>m.uid) xs x.uid
   rw [h] at this;cases this
  | true=>
   rw [hp] at h
   have:=Zmc xs x.uid b h
   simp only [Zd0,Bool.and_eq_true,decide_eq_true_eq] at hp
   omega
theorem Zc9 {x:DHost} {k:Nat} {f:DFolder} (h:Z7 x=true) (hf:x.folders[k]? = some f):ZX x.users f=true:=(ZcU.1 h).2.1.1 f (List.mem_of_getElem? hf)
theorem ZcT {x:DHost} {k:Nat} {fl:Int} {t:Str} : (ZoJ x k fl t).1.users=x.users∧(ZoJ x k fl t).1.queue=x.queue∧(ZoJ x k fl t).1.domain=x.domain∧(ZoJ x k fl t).1.folders.length=x.folders.length:=by
 unfold ZoJ
 split
 ·exact ⟨rfl,rfl,rfl,rfl⟩
 ·split
  ·exact ⟨rfl,rfl,rfl,rfl⟩
  ·split
   ·exact ⟨rfl,rfl,rfl,by simp [DHost.withFolders]⟩
   ·exact ⟨rfl,rfl,rfl,rfl⟩
theorem Zqf {gs:List DGrant} {u:Str} {r:Int} (h:(Zap gs u r).2=true):ZaF (Zap gs u r).1=true:=by
 unfold Zap at h ⊢
 split
 ·rename_i h1;rw [if_pos h1] at h;cases h
 ·rename_i h1
  rw [if_neg h1] at h
  split
  ·assumption
  ·rename_i h2;rw [if_neg h2] at h;cases h
theorem Zpo {x:DHost} {b o n u:Str} {r:Int} (h:Z7 x=true):(Z3 x b o n u r).2=5∨Z7 (Z3 x b o n u r).1=true:=by
 unfold Z3
 split
 ·exact .inl rfl
 ·split
  ·exact .inr h
  ·split
   ·exact .inr h
   ·right
    unfold Zd3
    split
    ·exact h
    ·rename_i f hk
     split
     ·rename_i h2
      refine Znn h hk rfl rfl ?_ (.inr (Nat.le_refl _))
      have:=Zc9 h hk
      simp only [ZX,Bool.and_eq_true,decide_eq_true_eq] at this ⊢
      exact ⟨⟨⟨this.1.1.1,this.1.1.2⟩,Zqf h2⟩,this.2⟩
     ·exact h
end Go.BL
namespace Go.BL
open Go
theorem ZqS {k:Nat} {e:Int} (h:([1,2,4,8,16,32]:List Int)[k]? = some e):e=Zca k:=by rw [Zca,List.getD_eq_getElem?_getD,h];rfl
theorem ZoH {a b:Int} (h0:0≤a) (h1:a≤1000000) (hb:0<b):IntKind.i64.wrap (Int.tdiv a b)=Int.tdiv a b:=
 Zbd (Int.le_trans (by decide) (Int.tdiv_nonneg h0 (by omega))) (Int.le_trans (Int.tdiv_le_self _ h0) (by omega))
theorem ZeC {gs:List DGrant} (h:ZaF gs=true) :∀y,y∈gs→0≤y.rights∧y.rights≤63:=by
 intro y hy
 simp only [ZaF,Bool.and_eq_true] at h
 obtain ⟨b,hb⟩:=ZiF (p:=Za1) (nx:=fun _ g=>g.user) gs [] h.1 y hy
 simp only [Za1,Bool.and_eq_true,decide_eq_true_eq] at hb;omega
def Zjo (fs:List DFolder):Prop:=∀f,f∈fs→∀y,y∈f.grants→0≤y.rights∧y.rights≤63
theorem Zi2 {x:DHost} (h:Z7 x=true):Zjo x.folders:=fun f hf=>by
 have:=(ZcU.1 h).2.1.1 f hf
 simp only [ZX,Bool.and_eq_true] at this
 exact ZeC this.1.2
theorem Zk3 (gs:List DGrant) (u:Str):0≤Za9 gs u∧Za9 gs u≤600:=ZhH gs u 6 (Nat.le_refl _)
theorem ZnH {b:DBox} (h:ZeY b=true):1≤b.next∧b.next≤100∧b.mail.length≤10:=by
 obtain ⟨l,hs,h1,h2,h3⟩:=ZnG h
 have:=Zmc b.mail 0 l hs
 omega
structure GHC where
 q1:Option Addr
 c1:Nat
 q3:Option Addr
 c3:Nat
 b:Nat
theorem ZeU {gs:List DGrant} {u:Str} {r:Int} (h : ¬ (ZaF gs=true∧ZZ u=true∧ZaC r=true)):Zap gs u r=([],false):=by rw [Zap,if_pos h]
theorem ZhK {gs:List DGrant} {u:Str} {r:Int} (h:ZaF gs=true∧ZZ u=true∧ZaC r=true) (h2:ZaF (Zbb gs u r)=false):Zap gs u r=(gs,false):=by rw [Zap,if_neg (fun a=>a h),if_neg (by rw [h2];exact Bool.false_ne_true)]
theorem ZeT {gs:List DGrant} {u:Str} {r:Int} (h:ZaF gs=true∧ZZ u=true∧ZaC r=true) (h2:ZaF (Zbb gs u r)=true):Zap gs u r=(Zbb gs u r,true):=by rw [Zap,if_neg (fun a=>a h),if_pos h2]
theorem Zgs {gs xs:List DGrant} {u:Str} {r:Int} (h:(true,xs)=Zdi u r gs):Zbb gs u r=xs:=by rw [Zbb,← h];rfl
theorem Zgt {gs xs:List DGrant} {u:Str} {r:Int} (h:(false,xs)=Zdi u r gs):Zbb gs u r=xs ++ [⟨u,r⟩]:=by rw [Zbb,← h];rfl
theorem ZbE {gs:List DGrant} (h:ZaF gs=true):gs.length≤4:=by simp only [ZaF,Bool.and_eq_true,decide_eq_true_eq] at h;exact h.2
theorem Zig {x:DHost} {k:Nat} {f:DFolder} {u:Str} {r:Int} (hf:x.folders[k]? = some f) (h:(Zap f.grants u r).2=false):Zd3 x k u r=(x,4):=by simp only [Zd3,hf,h];rfl
theorem Zhs {x:DHost} {k:Nat} {f:DFolder} {u:Str} {r:Int} (hf:x.folders[k]? = some f) (h:(Zap f.grants u r).2=true):Zd3 x k u r=(x.withFolders (x.folders.set k (f.withGrants (Zap f.grants u r).1)),0):=by simp only [Zd3,hf,h,if_true]
theorem Zir (gs:List DGrant) (u:Str) (r:Int):(Zap gs u r).1.length≤gs.length+4:=by
 unfold Zap
 split
 ·simp
 ·split
  ·rename_i h;have:=ZbE h;simp only [];omega
  ·simp only [];omega
theorem ZfU {us:List DUser} {f:DFolder} (h:ZX us f=true):f.grants.length≤4:=by
 simp only [ZX,Bool.and_eq_true] at h;exact ZbE h.1.2
end Go.BL
namespace Go.BL
open Go
def Zjm (gs:List DGrant) (o u:Str):Int:=
 if ¬ (ZaF gs=true∧ZZ o=true∧ZZ u=true) then -1 else if u=o then 63 else orI ((mget (ZcB gs) u).getD 0) ((mget (ZcB gs) anyone).getD 0)
theorem Zjl {gs:List DGrant} {o u:Str} (h : ¬ (ZaF gs=true∧ZZ o=true∧ZZ u=true)):Zjm gs o u = -1:=by rw [Zjm,if_pos h]
theorem ZrV {gs:List DGrant} {o u:Str} (h1:ZaF gs=true) (h2:ZZ o=true) (h3:ZZ u=true):Zjm gs o u=if u=o then 63 else orI ((mget (ZcB gs) u).getD 0) ((mget (ZcB gs) anyone).getD 0):=by rw [Zjm,if_neg (fun h=>h ⟨h1,h2,h3⟩)]
def Zo1 (us:List DUser) (f:DFolder) (u:Str) (r:Int):Bool:=(Z9 us u).2 && (decide (0≤Zjm f.grants f.owner u) && !decide (Zvo (Zjm f.grants f.owner u) r=0))
theorem ZcX {gs:List DGrant} (h:ZaF gs=true):gs.Pairwise fun x y=>Op.bytesLess x.user y.user=true:=by
 simp only [ZaF,Bool.and_eq_true] at h
 exact (Zfk (p:=Za1) (f:=fun u=>u.user) (fun b x hq=>by simp only [Za1,Bool.and_eq_true] at hq;exact hq.2) gs [] (Zb1 gs).2 (Prod.ext h.1 rfl)).2
def ZhI (r b:Int):Bool:=decide (Int.tmod (Int.tdiv r b) 2=1)
theorem ZiQ (u:Str) (b:Int) (h0:ZhI 0 b=false) :∀{gs:List DGrant},gs.Pairwise (fun x y=>Op.bytesLess x.user y.user=true)→(gs.any fun g=>decide (g.user=u) && ZhI g.rights b)=ZhI ((mget (ZcB gs) u).getD 0) b
 | [],_=>by simp [ZcB,mget,h0]
 | g :: gs,hp=>by
  obtain ⟨h1,h2⟩:=List.pairwise_cons.1 hp
  have ih:=ZiQ u b h0 h2
  simp only [ZcB,List.map_cons,mget,List.any_cons] at ih ⊢
  by_cases hu:u=g.user
  ·subst hu
   have hn:(gs.any fun x=>decide (x.user=g.user) && ZhI x.rights b)=false:=by
    rw [List.any_eq_false]
    intro x hx hc
    simp only [Bool.and_eq_true,decide_eq_true_eq] at hc
    have:=h1 x hx
    rw [hc.1,ZaL] at this;cases this
   simp [hn]
  ·rw [if_neg hu,decide_eq_false (Ne.symm hu),← ih];simp
theorem Zle (u:Str) :∀{gs:List DGrant},(∀y,y∈gs→0≤y.rights∧y.rights≤63)→0≤(mget (ZcB gs) u).getD 0∧(mget (ZcB gs) u).getD 0≤63
 | [],_=>by simp [ZcB,mget]
 | g :: gs,h=>by
  have ih:=Zle u (gs:=gs) fun y hy=>h y (List.mem_cons_of_mem _ hy)
  simp only [ZcB,List.map_cons,mget] at ih ⊢
  by_cases hu:u=g.user
  ·rw [if_pos hu];exact h g (List.mem_cons_self ..)
  ·rw [if_neg hu];exact ih
theorem ZuL :∀a,a<64→∀b,b<64→0≤orI (a:Nat) (b:Nat)∧orI (a:Nat) (b:Nat)≤63∧(∀k,k<6→(!decide (Zvo (orI (a:Nat) (b:Nat)) (Zca k)=0))=(ZhI (a:Nat) (Zca k) || ZhI (b:Nat) (Zca k)))∧(!decide (Int.tmod (orI (a:Nat) (b:Nat)) 2=0))=(ZhI (a:Nat) 1 || ZhI (b:Nat) 1)∧(!decide (Int.tmod (Int.tdiv (orI (a:Nat) (b:Nat)) 2) 2=0))=(ZhI (a:Nat) 2 || ZhI (b:Nat) 2):=by
 decide +kernel
theorem Zs6 :∀k,k<6→(!decide (Zvo 63 (Zca k)=0))=true:=by decide +kernel
def Zyg (b0 b1 b2 b3 b4 b5:Bool):Int:=
 let s0:Int:=if b0=true then 0+Zca 0 else 0
 let s1:=if b1=true then s0+Zca 1 else s0
 let s2:=if b2=true then s1+Zca 2 else s1
 let s3:=if b3=true then s2+Zca 3 else s2
 let s4:=if b4=true then s3+Zca 4 else s3
 if b5=true then s4+Zca 5 else s4
theorem ZrL :∀b0 b1 b2 b3 b4 b5:Bool,∀k,k<6→ZhI (Zyg b0 b1 b2 b3 b4 b5) (Zca k)=[b0,b1,b2,b3,b4,b5].getD k false:=by decide +kernel
theorem Zm7 {gs:List DGrant} {u:Str} {k:Nat} (hk:k<6):ZhI (Za9 gs u) (Zca k)=gs.any (onB u (Zca k)):=by
 have e:Za9 gs u=Zyg (gs.any (onB u (Zca 0))) (gs.any (onB u (Zca 1))) (gs.any (onB u (Zca 2))) (gs.any (onB u (Zca 3))) (gs.any (onB u (Zca 4))) (gs.any (onB u (Zca 5))):=rfl
 rw [e,ZrL _ _ _ _ _ _ k hk]
 have:k=0∨k=1∨k=2∨k=3∨k=4∨k=5:=by omega
 rcases this with rfl | rfl | rfl | rfl | rfl | rfl <;> rfl
theorem Ztc {gs:List DGrant} {u:Str} {b:Int} : gs.any (onB u b)=((gs.any fun g=>decide (g.user=u) && ZhI g.rights b) || (gs.any fun g=>decide (g.user=anyone) && ZhI g.rights b)):=by
 induction gs with
 | nil=>rfl
 | cons g gs ih=>
  simp only [List.any_cons,ih,onB,ZhI]
  cases decide (g.user=u) <;> cases decide (g.user=anyone) <;> cases decide (Int.tmod (Int.tdiv g.rights b) 2=1) <;> simp
theorem ZlY {k:Nat} (hk:k<6):ZhI 0 (Zca k)=false:=by
 have:k=0∨k=1∨k=2∨k=3∨k=4∨k=5:=by omega
 rcases this with rfl | rfl | rfl | rfl | rfl | rfl <;> rfl
theorem ZoE {gs:List DGrant} {u:Str} (h:ZaF gs=true) {k:Nat} (hk:k<6):(!decide (Zvo (orI ((mget (ZcB gs) u).getD 0) ((mget (ZcB gs) anyone).getD 0)) (Zca k)=0))=ZhI (Za9 gs u) (Zca k)∧0≤orI ((mget (ZcB gs) u).getD 0) ((mget (ZcB gs) anyone).getD 0)∧orI ((mget (ZcB gs) u).getD 0) ((mget (ZcB gs) anyone).getD 0)≤63∧(!decide (Int.tmod (orI ((mget (ZcB gs) u).getD 0) ((mget (ZcB gs) anyone).getD 0)) 2=0))=ZhI (Za9 gs u) 1∧(!decide (Int.tmod (Int.tdiv (orI ((mget (ZcB gs) u).getD 0) ((mget (ZcB gs) anyone).getD 0)) 2) 2=0))=ZhI (Za9 gs u) 2:=by
 obtain ⟨a0,a1⟩:=Zle u (ZeC h)
 obtain ⟨b0,b1⟩:=Zle anyone (ZeC h)
 have hs:=ZcX h
 have e1 :∀k,k<6→ZhI (Za9 gs u) (Zca k)=(ZhI ((mget (ZcB gs) u).getD 0) (Zca k) || ZhI ((mget (ZcB gs) anyone).getD 0) (Zca k)):=fun k hk=>by
  rw [Zm7 hk,Ztc,ZiQ u _ (ZlY hk) hs,ZiQ anyone _ (ZlY hk) hs]
 generalize (mget (ZcB gs) u).getD 0=a at *
 generalize (mget (ZcB gs) anyone).getD 0=b at *
 obtain ⟨n,rfl⟩:=Int.eq_ofNat_of_zero_le a0
 obtain ⟨m,rfl⟩:=Int.eq_ofNat_of_zero_le b0
 obtain ⟨t1,t2,t3,t4,t5⟩:=ZuL n (by omega) m (by omega)
 have h0:=e1 0 (by omega)
 exact ⟨by rw [t3 k hk,e1 k hk],t1,t2,by rw [t4];exact h0.symm,by rw [t5];exact (e1 1 (by omega)).symm⟩
theorem ZjC {x:DHost} {u:Str} (h:Z7 x=true) (hu:0≤Zei x.users u):ZZ u=true:=by
 obtain ⟨w,hw,rfl⟩:=Zfn.1 hu
 have:=ZjA (ZgF h) hw
 simp only [ZcE,Bool.and_eq_true] at this
 exact this.1.1.1
theorem ZrU {x:DHost} {f:DFolder} {u:Str} (h:Z7 x=true) (hf:f∈x.folders) (hu:0≤Zei x.users u):Zjm f.grants f.owner u=if u=f.owner then 63 else orI ((mget (ZcB f.grants) u).getD 0) ((mget (ZcB f.grants) anyone).getD 0):=by
 have hi:=(ZcU.1 h).2.1.1 f hf
 simp only [ZX,Bool.and_eq_true,decide_eq_true_eq] at hi
 rw [Zjm,if_neg (fun hc=>hc ⟨hi.1.2,ZjC h hi.1.1.1,ZjC h hu⟩)]
theorem Zvs {x:DHost} {f:DFolder} (h:Z7 x=true) (hf:f∈x.folders):ZaF f.grants=true:=by
 have hi:=(ZcU.1 h).2.1.1 f hf
 simp only [ZX,Bool.and_eq_true] at hi
 exact hi.1.2
theorem Zo0 {x:DHost} {f:DFolder} {u:Str} {k:Nat} (h:Z7 x=true) (hf:f∈x.folders) (hk:k<6):Zo1 x.users f u (Zca k)=(decide (0≤Zei x.users u) && ZmM f u (Zca k)):=by
 rw [Zo1,Zho h]
 by_cases hu:0≤Zei x.users u
 ·rw [ZrU h hf hu,ZmM]
  obtain ⟨r1,r2,r3,r4,r5⟩:=ZoE (gs:=f.grants) (u:=u) (Zvs h hf) hk
  by_cases ho:u=f.owner
  ·rw [if_pos ho,decide_eq_true ho,Zs6 k hk];simp
  ·rw [if_neg ho,decide_eq_false ho,r1,decide_eq_true r2];simp [ZhI]
 ·simp [hu]
end Go.BL
namespace Go.BL
open Go
def Zbx (f:DFolder):Nat:=3+2*f.grants.length+3*f.mail.length
def mkF (k:Nat) (f:DFolder):DFolder:=⟨ZQ k,ZQ (k+1),Zaw (k+1+1) f.grants.length,((k+1+1+2*f.grants.length:Nat):Int),ZbM (k+1+1+2*f.grants.length+1) f.mail.length⟩
def ZbT (x:DItem):Nat:=3+x.left.length
def mkI (k:Nat) (x:DItem):DItem:=⟨((k:Nat):Int),ZQ (k+1),ZQ (k+1+1),Zc7 (k+1+1+1) x.left.length⟩
def kL {α:Type} (st:α→Nat) (k:Nat) (xs:List α):Nat:=k+(xs.map st).sum
def mkL {α:Type} (st:α→Nat) (mk:Nat→α→α):Nat→List α→List α
 | _,[]=>[]
 | k,x :: xs=>mk k x :: mkL st mk (k+st x) xs
theorem Zmu {α:Type} {st:α→Nat} {k:Nat} : kL st k []=k:=by simp [kL]
theorem ZiX {α:Type} {st:α→Nat} {k:Nat} {x:α} {xs:List α} : kL st k (x :: xs)=kL st (k+st x) xs:=by simp [kL];omega
theorem Zhj {α:Type} {st:α→Nat} {k i:Nat} {xs:List α} {x:α} (hx:xs[i]? = some x):kL st k (xs.take (i+1))=kL st k (xs.take i)+st x:=by
 rw [Zbe hx,kL,kL,List.map_append,List.sum_append];simp;omega
theorem Ztn {α:Type} {st:α→Nat} {c:Nat} :∀{xs:List α} (k:Nat),(∀x,x∈xs→st x≤c)→kL st k xs≤k+xs.length*c
 | [],k,_=>by simp [kL]
 | x :: xs,k,h=>by
  have h1:=Ztn (st:=st) (c:=c) (xs:=xs) (k+st x) fun y hy=>h y (List.mem_cons_of_mem _ hy)
  have h2:=h x (List.mem_cons_self ..)
  rw [ZiX,List.length_cons,Nat.succ_mul];omega
theorem Zmp {α:Type} {st:α→Nat} {mk:Nat→α→α} {x:α} :∀{xs:List α} (k:Nat),mkL st mk k (xs ++ [x])=mkL st mk k xs ++ [mk (kL st k xs) x]
 | [],k=>by simp [mkL,kL]
 | y :: xs,k=>by
  rw [List.cons_append,mkL,Zmp (xs:=xs) (k+st y),mkL,ZiX,List.cons_append]
theorem ZdZ {α:Type} {st:α→Nat} {mk:Nat→α→α} :∀{xs:List α} (k:Nat),(mkL st mk k xs).length=xs.length
 | [],k=>rfl
 | y :: xs,k=>by rw [mkL,List.length_cons,ZdZ (k+st y),List.length_cons]
theorem Zra {α:Type} {st:α→Nat} {mk:Nat→α→α} {xs ys:List α} {i k:Nat} {x:α} (ht:ys.take i=mkL st mk k (xs.take i)) (hx:xs[i]? = some x) (hl:ys.length=xs.length):(ys.set i (mk (kL st k (xs.take i)) x)).take (i+1)=mkL st mk k (xs.take (i+1)):=by
 have hi:=(List.getElem?_eq_some_iff.1 hx).1
 rw [ZbX (by omega),Zbe hx,Zmp,ht]
theorem ZoZ {α:Type} {st:α→Nat} {mk:Nat→α→α} {xs ys:List α} {i k:Nat} (ht:ys.take i=mkL st mk k (xs.take i)) (hl:ys.length=xs.length) (hi:xs.length≤i):ys=mkL st mk k xs:=by
 rwa [List.take_of_length_le (by omega),List.take_of_length_le hi] at ht
theorem Zld {α:Type} {st:α→Nat} {mk:Nat→α→α} :∀{xs:List α} {i:Nat} {x:α} (k:Nat),xs[i]? = some x→(mkL st mk k xs)[i]? = some (mk (kL st k (xs.take i)) x)
 | [],i,x,k,h=>by simp at h
 | y :: xs,0,x,k,h=>by
  simp only [List.getElem?_cons_zero,Option.some.injEq] at h
  subst h;simp [mkL,kL]
 | y :: xs,i+1,x,k,h=>by
  rw [mkL,List.getElem?_cons_succ,Zld (k+st y) (by simpa using h),List.take_succ_cons,ZiX]
theorem ZmF {α:Type} {xs ys:List α} {i:Nat} {z:α} (hd:ys.drop i=xs.drop i):(ys.set i z).drop (i+1)=xs.drop (i+1):=by
 rw [List.drop_set_of_lt (by omega),← List.drop_drop,← List.drop_drop,hd]
theorem ZmG {α:Type} {xs ys:List α} {i:Nat} (hd:ys.drop i=xs.drop i):ys[i]? = xs[i]?:=by
 have:=congrArg (fun l=>l[0]?) hd
 simpa using this
theorem Zlc {k n g:Nat} (h:g<n):(ZbM k n)[g]? = some ⟨((k+3*g:Nat):Int),((k+3*g+1:Nat):Int),ZQ (k+3*g+1+1)⟩:=by simp [ZbM,h]
theorem Zj3 {k n g:Nat} (h:g<n):(Zaw k n)[g]? = some ⟨ZQ (k+2*g),((k+2*g+1:Nat):Int)⟩:=by simp [Zaw,h]
theorem Zla {k n g:Nat} (h:g<n):(Zch k n)[g]? = some ⟨ZQ (k+3*g),ZQ (k+3*g+1),((k+3*g+1+1:Nat):Int)⟩:=by simp [Zch,h]
theorem Zng {k n g:Nat} (h:g<n):(Zc7 k n)[g]? = some (ZQ (k+1*g)):=by simp [Zc7,h]
theorem ZdW {α:Type} {xs:List α} {k:Nat} {x z:α} (h:xs[k]? = some x):(xs.set k z)[k]? = some z:=List.getElem?_set_self (List.getElem?_eq_some_iff.1 h).1
theorem Zrg {α:Type} {st:α→Nat} {k i:Nat} {xs:List α} {x:α} (hx:xs[i]? = some x):kL st k (xs.take i)+st x≤kL st k xs:=by
 have e:xs=xs.take (i+1) ++ xs.drop (i+1):=(List.take_append_drop _ _).symm
 have h1:=Zhj (st:=st) (k:=k) hx
 have h2:kL st k xs=kL st k (xs.take (i+1))+((xs.drop (i+1)).map st).sum:=by
  conv=>lhs;rw [e]
  simp only [kL,List.map_append,List.sum_append];omega
 omega
theorem Zmv {α:Type} {st:α→Nat} {k i:Nat} {xs:List α} (h:xs.length≤i):kL st k (xs.take i)=kL st k xs:=by rw [List.take_of_length_le h]
theorem Zrf {α:Type} {st:α→Nat} {k:Nat} {xs:List α} : k≤kL st k xs:=by simp [kL]
theorem Zl4 {α:Type} {xs ys:List α} {i:Nat} {z:α} (h:ys.length=xs.length):(ys.set i z).length=xs.length:=by rw [List.length_set,h]
theorem ZuW {α:Type} {st sz:α→Nat} {xs:List α} (k:Nat) (h :∀x,x∈xs→st x≤3+3*sz x):kL st k xs≤k+3*(xs.length+(xs.map sz).sum):=by
 induction xs generalizing k with
 | nil=>simp [kL]
 | cons x xs ih=>
  rw [ZiX]
  have h1:=ih (k+st x) fun y hy=>h y (List.mem_cons_of_mem _ hy)
  have h2:=h x (List.mem_cons_self ..)
  simp only [List.length_cons,List.map_cons,List.sum_cons];omega
theorem Zj2 {α:Type} {st:α→Nat} {mk:Nat→α→α} {xs ys:List α} {i k m:Nat} {x:α} (ht:ys.take i=mkL st mk k (xs.take i)) (hx:xs[i]? = some x) (hl:ys.length=xs.length) (hs:m=kL st k (xs.take i)):(ys.set i (mk m x)).take (i+1)=mkL st mk k (xs.take (i+1)):=by
 subst hs;exact Zra ht hx hl
end Go.BL
namespace Go.BL
open Go
theorem Zwb {k:Nat} {fs:List DFolder} : kL Zbx k fs≤k+3*szL Zat fs:=ZuW k fun x _=>by simp only [Zbx,Zat,szL];omega
theorem Zv8 {k:Nat} {xs:List DItem} : kL ZbT k xs≤k+3*szL Zbv xs:=ZuW k fun x _=>by simp only [ZbT,Zbv,Ze2,szL];omega
def kH (k:Nat) (x:DHost):Nat:=kL ZbT (kL Zbx (k+3*x.users.length) x.folders) x.queue.items
theorem Zwa {x:DHost} (h:Zdp x≤1048576):kH 1 x≤10000000:=by
 have h1:=@Zv8 (kL Zbx (1+3*x.users.length) x.folders) x.queue.items
 have h2:=@Zwb (1+3*x.users.length) x.folders
 unfold Zdp at h
 have h3:x.users.length≤szL Zc1 x.users:=by simp only [szL];omega
 unfold kH;omega
end Go.BL
namespace Go.BL
open Go
def ZfZ (us:List DUser) (fs:List DFolder) (u o n:Str) (r:Int):Nat:=
 if Zb8 (inF o n) fs<0 then 1 else match fs[(Zb8 (inF o n) fs).toNat]? with
  | none=>1
  | some f=>if Zo1 us f u 1=false then 1 else if Zo1 us f u r=false then 2 else 0
theorem Zp0 {us:List DUser} {fs:List DFolder} {u o n:Str} {r:Int} (h:Zb8 (inF o n) fs<0):ZfZ us fs u o n r=1:=by rw [ZfZ,if_pos h]
theorem Zjh {us:List DUser} {fs:List DFolder} {u o n:Str} {r:Int} {f:DFolder} (h : ¬ Zb8 (inF o n) fs<0) (hf:fs[(Zb8 (inF o n) fs).toNat]? = some f):ZfZ us fs u o n r=if Zo1 us f u 1=false then 1 else if Zo1 us f u r=false then 2 else 0:=by
 rw [ZfZ,if_neg h,hf]
theorem Zp1 (us:List DUser) (fs:List DFolder) (u o n:Str) (r:Int):ZfZ us fs u o n r<3:=by
 unfold ZfZ
 split
 ·omega
 ·split
  ·omega
  ·split
   ·omega
   ·split <;> omega
theorem ZtU {x:DHost} {u o n:Str} {k:Nat} (h:Z7 x=true) (hk:k<6):((ZfZ x.users x.folders u o n (Zca k):Nat):Int)=Zp3 x.users x.folders u (Zb8 (inF o n) x.folders) (Zca k):=by
 by_cases h0:Zb8 (inF o n) x.folders<0
 ·rw [Zp0 h0,Zji (.inr h0)];rfl
 ·have hl:=Zhm (inF o n) x.folders
  obtain ⟨f,hf⟩:=Zsk (xs:=x.folders) (i:=Zb8 (inF o n) x.folders) (by omega) (by omega)
  have hm:=List.mem_of_getElem? hf
  rw [Zjh h0 hf]
  have e1:Zo1 x.users f u 1=(decide (0≤Zei x.users u) && ZmM f u 1):=Zo0 (k:=0) h hm (by omega)
  rw [e1,Zo0 h hm hk]
  by_cases hu:Zei x.users u<0
  ·rw [Zji (.inl hu),decide_eq_false (by omega)];rfl
  ·rw [Zp2 (by omega) hf,decide_eq_true (by omega)]
   cases ZmM f u 1 <;> cases ZmM f u (Zca k) <;> rfl
end Go.BL
namespace Go.BL
open Go
end Go.BL
namespace Go.BL
open Go
end Go.BL
namespace Go.BL
open Go
end Go.BL
namespace Go.BL
open Go
end Go.BL
namespace Go.BL
open Go
theorem Zv.perm {P:PJ} {f:FuncId} {args:List Value} {B:Kn} {Ls Ls':List Cells} {Post:Value→Kn→List Cells→Prop} (hp:Ls.flatten.Perm Ls'.flatten) (h:Zv P f args B Ls' Post):Zv P f args B Ls Post:=fun X kind c cs F hk hA=>by
 refine X.drop (r:=Ls'.flatten ++ F) (gl:=[]) ?_ (h X kind c cs F hk hA)
 rw [List.append_nil];exact hp.append_right F
theorem Zyt {P:PJ} {S:Env} {B:Kn} {L:List Cells} {rs:List ResultVar} {Post:Value→Kn→List Cells→Prop} (e:Exit) (he:e = .ret∨e = .normal) (vs:List Value) (js:List Nat) {ss r:List Cells} (hp:Zau L js=some (ss,r)) (hr:Zcr P S B L rs vs) (hq:Post (Zc4 vs) B [ss.flatten]):Zfy P rs Post e S [] B L:=
 ⟨he,rfl,vs,[ss.flatten],hr,⟨r.flatten,by simpa using Z5 js L ss r hp⟩,hq⟩
end Go.BL
namespace Go.BL
open Go
theorem ZaV.cellA {α:Type} {l:Cells} {p:Option Addr} {c:Nat} {T:TypeId} {w:Nat} {R:Zf6 α} {xs:List α} (h:ZaV l p c T w R xs) {i:Nat} {x:α} (hx:xs[i]? = some x) :
∃b row li lr,p=some ⟨b,0,none⟩∧R row x li∧row.length=w∧l.Perm (li ++ lr)∧(∀(B:Kn) (L:List Cells) (j:Nat),L[j]? = some l→∀(m:Nat) (u:Value),row[m]? = some u→ZaP B L.flatten ⟨b,i*w+m,none⟩ u)∧(∀(B:Kn) (L:List Cells) (j:Nat),L[j]? = some lr→∀(m:Nat) (u:Value),row[m]? = some u→ZaP B L.flatten ⟨b,i*w+m,none⟩ u)∧∀x' li',R row x' li'→ZaV (li' ++ lr) p c T w R (xs.set i x'):=by
 obtain ⟨b,arr,row,li,lr,e1,e2,e3,e4,e5,e6⟩:=h.open1 hx
 refine ⟨b,row,li,Zar b arr T ++ lr,e1,e2,e3,e4,fun B L j hj m u hm=>⟨rfl,arr.toArray,T,(0,0),.inr ?_,by simpa using e5 m u hm⟩,fun B L j hj m u hm=>⟨rfl,arr.toArray,T,(0,0),.inr ?_,by simpa using e5 m u hm⟩,e6⟩
 ·exact List.mem_flatten.2 ⟨l,List.mem_of_getElem? hj,e4.mem_iff.2 (List.mem_append_right _ (List.mem_append_left _ (List.mem_singleton.2 rfl)))⟩
 ·exact List.mem_flatten.2 ⟨_,List.mem_of_getElem? hj,List.mem_append_left _ (List.mem_singleton.2 rfl)⟩
theorem ZmL {x:DHost} {u o n:Str} {r:Int} (h:ZfZ x.users x.folders u o n r=0):0≤Zb8 (inF o n) x.folders:=by
 unfold ZfZ at h
 split at h
 ·cases h
 ·omega
end Go.BL
namespace Go.BL
open Go
end Go.BL
namespace Go.BL
open Go
end Go.BL
namespace Go.BL
open Go
end Go.BL
namespace Go.BL
open Go
end Go.BL
namespace Go.BL
open Go
theorem ZpZ {x:DHost} {u o n:Str} {r:Int} (h:ZfZ x.users x.folders u o n r=0) :∃(k:Nat) (f:DFolder),Zb8 (inF o n) x.folders=(k:Int)∧x.folders[k]? = some f:=by
 have h0:=ZmL h
 obtain ⟨k,hk⟩ :∃k:Nat,Zb8 (inF o n) x.folders=(k:Int):=⟨_,(Int.toNat_of_nonneg h0).symm⟩
 have hl:=Zhm (inF o n) x.folders
 exact ⟨k,x.folders[k]'(by omega),hk,List.getElem?_eq_getElem (by omega)⟩
end Go.BL
namespace Go.BL
open Go
end Go.BL
namespace Go.BL
open Go
end Go.BL
namespace Go.BL
open Go
end Go.BL
namespace Go.BL
open Go
end Go.BL
namespace Go.BL
open Go
theorem Zv9 {y:DHost} (h:Z7 y=true):kH 1 y≤700000000000000∧y.users.length≤2000000∧y.folders.length≤2000000∧y.queue.items.length≤2000000:=by
 obtain ⟨⟨_,h2,h3⟩,⟨h4,_,h6⟩,_⟩:=ZcU.1 h
 have hu:y.users.length≤4:=by
  simp only [Zas,Bool.and_eq_true,decide_eq_true_eq] at h2;exact h2.2.2
 have hq:=(ZgB h3).2.2
 have hf:=Ztn (st:=Zbx) (c:=41) (xs:=y.folders) (1+3*y.users.length) fun f hf=>by
  have e:=h4 f hf
  simp only [ZX,Bool.and_eq_true,decide_eq_true_eq] at e
  have e1:f.grants.length≤4:=ZbE e.1.2
  have e2:f.mail.length≤10:=(ZnH e.2).2.2
  simp only [Zbx];omega
 have hi:=Ztn (st:=ZbT) (c:=6) (xs:=y.queue.items) (kL Zbx (1+3*y.users.length) y.folders) fun z hz=>by
  have e:=ZjS h3 hz
  have e2:z.left.length≤3:=by
   simp only [Zet,Zco,ZcA,Bool.and_eq_true,decide_eq_true_eq] at e;exact e.1.1.2.2
  simp only [ZbT];omega
 have h8:y.folders.length*41≤8*41:=Nat.mul_le_mul_right _ h6
 have h9:y.queue.items.length*6≤6*6:=Nat.mul_le_mul_right _ hq
 refine ⟨?_,by omega,by omega,by omega⟩
 unfold kH;omega
theorem ZuY:kH 1 Zc5≤700000000000000∧Zc5.users.length≤2000000∧Zc5.folders.length≤2000000∧Zc5.queue.items.length≤2000000:=by
 refine ⟨?_,?_,?_,?_⟩ <;> simp [Zc5,kH,kL]
theorem ZuX {x y:DHost} (h1:Z7 x=false→y=Zc5) (h2:Z7 x=true→y=Zc5∨Z7 y=true):kH 1 y≤700000000000000∧y.users.length≤2000000∧y.folders.length≤2000000∧y.queue.items.length≤2000000:=by
 cases hx:Z7 x with
 | false=>rw [h1 hx];exact ZuY
 | true=>
  rcases h2 hx with e | e
  ·rw [e];exact ZuY
  ·exact Zv9 e
end Go.BL
namespace Go.BL
open Go
end Go.BL
namespace Go.BL
open Go
theorem Zqc {α:Type} {lt:α→α→Prop} (ir :∀a,¬ lt a a) (as_ :∀a b,lt a b→lt b a→False) :∀{xs ys:List α},xs.Pairwise lt→ys.Pairwise lt→(∀z,z∈xs↔z∈ys)→xs=ys
 | [],[],_,_,_=>rfl
 | [],y :: ys,_,_,h=>by have:=(h y).2 (List.mem_cons_self ..);cases this
 | x :: xs,[],_,_,h=>by have:=(h x).1 (List.mem_cons_self ..);cases this
 | x :: xs,y :: ys,hx,hy,h=>by
  rw [List.pairwise_cons] at hx hy
  have e:x=y:=by
   rcases List.mem_cons.1 ((h x).1 (List.mem_cons_self ..)) with e | e1
   ·exact e
   ·rcases List.mem_cons.1 ((h y).2 (List.mem_cons_self ..)) with e | e2
    ·exact e.symm
    ·exact absurd (hy.1 x e1) (fun h1=>as_ _ _ h1 (hx.1 y e2))
  subst e
  have ht:xs=ys:=Zqc ir as_ hx.2 hy.2 fun z=>⟨fun hz=>by
   rcases List.mem_cons.1 ((h z).1 (List.mem_cons_of_mem _ hz)) with e | e
   ·exact absurd (hx.1 z hz) (e ▸ ir _)
   ·exact e,fun hz=>by
   rcases List.mem_cons.1 ((h z).2 (List.mem_cons_of_mem _ hz)) with e | e
   ·exact absurd (hy.1 z hz) (e ▸ ir _)
   ·exact e⟩
  rw [ht]
theorem ZgQ {u:Str} {r:Int} {k:Str} :∀{kvs:List (Str × Int)},k∈(mput kvs u r).map (·.1)↔k=u∨k∈kvs.map (·.1)
 | []=>by simp [mput]
 | (a,w) :: t=>by
  simp only [mput]
  split
  ·rename_i e;subst e;simp
  ·simp only [List.map_cons,List.mem_cons,ZgQ (kvs:=t)]
   constructor
   ·rintro (h | h | h)
    ·exact .inr (.inl h)
    ·exact .inl h
    ·exact .inr (.inr h)
   ·rintro (h | h | h)
    ·exact .inr (.inl h)
    ·exact .inl h
    ·exact .inr (.inr h)
theorem Zmn {u:Str} {r:Int} {k:Str} :∀{kvs:List (Str × Int)},mget (mput kvs u r) k=if k=u then some r else mget kvs k
 | []=>by simp [mput,mget]
 | (a,w) :: t=>by
  simp only [mput]
  split
  ·rename_i e;subst e
   simp only [mget]
   by_cases hk:k=u <;> simp [hk]
  ·rename_i hn
   simp only [mget,Zmn (kvs:=t)]
   by_cases h1:k=a
   ·subst h1;rw [if_pos rfl,if_pos rfl,if_neg (fun e=>hn e.symm)]
   ·rw [if_neg h1,if_neg h1]
theorem ZgR {u k:Str} :∀{kvs:List (Str × Int)},(kvs.map (·.1)).Nodup→(k∈(mdel kvs u).map (·.1)↔k≠u∧k∈kvs.map (·.1))
 | [],_=>by simp [mdel]
 | (a,w) :: t,hn=>by
  simp only [List.map_cons,List.nodup_cons] at hn
  simp only [mdel]
  split
  ·rename_i e;subst e
   simp only [List.map_cons,List.mem_cons]
   exact ⟨fun h=>⟨fun e=>hn.1 (e ▸ h),.inr h⟩,fun h=>h.2.resolve_left h.1⟩
  ·rename_i ha
   simp only [List.map_cons,List.mem_cons,ZgR hn.2]
   constructor
   ·rintro (h | h)
    ·exact ⟨fun e=>ha (e.symm.trans h),.inl h⟩
    ·exact ⟨h.1,.inr h.2⟩
   ·rintro ⟨h1,h | h⟩
    ·exact .inl h
    ·exact .inr ⟨h1,h⟩
theorem ZiR {u k:Str} (hk:k≠u) :∀{kvs:List (Str × Int)},mget (mdel kvs u) k=mget kvs k
 | []=>rfl
 | (a,w) :: t=>by
  simp only [mdel]
  split
  ·rename_i e;subst e;simp only [mget,if_neg hk]
  ·simp only [mget,ZiR hk (kvs:=t)]
theorem ZfQ {gs:List DGrant} (h:gs.Pairwise fun x y=>Op.bytesLess x.user y.user=true) {g:DGrant} (hg:g∈gs):mget (ZcB gs) g.user=some g.rights:=by
 induction h with
 | nil=>cases hg
 | @cons a t h1 h2 ih=>
  simp only [ZcB,List.map_cons,mget]
  rcases List.mem_cons.1 hg with rfl | hg
  ·rw [if_pos rfl]
  ·rw [if_neg (fun e=>by have:=h1 g hg;rw [e,ZaL] at this;cases this)]
   exact ih hg
theorem Zes (gs:List DGrant) (k:Str):k∈(ZcB gs).map (·.1)↔∃g,g∈gs∧g.user=k:=by
 simp only [ZcB,List.map_map,List.mem_map,Function.comp_def]
theorem Zdr (u:Str) (r:Int) :∀(gs acc:List DGrant),gs.foldl (ZaJ u r) (true,acc)=(true,acc ++ gs.filter fun g=>decide (g.user≠u))
 | [],acc=>by simp
 | g :: t,acc=>by
  rw [List.foldl_cons]
  by_cases h:g.user=u
  ·have e:ZaJ u r (true,acc) g=(true,acc):=by simp [ZaJ,h]
   rw [e,Zdr u r t acc];simp [h]
  ·have e:ZaJ u r (true,acc) g=(true,acc ++ [g]):=by simp [ZaJ,h]
   rw [e,Zdr u r t];simp [h]
theorem Zf4 (u:Str) (r:Int) :∀(gs acc:List DGrant),gs.Pairwise (fun x y=>Op.bytesLess x.user y.user=true)→
  (if (gs.foldl (ZaJ u r) (false,acc)).1=true then (gs.foldl (ZaJ u r) (false,acc)).2 else (gs.foldl (ZaJ u r) (false,acc)).2 ++ [⟨u,r⟩])=acc ++ (gs.filter fun g=>Op.bytesLess g.user u) ++ [⟨u,r⟩] ++ (gs.filter fun g=>!Op.bytesLess g.user u && decide (g.user≠u))
 | [],acc,_=>by simp
 | g :: t,acc,h=>by
  rw [List.pairwise_cons] at h
  rw [List.foldl_cons]
  cases hl:Op.bytesLess g.user u with
  | true=>
   have hne:g.user≠u:=fun e=>by rw [e,ZaL] at hl;cases hl
   have e:ZaJ u r (false,acc) g=(false,acc ++ [g]):=by simp [ZaJ,hl,hne]
   rw [e,Zf4 u r t _ h.2]
   simp [hl]
  | false=>
   have e2 :∀acc',t.foldl (ZaJ u r) (true,acc')=(true,acc' ++ t):=fun acc'=>by
    rw [Zdr]
    congr 2
    rw [List.filter_eq_self]
    intro y hy
    have h1:=h.1 y hy
    simp only [decide_eq_true_eq]
    intro e;subst e
    rw [hl] at h1;cases h1
   have hf :∀y,y∈t→Op.bytesLess y.user u=false:=fun y hy=>by
    cases hq:Op.bytesLess y.user u with
    | false=>rfl
    | true=>have:=Zbn (h.1 y hy) hq;rw [hl] at this;cases this
   have e3:(t.filter fun g=>Op.bytesLess g.user u)=[]:=List.filter_eq_nil_iff.2 fun y hy=>by simp [hf y hy]
   have e4:(t.filter fun g=>!Op.bytesLess g.user u && decide (g.user≠u))=t:=List.filter_eq_self.2 fun y hy=>by
    have h1:=h.1 y hy
    simp only [hf y hy,Bool.not_false,Bool.true_and,decide_eq_true_eq]
    intro e;subst e
    rw [hl] at h1;cases h1
   by_cases hu:g.user=u
   ·have e:ZaJ u r (false,acc) g=(true,acc ++ [⟨u,r⟩]):=by simp [ZaJ,hu,ZaL]
    rw [e,e2,if_pos rfl,List.filter_cons_of_neg (by simp [hl]),e3,List.filter_cons_of_neg (by simp [hu]),e4]
    simp
   ·have e:ZaJ u r (false,acc) g=(true,acc ++ [⟨u,r⟩] ++ [g]):=by simp [ZaJ,hl,hu]
    rw [e,e2,if_pos rfl,List.filter_cons_of_neg (by simp [hl]),e3,List.filter_cons_of_pos (by simp [hl,hu]),e4]
    simp
theorem Zcl {gs:List DGrant} {u:Str} : Zbb gs u 0=gs.filter fun g=>decide (g.user≠u):=by
 rw [Zbb,Zdi,show decide ((0:Int)=0)=true from rfl,Zdr];simp
theorem Zdg {gs:List DGrant} {u:Str} {r:Int} (h:gs.Pairwise fun x y=>Op.bytesLess x.user y.user=true) (hr:r≠0):Zbb gs u r=(gs.filter fun g=>Op.bytesLess g.user u) ++ [⟨u,r⟩] ++ (gs.filter fun g=>!Op.bytesLess g.user u && decide (g.user≠u)):=by
 rw [Zbb,Zdi,show decide (r=0)=false from decide_eq_false hr,Zf4 u r gs [] h,List.nil_append]
def Zcv (gs:List DGrant) (u:Str) (r:Int):List (Str × Int):=if r=0 then mdel (ZcB gs) u else mput (ZcB gs) u r
theorem Zgi {gs:List DGrant} (h:gs.Pairwise fun x y=>Op.bytesLess x.user y.user=true):((ZcB gs).map (·.1)).Nodup:=by
 have e:(ZcB gs).map (·.1)=gs.map (·.user):=by simp [ZcB,List.map_map,Function.comp_def]
 rw [e]
 exact List.pairwise_map.2 (h.imp fun {a b} hl he=>by rw [he,ZaL] at hl;cases hl)
def Zfr (kvs:List (Str × Int)) (k:Str):DGrant:=⟨k,(mget kvs k).getD 0⟩
theorem ZmO {gs:List DGrant} {u:Str} {r:Int} (h:gs.Pairwise fun x y=>Op.bytesLess x.user y.user=true) {ks:List Str} (hs:ks.Pairwise fun a b=>Op.bytesLess a b=true) (hp :∀k,k∈ks↔k∈(Zcv gs u r).map (·.1)):ks.map (Zfr (Zcv gs u r))=Zbb gs u r:=by
 have hn:=Zgi h
 refine Zqc (lt:=fun x y:DGrant=>Op.bytesLess x.user y.user=true) (fun a e=>by rw [ZaL] at e;cases e) (fun a b e1 e2=>by have:=Zbn e1 e2;rw [ZaL] at this;cases this) (List.pairwise_map.2 hs) ?_ fun z=>?_
 ·by_cases hr:r=0
  ·subst hr;rw [Zcl];exact h.filter _
  ·rw [Zdg h hr,List.append_assoc,List.pairwise_append]
   refine ⟨h.filter _,?_,fun a ha b hb=>?_⟩
   ·rw [List.singleton_append,List.pairwise_cons]
    refine ⟨fun b hb=>?_,h.filter _⟩
    have hb2:=(List.mem_filter.1 hb).2
    simp only [Bool.and_eq_true,Bool.not_eq_true',decide_eq_true_eq] at hb2
    show Op.bytesLess u b.user=true
    rw [Zay,hb2.1];simp [hb2.2]
   ·have ha2:=(List.mem_filter.1 ha).2
    rcases List.mem_append.1 hb with hb | hb
    ·rw [List.mem_singleton.1 hb];exact ha2
    ·have hb2:=(List.mem_filter.1 hb).2
     simp only [Bool.and_eq_true,Bool.not_eq_true',decide_eq_true_eq] at hb2
     have h3:Op.bytesLess u b.user=true:=by rw [Zay,hb2.1];simp [hb2.2]
     exact Zbn ha2 h3
 ·have key:z∈ks.map (Zfr (Zcv gs u r))↔z.user∈(Zcv gs u r).map (·.1)∧z.rights=(mget (Zcv gs u r) z.user).getD 0:=by
   constructor
   ·intro hz
    obtain ⟨k,hk,rfl⟩:=List.mem_map.1 hz
    exact ⟨(hp k).1 hk,rfl⟩
   ·rintro ⟨h1,h2⟩
    exact List.mem_map.2 ⟨z.user,(hp _).2 h1,by cases z;simp only [Zfr] at h2 ⊢;rw [← h2]⟩
  rw [key]
  by_cases hr:r=0
  ·subst hr
   rw [Zcl,List.mem_filter]
   simp only [Zcv,if_true,decide_eq_true_eq]
   rw [ZgR hn,Zes]
   constructor
   ·rintro ⟨⟨h1,g,hg,he⟩,h2⟩
    rw [ZiR h1,← he,ZfQ h hg] at h2
    have:z=g:=by cases z;cases g;simp only at he h2;subst he;rw [h2];rfl
    exact ⟨this ▸ hg,h1⟩
   ·rintro ⟨h1,h2⟩
    refine ⟨⟨h2,z,h1,rfl⟩,?_⟩
    rw [ZiR h2,ZfQ h h1];rfl
  ·rw [Zdg h hr]
   simp only [Zcv,if_neg hr]
   rw [ZgQ,Zes,Zmn]
   simp only [List.mem_append,List.mem_singleton,List.mem_filter,Bool.and_eq_true,Bool.not_eq_true',decide_eq_true_eq]
   constructor
   ·rintro ⟨h1,h2⟩
    by_cases hu:z.user=u
    ·rw [if_pos hu] at h2
     left;right
     cases z;simp only at hu h2;subst hu;rw [h2];rfl
    ·rw [if_neg hu] at h2
     rcases h1 with h1 | ⟨g,hg,he⟩
     ·exact absurd h1 hu
     ·rw [← he,ZfQ h hg] at h2
      have hzg:z=g:=by cases z;cases g;simp only at he h2;subst he;rw [h2];rfl
      subst hzg
      cases hl:Op.bytesLess z.user u with
      | true=>exact .inl (.inl ⟨hg,rfl⟩)
      | false=>exact .inr ⟨hg,rfl,hu⟩
   ·rintro ((⟨h1,h2⟩ | h1) | ⟨h1,h2,h3⟩)
    ·have hu:z.user≠u:=fun e=>by rw [e,ZaL] at h2;cases h2
     exact ⟨.inr ⟨z,h1,rfl⟩,by rw [if_neg hu,ZfQ h h1];rfl⟩
    ·subst h1;exact ⟨.inl rfl,by rw [if_pos rfl];rfl⟩
    ·exact ⟨.inr ⟨z,h1,rfl⟩,by rw [if_neg h3,ZfQ h h1];rfl⟩
theorem Zis :∀(xs:List DGrant) (b:Str),(∀g,g∈xs→ZZ g.user=true∧1≤g.rights∧g.rights≤63)→xs.Pairwise (fun x y=>Op.bytesLess x.user y.user=true)→(∀g,g∈xs→Op.bytesLess b g.user=true)→(xs.foldl (fun (s:Bool × Str) x=>(s.1 && Za1 s.2 x,x.user)) (true,b)).1=true
 | [],_,_,_,_=>rfl
 | g :: t,b,h1,h2,h3=>by
  rw [List.pairwise_cons] at h2
  obtain ⟨a1,a2,a3⟩:=h1 g (List.mem_cons_self ..)
  have e:Za1 b g=true:=by simp [Za1,a1,a2,a3,h3 g (List.mem_cons_self ..)]
  rw [List.foldl_cons]
  simp only [e,Bool.and_true]
  exact Zis t g.user (fun y hy=>h1 y (List.mem_cons_of_mem _ hy)) h2.2 h2.1
theorem ZrW {xs:List DGrant} (h1 :∀g,g∈xs→ZZ g.user=true∧1≤g.rights∧g.rights≤63) (h2:xs.Pairwise fun x y=>Op.bytesLess x.user y.user=true):ZaF xs=decide (xs.length≤4):=by
 rw [ZaF,show (Zb1 xs).1=true from Zis xs [] h1 h2 fun g hg=>ZiM (Zgf (h1 g hg).1),Bool.true_and]
theorem Zit {gs:List DGrant} (h:ZaF gs=true) :∀g,g∈gs→ZZ g.user=true∧1≤g.rights∧g.rights≤63:=by
 intro g hg
 simp only [ZaF,Bool.and_eq_true,decide_eq_true_eq] at h
 obtain ⟨b,hb⟩:=ZiF (p:=Za1) (nx:=fun _ g=>g.user) gs [] h.1 g hg
 simp only [Za1,Bool.and_eq_true,decide_eq_true_eq] at hb
 exact ⟨hb.1.1,hb.1.2⟩
theorem Zf3 {gs:List DGrant} {u:Str} {r:Int} (h:gs.Pairwise fun x y=>Op.bytesLess x.user y.user=true):(Zbb gs u r).Pairwise fun x y=>Op.bytesLess x.user y.user=true:=by
 by_cases hr:r=0
 ·subst hr;rw [Zcl];exact h.filter _
 ·rw [Zdg h hr,List.append_assoc,List.pairwise_append]
  refine ⟨h.filter _,?_,fun a ha b hb=>?_⟩
  ·rw [List.singleton_append,List.pairwise_cons]
   refine ⟨fun b hb=>?_,h.filter _⟩
   have hb2:=(List.mem_filter.1 hb).2
   simp only [Bool.and_eq_true,Bool.not_eq_true',decide_eq_true_eq] at hb2
   show Op.bytesLess u b.user=true
   rw [Zay,hb2.1];simp [hb2.2]
  ·have ha2:=(List.mem_filter.1 ha).2
   rcases List.mem_append.1 hb with hb | hb
   ·rw [List.mem_singleton.1 hb];exact ha2
   ·have hb2:=(List.mem_filter.1 hb).2
    simp only [Bool.and_eq_true,Bool.not_eq_true',decide_eq_true_eq] at hb2
    have h3:Op.bytesLess u b.user=true:=by rw [Zay,hb2.1];simp [hb2.2]
    exact Zbn ha2 h3
theorem ZnP {gs:List DGrant} {u:Str} {r:Int} (h:gs.Pairwise fun x y=>Op.bytesLess x.user y.user=true) {g:DGrant} (hg:g∈Zbb gs u r):g∈gs∨(g=⟨u,r⟩∧r≠0):=by
 by_cases hr:r=0
 ·subst hr;rw [Zcl] at hg;exact .inl (List.mem_filter.1 hg).1
 ·rw [Zdg h hr] at hg
  simp only [List.mem_append,List.mem_singleton,List.mem_filter] at hg
  rcases hg with (hg | hg) | hg
  ·exact .inl hg.1
  ·exact .inr ⟨hg,hr⟩
  ·exact .inl hg.1
theorem ZhL {gs:List DGrant} {u:Str} {r:Int} (h:ZaF gs=true) (hu:ZZ u=true) (hr:ZaC r=true):ZaF (Zbb gs u r)=decide ((Zbb gs u r).length≤4):=by
 have hs:=ZcX h
 refine ZrW (fun g hg=>?_) (Zf3 hs)
 rcases ZnP hs hg with hg | ⟨rfl,h0⟩
 ·exact Zit h g hg
 ·simp only [ZaC,Bool.and_eq_true,decide_eq_true_eq] at hr
  refine ⟨hu,?_,hr.2⟩
  show 1≤r
  omega
theorem ZnQ {gs:List DGrant} {u:Str} (h:ZaF gs=true):(Zbb gs u 0).length≤4:=by
 rw [Zcl]
 exact Nat.le_trans (List.length_filter_le ..) (ZbE h)
theorem ZlV {gs:List DGrant} {u:Str} {r:Int} (h:gs.Pairwise fun x y=>Op.bytesLess x.user y.user=true) (k:Str):k∈(Zbb gs u r).map (·.user)↔k∈(Zcv gs u r).map (·.1):=by
 have hn:=Zgi h
 by_cases hr:r=0
 ·subst hr
  rw [Zcl]
  simp only [Zcv,if_true]
  rw [ZgR hn,Zes]
  simp only [List.mem_map,List.mem_filter,decide_eq_true_eq]
  constructor
  ·rintro ⟨g,⟨h1,h2⟩,rfl⟩;exact ⟨h2,g,h1,rfl⟩
  ·rintro ⟨h2,g,h1,rfl⟩;exact ⟨g,⟨h1,h2⟩,rfl⟩
 ·rw [Zdg h hr]
  simp only [Zcv,if_neg hr]
  rw [ZgQ,Zes]
  simp only [List.mem_map,List.mem_append,List.mem_singleton,List.mem_filter,Bool.and_eq_true,Bool.not_eq_true',decide_eq_true_eq]
  constructor
  ·rintro ⟨g,(⟨h1,_⟩ | rfl) | ⟨h1,_⟩,rfl⟩
   ·exact .inr ⟨g,h1,rfl⟩
   ·exact .inl rfl
   ·exact .inr ⟨g,h1,rfl⟩
  ·rintro (rfl | ⟨g,h1,rfl⟩)
   ·exact ⟨⟨k,r⟩,.inl (.inr rfl),rfl⟩
   ·by_cases hu:g.user=u
    ·exact ⟨⟨u,r⟩,.inl (.inr rfl),hu.symm⟩
    ·cases hl:Op.bytesLess g.user u with
     | true=>exact ⟨g,.inl (.inl ⟨h1,hl⟩),rfl⟩
     | false=>exact ⟨g,.inr ⟨h1,hl,hu⟩,rfl⟩
theorem Zkd {gs:List DGrant} {u:Str} {r:Int} (h:gs.Pairwise fun x y=>Op.bytesLess x.user y.user=true) (hn:((Zcv gs u r).map (·.1)).Nodup):(Zcv gs u r).length=(Zbb gs u r).length:=by
 have h2:((Zbb gs u r).map (·.user)).Nodup:=List.pairwise_map.2 ((Zf3 h).imp fun {a b} hl he=>by rw [he,ZaL] at hl;cases hl)
 have hp:=(List.perm_ext_iff_of_nodup hn h2).2 fun k=>(ZlV h k).symm
 have:=hp.length_eq
 simpa using this
theorem ZlT {gs:List DGrant} {u:Str} {r:Int} (h:ZaF gs=true) (hu:ZZ u=true) (hr:ZaC r=true) (hn:((Zcv gs u r).map (·.1)).Nodup) (hl:4<(Zcv gs u r).length):Zap gs u r=(gs,false):=
 ZhK ⟨h,hu,hr⟩ (by rw [ZhL h hu hr,← Zkd (ZcX h) hn];simp;omega)
theorem ZnN {gs:List DGrant} {u:Str} {r:Int} (h:ZaF gs=true) (hu:ZZ u=true) (hr:ZaC r=true) (hn:((Zcv gs u r).map (·.1)).Nodup) (hl:(Zcv gs u r).length≤4):Zap gs u r=(Zbb gs u r,true):=
 ZeT ⟨h,hu,hr⟩ (by rw [ZhL h hu hr,← Zkd (ZcX h) hn];simp;omega)
theorem ZnO {gs:List DGrant} {u:Str} (h:ZaF gs=true) (hu:ZZ u=true):Zap gs u 0=(Zbb gs u 0,true):=
 ZeT ⟨h,hu,by decide⟩ (by rw [ZhL h hu (by decide)];simp;exact ZnQ h)
def Zjq (x:DHost) (by_ o n u:Str) (r:Int):Nat:=
 if ZfZ x.users x.folders by_ o n 32≠0 then ZfZ x.users x.folders by_ o n 32 else if u≠anyone∧(Z9 x.users u).2=false then 1 else
  match x.folders[(Zb8 (inF o n) x.folders).toNat]? with
  | none=>0
  | some f=>if (Zap f.grants u r).2=true then 0 else 4
def Zjp (x:DHost) (by_ o n u:Str) (r:Int):DHost:=
 if Zjq x by_ o n u r≠0 then x else match x.folders[(Zb8 (inF o n) x.folders).toNat]? with
  | none=>x
  | some f=>x.withFolders (x.folders.set (Zb8 (inF o n) x.folders).toNat (f.withGrants (Zap f.grants u r).1))
theorem Zpr (x:DHost) (by_ o n u:Str) (r:Int):Zjq x by_ o n u r<5:=by
 have:=Zp1 x.users x.folders by_ o n 32
 unfold Zjq
 split
 ·omega
 ·split
  ·omega
  ·split
   ·omega
   ·split <;> omega
theorem Zpq {x:DHost} {by_ o n u:Str} {r:Int} (h:ZfZ x.users x.folders by_ o n 32≠0):Zjq x by_ o n u r=ZfZ x.users x.folders by_ o n 32∧Zjp x by_ o n u r=x:=by
 have e:Zjq x by_ o n u r=ZfZ x.users x.folders by_ o n 32:=by rw [Zjq,if_pos h]
 exact ⟨e,by rw [Zjp,if_pos (by omega)]⟩
theorem ZmA {x:DHost} {by_ o n u:Str} {r:Int} (h:ZfZ x.users x.folders by_ o n 32=0) (h1:u≠anyone) (h2:(Z9 x.users u).2=false):Zjq x by_ o n u r=1∧Zjp x by_ o n u r=x:=by
 have e:Zjq x by_ o n u r=1:=by rw [Zjq,if_neg (by omega),if_pos ⟨h1,h2⟩]
 exact ⟨e,by rw [Zjp,if_pos (by omega)]⟩
theorem Zi5 {x:DHost} {by_ o n u:Str} {r:Int} {k:Nat} {f:DFolder} (h:ZfZ x.users x.folders by_ o n 32=0) (h1 : ¬ (u≠anyone∧(Z9 x.users u).2=false)) (hk:Zb8 (inF o n) x.folders=(k:Int)) (hf:x.folders[k]? = some f) (h2:(Zap f.grants u r).2=false):Zjq x by_ o n u r=4∧Zjp x by_ o n u r=x:=by
 have e:Zjq x by_ o n u r=4:=by
  rw [Zjq,if_neg (by omega),if_neg h1,hk,Int.toNat_natCast];simp only [hf,h2];rfl
 exact ⟨e,by rw [Zjp,if_pos (by omega)]⟩
theorem Zi6 {x:DHost} {by_ o n u:Str} {r:Int} {k:Nat} {f:DFolder} (h:ZfZ x.users x.folders by_ o n 32=0) (h1 : ¬ (u≠anyone∧(Z9 x.users u).2=false)) (hk:Zb8 (inF o n) x.folders=(k:Int)) (hf:x.folders[k]? = some f) (h2:(Zap f.grants u r).2=true):Zjq x by_ o n u r=0∧Zjp x by_ o n u r=x.withFolders (x.folders.set k (f.withGrants (Zap f.grants u r).1)):=by
 have e:Zjq x by_ o n u r=0:=by
  rw [Zjq,if_neg (by omega),if_neg h1,hk,Int.toNat_natCast];simp only [hf,h2];rfl
 exact ⟨e,by rw [Zjp,if_neg (by omega),hk,Int.toNat_natCast];simp only [hf]⟩
theorem Zmz (x:DHost) (by_ o n u:Str) (r:Int):((if ZaC r=true∧Z7 x=true then (Zjp x by_ o n u r,(Zjq x by_ o n u r:Int)) else (Zc5,5)):DHost × Int)=Z3 x by_ o n u r:=by
 unfold Z3
 by_cases h:Z7 x=true∧ZaC r=true
 ·rw [if_pos ⟨h.2,h.1⟩,if_neg (fun hh=>hh h)]
  have hce:((ZfZ x.users x.folders by_ o n 32:Nat):Int)=Zp3 x.users x.folders by_ (Zb8 (inF o n) x.folders) 32:=ZtU (k:=5) h.1 (by omega)
  by_cases h0:ZfZ x.users x.folders by_ o n 32=0
  ·rw [if_neg (by omega)]
   have hk:=Zho h.1 u
   by_cases h1:u≠anyone∧(Z9 x.users u).2=false
   ·obtain ⟨e1,e2⟩:=ZmA (r:=r) h0 h1.1 h1.2
    rw [if_pos ⟨h1.1,by rw [hk] at h1;have:=h1.2;simp at this;omega⟩,e1,e2];rfl
   ·rw [if_neg (fun hh=>h1 ⟨hh.1,by rw [hk];simp;omega⟩)]
    obtain ⟨k,f,hkx,hf⟩:=ZpZ h0
    rw [hkx,Int.toNat_natCast,Zd3,hf]
    cases h2:(Zap f.grants u r).2 with
    | true=>obtain ⟨e1,e2⟩:=Zi6 h0 h1 hkx hf h2;rw [e1,e2];simp only [h2,if_true];rfl
    | false=>obtain ⟨e1,e2⟩:=Zi5 h0 h1 hkx hf h2;rw [e1,e2];simp only [h2,Bool.false_eq_true,if_false];rfl
  ·obtain ⟨e1,e2⟩:=Zpq (u:=u) (r:=r) h0
   rw [if_pos (by omega),e1,e2,hce]
 ·rw [if_neg (fun hh=>h ⟨hh.2,hh.1⟩),if_pos h]
theorem Zpp {x:DHost} {b o n u:Str} {r:Int} (h:Z7 x=false):(Z3 x b o n u r).1=Zc5:=by rw [Z3,if_pos (by simp [h])]
theorem Zto {x:DHost} {b o n u:Str} {r:Int} : kH 1 (Z3 x b o n u r).1≤700000000000000∧(Z3 x b o n u r).1.users.length≤2000000∧(Z3 x b o n u r).1.folders.length≤2000000∧(Z3 x b o n u r).1.queue.items.length≤2000000:=
 ZuX (x:=x) Zpp fun h=>by
  by_cases h1:ZaC r=true
  ·rcases Zpo (b:=b) (o:=o) (n:=n) (u:=u) (r:=r) h with e | e
   ·exfalso
    rw [← Zmz,if_pos ⟨h1,h⟩] at e
    have:=Zpr x b o n u r
    simp only at e;omega
   ·exact .inr e
  ·left;rw [Z3,if_pos (fun hh=>h1 hh.2)]
end Go.BL
namespace Go.BL
open Go
abbrev Zeh (a b:Str):Prop:=Op.bytesLess a b=true
def Srt (xs0:List Str) (i j:Nat) (xs:List Str):Prop:=∃pre m post rest,xs=pre ++ m :: (post ++ rest)∧pre.length=j∧j+post.length=i∧(pre ++ post).Pairwise Zeh∧(∀y,y∈post→Zeh m y)∧xs.Perm xs0
theorem Srt.len {xs0 xs:List Str} {i j:Nat} (h:Srt xs0 i j xs):xs.length=xs0.length∧j≤i∧i<xs.length:=by
 obtain ⟨pre,m,post,rest,rfl,h1,h2,_,_,h5⟩:=h
 refine ⟨h5.length_eq,by omega,?_⟩
 simp;omega
theorem Srt.perm {xs0 xs:List Str} {i j:Nat} (h:Srt xs0 i j xs):xs.Perm xs0:=by
 obtain ⟨_,_,_,_,_,_,_,_,_,h⟩:=h;exact h
theorem Srt.init {xs0 xs:List Str} {i:Nat} (h:(xs.take i).Pairwise Zeh) (hi:i<xs.length) (hp:xs.Perm xs0):Srt xs0 i i xs:=by
 refine ⟨xs.take i,xs[i],[],xs.drop (i+1),?_,by simp;omega,by simp,by simpa using h,by simp,hp⟩
 simp
theorem Zou {α:Type} :∀(pre:List α) (p m:α) (t:List α),((pre ++ p :: m :: t).set (pre.length+1) p).set pre.length m=pre ++ m :: p :: t
 | [],p,m,t=>rfl
 | a :: pre,p,m,t=>by
  have:=Zou pre p m t
  simp only [List.cons_append,List.length_cons,List.set_cons_succ,this]
theorem Zgh {α:Type} :∀{pre:List α} {j:Nat},pre.length=j+1→∃a b,pre=a ++ [b]
 | [],_,h=>by simp at h
 | [x],_,_=>⟨[],x,rfl⟩
 | x :: y :: t,0,h=>by simp at h
 | x :: y :: t,j+1,h=>by
  obtain ⟨a,b,e⟩:=Zgh (pre:=y :: t) (j:=j) (by simpa using h)
  exact ⟨x :: a,b,by rw [e];rfl⟩
theorem Srt.step {xs0 xs:List Str} {i j:Nat} {m p:Str} (h:Srt xs0 i (j+1) xs) (hm:xs[j+1]? = some m) (hp:xs[j]? = some p) (hl:Zeh m p):Srt xs0 i j ((xs.set (j+1) p).set j m):=by
 obtain ⟨pre,m',post,rest,rfl,h1,h2,h3,h4,h5⟩:=h
 obtain ⟨pre',p',rfl⟩ :∃a b,pre=a ++ [b]:=Zgh h1
 have hl':pre'.length=j:=by simpa using h1
 subst hl'
 have e1:m'=m:=by
  have:(pre' ++ [p'] ++ m' :: (post ++ rest))[pre'.length+1]? = some m':=by
   rw [List.getElem?_append_right (by simp)];simp
  rw [this] at hm;exact Option.some.inj hm
 have e2:p'=p:=by
  have:(pre' ++ [p'] ++ m' :: (post ++ rest))[pre'.length]? = some p':=by
   rw [List.append_assoc,List.getElem?_append_right (by simp)];simp
  rw [this] at hp;exact Option.some.inj hp
 subst e1 e2
 have e3:((pre' ++ [p'] ++ m' :: (post ++ rest)).set (pre'.length+1) p').set pre'.length m'=pre' ++ m' :: p' :: (post ++ rest):=by
  rw [List.append_assoc];exact Zou pre' p' m' (post ++ rest)
 rw [e3]
 refine ⟨pre',m',p' :: post,rest,by simp,rfl,by simp;omega,by simpa using h3,fun y hy=>?_,?_⟩
 ·rcases List.mem_cons.1 hy with rfl | hy
  ·exact hl
  ·exact h4 y hy
 ·refine List.Perm.trans ?_ h5
  rw [List.append_assoc]
  exact List.Perm.append_left _ (List.Perm.swap ..)
theorem Zl9 {pre post rest:List Str} {m:Str} {i j:Nat} (h1:pre.length=j) (h2:j+post.length=i):(pre ++ m :: (post ++ rest)).take (i+1)=pre ++ m :: post:=by
 rw [show pre ++ m :: (post ++ rest)=(pre ++ m :: post) ++ rest by simp,List.take_append_of_le_length (by simp;omega),List.take_of_length_le (by simp;omega)]
theorem Srt.stop0 {xs0 xs:List Str} {i:Nat} (h:Srt xs0 i 0 xs):(xs.take (i+1)).Pairwise Zeh:=by
 obtain ⟨pre,m,post,rest,rfl,h1,h2,h3,h4,h5⟩:=h
 rw [Zl9 h1 h2]
 have:pre=[]:=List.eq_nil_of_length_eq_zero h1
 subst this
 exact List.pairwise_cons.2 ⟨h4,by simpa using h3⟩
theorem Srt.stop {xs0 xs:List Str} {i j:Nat} {m p:Str} (h:Srt xs0 i (j+1) xs) (hn:xs.Nodup) (hm:xs[j+1]? = some m) (hp:xs[j]? = some p) (hl:Op.bytesLess m p=false):(xs.take (i+1)).Pairwise Zeh:=by
 have hmp:p≠m:=fun e=>by
  subst e
  obtain ⟨a1,a2⟩:=List.getElem?_eq_some_iff.1 hm
  obtain ⟨b1,b2⟩:=List.getElem?_eq_some_iff.1 hp
  have:=(List.getElem_inj hn).1 (a2.trans b2.symm)
  omega
 have hpm:Zeh p m:=by
  show Op.bytesLess p m=true
  rw [Zay,hl];simp;exact fun e=>hmp e.symm
 obtain ⟨pre,m',post,rest,rfl,h1,h2,h3,h4,h5⟩:=h
 obtain ⟨pre',p',rfl⟩ :∃a b,pre=a ++ [b]:=Zgh h1
 have hl':pre'.length=j:=by simpa using h1
 subst hl'
 have e1:m'=m:=by
  have:(pre' ++ [p'] ++ m' :: (post ++ rest))[pre'.length+1]? = some m':=by
   rw [List.getElem?_append_right (by simp)];simp
  rw [this] at hm;exact Option.some.inj hm
 have e2:p'=p:=by
  have:(pre' ++ [p'] ++ m' :: (post ++ rest))[pre'.length]? = some p':=by
   rw [List.append_assoc,List.getElem?_append_right (by simp)];simp
  rw [this] at hp;exact Option.some.inj hp
 subst e1 e2
 rw [Zl9 h1 h2]
 rw [List.pairwise_append] at h3 ⊢
 refine ⟨h3.1,List.pairwise_cons.2 ⟨h4,h3.2.1⟩,fun a ha b hb=>?_⟩
 rcases List.mem_cons.1 hb with rfl | hb
 ·rcases List.mem_append.1 ha with ha | ha
  ·have h6:=List.pairwise_append.1 h3.1
   exact Zbn (h6.2.2 a ha p' (List.mem_singleton.2 rfl)) hpm
  ·rw [List.mem_singleton.1 ha];exact hpm
 ·exact h3.2.2 a ha b hb
theorem Srt.step2 {xs0 xs:List Str} {i j:Nat} {m p:Str} (h:Srt xs0 i j xs) (h0:0<j) (hm:xs[j]? = some m) (hp:xs[j - 1]? = some p) (hl:Zeh m p):Srt xs0 i (j - 1) ((xs.set j p).set (j - 1) m):=by
 obtain ⟨k,rfl⟩ :∃k,j=k+1:=⟨j - 1,by omega⟩
 exact h.step hm hp hl
theorem Srt.stop2 {xs0 xs:List Str} {i j:Nat} {m p:Str} (h:Srt xs0 i j xs) (h0:0<j) (hn:xs0.Nodup) (hm:xs[j]? = some m) (hp:xs[j - 1]? = some p) (hl:Op.bytesLess m p=false):(xs.take (i+1)).Pairwise Zeh:=by
 obtain ⟨k,rfl⟩ :∃k,j=k+1:=⟨j - 1,by omega⟩
 exact h.stop (h.perm.nodup_iff.2 hn) hm hp hl
theorem ZqD (xs:List Str):(xs.take 1).Pairwise Zeh:=by cases xs <;> simp
theorem ZrT {T:Array Value} {S:Env} {n a:Nat} {x:Value} (h:Ag T S) (hn:T.size=n) (ha:Nat.blt a n=true):Ag (Zgp #[a] T [x]) ((a,x) :: S)∧(Zgp #[a] T [x]).size=n:=by
 rw [Nat.blt_eq] at ha
 have e:Zgp #[a] T [x]=T.setIfInBounds a x:=by simp [Zgp]
 rw [e]
 exact ⟨h.put (by omega) x,by simp [hn]⟩
theorem ZiA :∀{ks ls:List Str},ks.Nodup→(∀k,k∈ks→k∈ls)→ks.length≤ls.length
 | [],_,_,_=>Nat.zero_le _
 | k :: ks,ls,hn,hs=>by
  have hk:=hs k (List.mem_cons_self ..)
  have h1:ks.length≤(ls.erase k).length:=ZiA (List.nodup_cons.1 hn).2 fun x hx=>(List.mem_erase_of_ne (fun (e:x=k)=>(List.nodup_cons.1 hn).1 (by rw [← e];exact hx))).2 (hs x (List.mem_cons_of_mem _ hx))
  rw [List.length_erase_of_mem hk] at h1
  have:=List.length_pos_of_mem hk
  simp;omega
theorem ZhN.len {lm li:Cells} {b r:Nat} {kvs:KV} {done:List Str} (h:ZhN lm li b r kvs done):done.length≤kvs.length:=by
 have:=ZiA h.keys.1 h.keys.2
 simpa using this
theorem ZhN.lt {lm li:Cells} {b r:Nat} {kvs:KV} {done:List Str} {y:Str} (h:ZhN lm li b r kvs (done ++ [y])):done.length<kvs.length:=by
 have:=h.len
 simp at this;omega
theorem ZxH {n:Nat} (h:n≤12):IntKind.u64.wrap (n:Int)=n∧IntKind.u8.wrap (n:Int)=n:=by
 have h2:n=0∨n=1∨n=2∨n=3∨n=4∨n=5∨n=6∨n=7∨n=8∨n=9∨n=10∨n=11∨n=12:=by omega
 rcases h2 with rfl | rfl | rfl | rfl | rfl | rfl | rfl | rfl | rfl | rfl | rfl | rfl | rfl <;> exact ⟨rfl,rfl⟩
theorem ZqO {xs:List Str} (h:xs.Pairwise Zeh):xs.Nodup:=h.imp fun {a b} hl he=>by subst he;have:=ZaL a;rw [Zeh,this] at hl;cases hl
theorem Zq8 (kvs:KV) (k:Str) (v:Int):(mput kvs k v).length≤kvs.length+1:=by
 induction kvs with
 | nil=>simp [mput]
 | cons p t ih=>
  obtain ⟨a,w⟩:=p
  simp only [mput]
  split <;> simp only [List.length_cons] <;> omega
theorem Zrb (kvs:KV) (k:Str):(mdel kvs k).length≤kvs.length:=by
 induction kvs with
 | nil=>simp [mdel]
 | cons p t ih=>
  obtain ⟨a,w⟩:=p
  simp only [mdel]
  split <;> simp only [List.length_cons] <;> omega
theorem Zjs.keys {l:Cells} {b:Nat} {kvs:KV} (h:Zjs l b kvs):(kvs.map (·.1)).Nodup:=by
 obtain ⟨es,clock,_,ok⟩:=h;exact ok.keys
theorem Zhi {gs:List DGrant} {u:Str} {r:Int} (h:ZaF gs=true) (hu:u.length≤2000000):(∀k,k∈(Zcv gs u r).map (·.1)→k.length≤2000000)∧(Zcv gs u r).length≤5:=by
 have hs:=ZcX h
 have hl:=ZbE h
 have hk :∀k,k∈(ZcB gs).map (·.1)→k.length≤2000000:=fun k hk=>by
  obtain ⟨g,hg,rfl⟩:=(Zes gs k).1 hk
  have h2:=(Zit h g hg).1
  simp only [ZZ,Bool.and_eq_true,decide_eq_true_eq] at h2
  omega
 have hkl:(ZcB gs).length=gs.length:=by simp [ZcB]
 refine ⟨fun k hm=>?_,?_⟩
 ·by_cases hr:r=0
  ·simp only [Zcv,if_pos hr] at hm
   exact hk k ((ZgR (Zgi hs)).1 hm).2
  ·simp only [Zcv,if_neg hr] at hm
   rcases ZgQ.1 hm with rfl | hm
   ·exact hu
   ·exact hk k hm
 ·by_cases hr:r=0
  ·simp only [Zcv,if_pos hr]
   have:=Zrb (ZcB gs) u;omega
  ·simp only [Zcv,if_neg hr]
   have:=Zq8 (ZcB gs) u r;omega
theorem ZeM {us:List DUser} {f:DFolder} (h:ZX us f=true):ZaF f.grants=true:=by
 simp only [ZX,Bool.and_eq_true] at h
 first | exact h.1.2 | exact h.2 | exact h.1.1.2 | exact h.1.1.1.2
theorem ZlS {gs:List DGrant} {u:Str} {r:Int} (h:ZaF gs=true):(Zap gs u r).1.length≤4:=by
 unfold Zap
 split
 ·simp
 ·split
  ·rename_i h2;exact ZbE h2
  ·exact ZbE h
theorem ZxI (c:UInt8):IntKind.i64.wrap (c.toNat:Int)=c.toNat∧IntKind.i64.wrap (0+(c.toNat:Int))=0+c.toNat:=by
 have:=UInt8.toNat_lt c
 exact ⟨Zbd (by omega) (by omega),Zbd (by omega) (by omega)⟩
end Go.BL
namespace Go.BL
open Go
end Go.BL
namespace Go.BL
section
variable {P:PJ} {n:Nat} {ops:Array Oper} {i:Nat} {K:Z8} {S:Env} {D:List Deferred} {B:Kn} {L:List Cells}
variable {dst:Option Tmp} {ty:TypeId} {pos:String} {after:Array Edge} {g:Option (Nat × Bool)}
end
end Go.BL
