/-
  THE WALK'S LOGIC: owned cells and known cells, goroutines started and awaited, calls, loops, data, and plain laws on lists: no program in sight.
-/
import Derived.Test.YtonfijmgahdgeaaGreatDoorB0
set_option linter.unusedVariables false
set_option linter.unusedSimpArgs false
set_option linter.unusedSectionVars false
namespace Go.BL
open Go.Conc (G)
def Zai (Tg Tm:TypeId):Zg6 DFolder:=fun row x ins=>∃q c q' c' i1 i2,row=[str x.owner,str x.name,.slice q x.grants.length c,.int .i64 x.next,.slice q' x.mail.length c']∧ins=i1 ++ i2∧ZR Kn.none i1 q c Tg 2 Zaf x.grants∧ZR Kn.none i2 q' c' Tm 3 Zah x.mail∧
 x.owner.length≤2000000∧x.name.length≤2000000∧x.grants.length≤2000000∧x.mail.length≤2000000
theorem Zai.known {Tg Tm:TypeId} {B:Kn} {row:List Value} {x:DFolder} {ins:Cells} (h:Zai Tg Tm row x ins) (hm :∀q,q∈ins→B.mem q.1=some q.2):ZF B row x:=by
 obtain ⟨q,c,q',c',i1,i2,h1,rfl,h2,h3,h4,h5,h6,h7⟩:=h
 exact ⟨q,c,q',c',h1,⟨h2.rowsF Zaf.any fun p hp=>hm p (List.mem_append.2 (.inl hp)),h2.cap,h6⟩,⟨h3.rowsF Zah.any fun p hp=>hm p (List.mem_append.2 (.inr hp)),h3.cap,h7⟩,h4,h5⟩
theorem All3.set {α:Type} {R:Zg6 α} {rows:List (List Value)} {xs:List α} {s:Cells} (h:All3 R rows xs s) {row:List Value} {z:α} {ins:Cells} (hz:R row z ins) :∀k,k<xs.length→∃s' gl,All3 R (rows.set k row) (xs.set k z) s'∧(s ++ ins).Perm (s' ++ gl):=by
 induction h with
 | nil=>intro k hk;simp at hk
 | @cons row0 x ins0 rest rows xs h1 h2 ih=>
  intro k hk
  cases k with
  | zero=>
   refine ⟨ins ++ rest,ins0,.cons hz h2,?_⟩
   exact ZzI fun f g h0 ha hc=>by simp only [ha];omega
  | succ k=>
   obtain ⟨s',gl,h3,h4⟩:=ih k (by simpa using hk)
   refine ⟨ins0 ++ s',gl,.cons h1 h3,?_⟩
   rw [List.append_assoc,List.append_assoc]
   exact List.Perm.append_left _ h4
theorem All3.zeros {α:Type} {R:Zg6 α} {row:List Value} {d:α} (h:R row d []) :∀m,All3 R (List.replicate m row) (List.replicate m d) []
 | 0=>.nil
 | m+1=>by rw [List.replicate_succ,List.replicate_succ];exact All3.cons (ins:=[]) h (All3.zeros h m)
theorem ZaM.zeros {α:Type} {b:Nat} {T:TypeId} {R:Zg6 α} {zs:List Value} {d:α} {m c w:Nat} (hw:zs.length=w) (hR:R zs d []) (hmc:m≤c):ZaM (ZP b (zrow zs c) T) (some ⟨b,0,Option.none⟩) c T w R (List.replicate m d):=by
 refine ⟨List.replicate m zs,_,[],All3.zeros hR m,fun r hr=>by rw [(List.mem_replicate.1 hr).2];exact hw,by rw [List.append_nil],?_,.inr ⟨b,_,rfl,by rw [Zci,hw],?_,rfl,by rw [List.length_replicate];exact hmc⟩⟩
 ·rw [List.length_replicate]
  exact (Zci (z:=zs) (c:=m)).trans (by rw [hw])
 ·rw [List.length_replicate]
  have e:zrow zs c=zrow zs m ++ zrow zs (c - m):=by
   simp only [zrow,← List.flatten_append,List.replicate_append_replicate]
   rw [show m+(c - m)=c from by omega]
  rw [e,List.take_append_of_le_length (by rw [Zci,hw];exact Nat.le_refl _),List.take_of_length_le (by rw [Zci,hw];exact Nat.le_refl _)]
  rfl
theorem ZaM.ptr {α:Type} {l:Cells} {p:Option Addr} {c:Nat} {T:TypeId} {w:Nat} {R:Zg6 α} {xs:List α} (h:ZaM l p c T w R xs) (hx:0<xs.length) :∃b,p=some ⟨b,0,Option.none⟩:=by
 obtain ⟨rows,blk,ins,_,_,_,_,⟨_,h0,_,_⟩ | ⟨b,arr,rfl,_⟩⟩:=h
 ·omega
 ·exact ⟨b,rfl⟩
theorem ZgL :∀{l vs:List Value},l.length=vs.length→Z7 l 0 vs=vs
 | l,[],h=>by rw [Zbh];exact List.eq_nil_of_length_eq_zero h
 | [],v :: vs,h=>by simp at h
 | x :: l,v :: vs,h=>by
  have:=ZgL (l:=l) (vs:=vs) (by simpa using h)
  simp [Z7,this]
section
variable {P:PJ} {n:Nat} {ops:Array Oper} {i:Nat} {K:ZaE} {S:Env} {D:List Deferred} {B:Kn} {L:List Cells} {Q:Exit→Zag}
variable {dst:Option Tmp} {ty:TypeId} {pos:String} {after:Array Edge} {g:Option (Nat × Bool)}
theorem ZrE {o:Oper} {L':List Cells} {K':ZaE} (hp:L.flatten.Perm L'.flatten) (h:opX P n ops i o K' S D B L') (hk :∀v D' B' L₁,B.le B'→K' v D' B' L₁→∃L₂ gl,L₁.flatten.Perm (L₂.flatten ++ gl)∧K v D' B' L₂):opX P n ops i o K S D B L:=⟨h.1,fun C todo k T ho hn hT hA=>
 C.X.perm (hp.append_right _) (h.2 C todo k T ho hn hT fun v D' B' L₁ hle hK=>by
  obtain ⟨L₂,gl,hp2,hK2⟩:=hk v D' B' L₁ hle hK
  refine C.X.drop (r:=L₂.flatten ++ C.F) (gl:=gl) ((hp2.append_right _).trans ?_) (hA v D' B' L₂ hle hK2)
  rw [List.append_assoc,List.append_assoc]
  exact List.Perm.append_left _ List.perm_append_comm)⟩
theorem ZwW {α:Type} {R:Zg6 α} {xs:List α} (z:α) {t T:TypeId} {x y:Operand} {v:Value} {row:List Value} {sz k c b:Nat} {l:Cells} {p:Option Addr} {inss r:List Cells} (j:Nat) (ks:List Nat) (hpk:ZaA L (j :: ks)=some (l :: inss,r)) (hnd:ZeW (j :: ks)=true) (hv:ZaM l p c T sz R xs) (hp:p=some ⟨b,0,Option.none⟩) (hk:k<xs.length) (hg:Zk ops S g=some true) (hd:Zw n dst=true) (hsz:ZG P t=some sz)
  (hx:ev S x=some (ptr ⟨b,k*sz,Option.none⟩)) (hy:ev S y=some v) (hvc:v.cells=row.toArray) (ho:row.all ZgO=true) (hrl:row.length=sz) (ins0:Cells) (hi0:inss.flatten=ins0) (hr:R row z ins0)
  (h :∀l',ZaM l' p c T sz R (xs.set k z)→K undef D B (ZcS r (j :: ks) (l' :: inss.map fun _=>[]))):opX P n ops i ⟨dst,.store t x y,ty,pos,after,g⟩ K S D B L:=by
 subst hp
 subst hi0
 obtain ⟨rows,blk,ins,h1,h2,h3,hl1,⟨hc,_⟩ | ⟨b',arr,e,ha,ht,rfl,hmc⟩⟩:=hv
 ·cases hc
 ·cases e
  have hpp:=Zau (j :: ks) L (l :: inss) r hpk
  have hb1:k*sz+row.length≤arr.length:=by
   have:(k+1)*sz≤c*sz:=Nat.mul_le_mul_right sz (by omega)
   rw [Nat.succ_mul] at this;omega
  obtain ⟨s',gl,a1,a2⟩:=h1.set hr k hk
  refine ZrE (L':=[ZP b arr T ++ ins,inss.flatten ++ r.flatten]) (K':=fun u D' B' L₁=>u=undef∧D'=D∧B'=B∧L₁=[ZP b (Z7 arr (k*sz) row) T ++ ins,inss.flatten ++ r.flatten]) ?_ ?_ ?_
  ·refine hpp.trans ?_
   simp only [List.flatten_cons,List.flatten_nil,List.append_nil,List.append_assoc]
   refine (h3.append_right _).trans ?_
   rw [List.append_assoc]
  ·exact Zav row 0 (Z7 arr (k*sz) row) hg hd (by rw [hrl];exact hsz) hx hy hvc ho (T:=T) (r:=ins) rfl rfl (by rw [Nat.ble_eq];exact hb1) rfl ⟨rfl,rfl,rfl,rfl⟩
  ·rintro u D' B' L₁ hle ⟨rfl,rfl,rfl,rfl⟩
   have hlen:k<rows.length:=by rw [h1.len];exact hk
   have hnew:ZaM (ZP b (Z7 arr (k*sz) row) T ++ s') (some ⟨b,0,Option.none⟩) c T sz R (xs.set k z):=by
    refine ⟨rows.set k row,_,s',a1,fun r' hr'=>?_,.refl _,?_,.inr ⟨b,_,rfl,by rw [Z6];exact ha,?_,rfl,by rw [List.length_set];exact hmc⟩⟩
    ·rcases List.mem_or_eq_of_mem_set hr' with hr' | rfl
     ·exact h2 r' hr'
     ·exact hrl
    ·rw [Zd1 (w:=sz),List.length_set,List.length_set,h1.len]
     intro r' hr'
     rcases List.mem_or_eq_of_mem_set hr' with hr' | rfl
     ·exact h2 r' hr'
     ·exact hrl
    ·rw [List.length_set]
     have hr1:rows[k]? = some rows[k]:=List.getElem?_eq_getElem hlen
     have hrow0:rows[k].length=sz:=h2 _ (List.getElem_mem hlen)
     have e:=Zd4 (us:=row) (off:=0) h2 hr1 (by omega)
     rw [ZgL (by rw [hrow0,hrl]),Nat.add_zero] at e
     have hb2:k*sz+row.length≤xs.length*sz:=by
      have:(k+1)*sz≤xs.length*sz:=Nat.mul_le_mul_right sz hk
      rw [Nat.succ_mul] at this;omega
     have hb3:xs.length*sz≤arr.length:=by rw [ha];exact Nat.mul_le_mul_right sz hmc
     rw [Zeu _ _ _ _ hb2 hb3,ht,e]
   refine ⟨_,gl,?_,h _ hnew⟩
   have hq:=ZcE ((ZP b (Z7 arr (k*sz) row) T ++ s') :: inss.map fun _=>[]) r (j :: ks) (ZcG hnd) (fun jj hj=>ZcF (j :: ks) L (l :: inss) r hpk jj (.inr hj))
   have hnil:((inss.map fun _=>([]:Cells))).flatten=[]:=by
    clear hpk hpp hq hr h
    induction inss with
    | nil=>rfl
    | cons a as ih=>simp
   rw [List.flatten_cons,hnil,List.append_nil] at hq
   simp only [List.flatten_cons,List.flatten_nil,List.append_nil]
   refine List.Perm.trans ?_ (hq.append_right gl)
   have e1:(ZP b (Z7 arr (k*sz) row) T ++ ins ++ (inss.flatten ++ r.flatten)).Perm (ZP b (Z7 arr (k*sz) row) T ++ ((ins ++ inss.flatten) ++ r.flatten)):=by simp only [List.append_assoc];exact .refl _
   have e2:(ZP b (Z7 arr (k*sz) row) T ++ ((ins ++ inss.flatten) ++ r.flatten)).Perm (ZP b (Z7 arr (k*sz) row) T ++ ((s' ++ gl) ++ r.flatten)):=List.Perm.append_left _ (a2.append_right _)
   refine (e1.trans e2).trans ?_
   exact ZzI fun f g h0 ha hc=>by simp only [ha];omega
end
section
variable {P:PJ} {n:Nat} {ops:Array Oper} {i:Nat} {K:ZaE} {S:Env} {D:List Deferred} {B BV:Kn} {L:List Cells}
variable {dst:Option Tmp} {ty:TypeId} {pos:String} {after:Array Edge} {g:Option (Nat × Bool)}
theorem ZfH {α:Type} {R:Rel α} {xs:List α} (z:α) {t T:TypeId} {x y:Operand} {v:Value} {row:List Value} {l:Cells} {p:Option Addr} {c sz k b:Nat} (j:Nat) (hj:L[j]? = some l) (hv:ZR BV l p c T sz R xs) (hp:p=some ⟨b,0,none⟩) (hk:k<xs.length) (hg:Zk ops S g=some true) (hd:Zw n dst=true) (hsz:ZG P t=some sz)
  (hx:ev S x=some (ptr ⟨b,k*sz,none⟩)) (hy:ev S y=some v) (hvc:v.cells=row.toArray) (ho:row.all ZgO=true) (hrl:row.length=sz) (hr:R BV row z)
  (h :∀l',ZR BV l' p c T sz R (xs.set k z)→K undef D B (L.set j l')):opX P n ops i ⟨dst,.store t x y,ty,pos,after,g⟩ K S D B L:=by
 obtain ⟨rows,h1,h2,h3,⟨rfl,_,_,_⟩ | ⟨b',arr,rfl,ha,ht,rfl,hmc⟩⟩:=hv
 ·cases hp
 ·cases hp
  have hlen:k<rows.length:=by rw [h1.len];exact hk
  have hr1:rows[k]? = some rows[k]:=List.getElem?_eq_getElem hlen
  have hrow0:rows[k].length=sz:=h2 _ (List.getElem_mem hlen)
  have hb1:k*sz+row.length≤xs.length*sz:=by
   have:(k+1)*sz≤xs.length*sz:=Nat.mul_le_mul_right sz hk
   rw [Nat.succ_mul] at this;omega
  have hb2:xs.length*sz≤arr.length:=by rw [ha];exact Nat.mul_le_mul_right sz hmc
  refine Zav row j (Z7 arr (k*sz) row) hg hd (by rw [hrl];exact hsz) hx hy hvc ho (r:=[]) hj rfl (by rw [Nat.ble_eq];show k*sz+row.length≤arr.length;omega) rfl (h _ ?_)
  have e:=Zd4 (us:=row) (off:=0) h2 hr1 (by omega)
  rw [ZgL (by rw [hrow0,hrl]),Nat.add_zero] at e
  refine ⟨rows.set k row,h1.set hr k,fun r hr'=>?_,?_,.inr ⟨b,_,rfl,by rw [Z6];exact ha,?_,rfl,by rw [List.length_set];exact hmc⟩⟩
  ·rcases List.mem_or_eq_of_mem_set hr' with hr' | rfl
   ·exact h2 r hr'
   ·exact hrl
  ·rw [← e,Z6,List.length_set];exact h3
  ·rw [List.length_set,Zeu _ _ _ _ hb1 hb2,ht,e]
end
theorem ZR.ptr {α:Type} {B:Kn} {l:Cells} {p:Option Addr} {c:Nat} {T:TypeId} {w:Nat} {R:Rel α} {xs:List α} (h:ZR B l p c T w R xs) (hx:0<xs.length) :∃b,p=some ⟨b,0,none⟩:=by
 obtain ⟨rows,_,_,_,⟨_,h0,_,_⟩ | ⟨b,arr,rfl,_⟩⟩:=h
 ·omega
 ·exact ⟨b,rfl⟩
def fill {α:Type} (xs:List α) (d:α) (k:Nat):List α:=xs.take k ++ List.replicate (xs.length - k) d
theorem Zbu {α:Type} {xs:List α} {d:α} {k:Nat} (h:k≤xs.length):(fill xs d k).length=xs.length:=by
 rw [fill,List.length_append,List.length_take,List.length_replicate];omega
theorem Za6 {α:Type} {xs:List α} {d:α} : fill xs d 0=List.replicate xs.length d:=by simp [fill]
theorem Zbv {α:Type} {xs:List α} {d:α} {k:Nat} (h:xs.length≤k):fill xs d k=xs:=by
 rw [fill,List.take_of_length_le h,show xs.length - k=0 from by omega];simp
theorem ZaC {α:Type} {xs:List α} {d z:α} {k:Nat} (hz:xs[k]? = some z):(fill xs d k).set k z=fill xs d (k+1):=by
 have hk:=(List.getElem?_eq_some_iff.1 hz).1
 have e1:(xs.take k).length=k:=by rw [List.length_take];omega
 rw [fill,fill,List.set_append_right _ _ (by omega),e1,Nat.sub_self,List.take_add_one,hz,show xs.length - k=(xs.length - (k+1))+1 from by omega,List.replicate_succ]
 simp
theorem Zu.borrowL {P:PJ} {f:FuncId} {args:List Value} {B:Kn} {ls Ls:List Cells} {Post:Value→Kn→List Cells→Prop}
  (h:(∀p,p∈ls.flatten→(B.add ls.flatten).mem p.1=some p.2)→Zu P f args (B.add ls.flatten) Ls Post) :
  Zu P f args B (ls ++ Ls) (fun v B' Ls'=>∃B₂ Ls₂,Ls'=ls ++ Ls₂∧B'=B₂.minus ls.flatten∧(B.add ls.flatten).le B₂∧(∀p,p∈ls.flatten→(B.add ls.flatten).mem p.1=some p.2)∧(B.add ls.flatten).minus ls.flatten=B∧Post v B₂ Ls₂):=fun X kind c cs F hk hA=>by
 have key:=Zu.borrow (l:=ls.flatten) (Ls:=Ls) h X kind c cs F hk fun v B' Ls' hle ⟨B₂,Ls₂,h1,h2,h3,h4,h5,h6⟩=>by
  have:=hA v B' (ls ++ Ls₂) hle ⟨B₂,Ls₂,rfl,h2,h3,h4,h5,h6⟩
  subst h1
  rw [List.flatten_cons]
  rwa [List.flatten_append] at this
 rw [List.flatten_cons] at key
 rwa [List.flatten_append]
section
variable {P:PJ} {C:Cx P} {k:List Item} {n:Nat} {ops:Array Oper} {i:Nat} {S:Env} {D:List Deferred} {B BV:Kn} {L:List Cells} {Q:Exit→Zag}
variable {α:Type} {xs:List α} {l:Cells} {p:Option Addr} {cp:Nat} {T:TypeId} {w:Nat}
theorem ZEQ {R:Rel α} {B':Kn} (hv:ZR BV l p cp T w R xs) (hA:Zqp R) (hl:xs.length≤2000000) (hm :∀q,q∈l→B'.mem q.1=some q.2):SlK B' p cp w R xs:=⟨hv.rowsF hA hm,hv.cap,hl⟩
theorem ZjC {R:Rel α} {I:Kn→List Cells→Prop} {ℓ:List Nat} {K:Zag} (j:Nat) (hj:L[j]? = some l) (hv:ZR BV l p cp T w R xs) (hA:Zqp R) (hl:xs.length≤2000000) (hI' :∀B',B.le B'→I B' (L.set j []))
  (h :∀B',B.le B'→SlK B' p cp w R xs→Zbr C k n ops I ℓ K S D B' (L.set j [])):Zbr C k n ops I ℓ K S D B L:=fun T ex pend π a1 a2 a3 a4 a5 a6 a7 a8 a9 hI hA'=>by
 obtain ⟨r,h1,h2⟩:=ZT C.F [] hj
 exact C.X.publish rfl h1 fun B' hle hm=>C.X.perm (by simpa using h2.symm) (h B' hle (ZEQ hv hA hl hm) T ex pend π a1 a2 a3 a4 a5 a6 a7 a8 a9 (hI' B' hle) fun S' D' B'' L' T' hle' hq=>hA' S' D' B'' L' T' (hle.trans hle') hq)
theorem ZgB {R:Zg6 α} {R':Rel α} {I:Kn→List Cells→Prop} {ℓ:List Nat} {K:Zag} (j:Nat) (hj:L[j]? = some l) (hv:ZaM l p cp T w R xs) (hR :∀{B:Kn} {row:List Value} {x:α} {ins:Cells},R row x ins→(∀q,q∈ins→B.mem q.1=some q.2)→R' B row x) (hM:Mono R') (hl:xs.length≤2000000) (hI' :∀B',B.le B'→I B' (L.set j []))
  (h :∀B',B.le B'→SlK B' p cp w R' xs→Zbr C k n ops I ℓ K S D B' (L.set j [])):Zbr C k n ops I ℓ K S D B L:=fun T ex pend π a1 a2 a3 a4 a5 a6 a7 a8 a9 hI hA'=>by
 obtain ⟨r,h1,h2⟩:=ZT C.F [] hj
 exact C.X.publish rfl h1 fun B' hle hm=>C.X.perm (by simpa using h2.symm) (h B' hle (hv.known (fun _ _ _ a b=>hR a b) hM hm hl) T ex pend π a1 a2 a3 a4 a5 a6 a7 a8 a9 (hI' B' hle) fun S' D' B'' L' T' hle' hq=>hA' S' D' B'' L' T' (hle.trans hle') hq)
end
end Go.BL
namespace Go.BL
open Go.ChangeShapes Go.WideShapes Go.ChangeAt Go.RowKit
theorem ZlM {α β:Type} {f:α→Option β} :∀{xs:List α} {ys:List β},xs.mapM f=some ys→ys.length=xs.length∧∀(i:Nat) (x:α),xs[i]? = some x→f x=ys[i]?
 | [],ys,h=>by
  simp only [List.mapM_nil,Option.pure_def,Option.some.injEq] at h
  subst h;simp
 | x :: xs,ys,h=>by
  simp only [List.mapM_cons,Option.bind_eq_bind,Option.pure_def,Option.bind_eq_some_iff,Option.some.injEq] at h
  obtain ⟨y,hy,zs,hz,rfl⟩:=h
  obtain ⟨h1,h2⟩:=ZlM hz
  refine ⟨by simp [h1],fun i z hi=>?_⟩
  cases i with
  | zero=>simp only [List.getElem?_cons_zero,Option.some.injEq] at hi;subst hi;simpa using hy
  | succ i=>simpa using h2 i z (by simpa using hi)
theorem Zmk {w:World} {a:Addr} {n:Nat} {cs:List Value} (h:w.cells? 0 a n=some cs):cs.length=n∧∀i,i<n→w.cell? (a.add i)=cs[i]?:=by
 unfold World.cells? at h
 rw [if_pos (Nat.zero_le _)] at h
 obtain ⟨h1,h2⟩:=ZlM h
 exact ⟨by simpa using h1,fun i hi=>h2 i i (by simp [hi])⟩
section
variable {H:Type} (enc:TypeId × Value→H) (P:Program) (W:World)
def ZbM (t:TypeId) (p:List Value→Prop):Prop:=∀(fuel:Nat) (cs:List Value) (d:DataW H) (ps:List MemPlace),DataW.trod enc P W 0 (fun _=>true) true fuel t cs=some (d,ps)→(∀m,m∈d.weights P t→m≤reachBytes)→p cs
def Zbb {α:Type} (t:TypeId) (R:Rel α):Prop:=ZbM enc P W t fun cs=>∃x,R (Zas W) cs x
def Zcg {α:Type} (w:Nat) (R:Rel α):Rel (List α):=fun B row xs=>∃q cp,row=[.slice q xs.length cp]∧SlB B q cp w R xs
def Parts:List (List Value→Prop)→List Value→Prop
 | [],cs=>cs=[]
 | p :: ps,cs=>∃a b,cs=a ++ b∧p a∧Parts ps b
def Zdf (P:Program):List Field→Nat→Nat→Bool
 | [],off,n=>off == n
 | f :: fs,off,n=>f.offset == off && Zdf P fs (off+P.cellsOf f.type) n
end
section
variable {H:Type} {enc:TypeId × Value→H} {P:Program} {W:World}
theorem ZbM.mono {t:TypeId} {p p':List Value→Prop} (h:ZbM enc P W t p) (hp :∀cs,p cs→p' cs):ZbM enc P W t p':=fun fuel cs d ps ht hw=>hp cs (h fuel cs d ps ht hw)
theorem ZrA {t:TypeId} (ht:P.underlying t=some (.int .i64)):Zbb enc P W t Z9:=fun fuel cs d ps h _=>by
 cases fuel with
 | zero=>simp [DataW.trod] at h
 | succ n=>
  unfold DataW.trod at h
  rw [ht] at h
  split at h <;> simp_all
  rename_i he
  subst he
  exact ⟨_,rfl⟩
theorem Zrz {t:TypeId} (ht:P.underlying t=some .string):Zbb enc P W t ZiJ:=fun fuel cs d ps h hw=>by
 cases fuel with
 | zero=>simp [DataW.trod] at h
 | succ n=>
  unfold DataW.trod at h
  rw [ht] at h
  split at h <;> simp_all
  rename_i s
  obtain ⟨_,rfl,_⟩:=h
  have h1:=hw s.data.toList.length (by simp [DataW.weights])
  refine ⟨s.data.toList,rfl,?_⟩
  unfold reachBytes at h1
  omega
theorem Zoo {fs:List Field} {ps:List (List Value→Prop)} {n off:Nat} (hf:Zdf P fs off n=true) {cs:List Value} (hl:cs.length=n) (hlen:fs.length=ps.length)
  (h :∀(i:Nat) (f:Field) (p:List Value→Prop),fs[i]? = some f→ps[i]? = some p→p ((cs.drop f.offset).take (P.cellsOf f.type))):Parts ps (cs.drop off):=by
 induction fs generalizing ps off with
 | nil=>
  simp only [Zdf,beq_iff_eq] at hf
  cases ps with
  | nil=>show cs.drop off=[];rw [List.drop_eq_nil_iff];omega
  | cons p ps=>simp at hlen
 | cons f fs ih=>
  simp only [Zdf,Bool.and_eq_true,beq_iff_eq] at hf
  cases ps with
  | nil=>simp at hlen
  | cons p ps=>
   refine ⟨(cs.drop off).take (P.cellsOf f.type),(cs.drop off).drop (P.cellsOf f.type),(List.take_append_drop _ _).symm,?_,?_⟩
   ·have:=h 0 f p rfl rfl
    rwa [hf.1] at this
   ·rw [List.drop_drop]
    exact ih hf.2 (by simpa using hlen) fun i f' p' h1 h2=>h (i+1) f' p' (by simpa using h1) (by simpa using h2)
theorem Zck :∀{ts:List TypeId} {ds:List (DataW H)} {i:Nat} {t:TypeId} {d:DataW H},ts[i]? = some t→ds[i]? = some d→∀m,m∈d.weights P t→m∈DataW.weightsEach P ts ds
 | t :: ts,d :: ds,0,t',d',h1,h2,m,hm=>by
  simp only [List.getElem?_cons_zero,Option.some.injEq] at h1 h2
  subst h1;subst h2
  simp only [DataW.weightsEach,List.mem_append];exact .inl hm
 | t :: ts,d :: ds,i+1,t',d',h1,h2,m,hm=>by
  simp only [DataW.weightsEach,List.mem_append];exact .inr (Zck (by simpa using h1) (by simpa using h2) m hm)
 | [],_,_,_,_,h1,_,_,_=>by simp at h1
 | _ :: _,[],_,_,_,_,h2,_,_=>by simp at h2
theorem ZdQ {e:TypeId} :∀{ds:List (DataW H)} {i:Nat} {d:DataW H},ds[i]? = some d→∀m,m∈d.weights P e→m∈DataW.weightsAll P e ds
 | d :: ds,0,d',h2,m,hm=>by
  simp only [List.getElem?_cons_zero,Option.some.injEq] at h2
  subst h2
  simp only [DataW.weightsAll,List.mem_append];exact .inl hm
 | d :: ds,i+1,d',h2,m,hm=>by
  simp only [DataW.weightsAll,List.mem_append];exact .inr (ZdQ (by simpa using h2) m hm)
 | [],_,_,h2,_,_=>by simp at h2
theorem Zlu {t:TypeId} {fs:Array Field} (ht:P.underlying t=some (.struct fs)) (ps:List (List Value→Prop)) (hf:Zdf P fs.toList 0 (P.cellsOf t)=true) (hlen:fs.toList.length=ps.length)
  (h :∀(i:Nat) (f:Field) (p:List Value→Prop),fs.toList[i]? = some f→ps[i]? = some p→ZbM enc P W f.type p):ZbM enc P W t (Parts ps):=fun fuel cs d pl htr hw=>by
 obtain ⟨xs,n,rfl,hx,hl,hxl,hel⟩:=DataW.trod_struct ht htr
 simp only [Prod.mk.injEq] at hx
 obtain ⟨rfl,_⟩:=hx
 have:=Zoo (ps:=ps) hf hl hlen fun i f p h1 h2=>by
  have h3:=hel i f (by simpa using h1)
  have hi:i<xs.length:=by
   have:=(List.getElem?_eq_some_iff.1 h1).1
   simp only [Array.length_toList] at this
   omega
  rw [List.getElem?_eq_getElem hi] at h3
  rcases hxi:xs[i] with ⟨d,pl'⟩
  refine h i f p h1 h2 n _ d pl' (by rw [h3,hxi]) fun m hm=>hw m ?_
  simp only [DataW.weights,ht]
  exact Zck (i:=i) (t:=f.type) (d:=d) (by simp [h1]) (by simp [List.getElem?_eq_getElem hi,hxi]) m hm
 simpa using this
theorem Zb4 {α:Type} {t e:TypeId} {w:Nat} {R:Rel α} (ht:P.underlying t=some (.slice e)) (hc:P.cellsOf e=w) (hb:0<P.bytesOf e) (hw0:0<w) (h:Zbb enc P W e R):Zbb enc P W t (Zcg w R):=fun fuel cs d pl htr hw=>by
 rcases DataW.trod_slice ht htr with ⟨rfl,_⟩ | ⟨a,len,cap,elems,rest,n,rfl,rfl,hx,_,hl,hm,hlen,hel,_,_⟩
 ·exact ⟨[],none,0,rfl,⟨fun i x hi=>by simp at hi,Nat.le_refl _,Nat.zero_le _⟩⟩
 ·simp only [Prod.mk.injEq] at hx
  obtain ⟨rfl,_⟩:=hx
  have hlen2:len≤140737488355328:=by
   have:=hw ((elems.length+rest.length)*P.bytesOf e) (by simp [DataW.weights,ht])
   have h2:elems.length+rest.length≤(elems.length+rest.length)*P.bytesOf e:=Nat.le_mul_of_pos_right _ hb
   unfold reachBytes at this
   omega
  have each :∀i,i<len→∃x row,R (Zas W) row x∧row.length=w∧∀j,j<w→W.cell? ((a.add (i*w)).add j)=row[j]?:=fun i hi=>by
   have h1:=hel i hi
   have hi':i<elems.length:=by omega
   rw [List.getElem?_eq_getElem hi'] at h1
   obtain ⟨row,hr1,hr2⟩:=Option.bind_eq_some_iff.1 h1
   rw [hc] at hr1
   obtain ⟨hr3,hr4⟩:=Zmk hr1
   rcases hxi:elems[i] with ⟨d,pl'⟩
   obtain ⟨x,hx⟩:=h n row d pl' (by rw [hr2,hxi]) fun m hm=>hw m (by
    simp only [DataW.weights,ht,List.mem_cons,List.mem_append]
    exact .inr (.inl (ZdQ (i:=i) (d:=d) (by simp [List.getElem?_eq_getElem hi',hxi]) m hm)))
   exact ⟨x,row,hx,hr3,hr4⟩
  have hsp:0<len→a.spot=none:=fun h0=>by
   obtain ⟨x,row,_,hr,hj⟩:=each 0 h0
   have h1:=hj 0 hw0
   rw [List.getElem?_eq_getElem (by omega)] at h1
   have:=(Zdx h1).1
   simpa [Addr.add] using this
  refine ⟨(List.range len).attach.map fun i=>(each i.1 (List.mem_range.1 i.2)).choose,some a,cap,by simp,⟨fun i x hi=>?_,by simpa using hl,by simpa using hlen2⟩⟩
  have hi':i<len:=by
   have:=(List.getElem?_eq_some_iff.1 hi).1
   simpa using this
  have hxx:x=(each i hi').choose:=by
   simp [hi'] at hi
   exact hi.symm
  obtain ⟨row,hr1,hr2,hr3⟩:=(each i hi').choose_spec
  have hs:=hsp (by omega)
  refine ⟨a.block,a.off,row,?_,by rw [hxx];exact hr1,fun j u hj=>?_⟩
  ·obtain ⟨b,o,s⟩:=a;simp only at hs;subst hs;rfl
  ·have hjw:j<w:=by rw [← hr2];exact (List.getElem?_eq_some_iff.1 hj).1
   have h4:=hr3 j hjw
   rw [hj] at h4
   have:=Zdx h4
   have ea:(a.add (i*w)).add j=⟨a.block,a.off+i*w+j,none⟩:=by
    rw [Addr.add_off _ _ (by rw [Addr.add_off _ _ hs]),Addr.add_off _ _ hs]
   rwa [ea] at this
def Zv5 (enc:TypeId × Value→H) (P:Program) (W:World):List Field→List (List Value→Prop)→Prop
 | [],[]=>True
 | f :: fs,p :: ps=>ZbM enc P W f.type p∧Zv5 enc P W fs ps
 | _,_=>False
theorem Zlx :∀{fs:List Field} {ps:List (List Value→Prop)},Zv5 enc P W fs ps→fs.length=ps.length
 | [],[],_=>rfl
 | _ :: _,_ :: _,h=>by simp only [List.length_cons,Zlx h.2]
 | [],_ :: _,h=>h.elim
 | _ :: _,[],h=>h.elim
theorem Zly :∀{fs:List Field} {ps:List (List Value→Prop)},Zv5 enc P W fs ps→∀(i:Nat) (f:Field) (p:List Value→Prop),fs[i]? = some f→ps[i]? = some p→ZbM enc P W f.type p
 | _ :: _,_ :: _,h,0,f,p,h1,h2=>by
  simp only [List.getElem?_cons_zero,Option.some.injEq] at h1 h2
  subst h1;subst h2;exact h.1
 | _ :: _,_ :: _,h,i+1,f,p,h1,h2=>Zly h.2 i f p (by simpa using h1) (by simpa using h2)
 | [],_,_,i,f,p,h1,h2=>by simp at h1
 | _ :: _,[],h,_,_,_,_,_=>h.elim
theorem ZbT {t:TypeId} {fs:Array Field} (ht:P.underlying t=some (.struct fs)) (ps:List (List Value→Prop)) (hf:Zdf P fs.toList 0 (P.cellsOf t)=true) (h:Zv5 enc P W fs.toList ps):ZbM enc P W t (Parts ps):=
 Zlu ht ps hf (Zlx h) (Zly h)
theorem ZjW {t:TypeId} {v:Value} {d:DataW H} {ps:List MemPlace} {p:List Value→Prop} (h:DataW.Trod enc P W 0 (fun _=>true) true t v d ps) (ho:ZbM enc P W t p) (hw :∀m,m∈d.weights P t→m≤reachBytes):p v.cells.toList:=by
 obtain ⟨n,hn⟩:=h;exact ho n _ _ _ hn hw
theorem weigh {ts:List TypeId} {ds:List (DataW H)} (h:(DataW.weightsEach P ts ds).all (·≤reachBytes)=true) {i:Nat} {t:TypeId} {d:DataW H} (h1:ts[i]? = some t) (h2:ds[i]? = some d) :∀m,m∈d.weights P t→m≤reachBytes:=fun m hm=>by
 have:=List.all_eq_true.1 h m (Zck h1 h2 m hm)
 simpa using this
end
end Go.BL
namespace Go.BL
section
variable {P:PJ} {n:Nat} {ops:Array Oper} {i:Nat} {K:ZaE} {S:Env} {D:List Deferred} {B:Kn} {L:List Cells}
variable {dst:Option Tmp} {ty:TypeId} {pos:String} {after:Array Edge} {g:Option (Nat × Bool)}
theorem Zp1 {P:Program} {B:Kn} {L:Cells} {q:Addr} {cp:Nat} {b:Int} (hs:ZcX B L (some q) [.int .u8 b]) {Q:Value→Kn→Cells→Prop} (h:Q (str [UInt8.ofNat b.toNat]) B L):hb P (Conv.bytesToString (.slice (some q) 1 cp)) Q B L:=by
 simp only [Conv.bytesToString,Zi,loadCells]
 refine Zb0 [.int .u8 b] 0 #[] (fun j v hj=>by simpa using hs j v hj) ?_
 have e:Q (Value.string (ByteArray.empty.push (UInt8.ofNat b.toNat))) B L:=h
 simpa [Zp,Zi] using e
theorem ZqH {s d e:TypeId} {x:Operand} {q:Addr} {cp:Nat} {b:Int} (hg:Zk ops S g=some true) (hd:Zw n dst=true) (hs:P.underlying s=some (.slice e)) (hd':P.underlying d=some .string) (he:P.underlying e=some (.int .u8))
  (hx:ev S x=some (.slice (some q) 1 cp)) (hc:ZcX B L.flatten (some q) [.int .u8 b]) (h:K (str [UInt8.ofNat b.toNat]) D B L):opX P n ops i ⟨dst,.convert s d x,ty,pos,after,g⟩ K S D B L:=
 ZE hg hd (fun ρ hρ Q F q'=>by
  simp only [execOp,convert,hρ x _ hx,Zi,Zo hs,Zo hd',Zo he]
  exact Zp1 hc.app q') h
end
end Go.BL
namespace Go.BL
theorem All3.at {α:Type} {R:Zg6 α} {rows:List (List Value)} {xs:List α} {s:Cells} (h:All3 R rows xs s) :∀{i:Nat} {x:α},xs[i]? = some x→∃row li lr,rows[i]? = some row∧R row x li∧s.Perm (li ++ lr)∧∀x' li',R row x' li'→∃s',All3 R rows (xs.set i x') s'∧s'.Perm (li' ++ lr):=by
 induction h with
 | nil=>intro i x hx;simp at hx
 | @cons row0 x0 ins0 rest rows xs h1 h2 ih=>
  intro i x hx
  cases i with
  | zero=>
   simp only [List.getElem?_cons_zero,Option.some.injEq] at hx
   subst hx
   exact ⟨row0,ins0,rest,rfl,h1,.refl _,fun x' li' hr=>⟨li' ++ rest,.cons hr h2,.refl _⟩⟩
  | succ i=>
   obtain ⟨row,li,lr,e1,e2,e3,e4⟩:=ih (by simpa using hx)
   refine ⟨row,li,ins0 ++ lr,by simpa using e1,e2,?_,fun x' li' hr=>?_⟩
   ·exact (List.Perm.append_left ins0 e3).trans (by rw [← List.append_assoc,← List.append_assoc];exact List.Perm.append_right lr List.perm_append_comm)
   ·obtain ⟨s',f1,f2⟩:=e4 x' li' hr
    exact ⟨ins0 ++ s',.cons h1 f1,(List.Perm.append_left ins0 f2).trans (by rw [← List.append_assoc,← List.append_assoc];exact List.Perm.append_right lr List.perm_append_comm)⟩
theorem ZaM.open1 {α:Type} {l:Cells} {p:Option Addr} {c:Nat} {T:TypeId} {w:Nat} {R:Zg6 α} {xs:List α} (h:ZaM l p c T w R xs) {i:Nat} {x:α} (hx:xs[i]? = some x) :
∃b arr row li lr,p=some ⟨b,0,none⟩∧R row x li∧row.length=w∧l.Perm (li ++ (ZP b arr T ++ lr))∧(∀(j:Nat) (u:Value),row[j]? = some u→arr[i*w+j]? = some u)∧
∀x' li',R row x' li'→ZaM (li' ++ (ZP b arr T ++ lr)) p c T w R (xs.set i x'):=by
 obtain ⟨rows,blk,ins,h1,h2,h3,hvl⟩:=h
 have hlt:=(List.getElem?_eq_some_iff.1 hx).1
 obtain ⟨hl0,⟨_,h0,_,_⟩ | ⟨b,arr,rfl,ha,ht,rfl,hm⟩⟩:=hvl
 ·omega
 ·obtain ⟨row,li,lr,e1,e2,e3,e4⟩:=h1.at hx
  refine ⟨b,arr,row,li,lr,rfl,e2,h2 row (List.mem_of_getElem? e1),?_,fun j u hj=>?_,fun x' li' hr=>?_⟩
  ·refine h3.trans ((List.Perm.append_left _ e3).trans ?_)
   rw [← List.append_assoc,← List.append_assoc];exact List.Perm.append_right lr List.perm_append_comm
  ·have hu:=Zf8 h2 e1 hj
   rw [← ht,List.getElem?_take] at hu
   split at hu
   ·exact hu
   ·cases hu
  ·obtain ⟨s',f1,f2⟩:=e4 x' li' hr
   refine ⟨rows,ZP b arr T,s',f1,h2,?_,by rw [List.length_set];exact hl0,.inr ⟨b,arr,rfl,ha,by rw [List.length_set];exact ht,rfl,by rw [List.length_set];exact hm⟩⟩
   refine List.Perm.trans ?_ (List.Perm.append_left _ f2.symm)
   rw [← List.append_assoc,← List.append_assoc];exact List.Perm.append_right lr List.perm_append_comm
section
variable {P:PJ} {n:Nat} {Q:Exit→Zag} {S:Env} {D:List Deferred} {B:Kn} {L:List Cells} {c:Code}
theorem Zv9 {L':List Cells} (hp:L.flatten.Perm L'.flatten) (h:wpS P n c Q S D B L'):wpS P n c Q S D B L:=fun C k T hn hT hA=>by
 refine C.X.drop (r:=L'.flatten ++ C.F) (gl:=[]) ?_ (h C k T hn hT hA)
 rw [List.append_nil];exact hp.append_right C.F
theorem Zen {a b:Cells} (j m:Nat) (hj:L[j]? = some a) (hm:L[m]? = some b) (hne:j≠m) (h:wpS P n c Q S D B ((L.set j (b ++ a)).set m [])):wpS P n c Q S D B L:=by
 refine Zv9 ?_ h
 obtain ⟨r,h1,h2⟩:=ZT [] (b ++ a) hj
 have hm':(L.set j (b ++ a))[m]? = some b:=by rw [List.getElem?_set_ne hne];exact hm
 obtain ⟨r2,h3,h4⟩:=ZT [] [] hm'
 rw [List.append_nil] at h1 h2 h3 h4
 rw [List.nil_append] at h4
 have h5:(b ++ (a ++ r)).Perm (b ++ r2):=by rw [← List.append_assoc];exact h2.symm.trans h3
 exact h1.trans (((List.perm_append_left_iff b).1 h5).trans h4.symm)
end
end Go.BL
namespace Go.BL
theorem All3.row {α:Type} {R:Zg6 α} {rows:List (List Value)} {xs:List α} {s:Cells} (h:All3 R rows xs s) {z x:α} (f:List Value→List Value) (hf :∀row li,R row x li→R (f row) z li) :∀{k:Nat},xs[k]? = some x→∃row,rows[k]? = some row∧All3 R (rows.set k (f row)) (xs.set k z) s:=by
 induction h with
 | nil=>intro k hx;simp at hx
 | @cons row0 x0 ins0 rest rows xs h1 h2 ih=>
  intro k hx
  cases k with
  | zero=>
   simp only [List.getElem?_cons_zero,Option.some.injEq] at hx
   subst hx
   exact ⟨row0,rfl,.cons (hf _ _ h1) h2⟩
  | succ k=>
   obtain ⟨row,e1,e2⟩:=ih (k:=k) (by simpa using hx)
   exact ⟨row,by simpa using e1,.cons h1 e2⟩
theorem ZaM.cell {α:Type} {l:Cells} {p:Option Addr} {c:Nat} {T:TypeId} {w:Nat} {R:Zg6 α} {xs:List α} (h:ZaM l p c T w R xs) {i:Nat} {x:α} (hx:xs[i]? = some x) {B:Kn} {L:List Cells} (j:Nat) (hj:L[j]? = some l) :
∃b row li lr,p=some ⟨b,0,none⟩∧R row x li∧row.length=w∧l.Perm (li ++ lr)∧(∀(m:Nat) (u:Value),row[m]? = some u→ZaY B L.flatten ⟨b,i*w+m,none⟩ u)∧∀x' li',R row x' li'→ZaM (li' ++ lr) p c T w R (xs.set i x'):=by
 obtain ⟨b,arr,row,li,lr,e1,e2,e3,e4,e5,e6⟩:=h.open1 hx
 refine ⟨b,row,li,ZP b arr T ++ lr,e1,e2,e3,e4,fun m u hm=>⟨rfl,arr.toArray,T,(0,0),.inr ?_,by simpa using e5 m u hm⟩,e6⟩
 obtain ⟨r,h1,h2⟩:=ZT [] [] hj
 rw [List.append_nil] at h1
 rw [h1.mem_iff]
 refine List.mem_append_left _ (e4.mem_iff.2 (List.mem_append_right _ (List.mem_append_left _ ?_)))
 exact List.mem_singleton.2 rfl
section
variable {P:PJ} {n:Nat} {ops:Array Oper} {i:Nat} {K:ZaE} {S:Env} {D:List Deferred} {B:Kn} {L:List Cells}
variable {dst:Option Tmp} {ty:TypeId} {pos:String} {after:Array Edge} {g:Option (Nat × Bool)}
theorem Zga {α:Type} {R:Zg6 α} {xs:List α} {x0:α} (z:α) {t T:TypeId} {x y:Operand} {v:Value} {us:List Value} {sz k c b:Nat} (off:Nat) {l:Cells} {p:Option Addr} (j:Nat) (hj:L[j]? = some l) (hv:ZaM l p c T sz R xs) (hp:p=some ⟨b,0,Option.none⟩) (hx0:xs[k]? = some x0) (hg:Zk ops S g=some true) (hd:Zw n dst=true) (hsz:ZG P t=some us.length)
  (hx:ev S x=some (ptr ⟨b,k*sz+off,Option.none⟩)) (hy:ev S y=some v) (hvc:v.cells=us.toArray) (ho:us.all ZgO=true) (hoff:off+us.length≤sz) (hr :∀row li,R row x0 li→R (Z7 row off us) z li)
  (h :∀l',ZaM l' p c T sz R (xs.set k z)→K undef D B (L.set j l')):opX P n ops i ⟨dst,.store t x y,ty,pos,after,g⟩ K S D B L:=by
 subst hp
 obtain ⟨rows,blk,ins,h1,h2,h3,hl1,⟨hc,_⟩ | ⟨b',arr,e,ha,ht,rfl,hmc⟩⟩:=hv
 ·cases hc
 ·cases e
  have hk:=(List.getElem?_eq_some_iff.1 hx0).1
  obtain ⟨row,hrow,a1⟩:=h1.row (fun row=>Z7 row off us) hr hx0
  have hw:row.length=sz:=h2 row (List.mem_of_getElem? hrow)
  have hsz1:(k+1)*sz≤xs.length*sz:=Nat.mul_le_mul_right sz hk
  have hcs:xs.length*sz≤c*sz:=Nat.mul_le_mul_right sz hmc
  rw [Nat.succ_mul] at hsz1
  have hb1:k*sz+off+us.length≤arr.length:=by omega
  refine ZrE (L':=L.set j (ZP b arr T ++ ins)) (K':=fun u D' B' L₁=>u=undef∧D'=D∧B'=B∧L₁=(L.set j (ZP b arr T ++ ins)).set j (ZP b (Z7 arr (k*sz+off) us) T ++ ins)) ?_ ?_ ?_
  ·obtain ⟨r,e1,e2⟩:=ZT [] (ZP b arr T ++ ins) hj
   rw [List.append_nil] at e1 e2
   exact e1.trans ((h3.append_right r).trans e2.symm)
  ·have hj':(L.set j (ZP b arr T ++ ins))[j]? = some (ZP b arr T ++ ins):=by
    rw [List.getElem?_set_self (List.getElem?_eq_some_iff.1 hj).1]
   exact Zav us j (Z7 arr (k*sz+off) us) hg hd hsz hx hy hvc ho (T:=T) (r:=ins) hj' rfl (by rw [Nat.ble_eq];exact hb1) rfl ⟨rfl,rfl,rfl,rfl⟩
  ·rintro u D' B' L₁ hle ⟨rfl,rfl,rfl,rfl⟩
   have hnew:ZaM (ZP b (Z7 arr (k*sz+off) us) T ++ ins) (some ⟨b,0,Option.none⟩) c T sz R (xs.set k z):=by
    have hsl:(Z7 row off us).length=sz:=by rw [Z6];exact hw
    have hwide:wide sz (rows.set k (Z7 row off us)):=fun r' hr'=>by
     rcases List.mem_or_eq_of_mem_set hr' with hr' | rfl
     ·exact h2 r' hr'
     ·exact hsl
    refine ⟨rows.set k (Z7 row off us),_,ins,a1,hwide,.refl _,?_,.inr ⟨b,_,rfl,by rw [Z6];exact ha,?_,rfl,by rw [List.length_set];exact hmc⟩⟩
    ·rw [Zd1 hwide,List.length_set,List.length_set,h1.len]
    ·rw [List.length_set]
     have e:=Zd4 (us:=us) (off:=off) h2 hrow hoff
     rw [Zeu _ _ _ _ (by omega) (by omega),ht,e]
   refine ⟨L.set j (ZP b (Z7 arr (k*sz+off) us) T ++ ins),[],?_,h _ hnew⟩
   rw [List.set_set,List.append_nil]
end
end Go.BL
namespace Go.BL
open Go.Conc (G)
section
variable {P:PJ} {n:Nat} {ops:Array Oper} {i:Nat} {K:ZaE} {S:Env} {D:List Deferred} {B:Kn} {L:List Cells}
variable {dst:Option Tmp} {ty:TypeId} {pos:String} {after:Array Edge} {g:Option (Nat × Bool)}
theorem Zw3 {α:Type} {R:Zg6 α} {xs:List α} (z:α) {t u e:TypeId} {x y:Operand} {sz by_ m c c2:Nat} {p q:Option Addr} {row:List Value} {l:Cells} {inss r:List Cells} (j:Nat) (ks:List Nat) (hpk:ZaA L (j :: ks)=some (l :: inss,r)) (hnd:ZeW (j :: ks)=true) (hv:ZaM l p c e sz R xs) (hm:m=xs.length) (hg:Zk ops S g=some true) (hd:Zw n dst=true)
  (he:ZbL P t e sz by_=true) (hu:(match P.underlying u with | some (.slice _)=>true | _=>false)=true) (hx:ev S x=some (.slice p m c)) (hy:ev S y=some (.slice q 1 c2)) (hs:ZcX B L.flatten q row) (hone:row.all ZgO=true) (hrl:row.length=sz) (ins0:Cells) (hi0:inss.flatten=ins0) (hr:R row z ins0) (hb1:(xs.length+1)*by_≤140737488355328)
  (h :∀l' p' c',ZaM l' p' c' e sz R (xs ++ [z])→K (.slice p' (xs ++ [z]).length c') D B (ZcS r (j :: ks) (l' :: inss.map fun _=>[]))):opX P n ops i ⟨dst,.call ⟨.builtin .append,#[x,y],#[t,u]⟩,ty,pos,after,g⟩ K S D B L:=by
 subst hm
 subst hi0
 obtain ⟨rows,blk,inn,h1,h2,h3,h4⟩:=hv
 have hpp:=Zau (j :: ks) L (l :: inss) r hpk
 have p1:L.flatten.Perm (blk ++ (inn ++ (inss.flatten ++ r.flatten))):=by
  refine hpp.trans ?_
  simp only [List.flatten_cons,List.append_assoc]
  refine (h3.append_right _).trans ?_
  rw [List.append_assoc]
 refine Zos (L':=[blk,inn ++ (inss.flatten ++ r.flatten)]) (K':=fun v D' B' L₁=>∃blk' p' c',L₁=[blk',inn ++ (inss.flatten ++ r.flatten)]∧v = .slice p' (xs.length+1) c'∧D'=D∧B'=B∧ZgC blk' p' (xs.length+1) c' e sz (rows.flatten ++ row)) ?_ ?_ ?_
 ·simpa using p1
 ·refine Zfc 0 rfl h4 hg hd he hu hx hy ?_ (by rw [hrl,Nat.one_mul]) hone hb1 fun l' p' c' hv'=>⟨l',p',c',rfl,rfl,rfl,rfl,hv'⟩
  cases q with
  | none=>exact hs
  | some a=>
   intro jj v hjj
   exact (hs jj v hjj).perm (by simpa using p1)
 ·rintro v D' B' L₁ hle ⟨blk',p',c',rfl,rfl,rfl,rfl,hv'⟩
  have hnew:ZaM (blk' ++ (inn ++ inss.flatten)) p' c' e sz R (xs ++ [z]):=⟨rows ++ [row],blk',inn ++ inss.flatten,h1.snoc hr,fun r' hr'=>by
   rcases List.mem_append.1 hr' with hr' | hr'
   ·exact h2 r' hr'
   ·rw [List.mem_singleton.1 hr'];exact hrl,.refl _,by rw [List.length_append,List.flatten_append];simpa using hv'⟩
  refine ⟨_,?_,by have:=h _ _ _ hnew;rwa [List.length_append] at this⟩
  have hq:=ZcE ((blk' ++ (inn ++ inss.flatten)) :: inss.map fun _=>[]) r (j :: ks) (ZcG hnd) (fun jj hj=>ZcF (j :: ks) L (l :: inss) r hpk jj (.inr hj))
  have hnil:((inss.map fun _=>([]:Cells))).flatten=[]:=by
   clear hpk hpp h hnew hs h3 p1 hq
   induction inss with
   | nil=>rfl
   | cons a as ih=>simp
  rw [List.flatten_cons,hnil,List.append_nil] at hq
  refine List.Perm.trans ?_ hq
  simp only [List.flatten_cons,List.flatten_nil,List.append_nil,List.append_assoc]
  exact .refl _
theorem Z1.borrowL {f:FuncId} {args:List Value} {ls:List Cells} {v:Value} (h:(∀p,p∈ls.flatten→(B.add ls.flatten).mem p.1=some p.2)→Z1 P f args (B.add ls.flatten) v):Zu P f args B ls (fun v' B' Ls=>v'=v∧B'=B∧Ls=ls):=by
 have:=(Zu.borrowL (P:=P) (Ls:=[]) h).mono (Post':=fun v' B' Ls=>v'=v∧B'=B∧Ls=ls) fun v' B' Ls' _ ⟨B₂,Ls₂,a1,a2,_,_,a3,a4,a5,a6⟩=>by subst a5;subst a6;exact ⟨a4,a2.trans a3,by rw [a1,List.append_nil]⟩
 rwa [List.append_nil] at this
theorem Zn3 {f:FuncId} {xs:List Operand} {vs:List Value} {ats:Array TypeId} {v:Value} {ls r:List Cells} (js:List Nat) (hp:ZaA L js=some (ls,r)) (hput:ZcS r js ls=L) (hn:ZeW js=true) (hg:Zk ops S g=some true) (hd:Zw n dst=true) (he:enters P f=true) (ha:evs S xs=some vs)
  (hc:Zu P f vs B ls (fun v' B' Ls=>v'=v∧B'=B∧Ls=ls)) (h:K v D B L):opX P n ops i ⟨dst,.call ⟨.value (.func f),xs.toArray,ats⟩,ty,pos,after,g⟩ K S D B L:=
 Zbx js hp hn hg hd he ha hc fun v' B' Ls' hle ⟨h1,h2,h3⟩=>by subst h1;subst h2;subst h3;rw [hput];exact h
end
theorem Zu.borrowK {P:PJ} {B:Kn} {f:FuncId} {args:List Value} {Ls:List Cells} {Post:Value→Kn→List Cells→Prop} (k:Nat)
  (h:(∀p,p∈(Ls.take k).flatten→(B.add (Ls.take k).flatten).mem p.1=some p.2)→Zu P f args (B.add (Ls.take k).flatten) (Ls.drop k) Post) :
  Zu P f args B Ls (fun v B' Ls'=>∃B₂ Ls₂,Ls'=Ls.take k ++ Ls₂∧B'=B₂.minus (Ls.take k).flatten∧(B.add (Ls.take k).flatten).le B₂∧(∀p,p∈(Ls.take k).flatten→(B.add (Ls.take k).flatten).mem p.1=some p.2)∧(B.add (Ls.take k).flatten).minus (Ls.take k).flatten=B∧Post v B₂ Ls₂):=by
 have:=Zu.borrowL (P:=P) (ls:=Ls.take k) (Ls:=Ls.drop k) h
 rwa [List.take_append_drop] at this
theorem ZrY {B:Kn} {ls:List Cells} {l:Cells} (hm :∀p,p∈ls.flatten→B.mem p.1=some p.2) (k:Nat) (hk:ls[k]? = some l) :∀q,q∈l→B.mem q.1=some q.2:=fun q hq=>hm q (List.mem_flatten.2 ⟨l,List.mem_of_getElem? hk,hq⟩)
theorem ZR.lendK {α:Type} {B BV:Kn} {l:Cells} {ls:List Cells} {p:Option Addr} {c:Nat} {T:TypeId} {w:Nat} {R:Rel α} {xs:List α} (h:ZR BV l p c T w R xs) (hR:Zqp R) (k:Nat) (hk:ls[k]? = some l) (hm :∀q,q∈ls.flatten→(B.add ls.flatten).mem q.1=some q.2) (hl:xs.length≤2000000):SlK (B.add ls.flatten) p c w R xs:=⟨h.rowsF hR (ZrY hm k hk),h.cap,hl⟩
theorem ZaM.lendK {α:Type} {B:Kn} {l:Cells} {ls:List Cells} {p:Option Addr} {c:Nat} {T:TypeId} {w:Nat} {R:Zg6 α} {R':Rel α} {xs:List α} (h:ZaM l p c T w R xs) (hR :∀{B:Kn} {row:List Value} {x:α} {ins:Cells},R row x ins→(∀q,q∈ins→B.mem q.1=some q.2)→R' B row x) (hM:Mono R') (k:Nat) (hk:ls[k]? = some l) (hm :∀q,q∈ls.flatten→(B.add ls.flatten).mem q.1=some q.2) (hl:xs.length≤2000000):SlK (B.add ls.flatten) p c w R' xs:=h.known (fun _ _ _ a b=>hR a b) hM (ZrY hm k hk) hl
theorem ZzJ {l a lr:Cells} (h:l.Perm (a ++ lr)):l.Perm (lr ++ ([a]:List Cells).flatten):=by
 simpa using h.trans List.perm_append_comm
theorem Zlr {l a b lr:Cells} (h:l.Perm (a ++ b ++ lr)):l.Perm (lr ++ ([a,b]:List Cells).flatten):=by
 simpa using h.trans List.perm_append_comm
theorem Zzg {P:PJ} {n:Nat} {Q:Exit→Zag} {S:Env} {D:List Deferred} {B:Kn} {L:List Cells} {c:Code} (es:List Cells) (he:es.flatten=[]) (h:wpS P n c Q S D B (L ++ es)):wpS P n c Q S D B L:=
 Zv9 (by rw [List.flatten_append,he,List.append_nil]) h
end Go.BL
namespace Go.BL
open Go.Conc (G)
def errv (tE:TypeId) (a:Nat→Addr):Nat→Value
 | 0=>.nilIface
 | k+1=>.iface tE (.pointer (some (a k)))
structure ErrsB (tE:TypeId) (gs:List Nat) (B:Kn) (a:Nat→Addr):Prop where
 row :∀k,k<4→Zam B (gs.getD k 0) 0 [.iface tE (.pointer (some (a k)))]
 cell :∀k,k<4→∃cs T,B.mem (a k).block=some (.cells cs T (0,0))
 ne :∀i j,i<4→j<4→i≠j→a i≠a j
theorem ErrsB.mono {tE:TypeId} {gs:List Nat} {B B':Kn} {a:Nat→Addr} (h:ErrsB tE gs B a) (hle:B.le B'):ErrsB tE gs B' a:=
 ⟨fun k hk=>(h.row k hk).mono hle,fun k hk=>let ⟨cs,T,e⟩:=h.cell k hk;⟨cs,T,hle _ _ e⟩,h.ne⟩
section
variable {P:Program}
theorem ZoH {a:Addr} {B:Kn} {L:Cells} {Q:Bool→Kn→Cells→Prop} (q:Q true B L):hb P (sameAddr a a) Q B L:=by
 have e:sameAddr a a=pure true:=by simp [sameAddr]
 rw [e];exact q
theorem Zhq {x:Addr} {cx:Array Value} {tx:TypeId} {B:Kn} {L:Cells} {Q:Bool→Kn→Cells→Prop} (hx:ZiL B L x.block (.cells cx tx (0,0))) (q:Q false B L):hb P (stringish x) Q B L:=by
 unfold stringish
 rw [Zi]
 refine ⟨_,hx,?_⟩
 simp only [Zfl,Zp,Zad,Nat.not_lt_zero,decide_false,Bool.and_false,Bool.false_eq_true,if_false]
 rw [Zi]
 refine ⟨_,hx,?_⟩
 simp only [Zet,Zp,Zad]
 refine ⟨_,hx,?_⟩
 simp only [Zfl,Nat.not_lt_zero,decide_false,Bool.and_false]
 exact q
theorem Zl2 {x:Addr} {cx:Array Value} {tx:TypeId} {B:Kn} {L:Cells} {Q:Unit→Kn→Cells→Prop} (hx:ZiL B L x.block (.cells cx tx (0,0))) (q:Q () B L):hb P (noView x) Q B L:=by
 unfold noView viewAt
 simp only [Zi]
 refine ⟨_,hx,?_⟩
 simp only [Zet,Option.isSome_some,if_true,Zp,Zad]
 exact q
theorem Zvi {a b:Addr} {ca cb:Array Value} {ta tb:TypeId} {B:Kn} {L:Cells} {Q:Bool→Kn→Cells→Prop} (hne:a≠b) (ha:ZiL B L a.block (.cells ca ta (0,0))) (hb':ZiL B L b.block (.cells cb tb (0,0))) (q:Q false B L):hb P (sameAddr a b) Q B L:=by
 unfold sameAddr
 by_cases h:a.block=b.block
 ·have e1:(a.block == b.block)=true:=by simpa using h
  have e2:(a == b)=false:=by simpa using hne
  simp only [e1,if_true,e2];exact q
 ·have e1:(a.block == b.block)=false:=by simpa using h
  simp only [e1,Bool.false_eq_true,if_false,Zi]
  refine ⟨_,ha,?_⟩
  have f1:Zfl a.off (.cells ca ta (0,0))=false:=by simp [Zfl]
  simp only [f1,Zp,Zad,Bool.false_eq_true,if_false,Bool.false_and,Zi]
  refine ⟨_,hb',?_⟩
  simp only [Zp,Zad,Zi]
  refine Zl2 ha ?_
  rw [Zi]
  refine Zl2 hb' ?_
  unfold mayBeOne
  simp only [Zi]
  refine Zhq ha ?_
  rw [Zi]
  refine Zhq hb' ?_
  simp only [Zi]
  refine ⟨_,ha,?_⟩
  simp only [Zp,Zad,Zi]
  refine ⟨_,hb',?_⟩
  simp only [Bool.false_and,Bool.or_false,Bool.false_eq_true,if_false,Zp,Zad]
  exact q
theorem ZAc {tI tE te:TypeId} {ms:Array (String × TypeId)} {i:TypeInfo} {d:Nat} {x y:Addr} {B:Kn} {L:Cells} {Q:Bool→Kn→Cells→Prop} (hi:P.underlying tI=some (.interface ms)) (hp:P.underlying tE=some (.pointer te)) (hinfo:P.info? tE=some i) (hc:i.comparable=true) (hs:ZG P te=some (d+1))
  (h:hb P (sameAddr x y) Q B L):hb P (Op.equal tI (.iface tE (.pointer (some x))) (.iface tE (.pointer (some y)))) Q B L:=by
 show hb P (Op.equalIn (9999+1) tI _ _) Q B L
 rw [Op.equalIn,Zi,Zo hi]
 simp only [ne_eq,not_true_eq_false,if_false,Zi,Za7 hinfo,hc,Bool.not_true,Bool.false_eq_true]
 show hb P (Op.equalIn (9998+1) tE _ _) Q B L
 rw [Op.equalIn,Zi,Zo hp]
 simp only [Zi,Z4 hs,ne_eq,Nat.add_eq_zero_iff,Nat.one_ne_zero,and_false,not_false_eq_true,if_true]
 exact h
theorem ZsT {tE:TypeId} {gs:List Nat} {B:Kn} {a:Nat→Addr} (h:ErrsB tE gs B a) {k:Nat} (hk:k<4) (L:Cells) :∃cs T,ZiL B L (a k).block (.cells cs T (0,0)):=
 let ⟨cs,T,e⟩:=h.cell k hk;⟨cs,T,.inl e⟩
theorem ZAd {tI tE te:TypeId} {ms:Array (String × TypeId)} {i:TypeInfo} {d:Nat} {c k:Nat} {gs:List Nat} {a:Nat→Addr} {B:Kn} {L:Cells} {Q:Bool→Kn→Cells→Prop} (hE:ErrsB tE gs B a) (hcb:c<5) (hkb:k<4) (hi:P.underlying tI=some (.interface ms)) (hp:P.underlying tE=some (.pointer te)) (hinfo:P.info? tE=some i) (hc:i.comparable=true) (hs:ZG P te=some (d+1))
  (h:Q (decide (c=k+1)) B L):hb P (Op.equal tI (errv tE a c) (errv tE a (k+1))) Q B L:=by
 cases c with
 | zero=>
  show hb P (Op.equalIn (9999+1) tI .nilIface _) Q B L
  rw [Op.equalIn,Zi,Zo hi]
  simp only [errv,Zp]
  simpa using h
 | succ c=>
  refine ZAc hi hp hinfo hc hs ?_
  by_cases e:c=k
  ·subst e
   exact ZoH (by simpa using h)
  ·obtain ⟨cs,T,h1⟩:=ZsT hE (k:=c) (by omega) L
   obtain ⟨cs',T',h2⟩:=ZsT hE hkb L
   exact Zvi (hE.ne c k (by omega) hkb e) h1 h2 (by simpa [e] using h)
end
section
variable {P:PJ} {n:Nat} {ops:Array Oper} {i:Nat} {K:ZaE} {S:Env} {D:List Deferred} {B:Kn} {L:List Cells}
variable {dst:Option Tmp} {ty:TypeId} {pos:String} {after:Array Edge} {g:Option (Nat × Bool)}
theorem Zn6 {t u:TypeId} {x:Operand} {tE:TypeId} {a:Nat→Addr} {c:Nat} {ms:Array (String × TypeId)} (hg:Zk ops S g=some true) (hd:Zw n dst=true) (hu:P.underlying t=some (.interface ms)) (hx:ev S x=some (errv tE a c)) (h:K (.bool (decide (c=0))) D B L):opX P n ops i ⟨dst,.binOp .eql t x (.const .nilIface) u,ty,pos,after,g⟩ K S D B L:=
 ZE hg hd (fun ρ hρ Q F q=>by
  have e0:ρ (.const .nilIface) = .nilIface:=hρ (.const .nilIface) _ rfl
  simp only [execOp,hρ x _ hx,e0,Zi]
  cases c with
  | zero=>
   simp only [errv,eqGuard,binOp,Bool.not_true,Bool.false_eq_true,if_false,Bool.or_true,if_true,Zp,Zi]
   show hb P (Op.equalIn (9999+1) t .nilIface .nilIface) _ B _
   rw [Op.equalIn,Zi,Zo hu]
   simp only [Zp]
   simpa using q
  | succ c=>
   simp only [errv,eqGuard,binOp,Bool.not_true,Bool.false_eq_true,if_false,Bool.or_true,if_true,Zp,Zi]
   show hb P (Op.equalIn (9999+1) t (.iface tE _) .nilIface) _ B _
   rw [Op.equalIn,Zi,Zo hu]
   simp only [Zp]
   simpa using q) h
theorem Zwb {t u:TypeId} {x:Operand} {tE:TypeId} {a:Nat→Addr} {c:Nat} {ms:Array (String × TypeId)} (hg:Zk ops S g=some true) (hd:Zw n dst=true) (hu:P.underlying t=some (.interface ms)) (hx:ev S x=some (errv tE a c)) (h:K (.bool (decide (c≠0))) D B L):opX P n ops i ⟨dst,.binOp .neq t x (.const .nilIface) u,ty,pos,after,g⟩ K S D B L:=
 ZE hg hd (fun ρ hρ Q F q=>by
  have e0:ρ (.const .nilIface) = .nilIface:=hρ (.const .nilIface) _ rfl
  simp only [execOp,hρ x _ hx,e0,Zi]
  cases c with
  | zero=>
   simp only [errv,eqGuard,binOp,Bool.not_true,Bool.false_eq_true,if_false,Bool.or_true,if_true,Zp,Zi]
   show hb P (Op.equalIn (9999+1) t .nilIface .nilIface) _ B _
   rw [Op.equalIn,Zi,Zo hu]
   simp only [Zp]
   simpa using q
  | succ c=>
   simp only [errv,eqGuard,binOp,Bool.not_true,Bool.false_eq_true,if_false,Bool.or_true,if_true,Zp,Zi]
   show hb P (Op.equalIn (9999+1) t (.iface tE _) .nilIface) _ B _
   rw [Op.equalIn,Zi,Zo hu]
   simp only [Zp]
   simpa using q) h
theorem ZqF {t u:TypeId} {x y:Operand} {tE te:TypeId} {gs:List Nat} {a:Nat→Addr} {c k:Nat} {ms:Array (String × TypeId)} (hE:ErrsB tE gs B a) (hcb:c<5) (hkb:k<4) (hg:Zk ops S g=some true) (hd:Zw n dst=true) (hu:P.underlying t=some (.interface ms)) (hp:P.underlying tE=some (.pointer te)) (hinf:(P.info? tE).map (·.comparable)=some true) (hs:ZG P te=some 1)
  (hx:ev S x=some (errv tE a c)) (hy:ev S y=some (errv tE a (k+1))) (h:K (.bool (decide (c=k+1))) D B L):opX P n ops i ⟨dst,.binOp .eql t x y u,ty,pos,after,g⟩ K S D B L:=
 ZE hg hd (fun ρ hρ Q F q=>by
  obtain ⟨inf,hinfo,hc⟩:=Option.map_eq_some_iff.1 hinf
  have hpl:Zg2 (errv tE a c) (errv tE a (k+1))=true:=by cases c <;> rfl
  simp only [execOp,hρ x _ hx,hρ y _ hy,Zi,Zf0 hpl,Zmt (.inl hpl)]
  exact ZAd hE hcb hkb hu hp hinfo hc hs q) h
theorem ZhT {x:Operand} {xt t asserted:TypeId} {v:Value} {want:Array (String × TypeId)} (hg:Zk ops S g=some true) (hd:Zw n dst=true) (hu:P.underlying asserted=some (.interface want)) (hl:(P.info? t).map (fun i=>(lacking want i.methods).isEmpty)=some false) (hz:ZZ P asserted=some .nilIface)
  (hx:ev S x=some (.iface t v)) (h:K (.tuple #[.nilIface,.bool false]) D B L):opX P n ops i ⟨dst,.typeAssert x xt asserted true,ty,pos,after,g⟩ K S D B L:=
 ZE hg hd (fun ρ hρ Q F q=>by
  obtain ⟨j,hj,hm⟩:=Option.map_eq_some_iff.1 hl
  obtain ⟨m,hm⟩:=missingMethod_some (want:=want) (got:=j.methods) (fun e=>by rw [e] at hm;cases hm)
  simp only [execOp,Instr.typeAssert,hρ x _ hx,Zi,Zo hu,Za7 hj,hm,if_true,ZaS hz,Zp]
  exact q) h
theorem Zzf {f:FuncId} {fn:Func} {ext:Array Value→Sem Value} {x:Operand} {ats:Array TypeId} {v r:Value} (hg:Zk ops S g=some true) (hd:Zw n dst=true) (hf:P.funcs[f]? = some fn) (hname:(fn.name == "runtime.NumGoroutine")=false) (hb0:fn.body.isNone=true) (hn:Extern.findNext fn=none) (he:Extern.find fn=some ext)
  (hx:ev S x=some v) (hr :∀(Q:Value→Kn→Cells→Prop) B L,hb P (ext #[v]) Q B L=Q r B L) (h:K r D B L):opX P n ops i ⟨dst,.call ⟨.value (.func f),#[x],ats⟩,ty,pos,after,g⟩ K S D B L:=
 Zcx hg hd fun ρ hρ F=>by
  have e0:ρ (.func f) = .func (.func f) #[] #[]:=hρ (.func f) _ rfl
  simp only [execOp,resolve,e0,Deferred.ofValue,Zi,Zp,invoke,List.map_toArray,List.map_cons,List.map_nil,hρ x _ hx]
  have e:(#[] ++ #[v]:Array Value) ++ #[] = #[v]:=by simp
  rw [e]
  simp only [callFunc,Zi,ZaT,hf,hname,Bool.false_eq_true,if_false,hb0,if_true,hn,he]
  refine ⟨rfl,?_⟩
  simp only [Zad,Zp,Zi,hr]
  exact ⟨L,.of (.refl _),h⟩
theorem Zzb {f:FuncId} {fn:Func} {ext:Array Value→Sem Value} {x:Operand} {t:TypeId} {name:String} {ats:Array TypeId} {v u r:Value} (hg:Zk ops S g=some true) (hd:Zw n dst=true) (hf:P.funcs[f]? = some fn) (hname:(fn.name == "runtime.NumGoroutine")=false) (hb0:fn.body.isNone=true) (hn:Extern.findNext fn=none) (he:Extern.find fn=some ext)
  (hx:ev S x=some (.iface t v)) (hm :∀(k:Nat) (Q:FuncId × Value→Kn→Cells→Prop) B L,hb P (method (k+1) t v name) Q B L=Q (f,u) B L) (hr :∀(Q:Value→Kn→Cells→Prop) B L,hb P (ext #[u]) Q B L=Q r B L) (h:K r D B L):opX P n ops i ⟨dst,.call ⟨.invoke x name,#[],ats⟩,ty,pos,after,g⟩ K S D B L:=
 Zcx hg hd fun ρ hρ F=>by
  have e1:(#[Value.iface t v] ++ #[])[0]? = some (.iface t v):=by simp
  have e2:(#[Value.iface t v] ++ #[]).extract 1 (#[Value.iface t v] ++ #[]).size = #[]:=by apply Array.ext';simp
  have e3 : #[u] ++ #[] = #[u]:=by simp
  simp only [execOp,resolve,hρ x _ hx,Zi,Zp,invoke,List.map_toArray,List.map_nil,e1,e2,callMethod,ZaT]
  have hpos:0<Made.depth:=by decide
  obtain ⟨d,hd'⟩ :∃d,P.types.size+Made.depth=d+1:=⟨P.types.size+Made.depth - 1,by omega⟩
  rw [hd',hm]
  simp only [e3,callFunc,Zi,ZaT,hf,hname,Bool.false_eq_true,if_false,hb0,if_true,hn,he]
  refine ⟨rfl,?_⟩
  simp only [Zad,Zp,Zi,hr]
  exact ⟨L,.of (.refl _),h⟩
end
end Go.BL
namespace Go.BL
open Go.ChangeShapes Go.WideShapes Go.ChangeAt Go.RowKit Go.Conc
section
variable {H:Type} {enc:TypeId × Value→H} {P:Program}
theorem Zo7 {t:TypeId} {ms:Array (String × TypeId)} (hu:P.underlying t=some (.interface ms)) {W W':World} {sp sp':Nat→Bool} {fuel:Nat} {cs:List Value} : DataW.trod enc P W 0 sp true fuel t cs=DataW.trod enc P W' 0 sp' true fuel t cs:=by
 cases fuel with
 | zero=>simp [DataW.trod]
 | succ n=>
  cases cs with
  | nil=>simp [DataW.trod,hu]
  | cons x xs=>
   cases xs with
   | nil=>cases x <;> simp [DataW.trod,hu]
   | cons y ys=>cases x <;> simp [DataW.trod,hu]
theorem Zt4 {W W':World} (hk:Kept W W') {n:String} {g:Nat} {cs:Array Value} (hg:P.globalNamed n=some g) (hlt:g<W.heap.size) (h:W.var? P n=some cs):W'.var? P n=some cs:=by
 simp only [World.var?,hg,Option.bind_some] at h ⊢
 rw [hk.1 g hlt];exact h
theorem ZqL {W:World} {sp:Nat→Bool} :∀{ns:List String} {gs:List (DataW H)} {ps:List MemPlace},DataW.TrodVars enc P W sp ns gs ps→∀n,n∈ns→∀g,P.globalNamed n=some g→g<W.heap.size
 | [],_,_,_,n,hn,_,_=>by cases hn
 | m :: ns,d :: ds,ps,⟨g,t,cs,fuel,p,q,hg,hty,hv,hd,hr,e⟩,n,hn,g',hg'=>by
  rcases List.mem_cons.1 hn with rfl | hn
  ·obtain rfl:=Option.some.inj (hg.symm.trans hg')
   simp only [World.var?,hg,Option.bind_some] at hv
   rcases Nat.lt_or_ge g W.heap.size with h | h
   ·exact h
   ·rw [Array.getElem?_eq_none h] at hv;cases hv
  ·exact ZqL hr n hn g' hg'
 | _ :: _,[],_,h,_,_,_,_=>h.elim
theorem Zn9 {W:World} {sp:Nat→Bool} :∀{ns:List String} {gs:List (DataW H)} {ps:List MemPlace},DataW.TrodVars enc P W sp ns gs ps→gs.length=ns.length
 | [],[],_,_=>rfl
 | n :: ns,d :: ds,ps,⟨g,t,cs,fuel,p,q,hg,hty,hv,hd,hr,e⟩=>by rw [List.length_cons,List.length_cons,Zn9 hr]
 | [],_ :: _,_,h=>h.elim
 | _ :: _,[],_,h=>h.elim
theorem Zun {ts:Array TypeId} (h:(ts.toList.all fun t=>!P.wantsStandIn t)=true) {j:Nat} {t:TypeId} (ht:ts[j]? = some t):P.wantsStandIn t=false:=by
 have:=List.all_eq_true.1 h t (by
  rw [← Array.getElem?_toList] at ht
  exact List.mem_of_getElem? ht)
 simpa using this
theorem ZsU {n0 n1 n2 n3 nm:String} {x0 x1 x2 x3:List UInt8} {r:List (String × DataW Unit)} {W:World} {k0 k1 k2 k3:Nat} {ti tp te ts:TypeId} {ms:Array (String × TypeId)} {f:Field}
  (h:laidMet P ((n0,.iface nm (.ptr (.agg [.lit (.string x0)]))) :: (n1,.iface nm (.ptr (.agg [.lit (.string x1)]))) :: (n2,.iface nm (.ptr (.agg [.lit (.string x2)]))) :: (n3,.iface nm (.ptr (.agg [.lit (.string x3)]))) :: r) W)
  (hg0:P.globalNamed n0=some k0) (hg1:P.globalNamed n1=some k1) (hg2:P.globalNamed n2=some k2) (hg3:P.globalNamed n3=some k3) (hy0:(P.globals[k0]?).map (·.type)=some ti) (hy1:(P.globals[k1]?).map (·.type)=some ti) (hy2:(P.globals[k2]?).map (·.type)=some ti) (hy3:(P.globals[k3]?).map (·.type)=some ti)
  (hi:P.underlying ti=some (.interface ms)) (hrow :∀u,P.typeName? 3 u=some nm→u=tp)
  (hp:P.underlying tp=some (.pointer te)) (he:P.underlying te=some (.struct #[f])) (hft:f.type=ts) (hfo:f.offset=0) (hs:P.underlying ts=some .string) (hc:P.cellsOf te=1) (hcs:P.cellsOf ts=1) :
∃a:Nat→Addr,ErrsB tp [k0,k1,k2,k3] (Zas W) a:=by
 obtain ⟨ps,⟨g0,t0,cs0,f0,p0,q0,hg0',ht0',hv0,hd0,⟨g1,t1,cs1,f1,p1,q1,hg1',ht1',hv1,hd1,⟨g2,t2,cs2,f2,p2,q2,hg2',ht2',hv2,hd2,⟨g3,t3,cs3,f3,p3,q3,hg3',ht3',hv3,hd3,_,e3⟩,e2⟩,e1⟩,e0⟩,hnd,hrows⟩:=h
 obtain rfl:=Option.some.inj (hg0.symm.trans hg0')
 obtain rfl:=Option.some.inj (hg1.symm.trans hg1')
 obtain rfl:=Option.some.inj (hg2.symm.trans hg2')
 obtain rfl:=Option.some.inj (hg3.symm.trans hg3')
 obtain rfl:=Option.some.inj (hy0.symm.trans ht0')
 obtain rfl:=Option.some.inj (hy1.symm.trans ht1')
 obtain rfl:=Option.some.inj (hy2.symm.trans ht2')
 obtain rfl:=Option.some.inj (hy3.symm.trans ht3')
 subst e3
 subst e2
 subst e1
 subst e0
 obtain ⟨l0⟩:=cs0
 obtain ⟨l1⟩:=cs1
 obtain ⟨l2⟩:=cs2
 obtain ⟨l3⟩:=cs3
 have ok0 :∀u v,l0=[.iface u v]→Value.okWide P W .any 0 u v:=fun u v e=>by
  subst e
  exact (hrows k0 0 (by simp [MemPlace.row])).2 u v (by simpa using World.var?_cell hg0' hv0 0)
 have ok1 :∀u v,l1=[.iface u v]→Value.okWide P W .any 0 u v:=fun u v e=>by
  subst e
  exact (hrows k1 0 (by simp [MemPlace.row])).2 u v (by simpa using World.var?_cell hg1' hv1 0)
 have ok2 :∀u v,l2=[.iface u v]→Value.okWide P W .any 0 u v:=fun u v e=>by
  subst e
  exact (hrows k2 0 (by simp [MemPlace.row])).2 u v (by simpa using World.var?_cell hg2' hv2 0)
 have ok3 :∀u v,l3=[.iface u v]→Value.okWide P W .any 0 u v:=fun u v e=>by
  subst e
  exact (hrows k3 0 (by simp [MemPlace.row])).2 u v (by simpa using World.var?_cell hg3' hv3 0)
 obtain ⟨a0,s0,rfl,hc0,hs0,hz0,rfl⟩:=errorString_of_trod hi hrow hp he hft hfo hs hc hcs hd0 ok0
 obtain ⟨a1,s1,rfl,hc1,hs1,hz1,rfl⟩:=errorString_of_trod hi hrow hp he hft hfo hs hc hcs hd1 ok1
 obtain ⟨a2,s2,rfl,hc2,hs2,hz2,rfl⟩:=errorString_of_trod hi hrow hp he hft hfo hs hc hcs hd2 ok2
 obtain ⟨a3,s3,rfl,hc3,hs3,hz3,rfl⟩:=errorString_of_trod hi hrow hp he hft hfo hs hc hcs hd3 ok3
 have b0:=(hrows a0.block a0.off (by simp [MemPlace.row])).1
 have b1:=(hrows a1.block a1.off (by simp [MemPlace.row])).1
 have b2:=(hrows a2.block a2.off (by simp [MemPlace.row])).1
 have b3:=(hrows a3.block a3.off (by simp [MemPlace.row])).1
 have row :∀(g:Nat) (v:Value) (n:String),P.globalNamed n=some g→W.var? P n=some #[v]→Zam (Zas W) g 0 [v]:=fun g v n hg hv L j u hj=>by
  cases j with
  | zero=>
   simp only [List.getElem?_cons_zero,Option.some.injEq] at hj
   subst hj
   have:=Zdx (by simpa using World.var?_cell hg hv 0:W.cell? ⟨g,0,none⟩=some v)
   obtain ⟨h1,cs,T,fr,h2,h3⟩:=this
   exact ⟨h1,cs,T,fr,h2.elim .inl (fun h=>by cases h),h3⟩
  | succ j=>simp at hj
 refine ⟨fun k=>if k=0 then a0 else if k=1 then a1 else if k=2 then a2 else a3,fun k hk=>?_,fun k hk=>?_,fun i j hi' hj' hne=>?_⟩
 ·match k,hk with
  | 0,_=>exact row k0 _ _ hg0 hv0
  | 1,_=>exact row k1 _ _ hg1 hv1
  | 2,_=>exact row k2 _ _ hg2 hv2
  | 3,_=>exact row k3 _ _ hg3 hv3
 ·match k,hk with
  | 0,_=>exact b0
  | 1,_=>exact b1
  | 2,_=>exact b2
  | 3,_=>exact b3
 ·have h01:a0≠a1:=by rintro rfl;simp [MemPlace.row] at hnd
  have h02:a0≠a2:=by rintro rfl;simp [MemPlace.row] at hnd
  have h03:a0≠a3:=by rintro rfl;simp [MemPlace.row] at hnd
  have h12:a1≠a2:=by rintro rfl;simp [MemPlace.row] at hnd
  have h13:a1≠a3:=by rintro rfl;simp [MemPlace.row] at hnd
  have h23:a2≠a3:=by rintro rfl;simp [MemPlace.row] at hnd
  match i,j,hi',hj',hne with
  | 0,1,_,_,_=>exact h01
  | 0,2,_,_,_=>exact h02
  | 0,3,_,_,_=>exact h03
  | 1,0,_,_,_=>exact h01.symm
  | 1,2,_,_,_=>exact h12
  | 1,3,_,_,_=>exact h13
  | 2,0,_,_,_=>exact h02.symm
  | 2,1,_,_,_=>exact h12.symm
  | 2,3,_,_,_=>exact h23
  | 3,0,_,_,_=>exact h03.symm
  | 3,1,_,_,_=>exact h13.symm
  | 3,2,_,_,_=>exact h23.symm
  | 0,0,_,_,h=>exact (h rfl).elim
  | 1,1,_,_,h=>exact (h rfl).elim
  | 2,2,_,_,h=>exact (h rfl).elim
  | 3,3,_,_,h=>exact (h rfl).elim
end
theorem Zti (Lk:Looks) {p:Pinned} {s:OpenSpec} {c:OpenClaim} (kinds:List LaidKind) (tests:Bool) (har:Bool × String) (lk:Bool)
  (hc:c.holds p s) (hw:c.wfByText s=true) (htie:c.laidByTextAt Lk p kinds tests)
  (hst:c.start = .entering) (hnb:c.noBlocks=false∧c.again=false) (hm:p.checked.prog.mainIs=some (har.1,har.2.toList)) (hn:(!har.1 && har.2.isEmpty && !lk)=false)
  (hl :∀f fn,p.checked.prog.funcNamed c.func=some f→p.checked.prog.funcs[f]? = some fn→lk=p.checked.prog.looks []∧∀(j:Nat) t,fn.params[j]? = some t→p.checked.prog.wantsStandIn t=false)
  (hg:true=c.goesBy p.checked.prog) :
  Claim7.holds p (.plain s) { stood:={ row:=c,standIns:=[],harness:=har,looks:=lk },kinds:=[],alts:=[],goes:=true,laidByText:=true,laidKinds:=kinds,laidTests:=tests,laidLooks:=Lk }:=by
 have h6 :∀r:OpenClaim,Claim7.isSixth { stood:={ row:=r,standIns:=[],harness:=har,looks:=lk },kinds:=[] } = false:=fun r=>by simpa [Claim7.isSixth] using hn
 refine ⟨Claim7.tied_new_at Lk kinds tests (Claim7.new_of_sixth hc har lk hst hnb hm (h6 c) hl) hw,(fun D hD=>by cases hD),htie,(fun h=>by cases h),hg⟩
end Go.BL
namespace Go.BL
open Go.Conc (G)
section
variable {P:PJ} {n:Nat} {ops:Array Oper} {i:Nat} {K:ZaE} {S:Env} {D:List Deferred} {B:Kn} {L:List Cells}
variable {dst:Option Tmp} {ty:TypeId} {pos:String} {after:Array Edge} {g:Option (Nat × Bool)}
theorem Zw1 {f:FuncId} {x:Operand} {cap:Array Value} {xs:List Operand} {vs:List Value} {ats:Array TypeId} {Post:Value→Kn→List Cells→Prop} (js:List Nat) {ss r:List Cells} (hp:ZaA L js=some (ss,r)) (hn:ZeW js=true) (hg:Zk ops S g=some true) (hd:Zw n dst=true) (he:enters P f=true) (hx:ev S x=some (.func (.func f) #[] cap)) (ha:evs S xs=some vs) (hc:Zu P f (vs ++ cap.toList) B ss Post)
  (h :∀v B' Ls',B.le B'→Post v B' Ls'→K v D B' (ZcS r js Ls')):opX P n ops i ⟨dst,.call ⟨.value x,xs.toArray,ats⟩,ty,pos,after,g⟩ K S D B L:=
 Zd7 (o:=⟨dst,.call ⟨.value x,xs.toArray,ats⟩,ty,pos,after,g⟩) (vs:=vs ++ cap.toList) hg (fun ρ hρ Q F q=>by
   have:=ZeD (P:=P) (B:=B) (L:=L) (dst:=dst) (ty:=ty) (pos:=pos) (after:=after) (g:=g) (x:=x) (first:=#[]) (cap:=cap) (ats:=ats) he hx ha ρ hρ Q F
   exact this (by simpa using q)) hd (Ls:=ss) (Lk:=r) (Zau js L ss r hp) hc
  fun v' B' Ls' hle hq=>⟨ZcS r js Ls',ZcE Ls' r js (ZcG hn) (fun j hj=>ZcF js L ss r hp j (.inr hj)),h v' B' Ls' hle hq⟩
end
theorem ZEM {B:Kn} {ls:List Cells} {b:Nat} {row:List Value} {T:TypeId} (k:Nat) (hk:ls[k]? = some (ZP b row T)) (hm :∀q,q∈ls.flatten→(B.add ls.flatten).mem q.1=some q.2):Zam (B.add ls.flatten) b 0 row:=ZbA (ZrY hm k hk)
end Go.BL
namespace Go.BL
open Go.Conc (G)
end Go.BL
namespace Go.BL
section
variable {P:PJ} {n:Nat} {ops:Array Oper} {i:Nat} {K:ZaE} {S:Env} {D:List Deferred} {B:Kn} {L:List Cells}
variable {dst:Option Tmp} {ty:TypeId} {pos:String} {after:Array Edge} {g:Option (Nat × Bool)}
theorem Zn4 {x y:Operand} {ats:Array TypeId} {a b:Int} {k k':IntKind} (hg:Zk ops S g=some true) (hd:Zw n dst=true) (hx:ev S x=some (.int k a)) (hy:ev S y=some (.int k' b)) (h:K (.int k (max a b)) D B L):opX P n ops i ⟨dst,.call ⟨.builtin .max,#[x,y],ats⟩,ty,pos,after,g⟩ K S D B L:=
 ZE hg hd (fun ρ hρ Q F q=>by
  have e:(if b > a then b else a)=max a b:=by rw [Int.max_def];split <;> split <;> omega
  simp only [execOp,resolve,Zi,Zp,invoke,builtin,Builtin.max_,List.map_toArray,List.map_cons,List.map_nil,hρ x _ hx,hρ y _ hy,List.foldlM_cons,List.foldlM_nil,Builtin.max2,e]
  exact q) h
theorem ZhR {x y:Operand} {ats:Array TypeId} {a b:Int} {k k':IntKind} (hg:Zk ops S g=some true) (hd:Zw n dst=true) (hx:ev S x=some (.int k a)) (hy:ev S y=some (.int k' b)) (h:K (.int k (min a b)) D B L):opX P n ops i ⟨dst,.call ⟨.builtin .min,#[x,y],ats⟩,ty,pos,after,g⟩ K S D B L:=
 ZE hg hd (fun ρ hρ Q F q=>by
  have e:(if b<a then b else a)=min a b:=by rw [Int.min_def];split <;> split <;> omega
  simp only [execOp,resolve,Zi,Zp,invoke,builtin,Builtin.min_,List.map_toArray,List.map_cons,List.map_nil,hρ x _ hx,hρ y _ hy,List.foldlM_cons,List.foldlM_nil,Builtin.min2,e]
  exact q) h
end
end Go.BL
namespace Go.BL
section
variable {P:PJ} {n:Nat} {ops:Array Oper} {i:Nat} {K:ZaE} {S:Env} {D:List Deferred} {B:Kn} {L:List Cells}
variable {dst:Option Tmp} {ty:TypeId} {pos:String} {after:Array Edge} {g:Option (Nat × Bool)}
variable {α:Type} {R:Rel α} {xs:List α}
end
end Go.BL
namespace Go.BL
theorem Zo2 {P:PJ} {n:Nat} {Q:Exit→Zag} {S:Env} {D:List Deferred} {B:Kn} {L:List Cells} {c:Code} (L':List Cells) (hl:L=L') (h:wpS P n c Q S D B L'):wpS P n c Q S D B L:=by subst hl;exact h
theorem sQ:(∀(p:Prop) [Decidable p],(decide p=true)=p)∧(∀(p:Prop) [Decidable p],(decide p=false) = ¬p)∧(∀b:Bool,((!b)=true)=(b=false))∧(∀b:Bool,((!b)=false)=(b=true))∧(∀(p:Prop) [Decidable p],(decide (¬p)) = !decide p)∧(∀(p:Prop) [Decidable p],(¬¬p)=p)∧(∀a b:Int,(¬a<b)=(b≤a))∧(∀a b:Int,(¬a≤b)=(b<a)):=
 ⟨fun p _=>by simp,fun p _=>by simp,by simp,by simp,fun p _=>by simp,fun p _=>by simp,by simp,by simp⟩
end Go.BL
namespace Go.BL
def orI (a b:Int):Int:=IntKind.i64.wrap (BitVec.ofInt 64 a ||| BitVec.ofInt 64 b).toNat
def Ztw (a b:Int):Int:=IntKind.i64.wrap (BitVec.ofInt 64 a &&& BitVec.ofInt 64 b).toNat
section
variable {P:PJ} {n:Nat} {ops:Array Oper} {i:Nat} {K:ZaE} {S:Env} {D:List Deferred} {B:Kn} {L:List Cells}
variable {dst:Option Tmp} {ty:TypeId} {pos:String} {after:Array Edge} {g:Option (Nat × Bool)}
theorem Zn5 {t kt et:TypeId} {x y:Operand} {b:Nat} {l:Cells} {kvs:KV} {k:List UInt8} (j:Nat) (hj:L[j]? = some l) (hl:ZyQ l b kvs) (hg:Zk ops S g=some true) (hd:Zw n dst=true) (hu:P.underlying t=some (.map kt et)) (hk:P.underlying kt=some .string)
  (hz:ZZ P et=some (.int .i64 0)) (hx:ev S x=some (.map (some b))) (hy:ev S y=some (str k)) (h:K (.int .i64 ((mget kvs k).getD 0)) D B L):opX P n ops i ⟨dst,.lookup t x y false,ty,pos,after,g⟩ K S D B L:=
 Zcx hg hd fun ρ hρ F=>by
  obtain ⟨es,clock,rfl,ok⟩:=hl
  have hin:(b,Obj.map es clock)∈L.flatten ++ F:=by
   rw [((ZT F [] hj).choose_spec.1).mem_iff];simp
  simp only [execOp,Instr.lookup,hρ x _ hx,hρ y _ hy,Zi,Zo hu]
  refine ⟨_,.inr hin,rfl,rfl,?_⟩
  simp only [Zad,Zi,Zp]
  refine Ziq hk ?_
  rw [Zi]
  refine Zjn hk ok.ent ?_
  cases hm:mlook kvs k 0 with
  | none=>
   obtain ⟨_,_,_,m4⟩:=ZgR hm
   simp only [ZaS hz,Zp,Zi,Zsm,Bool.false_eq_true,if_false]
   rw [m4] at h
   exact ⟨L,.of (List.Perm.refl _),h⟩
  | some p=>
   obtain ⟨jj,u⟩:=p
   obtain ⟨m,w,rfl,rfl,m3,m4,_,m6⟩:=ZgQ hm
   simp only [Zp,Zi,Bool.false_eq_true,if_false]
   rw [m6] at h
   exact ⟨L,.of (List.Perm.refl _),h⟩
section
variable {t u:TypeId} {x y:Operand} {a b r:Int}
theorem ZBl (hg:Zk ops S g=some true) (hd:Zw n dst=true) (hx:ev S x=some (.int .i64 a)) (hy:ev S y=some (.int .i64 b)) (h:K (.int .i64 (orI a b)) D B L):opX P n ops i ⟨dst,.binOp .or t x y u,ty,pos,after,g⟩ K S D B L:=
 ZE hg hd (fun ρ hρ Q F q=>by
  simp only [execOp,hρ x _ hx,hρ y _ hy,Zi,Z8,binOp,ne_eq,not_true_eq_false,if_false,Op.intBits,Zp];exact q) h
theorem ZqK (hg:Zk ops S g=some true) (hd:Zw n dst=true) (hx:ev S x=some (.int .i64 a)) (hy:ev S y=some (.int .i64 b)) (h:K (.int .i64 (Ztw a b)) D B L):opX P n ops i ⟨dst,.binOp .and t x y u,ty,pos,after,g⟩ K S D B L:=
 ZE hg hd (fun ρ hρ Q F q=>by
  simp only [execOp,hρ x _ hx,hρ y _ hy,Zi,Z8,binOp,ne_eq,not_true_eq_false,if_false,Op.intBits,Zp];exact q) h
end
end
end Go.BL
namespace Go.BL
theorem om {p:Prop} (h:p:=by first | omega | (simp;done) | (simp;omega)):p:=h
theorem om2 {p:Prop} (h:p:=by first | assumption | omega | (simp;done) | (simp;omega)):p:=h
theorem oz {p:Prop} (h:p:=by omega):p:=h
theorem kr {p:Prop} (h:p:=by kernel_rfl):p:=h
theorem so {p:Prop} (h:p:=by simp only [];omega):p:=h
theorem so2 {p:Prop} (h:p:=by first | omega | (simp only [];omega)):p:=h
theorem oa {p:Prop} (h:p:=by first | assumption | omega):p:=h
theorem oy {p:Prop} (h:p:=by assumption):p:=h
theorem om3 {p:Prop} (h:p:=by first | omega | decide | (simp;done) | (simp;omega)):p:=h
theorem t1 {α0:Sort _} {a0:α0} : a0=a0∧True:=⟨rfl,trivial⟩
theorem t2 {α0 α1:Sort _} {a0:α0} {a1:α1} : a0=a0∧a1=a1∧True:=⟨rfl,rfl,trivial⟩
theorem t3 {α0 α1 α2:Sort _} {a0:α0} {a1:α1} {a2:α2} : a0=a0∧a1=a1∧a2=a2∧True:=⟨rfl,rfl,rfl,trivial⟩
theorem t4 {α0 α1 α2 α3:Sort _} {a0:α0} {a1:α1} {a2:α2} {a3:α3} : a0=a0∧a1=a1∧a2=a2∧a3=a3∧True:=⟨rfl,rfl,rfl,rfl,trivial⟩
theorem t5 {α0 α1 α2 α3 α4:Sort _} {a0:α0} {a1:α1} {a2:α2} {a3:α3} {a4:α4} : a0=a0∧a1=a1∧a2=a2∧a3=a3∧a4=a4∧True:=⟨rfl,rfl,rfl,rfl,rfl,trivial⟩
theorem t6 {α0 α1 α2 α3 α4 α5:Sort _} {a0:α0} {a1:α1} {a2:α2} {a3:α3} {a4:α4} {a5:α5} : a0=a0∧a1=a1∧a2=a2∧a3=a3∧a4=a4∧a5=a5∧True:=⟨rfl,rfl,rfl,rfl,rfl,rfl,trivial⟩
theorem t7 {α0 α1 α2 α3 α4 α5 α6:Sort _} {a0:α0} {a1:α1} {a2:α2} {a3:α3} {a4:α4} {a5:α5} {a6:α6} : a0=a0∧a1=a1∧a2=a2∧a3=a3∧a4=a4∧a5=a5∧a6=a6∧True:=⟨rfl,rfl,rfl,rfl,rfl,rfl,rfl,trivial⟩
theorem t8 {α0 α1 α2 α3 α4 α5 α6 α7:Sort _} {a0:α0} {a1:α1} {a2:α2} {a3:α3} {a4:α4} {a5:α5} {a6:α6} {a7:α7} : a0=a0∧a1=a1∧a2=a2∧a3=a3∧a4=a4∧a5=a5∧a6=a6∧a7=a7∧True:=⟨rfl,rfl,rfl,rfl,rfl,rfl,rfl,rfl,trivial⟩
theorem t9 {α0 α1 α2 α3 α4 α5 α6 α7 α8:Sort _} {a0:α0} {a1:α1} {a2:α2} {a3:α3} {a4:α4} {a5:α5} {a6:α6} {a7:α7} {a8:α8} : a0=a0∧a1=a1∧a2=a2∧a3=a3∧a4=a4∧a5=a5∧a6=a6∧a7=a7∧a8=a8∧True:=⟨rfl,rfl,rfl,rfl,rfl,rfl,rfl,rfl,rfl,trivial⟩
theorem t10 {α0 α1 α2 α3 α4 α5 α6 α7 α8 α9:Sort _} {a0:α0} {a1:α1} {a2:α2} {a3:α3} {a4:α4} {a5:α5} {a6:α6} {a7:α7} {a8:α8} {a9:α9} : a0=a0∧a1=a1∧a2=a2∧a3=a3∧a4=a4∧a5=a5∧a6=a6∧a7=a7∧a8=a8∧a9=a9∧True:=⟨rfl,rfl,rfl,rfl,rfl,rfl,rfl,rfl,rfl,rfl,trivial⟩
theorem t11 {α0 α1 α2 α3 α4 α5 α6 α7 α8 α9 α10:Sort _} {a0:α0} {a1:α1} {a2:α2} {a3:α3} {a4:α4} {a5:α5} {a6:α6} {a7:α7} {a8:α8} {a9:α9} {a10:α10} : a0=a0∧a1=a1∧a2=a2∧a3=a3∧a4=a4∧a5=a5∧a6=a6∧a7=a7∧a8=a8∧a9=a9∧a10=a10∧True:=⟨rfl,rfl,rfl,rfl,rfl,rfl,rfl,rfl,rfl,rfl,rfl,trivial⟩
theorem t12 {α0 α1 α2 α3 α4 α5 α6 α7 α8 α9 α10 α11:Sort _} {a0:α0} {a1:α1} {a2:α2} {a3:α3} {a4:α4} {a5:α5} {a6:α6} {a7:α7} {a8:α8} {a9:α9} {a10:α10} {a11:α11} : a0=a0∧a1=a1∧a2=a2∧a3=a3∧a4=a4∧a5=a5∧a6=a6∧a7=a7∧a8=a8∧a9=a9∧a10=a10∧a11=a11∧True:=⟨rfl,rfl,rfl,rfl,rfl,rfl,rfl,rfl,rfl,rfl,rfl,rfl,trivial⟩
theorem t13 {α0 α1 α2 α3 α4 α5 α6 α7 α8 α9 α10 α11 α12:Sort _} {a0:α0} {a1:α1} {a2:α2} {a3:α3} {a4:α4} {a5:α5} {a6:α6} {a7:α7} {a8:α8} {a9:α9} {a10:α10} {a11:α11} {a12:α12} : a0=a0∧a1=a1∧a2=a2∧a3=a3∧a4=a4∧a5=a5∧a6=a6∧a7=a7∧a8=a8∧a9=a9∧a10=a10∧a11=a11∧a12=a12∧True:=⟨rfl,rfl,rfl,rfl,rfl,rfl,rfl,rfl,rfl,rfl,rfl,rfl,rfl,trivial⟩
theorem t14 {α0 α1 α2 α3 α4 α5 α6 α7 α8 α9 α10 α11 α12 α13:Sort _} {a0:α0} {a1:α1} {a2:α2} {a3:α3} {a4:α4} {a5:α5} {a6:α6} {a7:α7} {a8:α8} {a9:α9} {a10:α10} {a11:α11} {a12:α12} {a13:α13} : a0=a0∧a1=a1∧a2=a2∧a3=a3∧a4=a4∧a5=a5∧a6=a6∧a7=a7∧a8=a8∧a9=a9∧a10=a10∧a11=a11∧a12=a12∧a13=a13∧True:=⟨rfl,rfl,rfl,rfl,rfl,rfl,rfl,rfl,rfl,rfl,rfl,rfl,rfl,rfl,trivial⟩
theorem t15 {α0 α1 α2 α3 α4 α5 α6 α7 α8 α9 α10 α11 α12 α13 α14:Sort _} {a0:α0} {a1:α1} {a2:α2} {a3:α3} {a4:α4} {a5:α5} {a6:α6} {a7:α7} {a8:α8} {a9:α9} {a10:α10} {a11:α11} {a12:α12} {a13:α13} {a14:α14} : a0=a0∧a1=a1∧a2=a2∧a3=a3∧a4=a4∧a5=a5∧a6=a6∧a7=a7∧a8=a8∧a9=a9∧a10=a10∧a11=a11∧a12=a12∧a13=a13∧a14=a14∧True:=⟨rfl,rfl,rfl,rfl,rfl,rfl,rfl,rfl,rfl,rfl,rfl,rfl,rfl,rfl,rfl,trivial⟩
theorem t16 {α0 α1 α2 α3 α4 α5 α6 α7 α8 α9 α10 α11 α12 α13 α14 α15:Sort _} {a0:α0} {a1:α1} {a2:α2} {a3:α3} {a4:α4} {a5:α5} {a6:α6} {a7:α7} {a8:α8} {a9:α9} {a10:α10} {a11:α11} {a12:α12} {a13:α13} {a14:α14} {a15:α15} : a0=a0∧a1=a1∧a2=a2∧a3=a3∧a4=a4∧a5=a5∧a6=a6∧a7=a7∧a8=a8∧a9=a9∧a10=a10∧a11=a11∧a12=a12∧a13=a13∧a14=a14∧a15=a15∧True:=⟨rfl,rfl,rfl,rfl,rfl,rfl,rfl,rfl,rfl,rfl,rfl,rfl,rfl,rfl,rfl,rfl,trivial⟩
theorem t17 {α0 α1 α2 α3 α4 α5 α6 α7 α8 α9 α10 α11 α12 α13 α14 α15 α16:Sort _} {a0:α0} {a1:α1} {a2:α2} {a3:α3} {a4:α4} {a5:α5} {a6:α6} {a7:α7} {a8:α8} {a9:α9} {a10:α10} {a11:α11} {a12:α12} {a13:α13} {a14:α14} {a15:α15} {a16:α16} : a0=a0∧a1=a1∧a2=a2∧a3=a3∧a4=a4∧a5=a5∧a6=a6∧a7=a7∧a8=a8∧a9=a9∧a10=a10∧a11=a11∧a12=a12∧a13=a13∧a14=a14∧a15=a15∧a16=a16∧True:=⟨rfl,rfl,rfl,rfl,rfl,rfl,rfl,rfl,rfl,rfl,rfl,rfl,rfl,rfl,rfl,rfl,rfl,trivial⟩
theorem t18 {α0 α1 α2 α3 α4 α5 α6 α7 α8 α9 α10 α11 α12 α13 α14 α15 α16 α17:Sort _} {a0:α0} {a1:α1} {a2:α2} {a3:α3} {a4:α4} {a5:α5} {a6:α6} {a7:α7} {a8:α8} {a9:α9} {a10:α10} {a11:α11} {a12:α12} {a13:α13} {a14:α14} {a15:α15} {a16:α16} {a17:α17} : a0=a0∧a1=a1∧a2=a2∧a3=a3∧a4=a4∧a5=a5∧a6=a6∧a7=a7∧a8=a8∧a9=a9∧a10=a10∧a11=a11∧a12=a12∧a13=a13∧a14=a14∧a15=a15∧a16=a16∧a17=a17∧True:=⟨rfl,rfl,rfl,rfl,rfl,rfl,rfl,rfl,rfl,rfl,rfl,rfl,rfl,rfl,rfl,rfl,rfl,rfl,trivial⟩
theorem t21 {α0 α1 α2 α3 α4 α5 α6 α7 α8 α9 α10 α11 α12 α13 α14 α15 α16 α17 α18 α19 α20:Sort _} {a0:α0} {a1:α1} {a2:α2} {a3:α3} {a4:α4} {a5:α5} {a6:α6} {a7:α7} {a8:α8} {a9:α9} {a10:α10} {a11:α11} {a12:α12} {a13:α13} {a14:α14} {a15:α15} {a16:α16} {a17:α17} {a18:α18} {a19:α19} {a20:α20} : a0=a0∧a1=a1∧a2=a2∧a3=a3∧a4=a4∧a5=a5∧a6=a6∧a7=a7∧a8=a8∧a9=a9∧a10=a10∧a11=a11∧a12=a12∧a13=a13∧a14=a14∧a15=a15∧a16=a16∧a17=a17∧a18=a18∧a19=a19∧a20=a20∧True:=⟨rfl,rfl,rfl,rfl,rfl,rfl,rfl,rfl,rfl,rfl,rfl,rfl,rfl,rfl,rfl,rfl,rfl,rfl,rfl,rfl,rfl,trivial⟩
theorem t22 {α0 α1 α2 α3 α4 α5 α6 α7 α8 α9 α10 α11 α12 α13 α14 α15 α16 α17 α18 α19 α20 α21:Sort _} {a0:α0} {a1:α1} {a2:α2} {a3:α3} {a4:α4} {a5:α5} {a6:α6} {a7:α7} {a8:α8} {a9:α9} {a10:α10} {a11:α11} {a12:α12} {a13:α13} {a14:α14} {a15:α15} {a16:α16} {a17:α17} {a18:α18} {a19:α19} {a20:α20} {a21:α21} : a0=a0∧a1=a1∧a2=a2∧a3=a3∧a4=a4∧a5=a5∧a6=a6∧a7=a7∧a8=a8∧a9=a9∧a10=a10∧a11=a11∧a12=a12∧a13=a13∧a14=a14∧a15=a15∧a16=a16∧a17=a17∧a18=a18∧a19=a19∧a20=a20∧a21=a21∧True:=⟨rfl,rfl,rfl,rfl,rfl,rfl,rfl,rfl,rfl,rfl,rfl,rfl,rfl,rfl,rfl,rfl,rfl,rfl,rfl,rfl,rfl,rfl,trivial⟩
section
variable {P:PJ} {n:Nat} {ops:Array Oper} {i:Nat} {K:Zag} {S:Env} {D:List Deferred} {B:Kn} {L:List Cells}
variable {dst:Option Tmp} {ty:TypeId} {pos:String} {after:Array Edge} {g:Option (Nat × Bool)} {t u:TypeId} {x y:Operand}
theorem xM {x:Operand} {v:Value} (hg:Zk ops S g=some true:=by exact rfl) (hd:Zw n dst=true:=by exact rfl) (hx:ev S x=some v:=by exact rfl) (h:K (ZbG S dst v) D B L):opW P n ops i ⟨dst,.move x,ty,pos,after,g⟩ K S D B L:=Zh (Za9 hg hd hx h)
theorem xA {x:Operand} {v:Value} (hg:Zk ops S g=some true:=by exact rfl) (hd:Zw n dst=true:=by exact rfl) (hx:ev S x=some v:=by exact rfl) (h:K (ZbG S dst v) D B L):opW P n ops i ⟨dst,.assign x,ty,pos,after,g⟩ K S D B L:=Zh (ZbF hg hd hx h)
theorem xP  {dst:Option Tmp} {op:Op} {t:TypeId} {pos:String} {after:Array Edge} {g:Option (Nat × Bool)}   (hg:Zk ops S g=some false:=by exact rfl) (hd:Zw n dst=true:=by exact rfl) (h:K (ZbG S dst undef) D B L):opW P n ops i ⟨dst,op,t,pos,after,g⟩ K S D B L:=Zh (Zfx  hg hd h)
theorem xT  {c:Operand} {a:Operand} {b:Operand} {v:Value}   (hg:Zk ops S g=some true:=by exact rfl) (hd:Zw n dst=true:=by exact rfl) (hc:ev S c=some (.bool true):=by exact rfl) (hx:ev S a=some v:=by exact rfl) (h:K (ZbG S dst v) D B L):opW P n ops i ⟨dst,.pick c a b,ty,pos,after,g⟩ K S D B L:=Zh (ZjD  hg hd hc hx h)
theorem xF  {c:Operand} {a:Operand} {b:Operand} {v:Value}   (hg:Zk ops S g=some true:=by exact rfl) (hd:Zw n dst=true:=by exact rfl) (hc:ev S c=some (.bool false):=by exact rfl) (hx:ev S b=some v:=by exact rfl) (h:K (ZbG S dst v) D B L):opW P n ops i ⟨dst,.pick c a b,ty,pos,after,g⟩ K S D B L:=Zh (ZjE  hg hd hc hx h)
theorem xE  {x:Operand} {ix:Nat} {vs:List Value} {v:Value}   (hg:Zk ops S g=some true:=by exact rfl) (hd:Zw n dst=true:=by exact rfl) (hx:ev S x=some (.tuple vs.toArray):=by exact rfl) (hi:vs[ix]? = some v:=by exact rfl) (h:K (ZbG S dst v) D B L):opW P n ops i ⟨dst,.extract x ix,ty,pos,after,g⟩ K S D B L:=Zh (ZkX  hg hd hx hi h)
theorem xN  {x:Operand} {b:Bool} {t:TypeId}   (hg:Zk ops S g=some true:=by exact rfl) (hd:Zw n dst=true:=by exact rfl) (hx:ev S x=some (.bool b):=by exact rfl) (h:K (ZbG S dst (.bool (!b))) D B L):opW P n ops i ⟨dst,.unOp .not t x,ty,pos,after,g⟩ K S D B L:=Zh (Zy5  hg hd hx h)
theorem xW  {s:TypeId} {x:Operand} {fi:Nat} {off:Nat} {a:Addr}  (hf:Zr P s fi=some off) (hg:Zk ops S g=some true:=by exact rfl) (hd:Zw n dst=true:=by exact rfl) (hx:ev S x=some (ptr a):=by exact rfl) (h:K (ZbG S dst (ptr (a.add off))) D B L):opW P n ops i ⟨dst,.fieldAddr s x fi,ty,pos,after,g⟩ K S D B L:=Zh (Zac  hg hd hf hx h)
theorem xD  {k:IntKind} {a b r:Int}   (hg:Zk ops S g=some true:=by exact rfl) (hd:Zw n dst=true:=by exact rfl) (hx:ev S x=some (.int k a):=by exact rfl) (hy:ev S y=some (.int k b):=by exact rfl) (hr:k.wrap (a+b)=r:=by first | exact Zb2 (by first | omega | (simp;done) | (simp;omega)) (by first | omega | (simp;done) | (simp;omega)) | exact rfl) (h:K (ZbG S dst (.int k r)) D B L):opW P n ops i ⟨dst,.binOp .add t x y u,ty,pos,after,g⟩ K S D B L:=Zh (ZeM  hg hd hx hy hr h)
theorem xU  {k:IntKind} {a b r:Int}   (hg:Zk ops S g=some true:=by exact rfl) (hd:Zw n dst=true:=by exact rfl) (hx:ev S x=some (.int k a):=by exact rfl) (hy:ev S y=some (.int k b):=by exact rfl) (hr:k.wrap (a - b)=r:=by first | exact Zb2 (by first | omega | (simp;done) | (simp;omega)) (by first | omega | (simp;done) | (simp;omega)) | exact rfl) (h:K (ZbG S dst (.int k r)) D B L):opW P n ops i ⟨dst,.binOp .sub t x y u,ty,pos,after,g⟩ K S D B L:=Zh (ZiO  hg hd hx hy hr h)
theorem ZC  {k:IntKind} {a b:Int}   (hg:Zk ops S g=some true:=by exact rfl) (hd:Zw n dst=true:=by exact rfl) (hx:ev S x=some (.int k a):=by exact rfl) (hy:ev S y=some (.int k b):=by exact rfl) (h:K (ZbG S dst (.bool (decide (a<b)))) D B L):opW P n ops i ⟨dst,.binOp .lss t x y u,ty,pos,after,g⟩ K S D B L:=Zh (Zy8  hg hd hx hy h)
theorem Zbd  {k:IntKind} {a b:Int}   (hg:Zk ops S g=some true:=by exact rfl) (hd:Zw n dst=true:=by exact rfl) (hx:ev S x=some (.int k a):=by exact rfl) (hy:ev S y=some (.int k b):=by exact rfl) (h:K (ZbG S dst (.bool (decide (a≤b)))) D B L):opW P n ops i ⟨dst,.binOp .leq t x y u,ty,pos,after,g⟩ K S D B L:=Zh (Zy9  hg hd hx hy h)
theorem Zc8  {k:IntKind} {a b:Int}   (hg:Zk ops S g=some true:=by exact rfl) (hd:Zw n dst=true:=by exact rfl) (hx:ev S x=some (.int k a):=by exact rfl) (hy:ev S y=some (.int k b):=by exact rfl) (h:K (ZbG S dst (.bool (decide (b<a)))) D B L):opW P n ops i ⟨dst,.binOp .gtr t x y u,ty,pos,after,g⟩ K S D B L:=Zh (Zzc  hg hd hx hy h)
theorem Zc9  {k:IntKind} {a b:Int}   (hg:Zk ops S g=some true:=by exact rfl) (hd:Zw n dst=true:=by exact rfl) (hx:ev S x=some (.int k a):=by exact rfl) (hy:ev S y=some (.int k b):=by exact rfl) (h:K (ZbG S dst (.bool (decide (b≤a)))) D B L):opW P n ops i ⟨dst,.binOp .geq t x y u,ty,pos,after,g⟩ K S D B L:=Zh (Zzd  hg hd hx hy h)
theorem Z2  {k:IntKind} {a b:Int}   (hg:Zk ops S g=some true:=by exact rfl) (hd:Zw n dst=true:=by exact rfl) (hx:ev S x=some (.int k a):=by exact rfl) (hy:ev S y=some (.int k b):=by exact rfl) (h:K (ZbG S dst (.bool (decide (a=b)))) D B L):opW P n ops i ⟨dst,.binOp .eql t x y u,ty,pos,after,g⟩ K S D B L:=Zh (Zwi  hg hd hx hy h)
theorem Zaa  {k:IntKind} {a b:Int}   (hg:Zk ops S g=some true:=by exact rfl) (hd:Zw n dst=true:=by exact rfl) (hx:ev S x=some (.int k a):=by exact rfl) (hy:ev S y=some (.int k b):=by exact rfl) (h:K (ZbG S dst (.bool (decide (a≠b)))) D B L):opW P n ops i ⟨dst,.binOp .neq t x y u,ty,pos,after,g⟩ K S D B L:=Zh (ZqC  hg hd hx hy h)
theorem Zcj  {a b:List UInt8}   (hg:Zk ops S g=some true:=by exact rfl) (hd:Zw n dst=true:=by exact rfl) (hx:ev S x=some (str a):=by exact rfl) (hy:ev S y=some (str b):=by exact rfl) (h:K (ZbG S dst (.bool (decide (a=b)))) D B L):opW P n ops i ⟨dst,.binOp .eql t x y u,ty,pos,after,g⟩ K S D B L:=Zh (Zwh  hg hd hx hy h)
theorem Zd0  {a b:List UInt8}   (hg:Zk ops S g=some true:=by exact rfl) (hd:Zw n dst=true:=by exact rfl) (hx:ev S x=some (str a):=by exact rfl) (hy:ev S y=some (str b):=by exact rfl) (h:K (ZbG S dst (.bool (decide (a≠b)))) D B L):opW P n ops i ⟨dst,.binOp .neq t x y u,ty,pos,after,g⟩ K S D B L:=Zh (Zwa  hg hd hx hy h)
theorem Zv7  {a b:List UInt8}   (hg:Zk ops S g=some true:=by exact rfl) (hd:Zw n dst=true:=by exact rfl) (hx:ev S x=some (str a):=by exact rfl) (hy:ev S y=some (str b):=by exact rfl) (h:K (ZbG S dst (.bool (Op.bytesLess a b))) D B L):opW P n ops i ⟨dst,.binOp .lss t x y u,ty,pos,after,g⟩ K S D B L:=Zh (Zy7  hg hd hx hy h)
theorem xV  {x:Operand} {t:TypeId} {e:TypeId} {p:Option Addr} {len:Nat} {cap:Nat}  (hu:P.underlying t=some (.slice e)) (hg:Zk ops S g=some true:=by exact rfl) (hd:Zw n dst=true:=by exact rfl) (hx:ev S x=some (.slice p len cap):=by exact rfl) (h:K (ZbG S dst (.int .i64 len)) D B L):opW P n ops i ⟨dst,.call ⟨.builtin .len,#[x],#[t]⟩,ty,pos,after,g⟩ K S D B L:=Zh (Zwe  hg hd hu hx h)
theorem xVs  {x:Operand} {t:TypeId} {l:List UInt8}  (hu:P.underlying t=some .string) (hg:Zk ops S g=some true:=by exact rfl) (hd:Zw n dst=true:=by exact rfl) (hx:ev S x=some (str l):=by exact rfl) (h:K (ZbG S dst (.int .i64 l.length)) D B L):opW P n ops i ⟨dst,.call ⟨.builtin .len,#[x],#[t]⟩,ty,pos,after,g⟩ K S D B L:=Zh (Zwf  hg hd hu hx h)
theorem xNc  {x:Operand} {a:Addr}   (hg:Zk ops S g=some true:=by exact rfl) (hd:Zw n dst=true:=by exact rfl) (hx:ev S x=some (.pointer (some a)):=by exact rfl) (h:K (ZbG S dst (.pointer (some a))) D B L):opW P n ops i ⟨dst,.nilCheck x,ty,pos,after,g⟩ K S D B L:=Zh (ZaF  hg hd hx h)
theorem x1  {t:TypeId} {x:Operand} {a:Addr} {v:Value} {l:List Value} {T:TypeId} {fr:Nat × Nat} {r:Cells}  (hl:lk P t=some none) (j:Nat) (hg:Zk ops S g=some true:=by exact rfl) (hd:Zw n dst=true:=by exact rfl) (hx:ev S x=some (ptr a):=by exact rfl) (hj:L[j]? = some ((a.block,.cells l.toArray T fr) :: r):=by exact rfl) (hs:a.spot=none:=by exact rfl) (hv:l[a.off]? = some v:=by exact rfl) (h:K (ZbG S dst v) D B L):opW P n ops i ⟨dst,.load t x,ty,pos,after,g⟩ K S D B L:=Zh (Zn  hg hd hl hx (atL j hj hs hv) h)
theorem xL  {t:TypeId} {x:Operand} {a:Addr} {l:List Value} {T:TypeId} {fr:Nat × Nat} {r:Cells}  (vs:List Value) (hl:lk P t=some (some vs.length)) (j:Nat) (hg:Zk ops S g=some true:=by exact rfl) (hd:Zw n dst=true:=by exact rfl) (hx:ev S x=some (ptr a):=by exact rfl) (hj:L[j]? = some ((a.block,.cells l.toArray T fr) :: r):=by exact rfl) (hs:a.spot=none:=by exact rfl) (hv:(l.drop a.off).take vs.length=vs:=by exact rfl) (h:K (ZbG S dst (.agg vs.toArray)) D B L):opW P n ops i ⟨dst,.load t x,ty,pos,after,g⟩ K S D B L:=Zh (ZI  vs hg hd hl hx (ZbZ j hj hs hv) h)
theorem y1  {t:TypeId} {x:Operand} {a:Addr} {v:Value} {b o:Nat} {row:List Value}  (hl:lk P t=some none) (hc:Zam B b o row) (off:Nat) (hg:Zk ops S g=some true:=by exact rfl) (hd:Zw n dst=true:=by exact rfl) (hx:ev S x=some (ptr a):=by exact rfl) (ha:a=⟨b,o+off,none⟩:=by exact rfl) (hv:row[off]? = some v:=by exact rfl) (h:K (ZbG S dst v) D B L):opW P n ops i ⟨dst,.load t x,ty,pos,after,g⟩ K S D B L:=Zh (Zn  hg hd hl hx (by subst ha;exact hc _ off _ hv) h)
theorem yL  {t:TypeId} {x:Operand} {a:Addr} {b o:Nat} {row:List Value}  (vs:List Value) (hl:lk P t=some (some vs.length)) (hc:Zam B b o row) (off:Nat) (hg:Zk ops S g=some true:=by exact rfl) (hd:Zw n dst=true:=by exact rfl) (hx:ev S x=some (ptr a):=by exact rfl) (ha:a=⟨b,o+off,none⟩:=by exact rfl) (hv:(row.drop off).take vs.length=vs:=by exact rfl) (h:K (ZbG S dst (.agg vs.toArray)) D B L):opW P n ops i ⟨dst,.load t x,ty,pos,after,g⟩ K S D B L:=Zh (ZI  vs hg hd hl hx (Zhh hc off ha hv) h)
theorem xS  {t:TypeId} {x:Operand} {y:Operand} {a:Addr} {v:Value} {l:List Value} {T:TypeId} {r:Cells}  (vs:List Value) (j:Nat) (l':List Value) (hsz:ZG P t=some vs.length) (hg:Zk ops S g=some true:=by exact rfl) (hd:Zw n dst=true:=by exact rfl) (hx:ev S x=some (ptr a):=by exact rfl) (hy:ev S y=some v:=by exact rfl) (hv:v.cells=vs.toArray:=by exact rfl) (ho:vs.all ZgO=true:=by exact rfl) (hj:L[j]? = some ((a.block,.cells l.toArray T (0,0)) :: r):=by exact rfl) (hs:a.spot=none:=by exact rfl) (hlen:Nat.ble (a.off+vs.length) l.length=true:=by exact rfl) (hl':Z7 l a.off vs=l':=by exact rfl) (h:K (ZbG S dst undef) D B (L.set j ((a.block,.cells l'.toArray T (0,0)) :: r))):opW P n ops i ⟨dst,.store t x y,ty,pos,after,g⟩ K S D B L:=Zh (Zav  vs j l' hg hd hsz hx hy hv ho hj hs hlen hl' h)
theorem xB  {t:TypeId} {z:Value} {pl:List (Nat × Nat)} {vs:List Value} (parts:List (Nat × Operand)) (zl l':List Value) (hpl:ZaG P t=some pl) (hz:ZZ P t=some z) (hg:Zk ops S g=some true:=by exact rfl) (hd:Zw n dst=true:=by exact rfl) (hzl:z.cells.toList=zl:=by exact rfl) (ha:evs S (parts.map (·.2))=some vs:=by exact rfl) (hf:ZiS (fun i=>pl[i]?) zl ((parts.map (·.1)).zip vs)=some l':=by exact rfl) (h:K (ZbG S dst (.agg l'.toArray)) D B L):opW P n ops i ⟨dst,.build t parts.toArray,ty,pos,after,g⟩ K S D B L:=Zh (Zcl (parts:=parts) zl l' hg hd hpl hz hzl ha hf h)
theorem xAl  {t:TypeId} {z:Value} (l:List Value) (hz:ZZ P t=some z) (hg:Zk ops S g=some true:=by exact rfl) (hd:Zw n dst=true:=by exact rfl) (hl:z.cells=l.toArray:=by exact rfl) (h :∀b,K (ZbG S dst (ptr ⟨b,0,none⟩)) D B (L ++ [ZP b l t])):opW P n ops i ⟨dst,.alloc t,ty,pos,after,g⟩ K S D B L:=Zh (ZeR (l:=l) hg hd hz hl h)
theorem xBx  {t:TypeId} {x:Operand} {v:Value} (l:List Value)  (hg:Zk ops S g=some true:=by exact rfl) (hd:Zw n dst=true:=by exact rfl) (hx:ev S x=some v:=by exact rfl) (hl:v.cells=l.toArray:=by exact rfl) (h :∀b,K (ZbG S dst (ptr ⟨b,0,none⟩)) D B (L ++ [ZP b l t])):opW P n ops i ⟨dst,.box t x,ty,pos,after,g⟩ K S D B L:=Zh (ZqJ (l:=l) hg hd hx hl h)
theorem xIx  {t:TypeId} {e:TypeId} {x:Operand} {y:Operand} {k:IntKind} {b:Nat} {o:Nat} {len:Nat} {cap:Nat} {sz:Nat} {ix:Int}  (hu:P.underlying t=some (.slice e)) (hsz:ZG P e=some sz) (hg:Zk ops S g=some true:=by exact rfl) (hd:Zw n dst=true:=by exact rfl) (hx:ev S x=some (.slice (some ⟨b,o,none⟩) len cap):=by exact rfl) (hy:ev S y=some (.int k ix):=by exact rfl) (h0:0≤ix:=by first | omega | (simp;done) | (simp;omega)) (h1:ix<len:=by first | omega | (simp;done) | (simp;omega)) (h:K (ZbG S dst (ptr ⟨b,o+ix.toNat*sz,none⟩)) D B L):opW P n ops i ⟨dst,.indexAddr t x y,ty,pos,after,g⟩ K S D B L:=Zh (Zza  hg hd hu hsz hx hy h0 h1 h)
theorem xIp  {t:TypeId} {e:TypeId} {x:Operand} {y:Operand} {k:IntKind} {p:Option Addr} {b:Nat} {len:Nat} {cap:Nat} {sz:Nat} {ix:Int}  (hp:p=some ⟨b,0,none⟩) (hu:P.underlying t=some (.slice e)) (hsz:ZG P e=some sz) (hg:Zk ops S g=some true:=by exact rfl) (hd:Zw n dst=true:=by exact rfl) (hx:ev S x=some (.slice p len cap):=by exact rfl) (hy:ev S y=some (.int k ix):=by exact rfl) (h0:0≤ix:=by first | omega | (simp;done) | (simp;omega)) (h1:ix<len:=by first | omega | (simp;done) | (simp;omega)) (h:K (ZbG S dst (ptr ⟨b,ix.toNat*sz,none⟩)) D B L):opW P n ops i ⟨dst,.indexAddr t x y,ty,pos,after,g⟩ K S D B L:=Zh (ZgI  hp hg hd hu hsz hx hy h0 h1 h)
theorem xR  {f:FuncId} {xs:List Operand} {vs:List Value} {ats:Array TypeId} {v:Value}  (he:enters P f=true) (ha:evs S xs=some vs) (hc:Z1 P f vs B v) (hg:Zk ops S g=some true:=by exact rfl) (hd:Zw n dst=true:=by exact rfl) (h:K (ZbG S dst v) D B L):opW P n ops i ⟨dst,.call ⟨.value (.func f),xs.toArray,ats⟩,ty,pos,after,g⟩ K S D B L:=Zh (Z5  hg hd he ha hc h)
theorem xC  {f:FuncId} {xs:List Operand} {vs:List Value} {ats:Array TypeId} {Post:Value→Kn→List Cells→Prop}  (he:enters P f=true) (ha:evs S xs=some vs) (hc:Zu P f vs B [] Post) (hg:Zk ops S g=some true:=by exact rfl) (hd:Zw n dst=true:=by exact rfl) (h :∀v B' Ls',B.le B'→Post v B' Ls'→K (ZbG S dst v) D B' (L ++ Ls')):opW P n ops i ⟨dst,.call ⟨.value (.func f),xs.toArray,ats⟩,ty,pos,after,g⟩ K S D B L:=Zh (Zb9  hg hd he ha hc h)
theorem xQ  {f:FuncId} {xs:List Operand} {vs:List Value} {ats:Array TypeId} {Post:Value→Kn→Prop}  (he:enters P f=true) (ha:evs S xs=some vs) (hc:Zu P f vs B [] (fun v B' Ls=>Ls=[]∧Post v B')) (hg:Zk ops S g=some true:=by exact rfl) (hd:Zw n dst=true:=by exact rfl) (h :∀v B',B.le B'→Post v B'→K (ZbG S dst v) D B' L):opW P n ops i ⟨dst,.call ⟨.value (.func f),xs.toArray,ats⟩,ty,pos,after,g⟩ K S D B L:=Zh (ZjG  hg hd he ha hc h)
theorem xK  {f:FuncId} {xs:List Operand} {vs:List Value} {ats:Array TypeId} {Post:Value→Kn→List Cells→Prop} {ss:List Cells} {r:List Cells}  (js:List Nat) (hp:ZaA L js=some (ss,r)) (he:enters P f=true) (ha:evs S xs=some vs) (hc:Zu P f vs B ss Post) (hn:ZeW js=true:=by exact rfl) (hg:Zk ops S g=some true:=by exact rfl) (hd:Zw n dst=true:=by exact rfl) (h :∀v B' Ls',B.le B'→Post v B' Ls'→K (ZbG S dst v) D B' (ZcS r js Ls')):opW P n ops i ⟨dst,.call ⟨.value (.func f),xs.toArray,ats⟩,ty,pos,after,g⟩ K S D B L:=Zh (Zbx  js hp hn hg hd he ha hc h)
theorem xBs  {t:TypeId} {e:TypeId} {len:Nat} {sz:Nat} {z:Value} {vs:List Value} (parts:List (Nat × Operand)) (l':List Value) (hu:P.underlying t=some (.slice e)) (hsz:ZG P e=some sz) (hz:ZZ P e=some z) (hg:Zk ops S g=some true:=by exact rfl) (hd:Zw n dst=true:=by exact rfl) (hbig:Nat.ble (len*sz) 1024=true:=by exact rfl) (hidx:parts.map (·.1)=List.range len:=by exact rfl) (ha:evs S (parts.map (·.2))=some vs:=by exact rfl) (hall:vs.all (fun v=>Nat.beq v.cells.toList.length sz)=true:=by exact rfl) (hl':(vs.map fun v=>v.cells.toList).flatten=l':=by exact rfl) (h :∀b,K (ZbG S dst (.slice (some ⟨b,0,none⟩) len len)) D B (L ++ [ZP b l' e])):opW P n ops i ⟨dst,.buildSlice t len parts.toArray,ty,pos,after,g⟩ K S D B L:=Zh (ZcP (parts:=parts) l' hg hd hu hsz hz hbig hidx ha hall hl' h)
end
section
variable {P:PJ} {n:Nat} {ops:Array Oper} {K:Zag} {S:Env} {D:List Deferred} {B:Kn} {L:List Cells}
variable {dst:Option Tmp} {ty:TypeId} {pos:String} {after:Array Edge} {g:Option (Nat × Bool)} {t u:TypeId} {x y:Operand}
theorem aT {C:Cx P} {k':List Item} {I:Kn→List Cells→Prop} {ℓ:List Nat} (i:Nat) {o:Oper} {v:Value} (hi:ops[i]? = some o) (hq:quiet P n ops I i o v (sel (o.looksAt ops) S)) (hr:(ZaR ops ℓ).contains i=true:=by kernel_rfl) (hd:Zw n o.dst=true:=by exact rfl) (hp:Zjj o=false:=by rfl) (h:Zbr C k' n ops I (i :: ℓ) K (ZbG S o.dst v) D B L):Zbr C k' n ops I ℓ K S D B L:=ZvV i hi hr hd hq h hp
theorem r4 {α β γ δ:Type} {a:α} {b:β} {c:γ} {d:δ} : a=a∧b=b∧c=c∧d=d:=⟨rfl,rfl,rfl,rfl⟩
variable {C:Cx P} {k':List Item} {I:Kn→List Cells→Prop} {ℓ:List Nat}
theorem aM  {x:Operand} {v:Value} (i:Nat) (hii:ops[i]? = some ⟨dst,.move x,ty,pos,after,g⟩)  (hrr:(ZaR ops ℓ).contains i=true:=by kernel_rfl) (hdd:Zw n dst=true:=by exact rfl) (hg:Zk ops (sel ((⟨dst,.move x,ty,pos,after,g⟩:Oper).looksAt ops) S) g=some true:=by exact rfl) (hd:Zw n dst=true:=by exact rfl) (hx:ev (sel ((⟨dst,.move x,ty,pos,after,g⟩:Oper).looksAt ops) S) x=some v:=by exact rfl) (h:Zbr C k' n ops I (i :: ℓ) K (ZbG S dst v) D B L):Zbr C k' n ops I ℓ K S D B L:=Zal i hii hrr hdd (fun _ _ _=>Za9 hg hd hx ⟨rfl,rfl,rfl,rfl⟩) h
theorem aA  {x:Operand} {v:Value} (i:Nat) (hii:ops[i]? = some ⟨dst,.assign x,ty,pos,after,g⟩)  (hrr:(ZaR ops ℓ).contains i=true:=by kernel_rfl) (hdd:Zw n dst=true:=by exact rfl) (hg:Zk ops (sel ((⟨dst,.assign x,ty,pos,after,g⟩:Oper).looksAt ops) S) g=some true:=by exact rfl) (hd:Zw n dst=true:=by exact rfl) (hx:ev (sel ((⟨dst,.assign x,ty,pos,after,g⟩:Oper).looksAt ops) S) x=some v:=by exact rfl) (h:Zbr C k' n ops I (i :: ℓ) K (ZbG S dst v) D B L):Zbr C k' n ops I ℓ K S D B L:=Zal i hii hrr hdd (fun _ _ _=>ZbF hg hd hx ⟨rfl,rfl,rfl,rfl⟩) h
theorem aZ  {dst:Option Tmp} {op:Op} {t:TypeId} {pos:String} {after:Array Edge} {g:Option (Nat × Bool)} (i:Nat) (hii:ops[i]? = some ⟨dst,op,t,pos,after,g⟩)  (hrr:(ZaR ops ℓ).contains i=true:=by kernel_rfl) (hdd:Zw n dst=true:=by exact rfl) (hg:Zk ops (sel ((⟨dst,op,t,pos,after,g⟩:Oper).looksAt ops) S) g=some false:=by exact rfl) (hd:Zw n dst=true:=by exact rfl) (h:Zbr C k' n ops I (i :: ℓ) K (ZbG S dst undef) D B L):Zbr C k' n ops I ℓ K S D B L:=Zal i hii hrr hdd (fun _ _ _=>Zfx hg hd ⟨rfl,rfl,rfl,rfl⟩) h
theorem aPT  {c:Operand} {a:Operand} {b:Operand} {v:Value} (i:Nat) (hii:ops[i]? = some ⟨dst,.pick c a b,ty,pos,after,g⟩)  (hrr:(ZaR ops ℓ).contains i=true:=by kernel_rfl) (hdd:Zw n dst=true:=by exact rfl) (hg:Zk ops (sel ((⟨dst,.pick c a b,ty,pos,after,g⟩:Oper).looksAt ops) S) g=some true:=by exact rfl) (hd:Zw n dst=true:=by exact rfl) (hc:ev (sel ((⟨dst,.pick c a b,ty,pos,after,g⟩:Oper).looksAt ops) S) c=some (.bool true):=by exact rfl) (hx:ev (sel ((⟨dst,.pick c a b,ty,pos,after,g⟩:Oper).looksAt ops) S) a=some v:=by exact rfl) (h:Zbr C k' n ops I (i :: ℓ) K (ZbG S dst v) D B L):Zbr C k' n ops I ℓ K S D B L:=Zal i hii hrr hdd (fun _ _ _=>ZjD hg hd hc hx ⟨rfl,rfl,rfl,rfl⟩) h
theorem aPF  {c:Operand} {a:Operand} {b:Operand} {v:Value} (i:Nat) (hii:ops[i]? = some ⟨dst,.pick c a b,ty,pos,after,g⟩)  (hrr:(ZaR ops ℓ).contains i=true:=by kernel_rfl) (hdd:Zw n dst=true:=by exact rfl) (hg:Zk ops (sel ((⟨dst,.pick c a b,ty,pos,after,g⟩:Oper).looksAt ops) S) g=some true:=by exact rfl) (hd:Zw n dst=true:=by exact rfl) (hc:ev (sel ((⟨dst,.pick c a b,ty,pos,after,g⟩:Oper).looksAt ops) S) c=some (.bool false):=by exact rfl) (hx:ev (sel ((⟨dst,.pick c a b,ty,pos,after,g⟩:Oper).looksAt ops) S) b=some v:=by exact rfl) (h:Zbr C k' n ops I (i :: ℓ) K (ZbG S dst v) D B L):Zbr C k' n ops I ℓ K S D B L:=Zal i hii hrr hdd (fun _ _ _=>ZjE hg hd hc hx ⟨rfl,rfl,rfl,rfl⟩) h
theorem aE  {x:Operand} {ix:Nat} {vs:List Value} {v:Value} (i:Nat) (hii:ops[i]? = some ⟨dst,.extract x ix,ty,pos,after,g⟩)  (hrr:(ZaR ops ℓ).contains i=true:=by kernel_rfl) (hdd:Zw n dst=true:=by exact rfl) (hg:Zk ops (sel ((⟨dst,.extract x ix,ty,pos,after,g⟩:Oper).looksAt ops) S) g=some true:=by exact rfl) (hd:Zw n dst=true:=by exact rfl) (hx:ev (sel ((⟨dst,.extract x ix,ty,pos,after,g⟩:Oper).looksAt ops) S) x=some (.tuple vs.toArray):=by exact rfl) (hi:vs[ix]? = some v:=by exact rfl) (h:Zbr C k' n ops I (i :: ℓ) K (ZbG S dst v) D B L):Zbr C k' n ops I ℓ K S D B L:=Zal i hii hrr hdd (fun _ _ _=>ZkX hg hd hx hi ⟨rfl,rfl,rfl,rfl⟩) h
theorem aW  {s:TypeId} {x:Operand} {fi:Nat} {off:Nat} {a:Addr} (i:Nat) (hii:ops[i]? = some ⟨dst,.fieldAddr s x fi,ty,pos,after,g⟩) (hf:Zr P s fi=some off) (hrr:(ZaR ops ℓ).contains i=true:=by kernel_rfl) (hdd:Zw n dst=true:=by exact rfl) (hg:Zk ops (sel ((⟨dst,.fieldAddr s x fi,ty,pos,after,g⟩:Oper).looksAt ops) S) g=some true:=by exact rfl) (hd:Zw n dst=true:=by exact rfl) (hx:ev (sel ((⟨dst,.fieldAddr s x fi,ty,pos,after,g⟩:Oper).looksAt ops) S) x=some (ptr a):=by exact rfl) (h:Zbr C k' n ops I (i :: ℓ) K (ZbG S dst (ptr (a.add off))) D B L):Zbr C k' n ops I ℓ K S D B L:=Zal i hii hrr hdd (fun _ _ _=>Zac hg hd hf hx ⟨rfl,rfl,rfl,rfl⟩) h
theorem aN  {x:Operand} {b:Bool} {t:TypeId} (i:Nat) (hii:ops[i]? = some ⟨dst,.unOp .not t x,ty,pos,after,g⟩)  (hrr:(ZaR ops ℓ).contains i=true:=by kernel_rfl) (hdd:Zw n dst=true:=by exact rfl) (hg:Zk ops (sel ((⟨dst,.unOp .not t x,ty,pos,after,g⟩:Oper).looksAt ops) S) g=some true:=by exact rfl) (hd:Zw n dst=true:=by exact rfl) (hx:ev (sel ((⟨dst,.unOp .not t x,ty,pos,after,g⟩:Oper).looksAt ops) S) x=some (.bool b):=by exact rfl) (h:Zbr C k' n ops I (i :: ℓ) K (ZbG S dst (.bool (!b))) D B L):Zbr C k' n ops I ℓ K S D B L:=Zal i hii hrr hdd (fun _ _ _=>Zy5 hg hd hx ⟨rfl,rfl,rfl,rfl⟩) h
theorem aNc  {x:Operand} {a:Addr} (i:Nat) (hii:ops[i]? = some ⟨dst,.nilCheck x,ty,pos,after,g⟩)  (hrr:(ZaR ops ℓ).contains i=true:=by kernel_rfl) (hdd:Zw n dst=true:=by exact rfl) (hg:Zk ops (sel ((⟨dst,.nilCheck x,ty,pos,after,g⟩:Oper).looksAt ops) S) g=some true:=by exact rfl) (hd:Zw n dst=true:=by exact rfl) (hx:ev (sel ((⟨dst,.nilCheck x,ty,pos,after,g⟩:Oper).looksAt ops) S) x=some (.pointer (some a)):=by exact rfl) (h:Zbr C k' n ops I (i :: ℓ) K (ZbG S dst (.pointer (some a))) D B L):Zbr C k' n ops I ℓ K S D B L:=Zal i hii hrr hdd (fun _ _ _=>ZaF hg hd hx ⟨rfl,rfl,rfl,rfl⟩) h
theorem aV  {x:Operand} {t:TypeId} {e:TypeId} {p:Option Addr} {len:Nat} {cap:Nat} (i:Nat) (hii:ops[i]? = some ⟨dst,.call ⟨.builtin .len,#[x],#[t]⟩,ty,pos,after,g⟩) (hu:P.underlying t=some (.slice e)) (hrr:(ZaR ops ℓ).contains i=true:=by kernel_rfl) (hdd:Zw n dst=true:=by exact rfl) (hg:Zk ops (sel ((⟨dst,.call ⟨.builtin .len,#[x],#[t]⟩,ty,pos,after,g⟩:Oper).looksAt ops) S) g=some true:=by exact rfl) (hd:Zw n dst=true:=by exact rfl) (hx:ev (sel ((⟨dst,.call ⟨.builtin .len,#[x],#[t]⟩,ty,pos,after,g⟩:Oper).looksAt ops) S) x=some (.slice p len cap):=by exact rfl) (h:Zbr C k' n ops I (i :: ℓ) K (ZbG S dst (.int .i64 len)) D B L):Zbr C k' n ops I ℓ K S D B L:=Zal i hii hrr hdd (fun _ _ _=>Zwe hg hd hu hx ⟨rfl,rfl,rfl,rfl⟩) h
theorem Zty  {k:IntKind} {a b:Int} (i:Nat) (hii:ops[i]? = some ⟨dst,.binOp .lss t x y u,ty,pos,after,g⟩)  (hrr:(ZaR ops ℓ).contains i=true:=by kernel_rfl) (hdd:Zw n dst=true:=by exact rfl) (hg:Zk ops (sel ((⟨dst,.binOp .lss t x y u,ty,pos,after,g⟩:Oper).looksAt ops) S) g=some true:=by exact rfl) (hd:Zw n dst=true:=by exact rfl) (hx:ev (sel ((⟨dst,.binOp .lss t x y u,ty,pos,after,g⟩:Oper).looksAt ops) S) x=some (.int k a):=by exact rfl) (hy:ev (sel ((⟨dst,.binOp .lss t x y u,ty,pos,after,g⟩:Oper).looksAt ops) S) y=some (.int k b):=by exact rfl) (h:Zbr C k' n ops I (i :: ℓ) K (ZbG S dst (.bool (decide (a<b)))) D B L):Zbr C k' n ops I ℓ K S D B L:=Zal i hii hrr hdd (fun _ _ _=>Zy8 hg hd hx hy ⟨rfl,rfl,rfl,rfl⟩) h
theorem ZyP  {k:IntKind} {a b:Int} (i:Nat) (hii:ops[i]? = some ⟨dst,.binOp .leq t x y u,ty,pos,after,g⟩)  (hrr:(ZaR ops ℓ).contains i=true:=by kernel_rfl) (hdd:Zw n dst=true:=by exact rfl) (hg:Zk ops (sel ((⟨dst,.binOp .leq t x y u,ty,pos,after,g⟩:Oper).looksAt ops) S) g=some true:=by exact rfl) (hd:Zw n dst=true:=by exact rfl) (hx:ev (sel ((⟨dst,.binOp .leq t x y u,ty,pos,after,g⟩:Oper).looksAt ops) S) x=some (.int k a):=by exact rfl) (hy:ev (sel ((⟨dst,.binOp .leq t x y u,ty,pos,after,g⟩:Oper).looksAt ops) S) y=some (.int k b):=by exact rfl) (h:Zbr C k' n ops I (i :: ℓ) K (ZbG S dst (.bool (decide (a≤b)))) D B L):Zbr C k' n ops I ℓ K S D B L:=Zal i hii hrr hdd (fun _ _ _=>Zy9 hg hd hx hy ⟨rfl,rfl,rfl,rfl⟩) h
theorem Ztz  {k:IntKind} {a b:Int} (i:Nat) (hii:ops[i]? = some ⟨dst,.binOp .gtr t x y u,ty,pos,after,g⟩)  (hrr:(ZaR ops ℓ).contains i=true:=by kernel_rfl) (hdd:Zw n dst=true:=by exact rfl) (hg:Zk ops (sel ((⟨dst,.binOp .gtr t x y u,ty,pos,after,g⟩:Oper).looksAt ops) S) g=some true:=by exact rfl) (hd:Zw n dst=true:=by exact rfl) (hx:ev (sel ((⟨dst,.binOp .gtr t x y u,ty,pos,after,g⟩:Oper).looksAt ops) S) x=some (.int k a):=by exact rfl) (hy:ev (sel ((⟨dst,.binOp .gtr t x y u,ty,pos,after,g⟩:Oper).looksAt ops) S) y=some (.int k b):=by exact rfl) (h:Zbr C k' n ops I (i :: ℓ) K (ZbG S dst (.bool (decide (b<a)))) D B L):Zbr C k' n ops I ℓ K S D B L:=Zal i hii hrr hdd (fun _ _ _=>Zzc hg hd hx hy ⟨rfl,rfl,rfl,rfl⟩) h
theorem ZEh  {k:IntKind} {a b:Int} (i:Nat) (hii:ops[i]? = some ⟨dst,.binOp .geq t x y u,ty,pos,after,g⟩)  (hrr:(ZaR ops ℓ).contains i=true:=by kernel_rfl) (hdd:Zw n dst=true:=by exact rfl) (hg:Zk ops (sel ((⟨dst,.binOp .geq t x y u,ty,pos,after,g⟩:Oper).looksAt ops) S) g=some true:=by exact rfl) (hd:Zw n dst=true:=by exact rfl) (hx:ev (sel ((⟨dst,.binOp .geq t x y u,ty,pos,after,g⟩:Oper).looksAt ops) S) x=some (.int k a):=by exact rfl) (hy:ev (sel ((⟨dst,.binOp .geq t x y u,ty,pos,after,g⟩:Oper).looksAt ops) S) y=some (.int k b):=by exact rfl) (h:Zbr C k' n ops I (i :: ℓ) K (ZbG S dst (.bool (decide (b≤a)))) D B L):Zbr C k' n ops I ℓ K S D B L:=Zal i hii hrr hdd (fun _ _ _=>Zzd hg hd hx hy ⟨rfl,rfl,rfl,rfl⟩) h
theorem ZtB  {k:IntKind} {a b:Int} (i:Nat) (hii:ops[i]? = some ⟨dst,.binOp .eql t x y u,ty,pos,after,g⟩)  (hrr:(ZaR ops ℓ).contains i=true:=by kernel_rfl) (hdd:Zw n dst=true:=by exact rfl) (hg:Zk ops (sel ((⟨dst,.binOp .eql t x y u,ty,pos,after,g⟩:Oper).looksAt ops) S) g=some true:=by exact rfl) (hd:Zw n dst=true:=by exact rfl) (hx:ev (sel ((⟨dst,.binOp .eql t x y u,ty,pos,after,g⟩:Oper).looksAt ops) S) x=some (.int k a):=by exact rfl) (hy:ev (sel ((⟨dst,.binOp .eql t x y u,ty,pos,after,g⟩:Oper).looksAt ops) S) y=some (.int k b):=by exact rfl) (h:Zbr C k' n ops I (i :: ℓ) K (ZbG S dst (.bool (decide (a=b)))) D B L):Zbr C k' n ops I ℓ K S D B L:=Zal i hii hrr hdd (fun _ _ _=>Zwi hg hd hx hy ⟨rfl,rfl,rfl,rfl⟩) h
theorem ZwM  {k:IntKind} {a b:Int} (i:Nat) (hii:ops[i]? = some ⟨dst,.binOp .neq t x y u,ty,pos,after,g⟩)  (hrr:(ZaR ops ℓ).contains i=true:=by kernel_rfl) (hdd:Zw n dst=true:=by exact rfl) (hg:Zk ops (sel ((⟨dst,.binOp .neq t x y u,ty,pos,after,g⟩:Oper).looksAt ops) S) g=some true:=by exact rfl) (hd:Zw n dst=true:=by exact rfl) (hx:ev (sel ((⟨dst,.binOp .neq t x y u,ty,pos,after,g⟩:Oper).looksAt ops) S) x=some (.int k a):=by exact rfl) (hy:ev (sel ((⟨dst,.binOp .neq t x y u,ty,pos,after,g⟩:Oper).looksAt ops) S) y=some (.int k b):=by exact rfl) (h:Zbr C k' n ops I (i :: ℓ) K (ZbG S dst (.bool (decide (a≠b)))) D B L):Zbr C k' n ops I ℓ K S D B L:=Zal i hii hrr hdd (fun _ _ _=>ZqC hg hd hx hy ⟨rfl,rfl,rfl,rfl⟩) h
theorem ZtA  {a b:List UInt8} (i:Nat) (hii:ops[i]? = some ⟨dst,.binOp .eql t x y u,ty,pos,after,g⟩)  (hrr:(ZaR ops ℓ).contains i=true:=by kernel_rfl) (hdd:Zw n dst=true:=by exact rfl) (hg:Zk ops (sel ((⟨dst,.binOp .eql t x y u,ty,pos,after,g⟩:Oper).looksAt ops) S) g=some true:=by exact rfl) (hd:Zw n dst=true:=by exact rfl) (hx:ev (sel ((⟨dst,.binOp .eql t x y u,ty,pos,after,g⟩:Oper).looksAt ops) S) x=some (str a):=by exact rfl) (hy:ev (sel ((⟨dst,.binOp .eql t x y u,ty,pos,after,g⟩:Oper).looksAt ops) S) y=some (str b):=by exact rfl) (h:Zbr C k' n ops I (i :: ℓ) K (ZbG S dst (.bool (decide (a=b)))) D B L):Zbr C k' n ops I ℓ K S D B L:=Zal i hii hrr hdd (fun _ _ _=>Zwh hg hd hx hy ⟨rfl,rfl,rfl,rfl⟩) h
theorem ZwL  {a b:List UInt8} (i:Nat) (hii:ops[i]? = some ⟨dst,.binOp .neq t x y u,ty,pos,after,g⟩)  (hrr:(ZaR ops ℓ).contains i=true:=by kernel_rfl) (hdd:Zw n dst=true:=by exact rfl) (hg:Zk ops (sel ((⟨dst,.binOp .neq t x y u,ty,pos,after,g⟩:Oper).looksAt ops) S) g=some true:=by exact rfl) (hd:Zw n dst=true:=by exact rfl) (hx:ev (sel ((⟨dst,.binOp .neq t x y u,ty,pos,after,g⟩:Oper).looksAt ops) S) x=some (str a):=by exact rfl) (hy:ev (sel ((⟨dst,.binOp .neq t x y u,ty,pos,after,g⟩:Oper).looksAt ops) S) y=some (str b):=by exact rfl) (h:Zbr C k' n ops I (i :: ℓ) K (ZbG S dst (.bool (decide (a≠b)))) D B L):Zbr C k' n ops I ℓ K S D B L:=Zal i hii hrr hdd (fun _ _ _=>Zwa hg hd hx hy ⟨rfl,rfl,rfl,rfl⟩) h
theorem aD  {k:IntKind} {a b r:Int} (i:Nat) (hii:ops[i]? = some ⟨dst,.binOp .add t x y u,ty,pos,after,g⟩)  (hrr:(ZaR ops ℓ).contains i=true:=by kernel_rfl) (hdd:Zw n dst=true:=by exact rfl) (hg:Zk ops (sel ((⟨dst,.binOp .add t x y u,ty,pos,after,g⟩:Oper).looksAt ops) S) g=some true:=by exact rfl) (hd:Zw n dst=true:=by exact rfl) (hx:ev (sel ((⟨dst,.binOp .add t x y u,ty,pos,after,g⟩:Oper).looksAt ops) S) x=some (.int k a):=by exact rfl) (hy:ev (sel ((⟨dst,.binOp .add t x y u,ty,pos,after,g⟩:Oper).looksAt ops) S) y=some (.int k b):=by exact rfl) (hr:k.wrap (a+b)=r:=by first | exact Zb2 (by first | omega | (simp;done) | (simp;omega)) (by first | omega | (simp;done) | (simp;omega)) | exact rfl) (h:Zbr C k' n ops I (i :: ℓ) K (ZbG S dst (.int k r)) D B L):Zbr C k' n ops I ℓ K S D B L:=Zal i hii hrr hdd (fun _ _ _=>ZeM hg hd hx hy hr ⟨rfl,rfl,rfl,rfl⟩) h
theorem aU  {k:IntKind} {a b r:Int} (i:Nat) (hii:ops[i]? = some ⟨dst,.binOp .sub t x y u,ty,pos,after,g⟩)  (hrr:(ZaR ops ℓ).contains i=true:=by kernel_rfl) (hdd:Zw n dst=true:=by exact rfl) (hg:Zk ops (sel ((⟨dst,.binOp .sub t x y u,ty,pos,after,g⟩:Oper).looksAt ops) S) g=some true:=by exact rfl) (hd:Zw n dst=true:=by exact rfl) (hx:ev (sel ((⟨dst,.binOp .sub t x y u,ty,pos,after,g⟩:Oper).looksAt ops) S) x=some (.int k a):=by exact rfl) (hy:ev (sel ((⟨dst,.binOp .sub t x y u,ty,pos,after,g⟩:Oper).looksAt ops) S) y=some (.int k b):=by exact rfl) (hr:k.wrap (a - b)=r:=by first | exact Zb2 (by first | omega | (simp;done) | (simp;omega)) (by first | omega | (simp;done) | (simp;omega)) | exact rfl) (h:Zbr C k' n ops I (i :: ℓ) K (ZbG S dst (.int k r)) D B L):Zbr C k' n ops I ℓ K S D B L:=Zal i hii hrr hdd (fun _ _ _=>ZiO hg hd hx hy hr ⟨rfl,rfl,rfl,rfl⟩) h
theorem aIx  {t:TypeId} {e:TypeId} {x:Operand} {y:Operand} {k:IntKind} {b:Nat} {o:Nat} {len:Nat} {cap:Nat} {sz:Nat} {ix:Int} (i:Nat) (hii:ops[i]? = some ⟨dst,.indexAddr t x y,ty,pos,after,g⟩) (hu:P.underlying t=some (.slice e)) (hsz:ZG P e=some sz) (hrr:(ZaR ops ℓ).contains i=true:=by kernel_rfl) (hdd:Zw n dst=true:=by exact rfl) (hg:Zk ops (sel ((⟨dst,.indexAddr t x y,ty,pos,after,g⟩:Oper).looksAt ops) S) g=some true:=by exact rfl) (hd:Zw n dst=true:=by exact rfl) (hx:ev (sel ((⟨dst,.indexAddr t x y,ty,pos,after,g⟩:Oper).looksAt ops) S) x=some (.slice (some ⟨b,o,none⟩) len cap):=by exact rfl) (hy:ev (sel ((⟨dst,.indexAddr t x y,ty,pos,after,g⟩:Oper).looksAt ops) S) y=some (.int k ix):=by exact rfl) (h0:0≤ix:=by first | omega | (simp;done) | (simp;omega)) (h1:ix<len:=by first | omega | (simp;done) | (simp;omega)) (h:Zbr C k' n ops I (i :: ℓ) K (ZbG S dst (ptr ⟨b,o+ix.toNat*sz,none⟩)) D B L):Zbr C k' n ops I ℓ K S D B L:=Zal i hii hrr hdd (fun _ _ _=>Zza hg hd hu hsz hx hy h0 h1 ⟨rfl,rfl,rfl,rfl⟩) h
end
section
variable {P:PJ} {n:Nat} {Q:Exit→Zag} {S:Env} {D:List Deferred} {B:Kn} {L:List Cells}
theorem tL0 {c:Code} (h:wpS P n c Q S D B []):wpS P n c Q S D B []:=h
theorem tL1 {c:Code} {x0:Cells} (h:wpS P n c Q S D B [x0]):wpS P n c Q S D B [x0]:=h
theorem tL2 {c:Code} {x0 x1:Cells} (h:wpS P n c Q S D B [x0,x1]):wpS P n c Q S D B [x0,x1]:=h
theorem tL3 {c:Code} {x0 x1 x2:Cells} (h:wpS P n c Q S D B [x0,x1,x2]):wpS P n c Q S D B [x0,x1,x2]:=h
theorem tL4 {c:Code} {x0 x1 x2 x3:Cells} (h:wpS P n c Q S D B [x0,x1,x2,x3]):wpS P n c Q S D B [x0,x1,x2,x3]:=h
theorem tL5 {c:Code} {x0 x1 x2 x3 x4:Cells} (h:wpS P n c Q S D B [x0,x1,x2,x3,x4]):wpS P n c Q S D B [x0,x1,x2,x3,x4]:=h
theorem tL6 {c:Code} {x0 x1 x2 x3 x4 x5:Cells} (h:wpS P n c Q S D B [x0,x1,x2,x3,x4,x5]):wpS P n c Q S D B [x0,x1,x2,x3,x4,x5]:=h
theorem tL7 {c:Code} {x0 x1 x2 x3 x4 x5 x6:Cells} (h:wpS P n c Q S D B [x0,x1,x2,x3,x4,x5,x6]):wpS P n c Q S D B [x0,x1,x2,x3,x4,x5,x6]:=h
theorem tL8 {c:Code} {x0 x1 x2 x3 x4 x5 x6 x7:Cells} (h:wpS P n c Q S D B [x0,x1,x2,x3,x4,x5,x6,x7]):wpS P n c Q S D B [x0,x1,x2,x3,x4,x5,x6,x7]:=h
theorem tL9 {c:Code} {x0 x1 x2 x3 x4 x5 x6 x7 x8:Cells} (h:wpS P n c Q S D B [x0,x1,x2,x3,x4,x5,x6,x7,x8]):wpS P n c Q S D B [x0,x1,x2,x3,x4,x5,x6,x7,x8]:=h
theorem ZtG {c:Code} {x0 x1 x2 x3 x4 x5 x6 x7 x8 x9:Cells} (h:wpS P n c Q S D B [x0,x1,x2,x3,x4,x5,x6,x7,x8,x9]):wpS P n c Q S D B [x0,x1,x2,x3,x4,x5,x6,x7,x8,x9]:=h
theorem ZER {c:Code} {x0 x1 x2 x3 x4 x5 x6 x7 x8 x9 x10 x11 x12 x13:Cells} (h:wpS P n c Q S D B [x0,x1,x2,x3,x4,x5,x6,x7,x8,x9,x10,x11,x12,x13]):wpS P n c Q S D B [x0,x1,x2,x3,x4,x5,x6,x7,x8,x9,x10,x11,x12,x13]:=h
theorem wSk {K:Zag} (h:K S D B L):wpS P n .skip (thn K Q) S D B L:=ZK (Zm h)
theorem eR {rs:List ResultVar} {Post:Value→Kn→List Cells→Prop} {v:Value} (hr:Zcb P S B L rs [v]) (hp:Post v B []):Zgz P rs Post .ret S [] B L:=Zqo .ret (.inl rfl) [v] hr hp
theorem eN {rs:List ResultVar} {Post:Value→Kn→List Cells→Prop} {v:Value} (js:List Nat) {ss r:List Cells} (hp:ZaA L js=some (ss,r)) (hr:Zcb P S B L rs [v]) (hq:Post v B ss):Zgz P rs Post .ret S [] B L:=Zdh .ret (.inl rfl) [v] js hp hr hq
theorem e1 {rs:List ResultVar} {Post:Value→Kn→List Cells→Prop} {v:Value} (j:Nat) {s:Cells} (hj:L[j]? = some s) (hr:Zcb P S B L rs [v]) (hp:Post v B [s]):Zgz P rs Post .ret S [] B L:=ZyC .ret (.inl rfl) [v] j hj hr hp
end
theorem mT {α:Type} {R:Rel α} (h:Mono R:=by first | exact ZL.mono | exact ZF.mono | exact Zar.mono | exact Zah.mono | exact Zaf.mono | exact ZN.mono | exact Zel.mono | exact Z9.mono):Mono R:=h
theorem up1 {B B':Kn} {α1:Type} {q1:Option Addr} {c1 w1:Nat} {R1:Rel α1} {x1:List α1} (hle:B.le B') (h1:SlK B q1 c1 w1 R1 x1) (g1:Mono R1:=by exact mT):SlK B' q1 c1 w1 R1 x1:=h1.mono g1 hle
theorem up2 {B B':Kn} {α1:Type} {q1:Option Addr} {c1 w1:Nat} {R1:Rel α1} {x1:List α1} {α2:Type} {q2:Option Addr} {c2 w2:Nat} {R2:Rel α2} {x2:List α2} (hle:B.le B') (h1:SlK B q1 c1 w1 R1 x1) (h2:SlK B q2 c2 w2 R2 x2) (g1:Mono R1:=by exact mT) (g2:Mono R2:=by exact mT):SlK B' q1 c1 w1 R1 x1∧SlK B' q2 c2 w2 R2 x2:=⟨h1.mono g1 hle,h2.mono g2 hle⟩
theorem up3 {B B':Kn} {α1:Type} {q1:Option Addr} {c1 w1:Nat} {R1:Rel α1} {x1:List α1} {α2:Type} {q2:Option Addr} {c2 w2:Nat} {R2:Rel α2} {x2:List α2} {α3:Type} {q3:Option Addr} {c3 w3:Nat} {R3:Rel α3} {x3:List α3} (hle:B.le B') (h1:SlK B q1 c1 w1 R1 x1) (h2:SlK B q2 c2 w2 R2 x2) (h3:SlK B q3 c3 w3 R3 x3) (g1:Mono R1:=by exact mT) (g2:Mono R2:=by exact mT) (g3:Mono R3:=by exact mT):SlK B' q1 c1 w1 R1 x1∧SlK B' q2 c2 w2 R2 x2∧SlK B' q3 c3 w3 R3 x3:=⟨h1.mono g1 hle,h2.mono g2 hle,h3.mono g3 hle⟩
theorem cB {P:PJ} {f:FuncId} {fn:Func} {code:Code} {rs:List ResultVar} (n:Nat) (hf:P.funcs[f]? = some fn) (hb:fn.body=some code:=by exact rfl) (hn:fn.ntmps=n:=by exact rfl) (hrs:fn.results.toList=rs:=by exact rfl) {args:List Value} (ha:args.length≤n:=by exact Nat.le_of_ble_eq_true rfl) {B:Kn} {Ls:List Cells} {Post:Value→Kn→List Cells→Prop} (h:wpS P n code (Zgz P rs Post) (ZdA args 0) [] B Ls):Zu P f args B Ls Post:=Zdy n hf hb hn hrs ha h
end Go.BL
namespace Go.BL
open Go.Conc (G)
def bitv (f:Nat→Bool):List Value:=(List.range 100).map (fun n=>.bool (f n))
theorem Zfp (f:Nat→Bool):(bitv f).length=100:=by simp [bitv]
theorem ZkJ {f:Nat→Bool} {k:Nat} (h:k<100):(bitv f)[k]? = some (.bool (f k)):=by simp [bitv,h]
theorem ZvP {f:Nat→Bool} {k:Nat} (h:k<100) (v:Bool):Z7 (bitv f) k [.bool v]=bitv (fun n=>if n=k then v else f n):=by
 rw [Zrh (by rw [Zfp];exact h)]
 apply List.ext_getElem?
 intro n
 rw [List.getElem?_set]
 by_cases hn:n<100
 ·by_cases e:k=n
  ·subst e
   rw [if_pos rfl,if_pos (by rw [Zfp];exact h),ZkJ h,if_pos rfl]
  ·rw [if_neg e,ZkJ hn,ZkJ hn,if_neg (fun h=>e h.symm)]
 ·rw [if_neg (by omega),List.getElem?_eq_none (by rw [Zfp];omega),List.getElem?_eq_none (by rw [Zfp];omega)]
section
variable {P:PJ} {n:Nat} {ops:Array Oper} {i:Nat} {K:ZaE} {S:Env} {D:List Deferred} {B:Kn} {L:List Cells}
variable {dst:Option Tmp} {ty:TypeId} {pos:String} {after:Array Edge} {g:Option (Nat × Bool)}
theorem ZgJ {t e:TypeId} {x y:Operand} {k:IntKind} {b len:Nat} {ix:Int} (hg:Zk ops S g=some true) (hd:Zw n dst=true) (hu:P.underlying t=some (.array len e)) (hsz:ZG P e=some 1)
  (hx:ev S x=some (ptr ⟨b,0,none⟩)) (hy:ev S y=some (.int k ix)) (h0:0≤ix) (h1:ix<len) (h:K (ptr ⟨b,ix.toNat,none⟩) D B L):opX P n ops i ⟨dst,.indexAddr t x y,ty,pos,after,g⟩ K S D B L:=
 Zo5 hg hd hu hsz hx hy h0 h1 (by
  have e:(⟨b,0,none⟩:Addr).add (ix.toNat*1)=⟨b,ix.toNat,none⟩:=by simp [Addr.add];omega
  rw [e];exact h)
theorem Zn2 {t:TypeId} {x y:Operand} {b k:Nat} {v:Bool} {f:Nat→Bool} {T:TypeId} (j:Nat) (hg:Zk ops S g=some true) (hd:Zw n dst=true) (hsz:ZG P t=some 1)
  (hx:ev S x=some (ptr ⟨b,k,none⟩)) (hy:ev S y=some (.bool v)) (hj:L[j]? = some (ZP b (bitv f) T)) (hk:k<100)
  (h:K undef D B (L.set j (ZP b (bitv (fun n=>if n=k then v else f n)) T))):opX P n ops i ⟨dst,.store t x y,ty,pos,after,g⟩ K S D B L:=
 Zav [.bool v] j (bitv (fun n=>if n=k then v else f n)) hg hd hsz hx hy rfl rfl hj rfl (Nat.ble_eq_true_of_le (by rw [Zfp];simp;omega)) (ZvP hk v) h
theorem Zt0 {t:TypeId} {x:Operand} {b:Nat} {f:Nat→Bool} {T:TypeId} (j:Nat) (hg:Zk ops S g=some true) (hd:Zw n dst=true) (hl:lk P t=some (some 100)) (hx:ev S x=some (ptr ⟨b,0,none⟩)) (hj:L[j]? = some (ZP b (bitv f) T))
  (h:K (.agg (bitv f).toArray) D B L):opX P n ops i ⟨dst,.load t x,ty,pos,after,g⟩ K S D B L:=
 ZI (bitv f) hg hd (by rw [Zfp];exact hl) hx (ZbZ j hj rfl (by simp)) h
theorem Zt1 {t e:TypeId} {x y:Operand} {k:IntKind} {f:Nat→Bool} {len:Nat} {ix:Int} (hg:Zk ops S g=some true) (hd:Zw n dst=true) (hu:P.underlying t=some (.array len e)) (hl:lk P e=some none) (hsz:ZG P e=some 1)
  (hx:ev S x=some (.agg (bitv f).toArray)) (hy:ev S y=some (.int k ix)) (h0:0≤ix) (h1:ix<len) (h2:ix<100) (h:K (.bool (f ix.toNat)) D B L):opX P n ops i ⟨dst,.index t x y,ty,pos,after,g⟩ K S D B L:=
 ZE hg hd (fun ρ hρ Q F q=>by
  have e:(bitv f).toArray[ix.toNat*1]? = some (.bool (f ix.toNat)):=by rw [List.getElem?_toArray,Nat.mul_one,ZkJ (by omega)]
  simp only [execOp,Instr.index,asIntOf,hρ x _ hx,hρ y _ hy,Zi,Zp,Zo hu,h0,h1,and_self,if_true,Z4 hsz,part,Znn hl,Bool.false_eq_true,if_false,e]
  exact q) h
end
end Go.BL
namespace Go.BL
end Go.BL
namespace Go.BL
open Go.Conc (G)
end Go.BL
namespace Go.BL
open Go.Conc Go.ConcN
variable {H:Type} {enc:TypeId × Value→H}
theorem ZtY {C:Checked} {os:Os} {f:FuncId} {fn:Func} {s:ChangeSpec} {conds:List PathCond} {apart:Bool} {X:World→Array Value→Prop} (w0:World) (args:Array Value) (fuel:Nat) (hos:w0.os=os)
  (hsh:(w0.forCall (fun _ _=>0) ⟨#[],args,[]⟩).Shaped C.prog)
  (hok:Input.okWideB C.prog (w0.forCall (fun _ _=>0) ⟨#[],args,[]⟩) f ⟨#[],args,[]⟩=true)
  (hpre:s.preB enc C.prog fn conds apart (w0.forCall (fun _ _=>0) ⟨#[],args,[]⟩).memory args fuel=true)
  (hsz:s.sizedB enc C.prog fn apart (w0.forCall (fun _ _=>0) ⟨#[],args,[]⟩).memory args fuel=true)
  (hx:X (w0.forCall (fun _ _=>0) ⟨#[],args,[]⟩).memory args) :
∃(w:World) (tape:Tape) (i:Input),w.os=os∧(w.forCall tape i).Shaped C.prog∧i.vars=[]∧Input.okWide C.prog (w.forCall tape i) .any w.heap.size f i∧
   ((s.pre enc C.prog fn conds apart (w.forCall tape i).memory i.args∧X (w.forCall tape i).memory i.args)∧sizedMet enc C.prog fn (OpenSpec.ofChange s) apart (w.forCall tape i).memory i.args)∧({ calm:=true } : Assume).holds C.prog (lone (Frame.enter C.prog f i.args .normal) [] (w.forCall tape i)):=
 ⟨w0,fun _ _=>0,⟨#[],args,[]⟩,hos,hsh,(Input.okWide_of_okWideB (base:=0) hok).1,(Input.okWide_of_okWideB hok).2,⟨⟨ChangeSpec.pre_of_preB hpre,hx⟩,sizedMet_of_sizedB hsz⟩,by
  simp only [Assume.holds]
  exact ⟨by simp,fun _ _ _ _=>rfl,by simp,by simp,by simp⟩⟩
theorem Zrr {P:Program} {f:Func} {s:ChangeSpec} {F:Stop.Interp} {apart fresh handsOn:Bool} {W W':World} {args:Array Value} {v:Value} (h:s.post enc P f apart fresh handsOn false W args v W') :
  (OpenSpec.ofChange s).postWith enc P f F (outsideKept [.timePasses]) apart fresh handsOn W args v W':=by
 have e:W'.os=W.os:=by
  obtain ⟨_,_,_,_,_,_,_,_,_,_,h5,_⟩:=h
  exact h5.1
 have e2:({ W' with os:=W.os } : World)=W':=by rw [← e]
 exact postWith_of_post (by rw [e2];exact h) ⟨0,e⟩
theorem Znp {a:Assume} {C:Checked} {os:Os} {f:FuncId} {fn:Func} {s:ChangeSpec} {apart fresh handsOn:Bool} {Pre:World→Array Value→Prop} {F:Stop.Interp} (h:ReturnsInLeavingWide a C os f .any Pre (s.post enc C.prog fn apart fresh handsOn false)) :
  ReturnsInLeavingWide a C os f .any Pre ((OpenSpec.ofChange s).postWith enc C.prog fn F (outsideKept [.timePasses]) apart fresh handsOn):=fun enter=>by
 obtain ⟨x1,x2,x3,x4,x5⟩:=h enter
 refine ⟨x1,x2,x3,x4,fun w tape i hf=>?_⟩
 obtain ⟨n,v,w',r1,r2,r3,r4,r5⟩:=x5 w tape i hf
 exact ⟨n,v,w',r1,r2,r3,Zrr r4,r5⟩
end Go.BL
namespace Go.BL
open Go.Conc (G)
theorem ZR.knownF {B:Kn} {l:Cells} {q:Option Addr} {c:Nat} {Tm:TypeId} {xs:List DMail} (h:ZR Kn.none l q c Tm 3 Zah xs) (hl:xs.length≤2000000) (hm :∀p,p∈l→B.mem p.1=some p.2):SlK B q c 3 Zah xs:=⟨h.rowsF Zah.any hm,h.cap,hl⟩
theorem Zek {P:PJ} {C:Cx P} {k:List Item} {n:Nat} {ops:Array Oper} {I:Kn→List Cells→Prop} {ℓ:List Nat} {K:Zag} {S:Env} {D:List Deferred} {B:Kn} {L:List Cells} (L':List Cells) (hl:L=L') (h:Zbr C k n ops I ℓ K S D B L'):Zbr C k n ops I ℓ K S D B L:=by subst hl;exact h
theorem ZlH {α:Type} {Q:Exit→Zag} {S:Env} {D:List Deferred} {B:Kn} {L:List Cells} {E:α→Env} {Sg:α→List Cells} {F:α→Kn→Prop} (g:α) (L':List Cells) (hL:L=L') (js:List Nat) {r:List Cells} (hF:F g B) (hs:Sub (E g) S) (hp:ZaA L' js=some (Sg g,r)):thn (ZBX E Sg F D) Q .normal S D B L:=by
 subst hL;exact ZX g js hF hs hp
end Go.BL
namespace Go.BL
open Go.Conc (G)
section
variable {P:PJ} {n:Nat} {ops:Array Oper} {i:Nat} {K:ZaE} {S:Env} {D:List Deferred} {B:Kn} {L:List Cells}
variable {dst:Option Tmp} {ty:TypeId} {pos:String} {after:Array Edge} {g:Option (Nat × Bool)}
theorem Zwj {x:Operand} {t e:TypeId} {p:Option Addr} {len cap:Nat} (hg:Zk ops S g=some true) (hd:Zw n dst=true) (hu:P.underlying t=some (.slice e)) (hx:ev S x=some (.slice p len cap)) (h:K (.int .i64 cap) D B L) :
  opX P n ops i ⟨dst,.call ⟨.builtin .cap,#[x],#[t]⟩,ty,pos,after,g⟩ K S D B L:=
 ZE hg hd (fun ρ hρ Q F q=>by
  simp only [execOp,resolve,Zi,Zp,invoke,builtin,Builtin.cap_,List.map_toArray,List.map_cons,List.map_nil,hρ x _ hx,List.getElem?_toArray,List.getElem?_cons_zero,Zo hu,goInt]
  exact q) h
theorem Zzh {t u e:TypeId} {x y:Operand} {sz dl dc d2 c2 b o m:Nat} {q:Option Addr} {ws arr:List Value} {T:TypeId} {r:Cells} (j:Nat) (hj:L[j]? = some (ZP b arr T ++ r)) (hg:Zk ops S g=some true) (hd:Zw n dst=true)
  (ht:P.underlying t=some (.slice e)) (hsz:ZG P e=some sz) (hx:ev S x=some (.slice (some ⟨b,o,Option.none⟩) dl dc)) (hy:ev S y=some (.slice q d2 c2)) (hs:ZcX B L.flatten q ws) (hm:min d2 dl=m) (hl:ws.length=m*sz) (hone:ws.all ZgO=true) (hb1:o+ws.length≤arr.length)
  (h:K (.int .i64 (m:Int)) D B (L.set j (ZP b (Z7 arr o ws) T ++ r))):opX P n ops i ⟨dst,.call ⟨.builtin .copy,#[x,y],#[t,u]⟩,ty,pos,after,g⟩ K S D B L:=
 Zcx hg hd fun ρ hρ F=>by
  subst hm
  obtain ⟨rr,hp1,_⟩:=ZT F [] hj
  have hset :∀l',((L.set j l').flatten ++ F).Perm (l' ++ rr):=fun l'=>by
   obtain ⟨r2,a1,a2⟩:=ZT F l' hj
   have:rr.Perm r2:=(List.perm_append_left_iff _).1 (hp1.symm.trans a1)
   exact a2.trans (List.Perm.append_left l' this.symm)
  simp only [execOp,resolve,Zi,Zp,invoke,builtin,Builtin.copy_,List.map_toArray,List.map_cons,List.map_nil,hρ x _ hx,hρ y _ hy,List.getElem?_toArray,List.getElem?_cons_zero,List.getElem?_cons_succ,Zo ht,Z4 hsz,Builtin.lenOf]
  have ef:Builtin.firstCells sz (Nat.min d2 dl) (.slice q d2 c2)=Builtin.firstCells sz (Nat.min d2 dl) (.slice q (Nat.min d2 dl) c2):=by cases q <;> rfl
  rw [ef]
  refine Zcr (m:=Nat.min d2 dl) hs.app hl ?_
  simp only [Zi]
  refine Zcp (T:=T) (L₁:=r ++ rr) rfl ws 0 arr _ hone (by rw [List.append_assoc] at hp1;exact hp1) (by show o+0+ws.length≤_;omega) fun L' hp=>?_
  simp only [Zp,goInt]
  refine ⟨L.set j (ZP b (Z7 arr o ws) T ++ r),Sup.of (hp.trans ?_),h⟩
  refine List.Perm.trans ?_ (hset (ZP b (Z7 arr o ws) T ++ r)).symm
  rw [List.append_assoc]
  exact .refl _
end
end Go.BL
namespace Go.BL
open Go.Conc (G)
end Go.BL
namespace Go.BL
open Go.Conc (G)
section
variable {P:PJ} {n:Nat} {ops:Array Oper} {i:Nat} {K:ZaE} {S:Env} {D:List Deferred} {B:Kn} {L:List Cells}
variable {dst:Option Tmp} {ty:TypeId} {pos:String} {after:Array Edge} {g:Option (Nat × Bool)}
end
end Go.BL
namespace Go.BL
open Go.Conc (G)
section
variable {P:PJ} {n:Nat} {ops:Array Oper} {i:Nat} {K:ZaE} {S:Env} {D:List Deferred} {B:Kn} {L:List Cells}
variable {dst:Option Tmp} {ty:TypeId} {pos:String} {after:Array Edge} {g:Option (Nat × Bool)}
end
end Go.BL
namespace Go.BL
inductive DKey where
 | mk (kind flag:Int) (text:Str) (set:List DSpan) (keys:List DKey)
def DKey.kind:DKey→Int | mk a _ _ _ _=>a
def DKey.flag:DKey→Int | mk _ a _ _ _=>a
def DKey.text:DKey→Str | mk _ _ a _ _=>a
def DKey.set:DKey→List DSpan | mk _ _ _ a _=>a
def DKey.keys:DKey→List DKey | mk _ _ _ _ a=>a
theorem DKey.eta :∀(k:DKey),DKey.mk k.kind k.flag k.text k.set k.keys=k
 | .mk _ _ _ _ _=>rfl
theorem DKey.ext {a b:DKey} (h1:a.kind=b.kind) (h2:a.flag=b.flag) (h3:a.text=b.text) (h4:a.set=b.set) (h5:a.keys=b.keys):a=b:=by
 rw [← DKey.eta a,← DKey.eta b,h1,h2,h3,h4,h5]
mutual
def ZcQ:DKey→Nat
 | .mk _ _ t s ks=>t.length+s.length+Zge ks
def Zge:List DKey→Nat
 | []=>0
 | k :: ks=>1+ZcQ k+Zge ks
end
theorem Zla :∀(ks:List DKey),Zge ks=szL ZcQ ks
 | []=>by rw [Zge];rfl
 | k :: ks=>by rw [Zge,Zla ks];simp [szL];omega
theorem Zoc (x:DKey):ZcQ x=x.text.length+x.set.length+szL ZcQ x.keys:=by
 cases x;rw [ZcQ,Zla];rfl
theorem ZoE {x:DKey} {n:Nat} (h:ZcQ x≤n):x.text.length≤n∧x.set.length≤n∧szL ZcQ x.keys≤n:=by rw [Zoc] at h;omega
def ZkP:Nat→Rel DKey
 | 0=>fun _ _ _=>False
 | n+1=>fun B row x=>∃q c q' c',row=[.int .i64 x.kind,.int .i64 x.flag,str x.text,.slice q x.set.length c,.slice q' x.keys.length c']∧SlB B q c 2 ZN x.set∧SlB B q' c' 5 (ZkP n) x.keys∧x.text.length≤140737488355328
def Zbw:Nat→Rel DKey
 | 0=>fun _ _ _=>False
 | n+1=>fun B row x=>∃q c q' c',row=[.int .i64 x.kind,.int .i64 x.flag,str x.text,.slice q x.set.length c,.slice q' x.keys.length c']∧SlK B q c 2 ZN x.set∧SlK B q' c' 5 (Zbw n) x.keys∧x.text.length≤2000000
theorem Zbw.mono :∀{n:Nat},Mono (Zbw n)
 | 0,_,_,_,_,_,h=>h.elim
 | n+1,_,_,hle,_,_,⟨q,c,q',c',h1,h2,h3,h4⟩=>⟨q,c,q',c',h1,h2.mono ZN.mono hle,h3.mono Zbw.mono hle,h4⟩
theorem ZlV {B:Kn} :∀{n:Nat} {row:List Value} {x:DKey},ZkP n B row x→ZcQ x≤1048576→Zbw n B row x
 | 0,_,_,h,_=>h.elim
 | n+1,row,x,⟨q,c,q',c',h1,h2,h3,h4⟩,hs=>by
  obtain ⟨k1,k2,k3⟩:=ZoE hs
  have k4:=Zaz k3
  exact ⟨q,c,q',c',h1,h2.small (by omega) (fun _ _ _ hr=>hr),h3.small (by omega) fun y hy row hr=>ZlV hr (k4.2 y hy),by omega⟩
theorem ZpO {n:Nat} {B:Kn} {q:Option Addr} {cp:Nat} {xs:List DKey} (h:SlB B q cp 5 (ZkP n) xs) (hs:szL ZcQ xs≤1048576):SlK B q cp 5 (Zbw n) xs:=
 h.small (by have:=(Zaz hs).1;omega) fun x hx row hr=>ZlV hr ((Zaz hs).2 x hx)
theorem SlB.succ {n:Nat} {B:Kn} {q:Option Addr} {cp:Nat} {xs:List DKey} (h:SlB B q cp 5 (ZkP n) xs) (h0:0<xs.length) :∃m,n=m+1:=by
 obtain ⟨b,o,row,_,h2,_⟩:=h.rows 0 xs[0] (List.getElem?_eq_getElem h0)
 cases n with
 | zero=>exact h2.elim
 | succ m=>exact ⟨m,rfl⟩
theorem SlK.succ {n:Nat} {B:Kn} {q:Option Addr} {cp:Nat} {xs:List DKey} (h:SlK B q cp 5 (Zbw n) xs) (h0:0<xs.length) :∃m,n=m+1:=by
 obtain ⟨b,o,row,_,h2,_⟩:=h.rows 0 xs[0] (List.getElem?_eq_getElem h0)
 cases n with
 | zero=>exact h2.elim
 | succ m=>exact ⟨m,rfl⟩
def Zhz (Ts Tk:TypeId):Nat→Zg6 DKey
 | 0=>fun _ _ _=>False
 | n+1=>fun row x ins=>∃q c q' c' i1 i2,row=[.int .i64 x.kind,.int .i64 x.flag,str x.text,.slice q x.set.length c,.slice q' x.keys.length c']∧ins=i1 ++ i2∧ZR Kn.none i1 q c Ts 2 ZN x.set∧ZaM i2 q' c' Tk 5 (Zhz Ts Tk n) x.keys∧x.text.length≤2000000∧x.set.length≤2000000∧x.keys.length≤2000000
theorem Zhz.known {Ts Tk:TypeId} :∀{n:Nat} {B:Kn} {row:List Value} {x:DKey} {ins:Cells},Zhz Ts Tk n row x ins→(∀q,q∈ins→B.mem q.1=some q.2)→Zbw n B row x
 | 0,_,_,_,_,h,_=>h.elim
 | n+1,B,row,x,ins,⟨q,c,q',c',i1,i2,h1,h0,h2,h3,h4,h5,h6⟩,hm=>by
  subst h0
  exact ⟨q,c,q',c',h1,⟨h2.rowsF ZN.any fun p hp=>hm p (List.mem_append.2 (.inl hp)),h2.cap,h5⟩,
   h3.known (fun _ _ _ a b=>Zhz.known a b) Zbw.mono (fun p hp=>hm p (List.mem_append.2 (.inr hp))) h6,h4⟩
theorem Zhz.zero {Ts Tk:TypeId} {n:Nat} : Zhz Ts Tk (n+1) [.int .i64 0,.int .i64 0,str [],.slice none 0 0,.slice none 0 0] (.mk 0 0 [] [] []) []:=
 ⟨_,_,_,_,[],[],rfl,rfl,ZR.nil,ZaM.nil,by simp [DKey.text],by simp [DKey.set],by simp [DKey.keys]⟩
theorem ZaM.succ {Ts Tk T:TypeId} {n:Nat} {l:Cells} {p:Option Addr} {c:Nat} {xs:List DKey} (h:ZaM l p c T 5 (Zhz Ts Tk n) xs) (h0:0<xs.length) :∃m,n=m+1:=by
 obtain ⟨b,arr,row,li,lr,_,h2,_⟩:=h.open1 (List.getElem?_eq_getElem h0)
 cases n with
 | zero=>exact h2.elim
 | succ m=>exact ⟨m,rfl⟩
theorem ZdR {L K:Nat→Prop} (h1 :∀n,(∀m,n=m+1→K m)→L n) (h2 :∀n,L n→K n) :∀n,L n∧K n
 | 0=>have h:=h1 0 (fun m e=>by omega);⟨h,h2 0 h⟩
 | n+1=>have h:=h1 (n+1) (fun m e=>(show n=m from Nat.succ.inj e) ▸ (ZdR h1 h2 n).2);⟨h,h2 _ h⟩
structure KT where
 (all has text place uid not pair:TypeId)
def Zcu (t:KT) (B:Kn):Nat→Value→DKey→Prop
 | 0,_,_=>False
 | n+1,v,x=>
  (x.kind=0∧v = .iface t.all (.agg #[]))∨(x.kind=1∧v = .iface t.has (.agg #[.int .i64 x.flag]))∨(x.kind=2∧x.text.length≤2000000∧v = .iface t.text (.agg #[str x.text]))∨
  (x.kind=3∧∃q c,v = .iface t.place (.agg #[.slice q x.set.length c])∧SlK B q c 2 ZN x.set)∨(x.kind=4∧∃q c,v = .iface t.uid (.agg #[.slice q x.set.length c])∧SlK B q c 2 ZN x.set)∨
  (x.kind=5∧∃k w,x.keys=[k]∧v = .iface t.not (.agg #[w])∧Zcu t B n w k)∨
  ((x.kind=6∨x.kind=7)∧∃k1 k2 w1 w2,x.keys=[k1,k2]∧v = .iface t.pair (.agg #[.bool (decide (x.kind=6)),w1,w2])∧Zcu t B n w1 k1∧Zcu t B n w2 k2)
theorem Zcu.mono {t:KT} {B B':Kn} (hle:B.le B') :∀{n:Nat} {v:Value} {x:DKey},Zcu t B n v x→Zcu t B' n v x
 | 0,_,_,h=>h.elim
 | n+1,v,x,h=>by
  rcases h with h | h | h | ⟨h0,q,c,h1,h2⟩ | ⟨h0,q,c,h1,h2⟩ | ⟨h0,k,w,h1,h2,h3⟩ | ⟨h0,k1,k2,w1,w2,h1,h2,h3,h4⟩
  ·exact .inl h
  ·exact .inr (.inl h)
  ·exact .inr (.inr (.inl h))
  ·exact .inr (.inr (.inr (.inl ⟨h0,q,c,h1,h2.mono ZN.mono hle⟩)))
  ·exact .inr (.inr (.inr (.inr (.inl ⟨h0,q,c,h1,h2.mono ZN.mono hle⟩))))
  ·exact .inr (.inr (.inr (.inr (.inr (.inl ⟨h0,k,w,h1,h2,h3.mono hle⟩)))))
  ·exact .inr (.inr (.inr (.inr (.inr (.inr ⟨h0,k1,k2,w1,w2,h1,h2,h3.mono hle,h4.mono hle⟩)))))
end Go.BL
namespace Go.BL
section
variable {P:PJ} {n:Nat} {ops:Array Oper} {i:Nat} {K:ZaE} {S:Env} {D:List Deferred} {B:Kn} {L:List Cells}
variable {dst:Option Tmp} {ty:TypeId} {pos:String} {after:Array Edge} {g:Option (Nat × Bool)}
theorem Zdm {x:Operand} {xt t:TypeId} {v:Value} {d:TypeDesc} (hg:Zk ops S g=some true) (hd:Zw n dst=true) (hu:P.underlying t=some d) (hni:(match d with | .interface _=>false | _=>true)=true) (hx:ev S x=some (.iface t v)) (h:K (.tuple #[v,.bool true]) D B L):opX P n ops i ⟨dst,.typeAssert x xt t true,ty,pos,after,g⟩ K S D B L:=
 ZE hg hd (fun ρ hρ Q F q=>by
  simp only [execOp,Instr.typeAssert,Zi,Zo hu,hρ x _ hx]
  cases d <;> first | (simp only [if_true,Zp];exact q) | cases hni) h
theorem Zak {x:Operand} {xt t u:TypeId} {v z:Value} {d:TypeDesc} (hg:Zk ops S g=some true) (hd:Zw n dst=true) (hu:P.underlying u=some d) (hni:(match d with | .interface _=>false | _=>true)=true) (hz:ZZ P u=some z) (hne:Nat.beq t u=false) (hx:ev S x=some (.iface t v)) (h:K (.tuple #[z,.bool false]) D B L):opX P n ops i ⟨dst,.typeAssert x xt u true,ty,pos,after,g⟩ K S D B L:=
 ZE hg hd (fun ρ hρ Q F q=>by
  have hne' : ¬ (t=u):=fun e=>by subst e;rw [Nat.beq_refl] at hne;cases hne
  simp only [execOp,Instr.typeAssert,Zi,Zo hu,hρ x _ hx]
  cases d <;> first | (simp only [if_neg hne',if_true,Zi,ZaS hz,Zp];exact q) | cases hni) h
end
theorem Zcu.one {t:KT} {B:Kn} :∀{n:Nat} {v:Value} {x:DKey},Zcu t B n v x→v.cells = #[v]∧ZgO v=true
 | 0,_,_,h=>h.elim
 | n+1,v,x,h=>by
  rcases h with ⟨_,h⟩ | ⟨_,h⟩ | ⟨_,_,h⟩ | ⟨_,_,_,h,_⟩ | ⟨_,_,_,h,_⟩ | ⟨_,_,_,_,h,_⟩ | ⟨_,_,_,_,_,_,h,_⟩ <;> subst h <;> exact ⟨rfl,rfl⟩
section
variable {P:PJ} {n:Nat} {ops:Array Oper} {i:Nat} {K:ZaE} {S:Env} {D:List Deferred} {B:Kn} {L:List Cells}
variable {dst:Option Tmp} {ty:TypeId} {pos:String} {after:Array Edge} {g:Option (Nat × Bool)}
theorem ZqI {t e:TypeId} {len sz:Nat} {z:Value} (zl:List Value) (hg:Zk ops S g=some true) (hd:Zw n dst=true) (hu:P.underlying t=some (.array len e)) (hsz:ZG P e=some sz) (hz:ZZ P t=some z) (hzl:z.cells=zl.toArray) (h:K (.agg zl.toArray) D B L):opX P n ops i ⟨dst,.build t #[],ty,pos,after,g⟩ K S D B L:=
 ZE hg hd (fun ρ hρ Q F q=>by
  simp only [execOp,Instr.build,Zi,ZaS hz,Zo hu,Z4 hsz,hzl,List.map_toArray,List.map_nil,Instr.fill,Zp]
  exact q) h
theorem Zpk (vs:List Value) (k:Nat) (v:Value):Z7 vs k [v]=vs.set k v:=by rw [ZcD,Zbh]
theorem Zy2 {t:TypeId} {x y:Operand} {b k:Nat} {v:Value} {vs:List Value} {T:TypeId} (j:Nat) (hg:Zk ops S g=some true) (hd:Zw n dst=true) (hsz:ZG P t=some 1)
  (hx:ev S x=some (ptr ⟨b,k,none⟩)) (hy:ev S y=some v) (h1:v.cells = #[v]∧ZgO v=true) (hj:L[j]? = some (ZP b vs T)) (hk:k<vs.length)
  (h:K undef D B (L.set j (ZP b (vs.set k v) T))):opX P n ops i ⟨dst,.store t x y,ty,pos,after,g⟩ K S D B L:=
 Zav [v] j (vs.set k v) hg hd hsz hx hy h1.1 (by simp [h1.2]) hj rfl (Nat.ble_eq_true_of_le (by simp;omega)) (Zpk vs k v) h
end
end Go.BL
namespace Go.BL
def Zem:Rel UInt8:=fun _ row x=>row=[.int .u8 x.toNat]
theorem Zem.any:Zqp Zem:=fun h=>h
def Zaw (xs:List UInt8):List Value:=xs.map fun c=>.int .u8 c.toNat
theorem ZjB {B:Kn} :∀{rows:List (List Value)} {xs:List UInt8},All2 (Zem B) rows xs→rows.flatten=Zaw xs
 | _,_,.nil=>rfl
 | _,_,.cons h t=>by rw [List.flatten_cons,ZjB t,h];rfl
theorem ZgA {B:Kn} :∀(xs:List UInt8),All2 (Zem B) (xs.map fun c=>[Value.int .u8 c.toNat]) xs
 | []=>.nil
 | c :: xs=>.cons rfl (ZgA xs)
theorem Zjp :∀(xs:List UInt8),(xs.map fun c=>[Value.int .u8 c.toNat]).flatten=Zaw xs
 | []=>rfl
 | c :: xs=>by rw [List.map_cons,List.flatten_cons,Zjp xs];rfl
theorem ZR.bytes {B:Kn} {l:Cells} {p:Option Addr} {c:Nat} {T:TypeId} {xs:List UInt8} (h:ZR B l p c T 1 Zem xs):ZgC l p xs.length c T 1 (Zaw xs):=by
 obtain ⟨rows,h1,h2,h3⟩:=h
 rwa [ZjB h1] at h3
theorem Zmo {B:Kn} {l:Cells} {p:Option Addr} {c:Nat} {T:TypeId} {xs:List UInt8} (h:ZgC l p xs.length c T 1 (Zaw xs)):ZR B l p c T 1 Zem xs:=
 ⟨_,ZgA xs,fun row hr=>by obtain ⟨c,_,rfl⟩:=List.mem_map.1 hr;rfl,by rw [Zjp];exact h⟩
theorem ZlP {P:Program} {e:TypeId} {s count n:Nat} (hs:P.cellsOf e=s) (h0:Nat.beq s 0=false) (hn:n≤count):liesAt P P.depth e count 0 e n=true:=by
 have hs0 : ¬ (s=0):=fun e=>by subst e;cases h0
 have e1:P.depth=(2*(P.types.size+Made.depth)+1)+1:=rfl
 have e2:sameLayout P P.depth e e=true:=by rw [e1,sameLayout];simp
 rw [e1,liesAt]
 have:rowAt P (sameLayout P P.depth · e) P.depth e count 0 n=true:=by
  rw [e1,rowAt]
  simp only [hs,if_neg hs0,Nat.zero_div,Nat.zero_mod,Nat.zero_add]
  rw [← e1,e2]
  simp [hn]
 rw [this];rfl
section
variable {P:Program} {B:Kn} {L:Cells}
theorem Zhr {b:Nat} {Q:ByteArray→Kn→Cells→Prop} :∀(xs:List UInt8) (o:Nat) (acc:Array UInt8),(∀j c,xs[j]? = some c→ZaY B L ⟨b,o+j,none⟩ (.int .u8 (c.toNat:Int)))→Q ⟨acc ++ xs.toArray⟩ B L→hb P (loadBytes ⟨b,o,none⟩ ⟨acc⟩ xs.length) Q B L
 | [],o,acc,_,h=>by simp only [List.length_nil,loadBytes,Zp];simpa using h
 | c :: xs,o,acc,hc,h=>by
  simp only [List.length_cons,loadBytes,Zi]
  refine Zkj (by simpa using hc 0 c rfl) ?_
  have e:(ByteArray.mk acc).push ((c.toNat:Int).toNat.toUInt8)=⟨acc.push c⟩:=by
   rw [Int.toNat_natCast]
   show ByteArray.mk (acc.push (UInt8.ofNat c.toNat))=_
   rw [UInt8.ofNat_toNat]
  have e2:(Addr.add ⟨b,o,none⟩ 1)=⟨b,o+1,none⟩:=Addr.add_off _ _ rfl
  simp only [e,e2]
  refine Zhr xs (o+1) (acc.push c) (fun j d hj=>by have:=hc (j+1) d (by simpa using hj);rwa [show o+(j+1)=o+1+j from by omega] at this) ?_
  simpa using h
end
section
variable {P:Program} {B:Kn} {L:Cells}
theorem ZiC :∀(m t:Nat) (acc:Array Value),(Extern.BytealgMakeNoZero.digits m t acc).size=acc.size+m
 | 0,t,acc=>rfl
 | m+1,t,acc=>by rw [Extern.BytealgMakeNoZero.digits,ZiC m,Array.size_push];omega
theorem ZxZ {ps:Array TypeId} {t e:TypeId} {m:Nat} {Q:Value→Kn→Cells→Prop} (hu:P.underlying t=some (.slice e)) (hm:m≤2000000)
  (h :∀r s,(∃b cap,r = .slice (some ⟨b,0,Option.none⟩) m cap∧m≤cap∧ZgC s (some ⟨b,0,Option.none⟩) 0 cap e 1 [])→Q r B (s ++ L)):hb P (Extern.BytealgMakeNoZero.makeNoZero ps #[t] #[.int .i64 m]) Q B L:=by
 have h1:((decide ((m:Int)<0)) || decide ((m:Int) > 2 ^ 48))=false:=by simp;omega
 show hb P (underlying t >>= _) _ _ _
 rw [Zi,Zo hu]
 simp only [Zi,Zp,h1,Bool.false_eq_true,if_false]
 intro nc _ hf
 obtain ⟨tt,rfl⟩:=hf rfl
 have hnc:m≤Question.cut (.appendCap (m:Int).toNat 0 e) tt:=by simp only [Question.cut];omega
 generalize Question.cut (.appendCap (m:Int).toNat 0 e) tt=cap at *
 simp only [Zad,Zi]
 refine Zfk (P:=⟨P,NoJ⟩) ?_
 simp only [Zi]
 intro by_ _ _
 simp only [Zad,Zi]
 refine Zin fun b=>?_
 simp only [Zp]
 refine h _ (ZP b (Extern.BytealgMakeNoZero.digits cap by_ #[]).toList e) ⟨b,cap,rfl,hnc,by simp,.inr ⟨b,_,rfl,by rw [Array.length_toList,ZiC];simp,by simp,rfl,Nat.zero_le _⟩⟩
theorem Zvj {ps:Array TypeId} {t e:TypeId} {m:Nat} {z:Int} {Q:Value→Kn→Cells→Prop} (hu:P.underlying t=some (.slice e)) (hz:z=(m:Int)) (hm:m≤2000000)
  (h :∀r s,(∃(b9:Nat) (arr:List Value),r = .slice (some ⟨b9,0,Option.none⟩) m arr.length∧m≤arr.length∧s=ZP b9 arr e)→Q r B (s ++ L)):hb P (Extern.BytealgMakeNoZero.makeNoZero ps #[t] #[.int .i64 z]) Q B L:=by
 subst hz
 refine ZxZ hu hm ?_
 rintro r s ⟨b,cap,rfl,hc,_,⟨h0,_⟩ | ⟨b',arr,e0,ha,_,rfl,_⟩⟩
 ·cases h0
 ·obtain rfl:b=b':=by simpa using e0
  rw [Nat.mul_one] at ha
  exact h _ _ ⟨b,arr,by rw [ha],by rw [ha];exact hc,rfl⟩
end
def Zny (xs:List UInt8) (c:UInt8):Int:=match (List.range (ByteArray.mk xs.toArray).size).find? fun i=>(ByteArray.mk xs.toArray)[i]! == c with | some i=>(i:Int) | none=>-1
def Zwu (xs ys:List UInt8):Int:=match (List.range ((ByteArray.mk xs.toArray).size+1 - (ByteArray.mk ys.toArray).size)).find? fun i=>(ByteArray.mk xs.toArray).extract i (i+(ByteArray.mk ys.toArray).size) == ByteArray.mk ys.toArray with | some i=>(i:Int) | none=>-1
theorem Zx1 {P:Program} {B:Kn} {L:Cells} {xs:List UInt8} {c:UInt8} {Q:Value→Kn→Cells→Prop} (h:Q (.int .i64 (Zny xs c)) B L):hb P (Extern.BytealgIndexByte.indexByte #[str xs,.int .u8 c.toNat]) Q B L:=by
 have e:((c.toNat:Int).toNat.toUInt8)=c:=by
  rw [Int.toNat_natCast];show UInt8.ofNat c.toNat=c;rw [UInt8.ofNat_toNat]
 show hb P (Extern.Bytes.bytesOf (str xs) >>= fun b=>Extern.Bytes.asByte (.int .u8 c.toNat) >>= _) Q B L
 simp only [Zi,Extern.Bytes.bytesOf,Extern.Bytes.asByte,Zp,e]
 unfold Zny at h
 cases hf:(List.range (ByteArray.mk xs.toArray).size).find? fun i=>(ByteArray.mk xs.toArray)[i]! == c with
 | some i=>rw [hf] at h;exact h
 | none=>rw [hf] at h;exact h
theorem Ztj {xs:List UInt8} {i:Nat} {d:UInt8} (h:xs[i]? = some d):(ByteArray.mk xs.toArray)[i]! = d:=by
 obtain ⟨hl,rfl⟩:=List.getElem?_eq_some_iff.1 h
 have hs:i<(ByteArray.mk xs.toArray).size:=by simpa [ByteArray.size] using hl
 rw [getElem!_pos _ i hs]
 rfl
theorem Zkg {xs:List UInt8} {c:UInt8} (h:0≤Zny xs c) :∃i:Nat,Zny xs c=(i:Int)∧xs[i]? = some c∧∀j:Nat,j<i→xs[j]?≠some c:=by
 unfold Zny at h ⊢
 cases hf:(List.range (ByteArray.mk xs.toArray).size).find? fun i=>(ByteArray.mk xs.toArray)[i]! == c with
 | none=>rw [hf] at h;simp at h
 | some i=>
  obtain ⟨h1,as,bs,h2,h3⟩:=List.find?_eq_some_iff_append.1 hf
  have hm:i∈List.range (ByteArray.mk xs.toArray).size:=by rw [h2];simp
  have hi:i<xs.length:=by simpa [ByteArray.size] using hm
  refine ⟨i,rfl,?_,fun j hj hc=>?_⟩
  ·have e:=Ztj (List.getElem?_eq_getElem hi)
   have:(ByteArray.mk xs.toArray)[i]! = c:=by simpa using h1
   rw [List.getElem?_eq_getElem hi,← e,this]
  ·have hjm:j∈as:=by
    have e1:as=List.range i:=by
     have e2:as.length=i:=by
      have e3:=congrArg (fun l=>l[as.length]?) h2
      have hal:as.length<xs.length:=by
       have:=congrArg List.length h2
       simp [ByteArray.size] at this;omega
      simp [List.getElem?_range,ByteArray.size,hal] at e3
      exact e3
     have e4:=congrArg (fun l=>l.take as.length) h2
     simp only [List.take_left'] at e4
     rw [List.take_range] at e4
     have:min as.length (ByteArray.mk xs.toArray).size=i:=by
      have:=congrArg List.length h2
      simp [ByteArray.size] at this ⊢;omega
     rw [this] at e4
     simpa using e4.symm
    rw [e1];simpa using hj
   have:=h3 j hjm
   rw [Ztj hc] at this
   simp at this
theorem Zsg {xs:List UInt8} {c:UInt8} (h:Zny xs c<0) :∀j:Nat,xs[j]?≠some c:=fun j hc=>by
 unfold Zny at h
 cases hf:(List.range (ByteArray.mk xs.toArray).size).find? fun i=>(ByteArray.mk xs.toArray)[i]! == c with
 | some i=>rw [hf] at h;simp only at h;omega
 | none=>
  have hj:=(List.getElem?_eq_some_iff.1 hc).1
  have:=List.find?_eq_none.1 hf j (by simpa [ByteArray.size] using hj)
  rw [Ztj hc] at this
  simp at this
theorem Zjt {xs ys:List UInt8} {i:Nat} : ((ByteArray.mk xs.toArray).extract i (i+(ByteArray.mk ys.toArray).size) == ByteArray.mk ys.toArray)=decide ((xs.drop i).take ys.length=ys):=by
 have e1:(ByteArray.mk xs.toArray).extract i (i+(ByteArray.mk ys.toArray).size)=ByteArray.mk ((xs.drop i).take ys.length).toArray:=by
  apply ByteArray.ext
  simp [ByteArray.data_extract,ByteArray.size]
 have e3 :∀(a b:Array UInt8),(ByteArray.mk a == ByteArray.mk b)=(a == b):=fun _ _=>rfl
 rw [e1,e3,Bool.eq_iff_iff,beq_iff_eq,decide_eq_true_eq]
 constructor
 ·intro h;simpa using congrArg Array.toList h
 ·intro h;rw [h]
theorem Zu8 {xs ys:List UInt8} : 0≤Zwu xs ys↔∃i,i<xs.length+1 - ys.length∧(xs.drop i).take ys.length=ys:=by
 unfold Zwu
 have hs:(ByteArray.mk xs.toArray).size+1 - (ByteArray.mk ys.toArray).size=xs.length+1 - ys.length:=by simp [ByteArray.size]
 rw [hs]
 cases hf:(List.range (xs.length+1 - ys.length)).find? fun i=>(ByteArray.mk xs.toArray).extract i (i+(ByteArray.mk ys.toArray).size) == ByteArray.mk ys.toArray with
 | some i=>
  have h1:=List.find?_some hf
  have h2:=List.mem_of_find?_eq_some hf
  rw [Zjt,decide_eq_true_eq] at h1
  simp only [Int.natCast_nonneg,true_iff]
  exact ⟨i,by simpa using h2,h1⟩
 | none=>
  simp only [show ¬ ((0:Int)≤-1) from by omega,false_iff]
  rintro ⟨i,h1,h2⟩
  have:=List.find?_eq_none.1 hf i (by simpa using h1)
  rw [Zjt] at this
  simp [h2] at this
theorem Zx0 {P:Program} {B:Kn} {L:Cells} {xs ys:List UInt8} {gm:Nat} {M:Int} {Q:Value→Kn→Cells→Prop} (hgm:P.globals.findIdx? (·.name == "internal/bytealg.MaxLen")=some gm) (hM :∀L:List Cells,At B L ⟨gm,0,none⟩ (.int .i64 M)) (h2:2≤ys.length) (hle:(ys.length:Int)≤M) (hx:xs.length≤2000000) (h:Q (.int .i64 (Zwu xs ys)) B L):hb P (Extern.BytealgIndex.index #[str xs,str ys]) Q B L:=by
 show hb P (Extern.Bytes.bytesOf (str xs) >>= fun a=>Extern.Bytes.bytesOf (str ys) >>= _) Q B L
 have hsx:(ByteArray.mk xs.toArray).size=xs.length:=by simp [ByteArray.size]
 have hsy:(ByteArray.mk ys.toArray).size=ys.length:=by simp [ByteArray.size]
 simp only [Zi,Extern.Bytes.bytesOf,Zp,Extern.BytealgIndex.maxLen,globalAddr,ZaT,hgm]
 refine Zkj (by have:=hM [L];simpa [At] using this) ?_
 have e1:(decide ((ByteArray.mk ys.toArray).size<2) || decide (((ByteArray.mk ys.toArray).size:Int) > M))=false:=by rw [hsy];simp;omega
 have e2 : ¬ ((ByteArray.mk xs.toArray).size ≥ 2 ^ 32 - 15):=by rw [hsx];omega
 simp only [asInt,asIntOf,Zi,Zp,e1,e2,Bool.false_eq_true,if_false]
 unfold Zwu at h
 cases hf:(List.range ((ByteArray.mk xs.toArray).size+1 - (ByteArray.mk ys.toArray).size)).find? fun i=>(ByteArray.mk xs.toArray).extract i (i+(ByteArray.mk ys.toArray).size) == ByteArray.mk ys.toArray with
 | some i=>rw [hf] at h;exact h
 | none=>rw [hf] at h;exact h
section
variable {P:PJ} {n:Nat} {ops:Array Oper} {i:Nat} {K:ZaE} {S:Env} {D:List Deferred} {B:Kn} {L:List Cells}
variable {dst:Option Tmp} {ty:TypeId} {pos:String} {after:Array Edge} {g:Option (Nat × Bool)}
theorem ZBk {t u:TypeId} {x y:Operand} {k yk:IntKind} {a b r:Int} (hg:Zk ops S g=some true) (hd:Zw n dst=true) (hx:ev S x=some (.int k a)) (hy:ev S y=some (.int yk b)) (h0:0≤b) (hr:k.wrap (a*2 ^ (min b.toNat k.bits))=r) (h:K (.int k r) D B L):opX P n ops i ⟨dst,.binOp .shl t x y u,ty,pos,after,g⟩ K S D B L:=
 ZE hg hd (fun ρ hρ Q F q=>by
  have h1 : ¬ (b<0):=by omega
  simp only [execOp,hρ x _ hx,hρ y _ hy,Zi,Z8,binOp,Op.shift,h1,if_false,Zp,hr];exact q) h
theorem ZwX {t u:TypeId} {x y:Operand} {k yk:IntKind} {a b r:Int} (hg:Zk ops S g=some true) (hd:Zw n dst=true) (hx:ev S x=some (.int k a)) (hy:ev S y=some (.int yk b)) (h0:0≤b) (hr:a.fdiv (2 ^ (min b.toNat k.bits))=r) (h:K (.int k r) D B L):opX P n ops i ⟨dst,.binOp .shr t x y u,ty,pos,after,g⟩ K S D B L:=
 ZE hg hd (fun ρ hρ Q F q=>by
  have h1 : ¬ (b<0):=by omega
  simp only [execOp,hρ x _ hx,hρ y _ hy,Zi,Z8,binOp,Op.shift,h1,if_false,Zp,hr];exact q) h
theorem ZqE {f:FuncId} {fn:Func} {ext:Array Value→Sem Value} {xs:List Operand} {vs:List Value} {ats:Array TypeId} {r:Value} (hg:Zk ops S g=some true) (hd:Zw n dst=true) (hf:P.funcs[f]? = some fn) (hname:(fn.name == "runtime.NumGoroutine")=false) (hb0:fn.body.isNone=true) (hn:Extern.findNext fn=none) (he:Extern.find fn=some ext)
  (ha:evs S xs=some vs) (hr :∀(Q:Value→Kn→Cells→Prop) (F:Cells),Q r B (L.flatten ++ F)→hb P (ext vs.toArray) Q B (L.flatten ++ F)) (h:K r D B L):opX P n ops i ⟨dst,.call ⟨.value (.func f),xs.toArray,ats⟩,ty,pos,after,g⟩ K S D B L:=
 Zcx hg hd fun ρ hρ F=>by
  have e0:ρ (.func f) = .func (.func f) #[] #[]:=hρ (.func f) _ rfl
  simp only [execOp,resolve,e0,Deferred.ofValue,Zi,Zp,invoke,List.map_toArray,ZaQ hρ ha]
  have e:(#[] ++ vs.toArray:Array Value) ++ #[]=vs.toArray:=by simp
  rw [e]
  simp only [callFunc,Zi,ZaT,hf,hname,Bool.false_eq_true,if_false,hb0,if_true,hn,he]
  refine ⟨rfl,?_⟩
  simp only [Zad,Zp,Zi]
  refine hr _ F ?_
  exact ⟨L,.of (.refl _),h⟩
theorem Zze {f:FuncId} {fn:Func} {ext:Array Value→Sem Value} {xs:List Operand} {vs:List Value} {ats:Array TypeId} {R:Value→Cells→Prop} (hg:Zk ops S g=some true) (hd:Zw n dst=true) (hf:P.funcs[f]? = some fn) (hname:(fn.name == "runtime.NumGoroutine")=false) (hb0:fn.body.isNone=true) (hn:Extern.findNext fn=none) (he:Extern.find fn=some ext)
  (ha:evs S xs=some vs) (hr :∀(Q:Value→Kn→Cells→Prop) (F:Cells),(∀r s,R r s→Q r B (s ++ (L.flatten ++ F)))→hb P (ext vs.toArray) Q B (L.flatten ++ F)) (h :∀r s,R r s→K r D B (L ++ [s])):opX P n ops i ⟨dst,.call ⟨.value (.func f),xs.toArray,ats⟩,ty,pos,after,g⟩ K S D B L:=
 Zcx hg hd fun ρ hρ F=>by
  have e0:ρ (.func f) = .func (.func f) #[] #[]:=hρ (.func f) _ rfl
  simp only [execOp,resolve,e0,Deferred.ofValue,Zi,Zp,invoke,List.map_toArray,ZaQ hρ ha]
  have e:(#[] ++ vs.toArray:Array Value) ++ #[]=vs.toArray:=by simp
  rw [e]
  simp only [callFunc,Zi,ZaT,hf,hname,Bool.false_eq_true,if_false,hb0,if_true,hn,he]
  refine ⟨rfl,?_⟩
  simp only [Zad,Zp,Zi]
  refine hr _ F fun r s hR=>?_
  refine ⟨L ++ [s],.of ?_,h r s hR⟩
  rw [List.flatten_append]
  simp only [List.flatten_cons,List.flatten_nil,List.append_nil]
  rw [← List.append_assoc]
  exact List.Perm.append_right F List.perm_append_comm
theorem Zy1 {t u e:TypeId} {x:Operand} {b k:Nat} {row:List Value} {T:TypeId} (j:Nat) (hj:L[j]? = some (ZP b row T)) (hrow:0<row.length) (hg:Zk ops S g=some true) (hd:Zw n dst=true) (ht:P.underlying t=some (.pointer e)) (hu:P.underlying u=some .unsafePointer) (hsz:ZG P e=some (k+1)) (hx:ev S x=some (ptr ⟨b,0,none⟩)) (h:K (ptr ⟨b,0,none⟩) D B L):opX P n ops i ⟨dst,.convert t u x,ty,pos,after,g⟩ K S D B L:=
 ZE hg hd (fun ρ hρ Q F q=>by
  have hO:ZiL B (L.flatten ++ F) b (.cells row.toArray T (0,0)):=.inr (List.mem_append_left _ (List.mem_flatten.2 ⟨_,List.mem_of_getElem? hj,List.mem_singleton.2 rfl⟩))
  have hlt : ¬ (0 ≥ row.toArray.size):=by rw [List.size_toArray];omega
  simp only [execOp,convert,hρ x _ hx,Zi,Zo ht,Zo hu,Conv.unsafePointer,Conv.seenAt,viewAt]
  refine ⟨_,hO,?_⟩
  simp only [Zet,Option.isSome_some,if_true,Zp,Zad,cellsIn,Zi]
  refine ⟨_,hO,?_⟩
  simp only [Zet,Zp,Zad,Z4 hsz,Nat.succ_ne_zero,false_or,Zi]
  simp only [hlt,decide_false,Bool.false_and,Bool.false_eq_true,if_false,Zp,Nat.add_one_ne_zero,decide_false,Bool.or_self]
  exact q) h
theorem Zy4 {t u e:TypeId} {x:Operand} {b k:Nat} {row:List Value} (j:Nat) (hj:L[j]? = some (ZP b row e)) (hg:Zk ops S g=some true) (hd:Zw n dst=true) (ht:P.underlying t=some .unsafePointer) (hu:P.underlying u=some (.pointer e)) (hc:P.cellsOf e=k) (hk:Nat.beq k 0=false) (hrow:row.length=k) (hsz:ZG P e=some k) (hx:ev S x=some (ptr ⟨b,0,none⟩)) (h:K (ptr ⟨b,0,none⟩) D B L):opX P n ops i ⟨dst,.convert t u x,ty,pos,after,g⟩ K S D B L:=
 ZE hg hd (fun ρ hρ Q F q=>by
  have hO:ZiL B (L.flatten ++ F) b (.cells row.toArray e (0,0)):=.inr (List.mem_append_left _ (List.mem_flatten.2 ⟨_,List.mem_of_getElem? hj,List.mem_singleton.2 rfl⟩))
  have hk0:k≠0:=fun e=>by subst e;cases hk
  simp only [execOp,convert,hρ x _ hx,Zi,Zo ht,Zo hu,Conv.unsafePointer,Conv.seenAt,viewAt]
  refine ⟨_,hO,?_⟩
  simp only [Zet,Option.isSome_some,if_true,Zp,Zad,Z4 hsz,hk0,variablesAt,Zi,ZaT,decide_false,Bool.false_or]
  refine ⟨_,hO,?_⟩
  have e1:liesAt P P.depth e (row.toArray.size / P.cellsOf e) 0 e 1=true:=ZlP hc hk (by rw [List.size_toArray,hrow,hc,Nat.div_self (Nat.pos_of_ne_zero hk0)];exact Nat.le_refl _)
  simp only [Zet,Zp,Zad,e1,if_true,Bool.or_true]
  exact q) h
theorem Zip {P:Program} {B:Kn} {L:Cells} {xs:List UInt8} {Q:Array Value→Kn→Cells→Prop} (h:Q (Zaw xs).toArray B L):hb P (Builtin.firstCells 1 xs.length (str xs)) Q B L:=by
 have e:(((ByteArray.mk xs.toArray).extract 0 xs.length).data.map fun b=>Value.int .u8 b.toNat)=(Zaw xs).toArray:=by
  apply Array.ext'
  simp [ByteArray.data_extract,Zaw]
 simp only [Builtin.firstCells,Zp,e]
 exact h
theorem Zt3 {t u e:TypeId} {x y:Operand} {by_ m c:Nat} {p:Option Addr} {vs:List Value} {xs:List UInt8} {l:Cells} (j:Nat) (hj:L[j]? = some l) (hv:ZgC l p m c e 1 vs) (hg:Zk ops S g=some true) (hd:Zw n dst=true)
  (he:ZbL P t e 1 by_=true) (hu:P.underlying u=some .string) (hx:ev S x=some (.slice p m c)) (hy:ev S y=some (str xs)) (hb1:(m+xs.length)*by_≤140737488355328)
  (h :∀l' p' c',ZgC l' p' (m+xs.length) c' e 1 (vs ++ Zaw xs)→K (.slice p' (m+xs.length) c') D B (L.set j l')):opX P n ops i ⟨dst,.call ⟨.builtin .append,#[x,y],#[t,u]⟩,ty,pos,after,g⟩ K S D B L:=
 Zcx hg hd fun ρ hρ F=>by
  unfold ZbL at he
  split at he
  ·rename_i e' inf hut hie
   simp only [Bool.and_eq_true,beq_iff_eq] at he
   obtain ⟨⟨⟨⟨rfl,hsz⟩,hby⟩,hpos⟩,hz⟩:=he
   cases hzo:inf.zero with
   | none=>rw [hzo] at hz;cases hz
   | some z=>
    rw [hzo] at hz
    have hz':z.cells.size=1:=by simpa using hz
    have hsi:ZG P e'=some 1:=by simp [ZG,hie,hsz]
    have hzi:ZZ P e'=some z:=by simp [ZZ,hie,hzo]
    have hdu:=hu
    have hls:(ByteArray.mk xs.toArray).size=xs.length:=by simp [ByteArray.size]
    have hl:(Zaw xs).length=xs.length*1:=by simp [Zaw]
    have hone:(Zaw xs).all ZgO=true:=by simp [Zaw,ZgO]
    obtain ⟨rr,hp1,_⟩:=ZT F [] hj
    have hset :∀l',((L.set j l').flatten ++ F).Perm (l' ++ rr):=fun l'=>by
     obtain ⟨r2,a1,a2⟩:=ZT F l' hj
     have:rr.Perm r2:=(List.perm_append_left_iff l).1 (hp1.symm.trans a1)
     exact a2.trans (List.Perm.append_left l' this.symm)
    obtain ⟨hvl,hcase⟩:=hv
    simp only [execOp,resolve,Zi,Zp,invoke,builtin,Builtin.append_,List.map_toArray,List.map_cons,List.map_nil,hρ x _ hx,hρ y _ hy,List.getElem?_toArray,List.getElem?_cons_zero,List.getElem?_cons_succ,Zo hut,Zo hdu,Z4 hsi,Bool.false_eq_true,if_false,Builtin.lenOf,hls,Bool.not_false,if_true]
    by_cases hfit:m+xs.length≤c
    ·rw [if_pos hfit]
     simp only [Zi]
     refine Zip ?_
     rcases hcase with ⟨rfl,rfl,rfl,rfl⟩ | ⟨b,arr,rfl,ha,ht,rfl,hmc⟩
     ·simp only [Zp]
      have hw:Zaw xs=[]:=List.eq_nil_of_length_eq_zero (by omega)
      have hx0:xs.length=0:=by omega
      have hvn:vs=[]:=List.eq_nil_of_length_eq_zero (by simpa using hvl)
      refine ⟨L,.of (.refl _),?_⟩
      have:=h [] none 0 ⟨by simp [hw,hvn,hx0],.inl ⟨rfl,by omega,rfl,rfl⟩⟩
      rwa [Zgh hj] at this
     ·simp only [Zi]
      have hoff:(Addr.add ⟨b,0,none⟩ (m*1)).off=m*1:=by unfold Addr.add;split <;> simp_all
      have hblk:(Addr.add ⟨b,0,none⟩ (m*1)).block=b:=by unfold Addr.add;split <;> rfl
      have hspt:(Addr.add ⟨b,0,none⟩ (m*1)).spot=none:=by unfold Addr.add;split <;> rfl
      have hlen:m*1+(Zaw xs).length≤arr.length:=by rw [ha,hl,← Nat.add_mul];exact Nat.mul_le_mul_right 1 hfit
      refine Zcp (T:=e') (L₁:=rr) hspt (Zaw xs) 0 arr _ hone (by rw [hblk];exact hp1) (by rw [hoff,Nat.add_zero];exact hlen) fun L' hp=>?_
      simp only [Zp]
      rw [hblk,hoff,Nat.add_zero] at hp
      refine ⟨L.set j (ZP b (Z7 arr (m*1) (Zaw xs)) e'),(Sup.of (hp.trans (hset (ZP b (Z7 arr (m*1) (Zaw xs)) e')).symm)),h _ _ _ ⟨?_,.inr ⟨b,_,rfl,by rw [Z6,ha],?_,rfl,hfit⟩⟩⟩
      ·rw [List.length_append,hvl,hl,Nat.add_mul]
      ·rw [Nat.add_mul,← hl,Zd3 _ _ _ hlen,ht]
    ·rw [if_neg hfit]
     have hcap:c<m+xs.length:=by omega
     have hbig : ¬ (Builtin.nextslicecap (m+xs.length) c*by_ > 2 ^ 48):=by
      have h1:=ZeX hcap
      have h2:Builtin.nextslicecap (m+xs.length) c*by_≤2*(m+xs.length)*by_:=Nat.mul_le_mul_right _ h1
      have h3:2*(m+xs.length)*by_=2*((m+xs.length)*by_):=by rw [Nat.mul_assoc]
      omega
     have hby0:inf.bytes≠0:=by rw [hby];have:=hpos;simp at this;omega
     have hby1:by_≠0:=by rw [← hby];exact hby0
     simp only [Zi,Za7 hie,hby,hbig,if_false,false_or,hby1,and_false]
     intro nc hf1 hf2
     obtain ⟨tt,rfl⟩:=hf2 rfl
     have hnc:m+xs.length≤Question.cut (.appendCap (m+xs.length) c e') tt:=by simp only [Question.cut];omega
     generalize Question.cut (.appendCap (m+xs.length) c e') tt=nc at *
     simp only [Zi,Zad,Za7 hie]
     refine Zfk ?_
     have hold:ZcX B (L.flatten ++ F) p vs:=by
      rcases hcase with ⟨rfl,rfl,rfl,rfl⟩ | ⟨b,arr,rfl,ha,ht,rfl,hmc⟩
      ·exact List.eq_nil_of_length_eq_zero (by simpa using hvl)
      ·intro k v hk
       have hv':arr[k]? = some v:=by
        rw [← ht,List.getElem?_take] at hk
        split at hk
        ·exact hk
        ·cases hk
       rw [Addr.add_off _ _ rfl,Nat.zero_add]
       exact ⟨rfl,arr.toArray,e',(0,0),.inr (List.mem_append.2 (.inl (List.mem_flatten.2 ⟨_,List.mem_of_getElem? hj,List.mem_cons_self ..⟩))),by simpa using hv'⟩
     rw [Zi]
     refine Zcr hold hvl ?_
     rw [Zi]
     refine Zip ?_
     rw [Zi,ZaS hzi,Zi]
     refine ⟨rfl,fun b _ _=>?_⟩
     have hzs:(Builtin.zeroCells z.cells (nc - (m+xs.length))).size=(nc - (m+xs.length))*1:=by rw [Zfv,hz']
     have harr:vs.toArray ++ (Zaw xs).toArray ++ Builtin.zeroCells z.cells (nc - (m+xs.length))=(vs ++ (Zaw xs) ++ (Builtin.zeroCells z.cells (nc - (m+xs.length))).toList).toArray:=by
      apply Array.ext';simp
     simp only [Zad,Zp]
     rw [harr]
     let r0:List Value:=(Builtin.zeroCells z.cells (nc - (m+xs.length))).toList
     have hr0:r0.length=(nc - (m+xs.length))*1:=by simp only [r0,Array.length_toList];exact hzs
     refine ⟨L.set j (ZP b (vs ++ (Zaw xs) ++ r0) e'),⟨l,?_⟩,h _ _ _ ⟨?_,.inr ⟨b,vs ++ (Zaw xs) ++ r0,rfl,?_,?_,rfl,hnc⟩⟩⟩
     ·refine (List.Perm.cons _ hp1).trans (List.Perm.trans ?_ (List.Perm.append_right l (hset (ZP b (vs ++ (Zaw xs) ++ r0) e')).symm))
      show ((b,_) :: (l ++ rr)).Perm (((b,_) :: rr) ++ l)
      exact List.Perm.cons _ List.perm_append_comm
     ·rw [List.length_append,hvl,hl,Nat.add_mul]
     ·rw [List.length_append,List.length_append,hvl,hl,hr0,← Nat.add_mul,← Nat.add_mul,Nat.add_sub_cancel' hnc]
     ·rw [List.take_append_of_le_length (by rw [List.length_append,hvl,hl,Nat.add_mul];exact Nat.le_refl _),List.take_of_length_le (by rw [List.length_append,hvl,hl,Nat.add_mul];exact Nat.le_refl _)]
  ·cases he
theorem ZtZ {t:TypeId} {x:Operand} {a:Addr} {m c:Nat} (hg:Zk ops S g=some true) (hd:Zw n dst=true) (hx:ev S x=some (.slice (some a) m c)) (hc:0<c) (h:K (ptr a) D B L):opX P n ops i ⟨dst,.call ⟨.builtin .unsafeSliceData,#[x],#[t]⟩,ty,pos,after,g⟩ K S D B L:=
 ZE hg hd (fun ρ hρ Q F q=>by
  have hc0:c≠0:=by omega
  have e :∀as ty,Builtin.unsafeSliceData_ as ty #[.slice (some a) m c]=pure (.pointer (some a)):=fun as ty=>by
   show (if c≠0 then _ else _)=_
   rw [if_pos hc0]
  simp only [execOp,resolve,Zi,Zp,invoke,builtin,List.map_toArray,List.map_cons,List.map_nil,hρ x _ hx,e]
  exact q) h
theorem ZwV {t u e:TypeId} {x y:Operand} {b c:Nat} {xs:List UInt8} {l:Cells} (j:Nat) (hj:L[j]? = some l) (hv:ZgC l (some ⟨b,0,none⟩) xs.length c e 1 (Zaw xs)) (h0:0<xs.length) (hg:Zk ops S g=some true) (hd:Zw n dst=true) (ht:P.underlying t=some (.pointer e)) (hc:P.cellsOf e=1)
  (hx:ev S x=some (ptr ⟨b,0,none⟩)) (hy:ev S y=some (.int .i64 xs.length)) (hlen:xs.length≤2000000) (h:K (str xs) D B (L.set j [])):opX P n ops i ⟨dst,.call ⟨.builtin .unsafeString,#[x,y],#[t,u]⟩,ty,pos,after,g⟩ K S D B L:=
 Zcx hg hd fun ρ hρ F=>by
  obtain ⟨hvl,⟨hc0,_⟩ | ⟨b',arr,e0,ha,htk,rfl,hmc⟩⟩:=hv
  ·cases hc0
  obtain rfl:b=b':=by simpa using e0
  obtain ⟨rr,hp1,hp2⟩:=ZT F [] hj
  have hO:ZiL B (L.flatten ++ F) b (.cells arr.toArray e (0,0)):=.inr (hp1.mem_iff.2 (List.mem_append_left _ (List.mem_singleton.2 rfl)))
  have h1 : ¬ ((xs.length:Int)<0):=by omega
  have h2 : ¬ ((xs.length:Int) > IntKind.max .i64):=by
   have:IntKind.max .i64=9223372036854775807:=rfl
   omega
  have h3 : ¬ ((xs.length:Int)=0):=by omega
  simp only [execOp,resolve,Zi,Zp,invoke,builtin,List.map_toArray,List.map_cons,List.map_nil,hρ x _ hx,hρ y _ hy]
  show hb P (asInt (.int .i64 xs.length) >>= _) _ _ _
  simp only [Zi,Zp,asInt,asIntOf,List.getElem?_toArray,List.getElem?_cons_zero]
  simp only [h1,h2,h3,if_false,Zi,Zp,elemOf,Zo ht,variablesAt,ZaT]
  refine ⟨_,hO,?_⟩
  have e1:liesAt P P.depth e (arr.toArray.size / P.cellsOf e) 0 e xs.length=true:=ZlP hc rfl (by rw [List.size_toArray,ha,hc,Nat.mul_one,Nat.div_one];exact hmc)
  simp only [Zet,Zp,Zad,e1,if_true,Zi,Int.toNat_natCast]
  refine Zhr xs 0 #[] (fun k d hk=>?_) ?_
  ·have hk':arr[k]? = some (.int .u8 (d.toNat:Int)):=by
    have e2:(Zaw xs)[k]? = some (.int .u8 (d.toNat:Int)):=by simp [Zaw,hk]
    rw [← htk,List.getElem?_take] at e2
    split at e2
    ·exact e2
    ·cases e2
   exact ⟨rfl,arr.toArray,e,(0,0),hO,by simpa using hk'⟩
  simp only [Zi]
  refine .inr ⟨_,_,_,rr,hp1,fun fr'=>?_⟩
  simp only [Zp,Zad]
  refine ⟨L.set j [],⟨[(b,.cells arr.toArray e fr')],?_⟩,by simpa using h⟩
  show ((b,Obj.cells arr.toArray e fr') :: rr).Perm (((L.set j []).flatten ++ F) ++ [(b,.cells arr.toArray e fr')])
  refine List.Perm.trans ?_ (List.Perm.append_right _ hp2.symm)
  simpa using List.perm_append_comm (l₁:=[(b,Obj.cells arr.toArray e fr')]) (l₂:=rr)
theorem ZwY {t e:TypeId} {x y:Operand} {k:IntKind} {vs:List Value} {v:Value} {len j:Nat} {ix:Int} (hg:Zk ops S g=some true) (hd:Zw n dst=true) (hu:P.underlying t=some (.array len e)) (hl:lk P e=some none) (hsz:ZG P e=some 1)
  (hx:ev S x=some (.agg vs.toArray)) (hy:ev S y=some (.int k ix)) (hj:ix=(j:Int)) (h1:j<len) (hv:vs[j]? = some v) (h:K v D B L):opX P n ops i ⟨dst,.index t x y,ty,pos,after,g⟩ K S D B L:=
 ZE hg hd (fun ρ hρ Q F q=>by
  subst hj
  have h0:(0:Int)≤(j:Int)∧(j:Int)<(len:Int):=by omega
  have e:vs.toArray[(j:Int).toNat*1]? = some v:=by rw [List.getElem?_toArray,Nat.mul_one,Int.toNat_natCast,hv]
  simp only [execOp,Instr.index,asIntOf,hρ x _ hx,hρ y _ hy,Zi,Zp,Zo hu,h0,and_self,if_true,Z4 hsz,part,Znn hl,Bool.false_eq_true,if_false,e]
  exact q) h
theorem ZsZ {P:PJ} {t e:TypeId} {a:Addr} {k:Nat} (hu:P.underlying t=some (.pointer e)) (hsz:ZG P e=some (k+1)):ZAp P t (ptr a) (ptr a) true:=fun B L Q q=>by
 show hb P (Op.equalIn (9999+1) t _ _) Q B L
 rw [Op.equalIn,Zi,Zo hu]
 simp only [Zi,Z4 hsz,ne_eq,Nat.add_one_ne_zero,not_false_eq_true,if_true]
 exact ZoH q
end
end Go.BL
namespace Go.BL
def Zdv:List Str:=[[83,101,101,110],[65,110,115,119,101,114,101,100],[70,108,97,103,103,101,100],[68,101,108,101,116,101,100],[68,114,97,102,116]]
structure GlobB (gf gm:Nat) (B:Kn) (M:Int):Prop where
 words:Zam B gf 0 (Zdv.map str)
 most:Zam B gm 0 [.int .i64 M]
theorem GlobB.mono {gf gm:Nat} {B B':Kn} {M:Int} (h:GlobB gf gm B M) (hle:B.le B'):GlobB gf gm B' M:=⟨h.words.mono hle,h.most.mono hle⟩
end Go.BL
namespace Go.BL
open Go.ChangeShapes Go.WideShapes Go.ChangeAt Go.RowKit Go.Conc
section
variable {H:Type} {enc:TypeId × Value→H} {P:Program}
theorem Zi5 (hl:laidOutB P=true) {W W':World} (hk:Kept W W') {sp':Nat→Bool} :∀{ns:List String} {gs:List (DataW H)} {ps:List MemPlace},(∀n,n∈ns→∀g t,P.globalNamed n=some g→(P.globals[g]?).map (·.type)=some t→(∃ms,P.underlying t=some (.interface ms))∨(P.readableRec t=true∧t<P.types.size))→
  DataW.TrodVars enc P W (fun _=>true) ns gs ps→(∀n,n∈ns→∀g,P.globalNamed n=some g→g<W.heap.size)→(∀p∈ps,p.block<W.heap.size)→(∀p∈ps,sp' p.block=true)→DataW.TrodVars enc P W' sp' ns gs ps
 | [],[],_,_,h,_,_,_=>h
 | n :: ns,d :: ds,ps,ht,⟨g,t,cs,fuel,p,q,hg,hty,hv,hd,hr,e⟩,hlt,hps,hsp=>by
  have rest:=Zi5 hl hk (fun n hn=>ht n (List.mem_cons_of_mem _ hn)) hr (fun n hn=>hlt n (List.mem_cons_of_mem _ hn)) (fun x hx=>hps x (by rw [e];exact List.mem_append_right _ hx)) (fun x hx=>hsp x (by rw [e];exact List.mem_append_right _ hx))
  have hv':=Zt4 hk hg (hlt n (List.mem_cons_self ..) g hg) hv
  rcases ht n (List.mem_cons_self ..) g t hg hty with ⟨ms,hu⟩ | ⟨h1,h2⟩
  ·exact ⟨g,t,cs,fuel,p,q,hg,hty,hv',(Zo7 hu).trans hd,rest,e⟩
  ·obtain ⟨m,hm⟩:=WideElems.Trod_stays (v:=.agg cs) (sp':=sp') hl h1 h2 ⟨fuel,hd⟩ (fun x hx=>hk.same (hps x (by rw [e];exact List.mem_append_left _ (List.mem_append_right _ hx)))) (fun x hx=>hsp x (by rw [e];exact List.mem_append_left _ (List.mem_append_right _ hx)))
   exact ⟨g,t,cs,m,p,q,hg,hty,hv',hm,rest,e⟩
 | [],_ :: _,_,_,h,_,_,_=>h.elim
 | _ :: _,[],_,_,h,_,_,_=>h.elim
theorem ZpH {f:Func} {s:ChangeSpec} {apart fresh handsOn:Bool} {W W':World} {args:Array Value} {ds gs:List (DataW H)} {before:List MemPlace} {tb:TypeId}
  (hl:laidOutB P=true) (hts:(f.params.toList.all fun t=>P.readableRec t && decide (t<P.types.size))=true) (hres:f.resultTypes.toList=[tb]) (hb:P.underlying tb=some .bool)
  (hvars :∀n,n∈s.vars→∀g t,P.globalNamed n=some g→(P.globals[g]?).map (·.type)=some t→(∃ms,P.underlying t=some (.interface ms))∨(P.readableRec t=true∧t<P.types.size))
  (hW:DataW.Whole enc P f.params.toList s.vars apart W args.toList ds gs before) (hfn :∀ds' gs',gs'.length=s.vars.length→ds'.length=f.params.toList.length→s.fn H (ds' ++ gs') = { results:=[.lit (.bool true)],args:=ds',vars:=gs' })
  (hk:Kept W W'):s.post enc P f apart fresh handsOn false W args (.bool true) W':=by
 have hlt:=hW.lt
 have hW':=hW
 obtain ⟨p,q,hA0,hV,rfl,hfz,hnd⟩:=hW
 have hlen:=(trodAll_length hA0).2
 have hvl:gs.length=s.vars.length:=Zn9 hV
 have hf2:=hfn ds gs hvl hlen
 have hr2:f.resultTypes = #[tb]:=by apply Array.ext';rw [hres]
 refine Zpp (pa:=p) (pv:=q) hW' (fun b sp hd=>?_) (fun sp hsp=>?_) (fun sp hsp=>?_) rfl hk.2.1
 ·rw [hf2,hr2]
  exact trodAll_cons_mk (shut_bool hb _) trodAll_mk0
 ·rw [hf2]
  exact Zoj hl hk hts hA0 (fun x hx=>hlt x (List.mem_append_left _ hx)) (fun x hx=>hsp x (List.mem_append_left _ hx))
 ·rw [hf2]
  exact Zi5 hl hk hvars hV (ZqL hV) (fun x hx=>hlt x (List.mem_append_right _ hx)) (fun x hx=>hsp x (List.mem_append_right _ hx))
theorem ZqM {ns:List String} (h:(ns.all fun n=>match P.globalNamed n with | some g=>(match (P.globals[g]?).map (·.type) with | some t=>(match P.underlying t with | some (.interface _)=>true | _=>P.readableRec t && decide (t<P.types.size)) | none=>true) | none=>true)=true) :
∀n,n∈ns→∀g t,P.globalNamed n=some g→(P.globals[g]?).map (·.type)=some t→(∃ms,P.underlying t=some (.interface ms))∨(P.readableRec t=true∧t<P.types.size):=fun n hn g t hg ht=>by
 have h1:=List.all_eq_true.1 h n hn
 simp only [hg,ht] at h1
 split at h1
 ·exact .inl ⟨_,by assumption⟩
 ·simp only [Bool.and_eq_true,decide_eq_true_eq] at h1;exact .inr h1
theorem ZjR {a:Assume} {C:Checked} {os:Os} {f:FuncId} {fn:Func} {s:ChangeSpec} {conds:List PathCond} {apart fresh handsOn again:Bool} {laid:List (String × DataW Unit)}
  (own:ownKnob C.prog.godebug=none) (started:os.Started) (hfn:C.prog.funcs[f]? = some fn)
  (witness :∃(w:World) (tape:Tape) (i:Input),w.os=os∧(w.forCall tape i).Shaped C.prog∧i.vars=[]∧Input.okWide C.prog (w.forCall tape i) .any w.heap.size f i∧
   ((s.pre enc C.prog fn conds apart (w.forCall tape i).memory i.args∧laidMetH C.prog laid (w.forCall tape i).memory)∧sizedMet enc C.prog fn (OpenSpec.ofChange s) apart (w.forCall tape i).memory i.args)∧a.holds C.prog (lone (Frame.enter C.prog f i.args .normal) [] (w.forCall tape i)))
  (runs :∀(W:World) (base:Nat) (args:Array Value) (ds gs:List (DataW H)) (before:List MemPlace),
   (∀(j:Nat) t v,fn.params[j]? = some t→args[j]? = some v→Value.okWide C.prog W .any base t v)→
   DataW.Whole enc C.prog fn.params.toList s.vars apart W args.toList ds gs before→
   (DataW.weightsEach C.prog (fn.params.toList ++ s.plain.varTypes C.prog) (ds ++ gs)).all (·≤reachBytes)=true→
   laidMetH C.prog laid W→W.ShapedOpen C.prog→
∃M last o w' t',runNT C.prog (M+1) (solo (G (Frame.enter C.prog f args .normal) []) W) #[]=(.ended o w',t')∧runN C.prog M (solo (G (Frame.enter C.prog f args .normal) []) W) = .next last∧
    step C.prog last = .ended o w'∧Conc.Good C.prog (fun v W'=>s.post enc C.prog fn apart fresh handsOn again W args v W') last o w' t') :
  ReturnsInLeavingWide a C os f .any (fun w args=>(s.pre enc C.prog fn conds apart w args∧laidMetH C.prog laid w)∧sizedMet enc C.prog fn (OpenSpec.ofChange s) apart w args) (s.post enc C.prog fn apart fresh handsOn again):=by
 refine returnsInLeavingWide_of_good own started witness ?_
 intro w tape i _ hshape _ hok hpre hholds
 obtain ⟨_,_,_,fn',hfn',_,_,_,_,hval⟩:=hok
 have e:fn'=fn:=Option.some.inj (hfn'.symm.trans hfn)
 subst e
 obtain ⟨⟨⟨ds,gs,before,hw,hc⟩,hL⟩,hz⟩:=hpre
 have hw':=DataW.Whole.of_heap (w':=w.forCall tape i) (by rfl) hw
 have hL':=hL.of_heap (w':=w.forCall tape i) (by rfl)
 obtain ⟨M,last,o,w',t',h1,h2,h3,h4⟩:=runs (w.forCall tape i) w.heap.size i.args ds gs before hval hw' (hz.weights hw) hL' hshape
 exact ⟨M,last,o,w',t',h1,h2,h3,h4.mono fun v hp=>ChangeSpec.post_blind hp⟩
theorem Zeb {x:String × DataW Unit} {r:List (String × DataW Unit)} {W:World} (h:laidMet P (x :: r) W):laidMet P r W:=by
 obtain ⟨ps,⟨g,t,cs,fuel,p,q,hg,ht,hv,hd,hr,e⟩,hnd,hrows⟩:=h
 refine ⟨q,hr,?_,fun b off hb=>hrows b off (by rw [e];exact List.mem_append_right _ hb)⟩
 rw [e] at hnd
 exact (List.nodup_append.1 hnd).2.1
theorem ZpI {n:String} {ws:List Str} {r:List (String × DataW Unit)} {W:World} {g:Nat} {t ts:TypeId} (h:laidMet P ((n,.agg (ws.map fun w=>.lit (.string w))) :: r) W) (hg:P.globalNamed n=some g) (ht:(P.globals[g]?).map (·.type)=some t)
  (hu:P.underlying t=some (.array ws.length ts)) (hs:P.underlying ts=some .string) (hc:P.cellsOf ts=1) (hct:P.cellsOf t=ws.length):Zam (Zas W) g 0 (ws.map str):=by
 obtain ⟨ps,⟨g',t',cs,fuel,p,q,hg',ht',hv,hd,_,_⟩,_,_⟩:=h
 obtain rfl:=Option.some.inj (hg.symm.trans hg')
 obtain rfl:=Option.some.inj (ht.symm.trans ht')
 obtain ⟨xs,m,_,hx,hl,hxl,hel⟩:=DataW.trod_array hu hd
 simp only [Prod.mk.injEq,DataW.agg.injEq] at hx
 have each :∀i w,ws[i]? = some w→cs[i]? = some (str w):=fun i w hw=>by
  have hi:=(List.getElem?_eq_some_iff.1 hw).1
  have h1:=hel i hi
  rw [List.getElem?_eq_getElem (by omega)] at h1
  rw [hc,Nat.mul_one] at h1
  obtain ⟨s,h2,h3,_⟩:=DataW.trod_string hs h1
  have h4:(xs.map (·.1))[i]? = some (.lit (.string w)):=by rw [← hx.1,List.getElem?_map,hw];rfl
  rw [List.getElem?_map,List.getElem?_eq_getElem (by omega),h3] at h4
  simp only [Option.map_some,Option.some.injEq,DataW.lit.injEq,Lit.string.injEq] at h4
  have h5:cs.toList[i]? = some (.string s):=by
   have:=congrArg (fun l=>l[0]?) h2
   simp only [List.getElem?_take_of_lt Nat.zero_lt_one,List.getElem?_drop,Nat.add_zero,List.getElem?_cons_zero] at this
   exact this
  rw [← Array.getElem?_toList,h5]
  subst h4
  rfl
 intro L j u hj
 rw [List.getElem?_map] at hj
 cases hw:ws[j]? with
 | none=>rw [hw] at hj;cases hj
 | some w=>
  rw [hw] at hj
  simp only [Option.map_some,Option.some.injEq] at hj
  subst hj
  have:=Zdx ((World.var?_cell hg hv j).trans (each j w hw):W.cell? ⟨g,j,none⟩=some (str w))
  obtain ⟨h1,cs,T,fr,h2,h3⟩:=this
  rw [Nat.zero_add]
  exact ⟨h1,cs,T,fr,h2.elim .inl (fun h=>by cases h),h3⟩
theorem ZuU {W:World} {g:Nat} {M:Int} (h:W.cell? ⟨g,0,none⟩=some (.int .i64 M)):Zam (Zas W) g 0 [.int .i64 M]:=fun L j u hj=>by
 cases j with
 | zero=>
  simp only [List.getElem?_cons_zero,Option.some.injEq] at hj
  subst hj
  obtain ⟨h1,cs,T,fr,h2,h3⟩:=Zdx h
  exact ⟨h1,cs,T,fr,h2.elim .inl (fun h=>by cases h),h3⟩
 | succ j=>simp at hj
end
def Zhy {H:Type} (enc:TypeId × Value→H) (P:Program) (W:World) (N:Nat) (t:TypeId) (p:List Value→Prop):Prop:=∀(fuel:Nat),fuel≤N→∀(cs:List Value) (d:DataW H) (ps:List MemPlace),DataW.trod enc P W 0 (fun _=>true) true fuel t cs=some (d,ps)→(∀m,m∈d.weights P t→m≤reachBytes)→p cs
section
variable {H:Type} {enc:TypeId × Value→H} {P:Program} {W:World}
theorem ZbM.at {t:TypeId} {p:List Value→Prop} {N:Nat} (h:ZbM enc P W t p):Zhy enc P W N t p:=fun fuel _=>h fuel
theorem Zh7 {t:TypeId} {p:List Value→Prop} : Zhy enc P W 0 t p:=fun fuel h cs d ps ht _=>by
 obtain rfl:fuel=0:=by omega
 simp [DataW.trod] at ht
theorem ZjV {N:Nat} {t:TypeId} {fs:Array Field} (ht:P.underlying t=some (.struct fs)) (ps:List (List Value→Prop)) (hf:Zdf P fs.toList 0 (P.cellsOf t)=true) (hlen:fs.toList.length=ps.length)
  (h :∀(i:Nat) (f:Field) (p:List Value→Prop),fs.toList[i]? = some f→ps[i]? = some p→Zhy enc P W N f.type p):Zhy enc P W (N+1) t (Parts ps):=fun fuel hN cs d pl htr hw=>by
 obtain ⟨xs,n,rfl,hx,hl,hxl,hel⟩:=DataW.trod_struct ht htr
 simp only [Prod.mk.injEq] at hx
 obtain ⟨rfl,_⟩:=hx
 have:=Zoo (ps:=ps) hf hl hlen fun i f p h1 h2=>by
  have h3:=hel i f (by simpa using h1)
  have hi:i<xs.length:=by
   have:=(List.getElem?_eq_some_iff.1 h1).1
   simp only [Array.length_toList] at this
   omega
  rw [List.getElem?_eq_getElem hi] at h3
  rcases hxi:xs[i] with ⟨d,pl'⟩
  refine h i f p h1 h2 n (by omega) _ d pl' (by rw [h3,hxi]) fun m hm=>hw m ?_
  simp only [DataW.weights,ht]
  exact Zck (i:=i) (t:=f.type) (d:=d) (by simp [h1]) (by simp [List.getElem?_eq_getElem hi,hxi]) m hm
 simpa using this
theorem Zlw {N:Nat} {α:Type} {t e:TypeId} {w:Nat} {R:Rel α} (ht:P.underlying t=some (.slice e)) (hc:P.cellsOf e=w) (hb:0<P.bytesOf e) (hw0:0<w) (h:Zhy enc P W N e (fun cs=>∃x,R (Zas W) cs x)):Zhy enc P W (N+1) t (fun cs=>∃xs,Zcg w R (Zas W) cs xs):=fun fuel hN cs d pl htr hw=>by
 rcases DataW.trod_slice ht htr with ⟨rfl,_⟩ | ⟨a,len,cap,elems,rest,n,rfl,rfl,hx,_,hl,hm,hlen,hel,_,_⟩
 ·exact ⟨[],none,0,rfl,⟨fun i x hi=>by simp at hi,Nat.le_refl _,Nat.zero_le _⟩⟩
 ·simp only [Prod.mk.injEq] at hx
  obtain ⟨rfl,_⟩:=hx
  have hlen2:len≤140737488355328:=by
   have:=hw ((elems.length+rest.length)*P.bytesOf e) (by simp [DataW.weights,ht])
   have h2:elems.length+rest.length≤(elems.length+rest.length)*P.bytesOf e:=Nat.le_mul_of_pos_right _ hb
   unfold reachBytes at this
   omega
  have each :∀i,i<len→∃x row,R (Zas W) row x∧row.length=w∧∀j,j<w→W.cell? ((a.add (i*w)).add j)=row[j]?:=fun i hi=>by
   have h1:=hel i hi
   have hi':i<elems.length:=by omega
   rw [List.getElem?_eq_getElem hi'] at h1
   obtain ⟨row,hr1,hr2⟩:=Option.bind_eq_some_iff.1 h1
   rw [hc] at hr1
   obtain ⟨hr3,hr4⟩:=Zmk hr1
   rcases hxi:elems[i] with ⟨d,pl'⟩
   obtain ⟨x,hx⟩:=h n (by omega) row d pl' (by rw [hr2,hxi]) fun m hm=>hw m (by
    simp only [DataW.weights,ht,List.mem_cons,List.mem_append]
    exact .inr (.inl (ZdQ (i:=i) (d:=d) (by simp [List.getElem?_eq_getElem hi',hxi]) m hm)))
   exact ⟨x,row,hx,hr3,hr4⟩
  have hsp:0<len→a.spot=none:=fun h0=>by
   obtain ⟨x,row,_,hr,hj⟩:=each 0 h0
   have h1:=hj 0 hw0
   rw [List.getElem?_eq_getElem (by omega)] at h1
   have:=(Zdx h1).1
   simpa [Addr.add] using this
  refine ⟨(List.range len).attach.map fun i=>(each i.1 (List.mem_range.1 i.2)).choose,some a,cap,by simp,⟨fun i x hi=>?_,by simpa using hl,by simpa using hlen2⟩⟩
  have hi':i<len:=by
   have:=(List.getElem?_eq_some_iff.1 hi).1
   simpa using this
  have hxx:x=(each i hi').choose:=by
   simp [hi'] at hi
   exact hi.symm
  obtain ⟨row,hr1,hr2,hr3⟩:=(each i hi').choose_spec
  have hs:=hsp (by omega)
  refine ⟨a.block,a.off,row,?_,by rw [hxx];exact hr1,fun j u hj=>?_⟩
  ·obtain ⟨b,o,s⟩:=a;simp only at hs;subst hs;rfl
  ·have hjw:j<w:=by rw [← hr2];exact (List.getElem?_eq_some_iff.1 hj).1
   have h4:=hr3 j hjw
   rw [hj] at h4
   have:=Zdx h4
   have ea:(a.add (i*w)).add j=⟨a.block,a.off+i*w+j,none⟩:=by
    rw [Addr.add_off _ _ (by rw [Addr.add_off _ _ hs]),Addr.add_off _ _ hs]
   rwa [ea] at this
theorem ZkP.up :∀{n:Nat} {B:Kn} {row:List Value} {x:DKey},ZkP n B row x→ZkP (n+1) B row x
 | 0,_,_,_,h=>h.elim
 | n+1,B,row,x,⟨q,c,q',c',h1,h2,h3,h4⟩=>⟨q,c,q',c',h1,h2,⟨fun i z hi=>by obtain ⟨b,o,r,k1,k2,k3⟩:=h3.rows i z hi;exact ⟨b,o,r,k1,ZkP.up k2,k3⟩,h3.cap,h3.len⟩,h4⟩
theorem Zlv {t tks:TypeId} {fs:Array Field} (ht:P.underlying t=some (.struct fs)) (hks:P.underlying tks=some (.slice t)) (hc:P.cellsOf t=5) (hb:0<P.bytesOf t) (hf:Zdf P fs.toList 0 (P.cellsOf t)=true) (f0 f1 f2 f3 f4:Field) (hfs:fs.toList=[f0,f1,f2,f3,f4])
  (h0:Zbb enc P W f0.type Z9) (h1:Zbb enc P W f1.type Z9) (h2:Zbb enc P W f2.type ZiJ) (h3:Zbb enc P W f3.type (Zcg 2 ZN)) (h4:f4.type=tks) :
∀N:Nat,Zhy enc P W N t (fun cs=>∃x,ZkP N (Zas W) cs x)∧Zhy enc P W N tks (fun cs=>∃xs,Zcg 5 (ZkP N) (Zas W) cs xs)
 | 0=>⟨Zh7,Zh7⟩
 | N+1=>by
  obtain ⟨i1,i2⟩:=Zlv ht hks hc hb hf f0 f1 f2 f3 f4 hfs h0 h1 h2 h3 h4 N
  constructor
  ·intro fuel hN cs d ps htr hw
   have:=ZjV (N:=N) ht [fun cs=>∃x,Z9 (Zas W) cs x,fun cs=>∃x,Z9 (Zas W) cs x,fun cs=>∃x,ZiJ (Zas W) cs x,fun cs=>∃x,Zcg 2 ZN (Zas W) cs x,fun cs=>∃xs,Zcg 5 (ZkP N) (Zas W) cs xs] hf (by rw [hfs];rfl) (fun i f p hi hp=>by
    rw [hfs] at hi
    match i,hi,hp with
    | 0,hi,hp=>cases hi;cases hp;exact ZbM.at h0
    | 1,hi,hp=>cases hi;cases hp;exact ZbM.at h1
    | 2,hi,hp=>cases hi;cases hp;exact ZbM.at h2
    | 3,hi,hp=>cases hi;cases hp;exact ZbM.at h3
    | 4,hi,hp=>cases hi;cases hp;rw [h4];exact i2
    | _+5,hi,_=>simp at hi) fuel hN cs d ps htr hw
   obtain ⟨_,_,rfl,⟨x0,rfl⟩,_,_,rfl,⟨x1,rfl⟩,_,_,rfl,⟨x2,rfl,g2⟩,_,_,rfl,⟨x3,q3,c3,rfl,g3⟩,_,_,rfl,⟨x4,q4,c4,rfl,g4⟩,rfl⟩:=this
   exact ⟨.mk x0 x1 x2 x3 x4,q3,c3,q4,c4,rfl,g3,g4,g2⟩
  ·intro fuel hN cs d ps htr hw
   obtain ⟨xs,q,c,e,g⟩:=Zlw (N:=N) hks hc hb (by decide) i1 fuel hN cs d ps htr hw
   exact ⟨xs,q,c,e,⟨fun i z hi=>by obtain ⟨b,o,r,k1,k2,k3⟩:=g.rows i z hi;exact ⟨b,o,r,k1,ZkP.up k2,k3⟩,g.cap,g.len⟩⟩
theorem Zpu {t tks:TypeId} {fs:Array Field} (ht:P.underlying t=some (.struct fs)) (hks:P.underlying tks=some (.slice t)) (hc:P.cellsOf t=5) (hb:0<P.bytesOf t) (hf:Zdf P fs.toList 0 (P.cellsOf t)=true) (f0 f1 f2 f3 f4:Field) (hfs:fs.toList=[f0,f1,f2,f3,f4])
  (h0:Zbb enc P W f0.type Z9) (h1:Zbb enc P W f1.type Z9) (h2:Zbb enc P W f2.type ZiJ) (h3:Zbb enc P W f3.type (Zcg 2 ZN)) (h4:f4.type=tks) :
  ZbM enc P W t (fun cs=>∃(n:Nat) (x:DKey) (q q':Option Addr) (c c':Nat),cs=[.int .i64 x.kind,.int .i64 x.flag,str x.text,.slice q x.set.length c,.slice q' x.keys.length c']∧SlB (Zas W) q c 2 ZN x.set∧SlB (Zas W) q' c' 5 (ZkP n) x.keys∧x.text.length≤140737488355328):=fun fuel cs d ps htr hw=>by
 obtain ⟨x,hx⟩:=(Zlv ht hks hc hb hf f0 f1 f2 f3 f4 hfs h0 h1 h2 h3 h4 fuel).1 fuel (Nat.le_refl _) cs d ps htr hw
 cases fuel with
 | zero=>exact hx.elim
 | succ n=>obtain ⟨q,c,q',c',e,k1,k2,k3⟩:=hx;exact ⟨n,x,q,q',c,c',e,k1,k2,k3⟩
end
end Go.BL
namespace Go.BL
open Go
def Zbo (c:UInt8):Bool:=(decide (97≤c.toNat) && decide (c.toNat≤122)) || (decide (48≤c.toNat) && decide (c.toNat≤57))
def Zaj (l:List UInt8):Bool:=l.all Zbo && decide (1≤l.length) && decide (l.length≤8)
theorem ZvX {l:List UInt8} {k:Nat} {c:UInt8} (hc:l[k]? = some c) (h:Zbo c=false):l.all Zbo=false:=by
 rw [Bool.eq_false_iff];intro ha
 have:=List.all_eq_true.1 ha c (List.mem_of_getElem? hc)
 rw [h] at this;cases this
theorem ZoV {l:List UInt8} {k:Nat} {c:UInt8} (hc:l[k]? = some c) (h:Zbo c=true) (ha:(l.take k).all Zbo=true):(l.take (k+1)).all Zbo=true:=by
 rw [List.take_add_one,hc];simp only [Option.toList_some,List.all_append,ha,List.all_cons,h,List.all_nil];rfl
def word (l:List UInt8) (i:Nat):List UInt8:=(l.drop i).takeWhile Zbo
def ZdG (w:List UInt8):Bool:=decide (1≤w.length) && decide (w.length≤8)
theorem Zre {o:Option UInt8} {f:UInt8→Bool} (h:(match o with | some c=>f c | none=>false)=true) :∃c,o=some c∧f c=true:=by
 cases o with
 | none=>cases h
 | some c=>exact ⟨c,rfl,h⟩
theorem ZbV {α:Type} {l:List α} {k:Nat} {c:α} (h:l[k]? = some c):k<l.length:=(List.getElem?_eq_some_iff.1 h).1
theorem Zgd {p:UInt8→Bool} :∀{m:List UInt8} {k:Nat},(m.take k).all p=true→(∀c,m[k]? = some c→p c=false)→m.takeWhile p=m.take k
 | [],k,_,_=>by simp
 | c :: m,0,_,h=>by simp [List.takeWhile,h c rfl]
 | c :: m,k+1,ha,h=>by
  simp only [List.take_succ_cons,List.all_cons,Bool.and_eq_true] at ha
  simp only [List.takeWhile,ha.1,List.take_succ_cons]
  rw [Zgd ha.2 (fun c hc=>h c (by simpa using hc))]
theorem ZtW {l:List UInt8} {i k:Nat} (ha:((l.drop i).take k).all Zbo=true) (h :∀c,l[i+k]? = some c→Zbo c=false):word l i=(l.drop i).take k:=
 Zgd ha (fun c hc=>h c (by simpa using hc))
theorem ZfE {l:List UInt8} {i k:Nat} : (l.take (i+k)).drop i=(l.drop i).take k:=by
 rw [List.drop_take,Nat.add_sub_cancel_left]
theorem Zi0 {a b c d:Value} (h:a=c) (h':b=d):Value.tuple #[a,b]=Value.tuple #[c,d]:=by rw [h,h']
def more:Nat→List UInt8→Nat→Bool × Nat
 | 0,_,i=>(true,i)
 | n+1,l,i=>if l[i]? = some 46 then (if ZdG (word l (i+1))=true then more n l (i+1+(word l (i+1)).length) else (false,i+1+(word l (i+1)).length)) else (true,i)
def dom (l:List UInt8) (i:Nat):Bool × Nat:=if ZdG (word l i)=true then more 2 l (i+(word l i).length) else (false,i+(word l i).length)
def ZiB (l:List UInt8) (i:Nat):List UInt8:=if (dom l i).1=true then (l.take (dom l i).2).drop i else []
def ZnK (l:List UInt8) (i:Nat):Bool:=(dom l i).1 && decide ((dom l i).2 - i≤20)
theorem ZnJ {l:List UInt8} {i:Nat} (h:ZdG (word l i)=false):dom l i=(false,i+(word l i).length):=by simp [dom,h]
theorem ZvG {l:List UInt8} {i:Nat} (h:ZdG (word l i)=true):dom l i=more 2 l (i+(word l i).length):=by simp [dom,h]
theorem ZhO {l:List UInt8} {i:Nat} (h:i≤l.length):i+(word l i).length≤l.length:=by
 have:=List.IsPrefix.length_le (List.takeWhile_prefix Zbo (l:=l.drop i))
 rw [List.length_drop] at this
 unfold word;omega
theorem Zh9 {l:List UInt8} {n j:Nat} (h : ¬ l[j]? = some 46):more n l j=(true,j):=by
 cases n with
 | zero=>rfl
 | succ n=>rw [more,if_neg h]
theorem ZuV {l:List UInt8} {n j:Nat} (hn:1≤n) (h:l[j]? = some 46) (hw:ZdG (word l (j+1))=false):more n l j=(false,j+1+(word l (j+1)).length):=by
 cases n with
 | zero=>omega
 | succ n=>rw [more,if_pos h,if_neg (by simp [hw])]
theorem ZrP {l:List UInt8} {n j:Nat} (hn:1≤n) (h:l[j]? = some 46) (hw:ZdG (word l (j+1))=true):more n l j=more (n - 1) l (j+1+(word l (j+1)).length):=by
 cases n with
 | zero=>omega
 | succ n=>rw [more,if_pos h,if_pos hw];rfl
theorem Zep {p:UInt8→Bool} :∀l:List UInt8,(l.takeWhile p).length=l.length↔l.all p=true
 | []=>by simp
 | c :: l=>by
  have h:=Zep (p:=p) l
  cases hc:p c with
  | true=>simp [List.takeWhile,hc] at h ⊢;exact h
  | false=>simp [List.takeWhile,hc]
theorem Zdt {l:List UInt8} : Zaj l=(ZdG (word l 0) && decide ((word l 0).length=l.length)):=by
 have h:=Zep (p:=Zbo) l
 have e:word l 0=l.takeWhile Zbo:=by simp [word]
 rw [Bool.eq_iff_iff]
 simp only [Zaj,ZdG,e,Bool.and_eq_true,decide_eq_true_eq]
 constructor
 ·rintro ⟨⟨h1,h2⟩,h3⟩
  have:=h.2 h1
  omega
 ·rintro ⟨⟨h1,h2⟩,h3⟩
  exact ⟨⟨h.1 h3,by omega⟩,by omega⟩
theorem ZrO {l:List UInt8} :∀(n j:Nat),j≤l.length→(more n l j).2≤l.length
 | 0,j,h=>h
 | n+1,j,h=>by
  rw [more]
  split
  ·rename_i e
   have:=ZbV e
   have h2:=ZhO (l:=l) (i:=j+1) (by omega)
   split
   ·exact ZrO n _ h2
   ·exact h2
  ·exact h
theorem ZAL {l:List UInt8} {i:Nat} (h:i≤l.length):(dom l i).2≤l.length:=by
 unfold dom
 have h2:=ZhO h
 split
 ·exact ZrO 2 _ h2
 ·exact h2
def glue (a:List UInt8):List (List UInt8)→List (List UInt8)
 | []=>[a]
 | p :: ps=>(a ++ p) :: ps
def cut (x:UInt8):List UInt8→List (List UInt8)
 | []=>[[]]
 | c :: r=>if c=x then [] :: cut x r else glue [c] (cut x r)
theorem ZoU (x:UInt8) :∀l,cut x l≠[]
 | []=>by simp [cut]
 | c :: r=>by
  rw [cut]
  split
  ·simp
  ·cases cut x r <;> simp [glue]
theorem ZoK {m:List (List UInt8)} (h:m≠[]):glue [] m=m:=by
 cases m with
 | nil=>exact absurd rfl h
 | cons p ps=>rfl
theorem Zsp (a b:List UInt8) (m:List (List UInt8)):glue a (glue b m)=glue (a ++ b) m:=by
 cases m <;> simp [glue]
structure CutSt where
 i:Nat
 f:Nat
 m:Nat
 ps:List (List UInt8)
 q:Option Addr
 cp:Nat
 s:Cells
theorem ZBp {a b:UInt8} (h:(a.toNat:Int)=b.toNat):a=b:=UInt8.toNat_inj.1 (by exact_mod_cast h)
theorem ZyJ {l:List UInt8} {x c:UInt8} {i:Nat} (h:l[i]? = some c) (e:c=x):cut x (l.drop i)=[] :: cut x (l.drop (i+1)):=by
 obtain ⟨hlt,he⟩:=List.getElem?_eq_some_iff.1 h
 rw [List.drop_eq_getElem_cons hlt,he,cut,if_pos e]
theorem ZvI {l:List UInt8} {x c:UInt8} {i:Nat} (h:l[i]? = some c) (e:c≠x):cut x (l.drop i)=glue [c] (cut x (l.drop (i+1))):=by
 obtain ⟨hlt,he⟩:=List.getElem?_eq_some_iff.1 h
 rw [List.drop_eq_getElem_cons hlt,he,cut,if_neg e]
theorem ZBo {a b:UInt8} (h : ¬ (a.toNat:Int)=b.toNat):a≠b:=fun e=>h (by rw [e])
theorem ZqX {l:List UInt8} {c:UInt8} {i f:Nat} (h:l[i]? = some c) (hf:f≤i):(l.take i).drop f ++ [c]=(l.take (i+1)).drop f:=by
 have hlt:=ZbV h
 rw [List.take_add_one,h]
 simp only [Option.toList_some]
 rw [List.drop_append_of_le_length (by rw [List.length_take];omega)]
theorem Zvp (a:List UInt8) (m:List (List UInt8)):glue a ([] :: m)=a :: m:=by simp [glue]
def ZcY (l:List UInt8):Bool:=(cut 46 l).all Zaj && decide ((cut 46 l).length≤3) && decide (l.length≤20)
theorem Zvo {a:List UInt8} {m:List (List UInt8)} {n:Nat} (h :∀p,p∈m→p.length≤n) :∀p,p∈glue a m→p.length≤a.length+n:=by
 cases m with
 | nil=>intro p hp;simp [glue] at hp;subst hp;omega
 | cons q qs=>
  intro p hp
  simp only [glue,List.mem_cons] at hp
  rcases hp with rfl | hp
  ·rw [List.length_append];have:=h q (List.mem_cons_self ..);omega
  ·have:=h p (List.mem_cons_of_mem _ hp);omega
theorem ZnL (x:UInt8) :∀(l p:List UInt8),p∈cut x l→p.length≤l.length
 | [],p,h=>by simp [cut] at h;subst h;simp
 | c :: r,p,h=>by
  rw [cut] at h
  split at h
  ·rcases List.mem_cons.1 h with rfl | h
   ·simp
   ·have:=ZnL x r p h;simp;omega
  ·have:=Zvo (ZnL x r) p h;simp at this ⊢;omega
theorem Zmx {l:List (List UInt8)} {k:Nat} {c:List UInt8} (hc:l[k]? = some c) (h:Zaj c=false):l.all Zaj=false:=by
 rw [Bool.eq_false_iff];intro ha
 have:=List.all_eq_true.1 ha c (List.mem_of_getElem? hc)
 rw [h] at this;cases this
theorem ZiI {l:List (List UInt8)} {k:Nat} {c:List UInt8} (hc:l[k]? = some c) (h:Zaj c=true) (ha:(l.take k).all Zaj=true):(l.take (k+1)).all Zaj=true:=by
 rw [List.take_add_one,hc];simp only [Option.toList_some,List.all_append,ha,List.all_cons,h,List.all_nil];rfl
theorem Zmh (x:UInt8) :∀l:List UInt8,(cut x l).length≤l.length+1
 | []=>by simp [cut]
 | c :: r=>by
  have h:=Zmh x r
  rw [cut]
  split
  ·simp;omega
  ·cases hq:cut x r with
   | nil=>exact absurd hq (ZoU x r)
   | cons p ps=>rw [hq] at h;simp [glue] at h ⊢;omega
end Go.BL
namespace Go.BL
open Go
theorem ZkE {x:UInt8} :∀{l:List UInt8},x ∉ l→cut x l=[l]
 | [],_=>rfl
 | c :: r,h=>by
  rw [cut,if_neg (fun e=>h (by rw [e];exact List.mem_cons_self ..)),ZkE (fun hm=>h (List.mem_cons_of_mem _ hm))]
  rfl
theorem ZiD {x:UInt8} {b:List UInt8} :∀{a:List UInt8},x ∉ a→cut x (a ++ x :: b)=a :: cut x b
 | [],_=>by simp [cut]
 | c :: r,h=>by
  rw [List.cons_append,cut,if_neg (fun e=>h (by rw [e];exact List.mem_cons_self ..)),ZiD (fun hm=>h (List.mem_cons_of_mem _ hm))]
  rfl
theorem ZfQ {x:UInt8} :∀{l:List UInt8},x∈l→∃a b,l=a ++ x :: b∧x ∉ a
 | c :: r,h=>by
  by_cases e:c=x
  ·exact ⟨[],r,by simp [e],by simp⟩
  ·have hr:x∈r:=(List.mem_cons.1 h).resolve_left (Ne.symm e)
   obtain ⟨a,b,h1,h2⟩:=ZfQ hr
   exact ⟨c :: a,b,by simp [h1],by simp [Ne.symm e,h2]⟩
theorem ZiW (l:List UInt8) (i j:Nat):word l (i+j)=word (l.drop i) j:=by
 unfold word;rw [List.drop_drop]
theorem Zjd (l:List UInt8) (i:Nat) :∀n j,more n l (i+j)=((more n (l.drop i) j).1,i+(more n (l.drop i) j).2)
 | 0,j=>rfl
 | n+1,j=>by
  simp only [more,List.getElem?_drop]
  rw [show i+j+1=i+(j+1) from by omega,ZiW]
  split
  ·split
   ·rw [show i+(j+1)+(word (l.drop i) (j+1)).length=i+(j+1+(word (l.drop i) (j+1)).length) from by omega,Zjd l i n]
   ·simp only [Prod.mk.injEq,true_and];omega
  ·rfl
theorem ZtX {l:List UInt8} (h:l.all Zbo=true):word l 0=l:=by
 have:=(Zep (p:=Zbo) l).2 h
 have h2:=List.takeWhile_prefix Zbo (l:=l)
 simp only [word,List.drop_zero]
 exact List.IsPrefix.eq_of_length h2 this
theorem Zhd {a b:List UInt8} {x:UInt8} (hx:Zbo x=false) (h:a.all Zbo=true):word (a ++ x :: b) 0=a:=by
 simp only [word,List.drop_zero]
 induction a with
 | nil=>simp [List.takeWhile,hx]
 | cons c a ih=>
  simp only [List.all_cons,Bool.and_eq_true] at h
  simp only [List.cons_append,List.takeWhile,h.1,ih h.2]
theorem Zhc {a:List UInt8} (b:List UInt8) (h:a.all Zbo=false):(word (a ++ b) 0).length<a.length∧word (a ++ b) 0=word a 0:=by
 simp only [word,List.drop_zero]
 induction a with
 | nil=>simp at h
 | cons c a ih=>
  cases hc:Zbo c with
  | false=>simp [List.takeWhile,hc]
  | true=>
   have h':a.all Zbo=false:=by simpa [hc] using h
   have:=ih h'
   simp only [List.cons_append,List.takeWhile,hc,List.length_cons]
   exact ⟨by omega,by rw [this.2]⟩
theorem Zx4 {a:List UInt8} (b:List UInt8) {k:Nat} (h:k<a.length):(a ++ b)[k]? = a[k]?:=List.getElem?_append_left h
theorem Zir {x:UInt8} {a:List UInt8} (h:x ∉ a) (k:Nat):a[k]?≠some x:=fun e=>h (List.mem_of_getElem? e)
theorem ZrJ :∀(n:Nat) (b:List UInt8),(ZdG (word b 0)=true∧more n b (word b 0).length=(true,b.length))↔((cut 46 b).all Zaj=true∧(cut 46 b).length≤n+1):=by
 intro n
 induction n with
 | zero=>
  intro b
  by_cases hd:(46:UInt8)∈b
  ·obtain ⟨a,r,rfl,ha⟩:=ZfQ hd
   rw [ZiD ha]
   have hlen:(word (a ++ 46 :: r) 0).length≤a.length:=by
    cases hna:a.all Zbo with
    | true=>rw [Zhd (by decide) hna];exact Nat.le_refl _
    | false=>exact Nat.le_of_lt (Zhc _ hna).1
   constructor
   ·rintro ⟨_,h2⟩
    simp only [more,Prod.mk.injEq,true_and] at h2
    rw [List.length_append,List.length_cons] at h2
    omega
   ·rintro ⟨_,h2⟩
    have:=ZoU 46 r
    simp only [List.length_cons] at h2
    exact absurd (List.eq_nil_of_length_eq_zero (by omega)) this
  ·rw [ZkE hd]
   simp only [more,List.all_cons,List.all_nil,Bool.and_true,List.length_cons,List.length_nil,Nat.zero_add,Nat.le_refl,and_true,Prod.mk.injEq,true_and,Zdt,Bool.and_eq_true,decide_eq_true_eq]
 | succ n ih=>
  intro b
  by_cases hd:(46:UInt8)∈b
  ·obtain ⟨a,r,rfl,ha⟩:=ZfQ hd
   rw [ZiD ha]
   cases hna:a.all Zbo with
   | true=>
    rw [Zhd (by decide) hna]
    have hg:(a ++ 46 :: r)[a.length]? = some 46:=by simp
    have hdr:(a ++ 46 :: r).drop (a.length+1)=r:=by rw [List.drop_append];simp
    have hw:word (a ++ 46 :: r) (a.length+1)=word r 0:=by
     have:=ZiW (a ++ 46 :: r) (a.length+1) 0
     rw [Nat.add_zero,hdr] at this;exact this
    have hm:more n (a ++ 46 :: r) (a.length+1+(word r 0).length)=((more n r (word r 0).length).1,a.length+1+(more n r (word r 0).length).2):=by
     rw [Zjd,hdr]
    simp only [more,hg,if_true,hw,hm,List.all_cons,Bool.and_eq_true,List.length_cons]
    have hna':Zaj a=ZdG a:=by rw [Zdt,ZtX hna];simp
    have hi:=ih r
    constructor
    ·rintro ⟨h1,h2⟩
     split at h2
     ·rename_i h3
      simp only [Prod.mk.injEq,List.length_append,List.length_cons] at h2
      have:=hi.1 ⟨h3,by ext1;exact h2.1;simp only [];omega⟩
      exact ⟨⟨by rw [hna'];exact h1,this.1⟩,by omega⟩
     ·simp at h2
    ·rintro ⟨⟨h1,h2⟩,h3⟩
     obtain ⟨h4,h5⟩:=hi.2 ⟨h2,by omega⟩
     refine ⟨by rw [← hna'];exact h1,?_⟩
     rw [if_pos h4,h5]
     simp;omega
   | false=>
    obtain ⟨h1,h2⟩:=Zhc (46 :: r) hna
    have hne:Zaj a=false:=by simp [Zaj,hna]
    constructor
    ·rintro ⟨_,h3⟩
     rw [Zh9 (by rw [Zx4 _ h1];exact Zir ha _)] at h3
     simp only [Prod.mk.injEq,true_and,List.length_append,List.length_cons] at h3
     omega
    ·rintro ⟨h3,_⟩
     simp [hne] at h3
  ·rw [ZkE hd]
   rw [Zh9 (Zir hd _)]
   simp only [List.all_cons,List.all_nil,Bool.and_true,List.length_cons,List.length_nil,Prod.mk.injEq,true_and,Zdt,Bool.and_eq_true,decide_eq_true_eq]
   constructor
   ·rintro ⟨h1,h2⟩;exact ⟨⟨h1,h2⟩,by omega⟩
   ·rintro ⟨⟨h1,h2⟩,_⟩;exact ⟨h1,h2⟩
theorem Zme (b:List UInt8):((dom b 0).1=true∧(dom b 0).2≤20∧(dom b 0).2=b.length)↔ZcY b=true:=by
 have h:=ZrJ 2 b
 simp only [ZcY,Bool.and_eq_true,decide_eq_true_eq]
 constructor
 ·rintro ⟨h1,h2,h3⟩
  cases hw:ZdG (word b 0) with
  | false=>simp [dom,hw] at h1
  | true=>
   simp only [dom,hw,if_true,Nat.zero_add] at h1 h2 h3
   have:=h.1 ⟨hw,by ext1;exact h1;exact h3⟩
   exact ⟨⟨this.1,this.2⟩,by omega⟩
 ·rintro ⟨⟨h1,h2⟩,h3⟩
  obtain ⟨h4,h5⟩:=h.2 ⟨h1,h2⟩
  simp only [dom,h4,if_true,Nat.zero_add,h5]
  exact ⟨trivial,h3,trivial⟩
end Go.BL
namespace Go.BL
open Go
theorem ZaW {α:Type} {p:α→Prop} {l:List α} {k:Nat} {x:α} (hx:l[k]? = some x) (h :∀y,y∈l.take k→p y) (hp:p x) :∀y,y∈l.take (k+1)→p y:=by
 intro y hy
 rw [List.take_add_one,hx] at hy
 simp only [Option.toList_some,List.mem_append,List.mem_singleton] at hy
 rcases hy with hy | rfl
 ·exact h y hy
 ·exact hp
def Zhn (us:List DUser) (u:Str):Int:=match us.findIdx? (fun x=>decide (x.name=u)) with | some i=>i | none=>-1
theorem Zu7 {us:List DUser} {u:Str} {k:Nat} {x:DUser} (hx:us[k]? = some x) (he:x.name=u) (h :∀y,y∈us.take k→y.name≠u):Zhn us u=k:=by
 have:us.findIdx? (fun x=>decide (x.name=u))=some k:=by
  rw [List.findIdx?_eq_some_iff_getElem]
  obtain ⟨hk,rfl⟩:=List.getElem?_eq_some_iff.1 hx
  refine ⟨hk,by simpa using he,fun j hj=>?_⟩
  have:=h us[j] (by rw [List.mem_take_iff_getElem];exact ⟨j,by omega,rfl⟩)
  simpa using this
 rw [Zhn,this]
theorem Zsf {us:List DUser} {u:Str} (h :∀y,y∈us→y.name≠u):Zhn us u = -1:=by
 have:us.findIdx? (fun x=>decide (x.name=u))=none:=by
  rw [List.findIdx?_eq_none_iff]
  intro x hx
  simpa using h x hx
 rw [Zhn,this]
theorem ZaZ {α:Type} {as bs:List α} {k:Nat} {x y:α} (hx:as[k]? = some x) (hy:bs[k]? = some y) (e:x=y) (h:as.take k=bs.take k):as.take (k+1)=bs.take (k+1):=by
 rw [List.take_add_one,List.take_add_one,hx,hy,e,h]
theorem ZeC {α:Type} {as bs:List α} {inst:Decidable (as=bs)} (h : ¬ (as.length:Int)=bs.length):false=decide (as=bs):=by
 symm;rw [decide_eq_false_iff_not];intro e;exact h (by rw [e])
theorem Zdg {α:Type} {as bs:List α} {inst:Decidable (as=bs)} {k:Nat} {x y:α} (hx:as[k]? = some x) (hy:bs[k]? = some y) (e : ¬ x=y):false=decide (as=bs):=by
 symm;rw [decide_eq_false_iff_not];intro h;rw [h,hy] at hx;exact e (Option.some.inj hx).symm
theorem eqT {α:Type} {as bs:List α} {inst:Decidable (as=bs)} {k:Nat} (hl:as.length=bs.length) (hk:k=as.length) (h:as.take k=bs.take k):true=decide (as=bs):=by
 symm;rw [decide_eq_true_eq]
 rw [List.take_of_length_le (by omega),List.take_of_length_le (by omega)] at h;exact h
theorem ZFb {α:Type} {as:List α} {x:α} {inst:Decidable (x∈as)} (h :∀y,y∈as→y≠x):false=decide (x∈as):=by
 symm;rw [decide_eq_false_iff_not];intro hx;exact h x hx rfl
theorem ZFa {α:Type} {as:List α} {x y:α} {inst:Decidable (x∈as)} {k:Nat} (hy:as[k]? = some y) (e:y=x):true=decide (x∈as):=by
 symm;rw [decide_eq_true_eq];subst e;exact List.mem_of_getElem? hy
theorem Za0 {α:Type} {p:α→Prop} {l:List α} {k:Nat} (hk : ¬ (k:Int)<l.length) (h :∀y,y∈l.take k→p y) :∀y,y∈l→p y:=by
 rwa [List.take_of_length_le (by omega)] at h
theorem ZkC {α:Type} {l:List α} {k:Nat} {x:α} (h:l[k]? = some x):l.drop k=x :: l.drop (k+1):=by
 obtain ⟨hlt,he⟩:=List.getElem?_eq_some_iff.1 h
 rw [List.drop_eq_getElem_cons hlt,he]
theorem Zs8 {α:Type} {l:List α} {k:Nat} (h : ¬ (k:Int)<l.length):l.drop k=[]:=List.drop_eq_nil_of_le (by omega)
def Zds (l:List Str):Bool:=l.all Zaj && decide l.Nodup && decide (l.length≤3)
def Zdd (x:DLetter):Bool:=Zaj x.fr && Zds x.to_ && decide (0<x.to_.length) && decide (x.text.length≤20)
def Zgr (x:DItem):Bool:=Zdd ⟨x.fr,x.left,x.text⟩
def Zd5:Int→List DItem→Option Int
 | last,[]=>some last
 | last,x :: r=>if (last+1≤x.id∧x.id≤99)∧Zgr x=true then Zd5 x.id r else none
def Zbg (q:DQueue):Bool:=match Zd5 0 q.items with
 | some last=>decide (last+1≤q.next) && decide (q.next≤100) && decide (q.items.length≤6)
 | none=>false
theorem ZrI {α:Type} {l:List α} {k:Nat} {x:α} (hx:l[k]? = some x) (h:(l.take k).Nodup) (hn : ¬ x∈l.take k):(l.take (k+1)).Nodup:=by
 rw [List.take_add_one,hx]
 simp only [Option.toList_some]
 rw [List.nodup_append]
 exact ⟨h,by simp,fun a ha b hb=>by rw [List.mem_singleton.1 hb];exact fun e=>hn (e ▸ ha)⟩
theorem ZxF {α:Type} {l:List α} {k:Nat} {x:α} (hx:l[k]? = some x) (h:x∈l.take k) : ¬ l.Nodup:=by
 intro hn
 have e:l=l.take k ++ l.drop k:=(List.take_append_drop k l).symm
 rw [e,ZkC hx,List.nodup_append] at hn
 exact hn.2.2 x h x (List.mem_cons_self ..) rfl
theorem Zhl {l:List Str} {k:Nat} {x:Str} (hx:l[k]? = some x) (h:Zaj x=false):false=Zds l:=by
 simp [Zds,Zmx hx h]
theorem Zhk {l:List Str} {k:Nat} {x:Str} (hx:l[k]? = some x) (h:x∈l.take k):false=Zds l:=by
 simp [Zds,ZxF hx h]
theorem Zh8 {l:List Str} {k:Nat} (hk : ¬ (k:Int)<l.length) (ha:(l.take k).all Zaj=true) (hn:(l.take k).Nodup):decide ((l.length:Int)≤3)=Zds l:=by
 rw [List.take_of_length_le (by omega)] at ha hn
 rw [Bool.eq_iff_iff];simp only [Zds,ha,decide_eq_true hn,Bool.true_and,decide_eq_true_eq];omega
def Zb5 {α:Type} (p:α→Bool) (xs:List α):Int:=match xs.findIdx? p with | some i=>i | none=>-1
theorem Zgs {α:Type} {p:α→Bool} {xs:List α} {k:Nat} {x:α} (hx:xs[k]? = some x) (he:p x=true) (h :∀y,y∈xs.take k→p y=false):Zb5 p xs=k:=by
 have:xs.findIdx? p=some k:=by
  rw [List.findIdx?_eq_some_iff_getElem]
  obtain ⟨hk,rfl⟩:=List.getElem?_eq_some_iff.1 hx
  refine ⟨hk,he,fun j hj=>?_⟩
  have:=h xs[j] (by rw [List.mem_take_iff_getElem];exact ⟨j,by omega,rfl⟩)
  simpa using this
 rw [Zb5,this]
theorem Zec {α:Type} {p:α→Bool} {xs:List α} (h :∀y,y∈xs→p y=false):Zb5 p xs = -1:=by
 have:xs.findIdx? p=none:=by
  rw [List.findIdx?_eq_none_iff]
  intro x hx
  simpa using h x hx
 rw [Zb5,this]
theorem ZoF {α:Type} {p:α→Bool} {xs:List α} : (0≤Zb5 p xs)↔∃x,x∈xs∧p x=true:=by
 cases h:xs.findIdx? p with
 | none=>
  rw [List.findIdx?_eq_none_iff] at h
  simp only [Zb5,List.findIdx?_eq_none_iff.2 h]
  refine ⟨fun e=>absurd e (by omega),fun ⟨x,hx,hp⟩=>?_⟩
  rw [h x hx] at hp;cases hp
 | some i=>
  simp only [Zb5,h]
  rw [List.findIdx?_eq_some_iff_getElem] at h
  obtain ⟨hi,hp,_⟩:=h
  exact ⟨fun _=>⟨_,List.getElem_mem hi,hp⟩,fun _=>by omega⟩
def ZCh (xs:List Str) (v:Str):Int:=Zb5 (fun x=>decide (x=v)) xs
theorem Zu9 {xs:List Str} {v:Str} : (0≤ZCh xs v)↔v∈xs:=by
 rw [ZCh,ZoF];simp
theorem Zom {q:DQueue} (h:Zd5 0 q.items=none):false=Zbg q:=by simp [Zbg,h]
theorem Zol {q:DQueue} {last:Int} (h:Zd5 0 q.items=some last):(decide (last+1≤q.next) && decide (q.next≤100) && decide (q.items.length≤6))=Zbg q:=by simp [Zbg,h]
theorem Zrj {q:DQueue} {k:Nat} {last:Int} {x:DItem} (hs:Zd5 0 q.items=Zd5 last (q.items.drop k)) (hx:q.items[k]? = some x):Zd5 0 q.items=if (last+1≤x.id∧x.id≤99)∧Zgr x=true then Zd5 x.id (q.items.drop (k+1)) else none:=by
 rw [hs,ZkC hx,Zd5]
theorem ZeY (x:DLetter):Zdd x=(Zaj x.fr && (decide (1≤x.to_.length) && Zds x.to_) && decide ((x.text.length:Int)≤20)):=by
 rw [Bool.eq_iff_iff];simp only [Zdd,Bool.and_eq_true,decide_eq_true_eq]
 constructor
 ·rintro ⟨⟨⟨a,b⟩,c⟩,d⟩;exact ⟨⟨a,by omega,b⟩,by omega⟩
 ·rintro ⟨⟨a,c,b⟩,d⟩;exact ⟨⟨⟨a,b⟩,by omega⟩,by omega⟩
structure Gh (α:Type) where
 k:Nat
 p:Nat
 l:Cells
 a:Option Addr
 c:Nat
 xs:List α
theorem ZbP {α:Type} {l:List α} {k:Nat} {x:α} (hx:l[k]? = some x):l.take (k+1)=l.take k ++ [x]:=by
 rw [List.take_add_one,hx];rfl
theorem Zrk :∀{xs:List DItem} {l r:Int},Zd5 l xs=some r→l≤r
 | [],l,r,h=>by simp only [Zd5,Option.some.injEq] at h;omega
 | x :: xs,l,r,h=>by
  rw [Zd5] at h
  split at h
  ·rename_i e;have:=Zrk h;omega
  ·cases h
theorem Zlo {q:DQueue} (h:Zbg q=true):1≤q.next∧q.next≤100∧q.items.length≤6:=by
 unfold Zbg at h
 split at h
 ·rename_i last e
  have:=Zrk e
  simp only [Bool.and_eq_true,decide_eq_true_eq] at h
  omega
 ·cases h
structure Gh2 (α β:Type) where
 k:Nat
 p:Nat
 l:Cells
 a:Option Addr
 c:Nat
 xs:List α
 e:β
theorem Zs7 {α:Type} {xs:List α} {j:Nat} {y:α} (h:xs[j]? = some y):xs.drop j=y :: xs.drop (j+1):=by
 obtain ⟨hj,rfl⟩:=List.getElem?_eq_some_iff.1 h
 exact List.drop_eq_getElem_cons hj
structure QOf where
 p:Option Addr
 ys:List DItem
 xs:List DItem
 l:Cells
 q:Option Addr
 c:Nat
 cells:Cells
theorem ZR.slice0 {α:Type} {B:Kn} {l:Cells} {p:Option Addr} {c:Nat} {T:TypeId} {w sz:Nat} {R:Rel α} {xs:List α} (h:ZR B l p c T w R xs):(if c=0 then p else p.map (fun a=>a.add (0*sz)))=p:=by
 obtain ⟨rows,_,_,_,⟨rfl,_,rfl,_⟩ | ⟨b,arr,rfl,_,_,_,_⟩⟩:=h
 ·rfl
 ·split
  ·rfl
  ·rw [Nat.zero_mul];simp [Addr.add_off]
theorem ZgN {q:DQueue} (h : ¬ (q.items.length≤6∧1≤q.next∧q.next≤100)):false=Zbg q:=by
 symm;rw [Bool.eq_false_iff];intro hq
 have:=Zlo hq
 omega
end Go.BL
namespace Go.BL
open Go
def hat (xs:List Int) (k:Nat):Int:=xs.getD k 0
def swp (xs:List Int) (i j:Nat):List Int:=(xs.set i (hat xs j)).set j (hat xs i)
def ZdD (xs:List Int):Prop:=∀k,0<k→k<xs.length→hat xs ((k - 1) / 2)≤hat xs k
def Zf5 (xs:List Int) (j:Nat):Prop:=(∀k,0<k→k<xs.length→k≠j→hat xs ((k - 1) / 2)≤hat xs k)∧(∀k,0<k→k<xs.length→(k - 1) / 2=j→0<j→hat xs ((j - 1) / 2)≤hat xs k)
theorem Zx3 {xs:List Int} {k:Nat} {a:Int} (h:xs[k]? = some a):hat xs k=a:=by simp [hat,List.getD,h]
theorem ZaV {xs:List Int} {k:Nat} (h:k<xs.length):xs[k]? = some (hat xs k):=by simp [hat,List.getD,List.getElem?_eq_getElem h]
theorem Zdp (xs:List Int) (i j:Nat):(swp xs i j).length=xs.length:=by simp [swp]
theorem Ze1 {xs:List Int} {i j:Nat} (hi:i<xs.length) (hj:j<xs.length) (k:Nat):hat (swp xs i j) k=if k=j then hat xs i else if k=i then hat xs j else hat xs k:=by
 simp only [hat,swp,List.getD,List.getElem?_set]
 by_cases h1:k=j
 ·subst h1;simp [hj]
 ·have h1' : ¬j=k:=fun h=>h1 h.symm
  by_cases h2:k=i
  ·subst h2;simp [hi,h1,h1']
  ·have h2' : ¬i=k:=fun h=>h2 h.symm
   simp [h1,h1',h2,h2']
theorem Zgf {xs:List Int} {i j:Nat} (hi:i<xs.length) (hj:j<xs.length):(swp xs i j).Perm xs:=by
 rw [List.perm_iff_count]
 intro a
 unfold swp
 rw [List.count_set (by simpa using hj),List.count_set hi]
 have e1:(xs.set i (hat xs j))[j]'(by simpa using hj)=hat xs j:=by
  rw [List.getElem_set];split
  ·rfl
  ·simp [hat,List.getD,List.getElem?_eq_getElem hj]
 have e2:xs[i]=hat xs i:=by simp [hat,List.getD,List.getElem?_eq_getElem hi]
 rw [e1,e2]
 have hp :∀v,(v == a)=true→v∈xs→0<List.count a xs:=fun v hv hm=>by
  rw [beq_iff_eq] at hv;subst hv;exact List.count_pos_iff.2 hm
 have hm1:hat xs i∈xs:=by rw [← e2];exact List.getElem_mem _
 by_cases h1:(hat xs i == a)=true <;> by_cases h2:(hat xs j == a)=true <;> simp [h1,h2] <;> (try have:=hp _ h1 hm1;omega)
theorem Zw4 {xs:List Int} (h:Zf5 xs 0):ZdD xs:=fun k h0 hk=>h.1 k h0 hk (by omega)
theorem Zw6 {xs:List Int} {j:Nat} (h:Zf5 xs j) (hj:hat xs ((j - 1) / 2)≤hat xs j):ZdD xs:=fun k h0 hk=>by
 by_cases e:k=j
 ·subst e;exact hj
 ·exact h.1 k h0 hk e
theorem Zw5 {xs:List Int} {j:Nat} (h0:0<j) (hj:j<xs.length) (h:Zf5 xs j) (hlt:hat xs j<hat xs ((j - 1) / 2)):Zf5 (swp xs ((j - 1) / 2) j) ((j - 1) / 2):=by
 have hi:(j - 1) / 2<xs.length:=by omega
 have H:=fun k=>Ze1 hi hj k
 generalize hii:(j - 1) / 2=i at *
 refine ⟨fun k hk0 hk hne=>?_,fun k hk0 hk hpar hi0=>?_⟩
 ·rw [Zdp] at hk
  rw [H,H]
  by_cases e1:k=j
  ·subst e1
   rw [hii];rw [if_neg (by omega),if_pos rfl,if_pos rfl];omega
  ·rw [if_neg e1,if_neg hne]
   by_cases e2:(k - 1) / 2=j
   ·rw [if_pos e2];have:=h.2 k hk0 hk e2 h0;rw [hii] at this;exact this
   ·rw [if_neg e2]
    by_cases e3:(k - 1) / 2=i
    ·rw [if_pos e3];have:=h.1 k hk0 hk e1;rw [e3] at this;omega
    ·rw [if_neg e3];exact h.1 k hk0 hk e1
 ·rw [Zdp] at hk
  rw [H,H]
  have hpi:(i - 1) / 2≠i:=by omega
  have hpj:(i - 1) / 2≠j:=by omega
  rw [if_neg hpj,if_neg hpi]
  have hii2:=h.1 i hi0 hi (by omega)
  by_cases e1:k=j
  ·rw [if_pos e1];exact hii2
  ·rw [if_neg e1,if_neg (by omega)]
   have:=h.1 k hk0 hk e1;rw [hpar] at this;omega
theorem Zvf {xs:List Int} (h:ZdD xs) :∀k,k<xs.length→hat xs 0≤hat xs k:=fun k=>by
 induction k using Nat.strongRecOn with
 | ind k ih=>
  intro hk
  by_cases h0:k=0
  ·subst h0;exact Int.le_refl _
  ·have h1:=ih ((k - 1) / 2) (by omega) (by omega)
   have h2:=h k (by omega) hk
   omega
def Zv6 (xs:List Int) (n:Nat):Prop:=∀k,0<k→k<n→hat xs ((k - 1) / 2)≤hat xs k
def Zfb (xs:List Int) (n i:Nat):Prop:=(∀k,0<k→k<n→(k - 1) / 2≠i→hat xs ((k - 1) / 2)≤hat xs k)∧(∀k,0<k→k<n→(k - 1) / 2=i→0<i→hat xs ((i - 1) / 2)≤hat xs k)
theorem Zs9 {xs:List Int} {n i:Nat} (h:Zfb xs n i) (hl:n≤2*i+1):Zv6 xs n:=fun k h0 hk=>h.1 k h0 hk (by omega)
theorem ZiA {xs:List Int} {n i:Nat} (h:Zfb xs n i) (hc :∀k,0<k→k<n→(k - 1) / 2=i→hat xs i≤hat xs k):Zv6 xs n:=fun k h0 hk=>by
 by_cases e:(k - 1) / 2=i
 ·rw [e];exact hc k h0 hk e
 ·exact h.1 k h0 hk e
theorem Ziz {xs:List Int} {n i j:Nat} (hn:n≤xs.length) (hj0:0<j) (hj:j<n) (hpj:(j - 1) / 2=i) (h:Zfb xs n i) (hmin :∀k,0<k→k<n→(k - 1) / 2=i→hat xs j≤hat xs k) (hlt:hat xs j<hat xs i):Zfb (swp xs i j) n j:=by
 have hi:i<xs.length:=by omega
 have hij:i≠j:=by omega
 have H:=fun k=>Ze1 hi (show j<xs.length by omega) k
 refine ⟨fun k hk0 hk hne=>?_,fun k hk0 hk hpar _=>?_⟩
 ·rw [H,H,if_neg hne]
  by_cases e1:k=j
  ·subst e1;rw [if_pos hpj,if_pos rfl];omega
  ·rw [if_neg e1]
   by_cases e2:(k - 1) / 2=i
   ·rw [if_pos e2,if_neg (by omega)];exact hmin k hk0 hk e2
   ·rw [if_neg e2]
    by_cases e3:k=i
    ·rw [if_pos e3];subst e3;exact h.2 j hj0 hj hpj hk0
    ·rw [if_neg e3];exact h.1 k hk0 hk e2
 ·rw [H,H,hpj,if_neg hij,if_pos rfl,if_neg (by omega),if_neg (by omega)]
  have:=h.1 k hk0 hk (by omega)
  rwa [hpar] at this
theorem ZBq (k:Nat):Int.tdiv ((k:Int) - 1) 2=(((k - 1) / 2:Nat):Int):=by
 cases k with
 | zero=>rfl
 | succ k=>rw [show ((k+1:Nat):Int) - 1=(k:Int) from by omega,Int.tdiv_eq_ediv_of_nonneg (by omega)];simp
theorem Zsn {xs:List Int} {z:Int} {k:Nat} (h:k<xs.length):hat (xs ++ [z]) k=hat xs k:=by
 simp [hat,List.getD,List.getElem?_append_left h]
theorem Zuv {xs:List Int} {z:Int} (h:ZdD xs):Zf5 (xs ++ [z]) xs.length:=by
 refine ⟨fun k h0 hk hne=>?_,fun k h0 hk hp _=>?_⟩
 ·rw [List.length_append,List.length_singleton] at hk
  rw [Zsn (by omega),Zsn (by omega)]
  exact h k h0 (by omega)
 ·rw [List.length_append,List.length_singleton] at hk
  omega
theorem Zxs {xs:List Int} (h:ZdD xs) (h0:0<xs.length):Zfb (swp xs 0 (xs.length - 1)) (xs.length - 1) 0:=by
 refine ⟨fun k hk0 hk hne=>?_,fun k hk0 hk hpar hh=>absurd hh (by omega)⟩
 rw [Ze1 h0 (by omega),Ze1 h0 (by omega),if_neg (by omega),if_neg (by omega),if_neg (by omega),if_neg (by omega)]
 exact h k hk0 (by omega)
theorem Zum {xs:List Int} (h0:0<xs.length):hat (swp xs 0 (xs.length - 1)) (xs.length - 1)=hat xs 0:=by rw [Ze1 h0 (by omega),if_pos rfl]
theorem ZoJ {xs:List Int} {n k:Nat} (h:k<n):hat (xs.take n) k=hat xs k:=by simp [hat,List.getD,List.getElem?_take,h]
theorem ZpX {ys:List Int} {n:Nat} (h:Zv6 ys n) (hn:n≤ys.length):ZdD (ys.take n):=fun k h0 hk=>by
 rw [List.length_take] at hk
 rw [ZoJ (by omega),ZoJ (by omega)]
 exact h k h0 (by omega)
theorem ZuA {xs ys:List Int} (h0:0<ys.length) (hp:ys.Perm xs) {z:Int} (hz:hat ys (ys.length - 1)=z):(z :: ys.take (ys.length - 1)).Perm xs:=by
 refine List.Perm.trans ?_ hp
 have e:ys=ys.take (ys.length - 1) ++ [z]:=by
  have h1:=ZbP (ZaV (xs:=ys) (k:=ys.length - 1) (by omega))
  rw [show ys.length - 1+1=ys.length from by omega,List.take_length] at h1
  rw [hz] at h1;exact h1
 have h2:(z :: ys.take (ys.length - 1)).Perm (ys.take (ys.length - 1) ++ [z]):=(List.perm_append_singleton z _).symm
 rwa [← e] at h2
theorem Zve:ZdD []:=fun k h0 hk=>by simp at hk
def asc:Int→Int→List Int→Bool
 | _,_,[]=>true
 | b,l,x :: r=>decide (b<x) && decide (x≤l) && asc x l r
theorem Ztu :∀{r:List Int} {b l z:Int},asc b l r=true→z∈r→b<z
 | [],_,_,_,_,hz=>by cases hz
 | x :: r,b,l,z,h,hz=>by
  simp only [asc,Bool.and_eq_true,decide_eq_true_eq] at h
  rcases List.mem_cons.1 hz with rfl | hz
  ·exact h.1.1
  ·have:=Ztu h.2 hz;omega
theorem Zx2 {xs:List Int} {k:Nat} (h:k<xs.length):hat xs k∈xs:=List.mem_of_getElem? (ZaV h)
theorem ZvU {b l x:Int} {r ys:List Int} (hp:ys.Perm (x :: r)) (hh:ZdD ys) (hne:hat ys 0≠x):false=asc b l (x :: r):=by
 symm;rw [Bool.eq_false_iff]
 intro h
 have h0:0<ys.length:=by rw [hp.length_eq];simp
 have hm:=hp.mem_iff.1 (Zx2 h0)
 simp only [asc,Bool.and_eq_true,decide_eq_true_eq] at h
 rcases List.mem_cons.1 hm with e | hm
 ·exact hne e
 ·have h1:=Ztu h.2 hm
  obtain ⟨k,hk⟩:=List.mem_iff_getElem?.1 (hp.mem_iff.2 (List.mem_cons_self (a:=x) (l:=r)))
  have h2:=Zvf hh k (List.getElem?_eq_some_iff.1 hk).1
  rw [Zx3 hk] at h2
  omega
theorem ZvT {b l x:Int} {r:List Int} (h:x≤b):false=asc b l (x :: r):=by simp [asc,show ¬ b<x from by omega]
theorem ZvS {b l x:Int} {r:List Int} (h:l<x):false=asc b l (x :: r):=by simp [asc,show ¬ x≤l from by omega]
theorem ZAT {b l x:Int} {r:List Int} (h : ¬ x≤b) (h2 : ¬ l<x):asc b l (x :: r)=asc x l r:=by simp [asc,show b<x from by omega,show x≤l from by omega]
theorem Zoi :∀{xs:List DItem} {b:Int} {l:Int},l≤99→(match Zd5 b xs with | some r=>decide (r≤l) | none=>false)=(decide (b≤l) && xs.all Zgr && asc b l (xs.map (·.id)))
 | [],b,l,_=>by simp [Zd5,asc]
 | x :: xs,b,l,hl=>by
  have ih:=Zoi (xs:=xs) (b:=x.id) hl
  rw [Zd5,List.map_cons,List.all_cons,asc]
  by_cases h1:b+1≤x.id
  ·by_cases h2:Zgr x=true
   ·by_cases h3:x.id≤99
    ·rw [if_pos ⟨⟨h1,h3⟩,h2⟩,ih,h2]
     by_cases h4:x.id≤l
     ·simp [h4,show b≤l from by omega,show b<x.id from by omega]
     ·simp [h4]
    ·rw [if_neg (fun h=>h3 h.1.2)]
     simp [show ¬ x.id≤l from by omega]
   ·rw [if_neg (fun h=>h2 h.2)]
    simp [h2]
  ·rw [if_neg (fun h=>h1 h.1.1)]
   simp [show ¬ b<x.id from by omega]
theorem Zh4 (q:DQueue):Zbg q=(decide (q.items.length≤6) && decide (1≤q.next) && decide (q.next≤100) && q.items.all Zgr && asc 0 (q.next - 1) (q.items.map (·.id))):=by
 by_cases h:q.next≤100
 ·have:=Zoi (xs:=q.items) (b:=0) (l:=q.next - 1) (by omega)
  unfold Zbg
  cases hs:Zd5 0 q.items with
  | none=>
   rw [hs] at this
   simp only at this
   rw [Bool.eq_iff_iff]
   simp only [Bool.and_eq_true,decide_eq_true_eq,Bool.false_eq_true,false_iff]
   rintro ⟨⟨⟨⟨_,h1⟩,_⟩,h2⟩,h3⟩
   rw [h2,h3] at this
   simp at this;omega
  | some r=>
   rw [hs] at this
   simp only at this
   rw [Bool.eq_iff_iff] at this ⊢
   simp only [Bool.and_eq_true,decide_eq_true_eq] at this ⊢
   constructor
   ·rintro ⟨⟨h1,h2⟩,h3⟩
    obtain ⟨⟨a,b⟩,c⟩:=this.1 (by omega)
    exact ⟨⟨⟨⟨h3,by omega⟩,h⟩,b⟩,c⟩
   ·rintro ⟨⟨⟨⟨h1,h2⟩,h3⟩,h4⟩,h5⟩
    have:=this.2 ⟨⟨by omega,h4⟩,h5⟩
    omega
 ·unfold Zbg
  cases Zd5 0 q.items <;> simp [h]
theorem ZAV {α:Type} {p:α→Bool} {l:List α} {k:Nat} {x:α} (hx:l[k]? = some x) (h:p x=false):l.all p=false:=by
 rw [Bool.eq_false_iff];intro hp
 rw [List.all_eq_true] at hp
 have:=hp x (List.mem_of_getElem? hx)
 rw [h] at this;cases this
theorem ZAU {α:Type} {p:α→Bool} {l:List α} {k:Nat} {x:α} (hx:l[k]? = some x) (h:p x=true) (ha:(l.take k).all p=true):(l.take (k+1)).all p=true:=by
 rw [ZbP hx,List.all_append,ha];simp [h]
theorem Zm8 {q:DQueue} {k:Nat} {x:DItem} (hx:q.items[k]? = some x) (h:Zgr x=false):false=Zbg q:=by
 rw [Zh4,ZAV hx h];simp
theorem Zm7 {q:DQueue} {k:Nat} (hk : ¬ (k:Int)<q.items.length) (ha:(q.items.take k).all Zgr=true) (h6:q.items.length≤6) (h1:1≤q.next) (h2:q.next≤100):asc 0 (q.next - 1) (q.items.map (·.id))=Zbg q:=by
 rw [List.take_of_length_le (by omega)] at ha
 rw [Zh4,ha];simp [h6,h1,h2]
end Go.BL
namespace Go.BL
open Go
def ZbU (m:DMail):Bool:=(decide (1≤m.uid) && decide (m.uid≤99)) && (decide (0≤m.flags) && decide (m.flags≤31)) && decide (m.text.length≤20)
def scn {α β:Type} (p:β→α→Bool) (nx:β→α→β) (b0:β) (xs:List α):Bool × β:=xs.foldl (fun s x=>(s.1 && p s.2 x,nx s.2 x)) (true,b0)
theorem ZfS {α β:Type} {p:β→α→Bool} {nx:β→α→β} {b0:β} {xs:List α} : scn p nx b0 (xs.take 0)=(true,b0):=by simp [scn]
theorem Zog {α β:Type} {p:β→α→Bool} {nx:β→α→β} {b0:β} {xs:List α} {k:Nat} {x:α} (hx:xs[k]? = some x):scn p nx b0 (xs.take (k+1))=((scn p nx b0 (xs.take k)).1 && p (scn p nx b0 (xs.take k)).2 x,nx (scn p nx b0 (xs.take k)).2 x):=by
 have:xs.take (k+1)=xs.take k ++ [x]:=by rw [List.take_add_one,hx];rfl
 rw [this,scn,List.foldl_append];rfl
theorem ZbS {α β:Type} {p:β→α→Bool} {nx:β→α→β} :∀(xs:List α) (b:β),(xs.foldl (fun (s:Bool × β) x=>(s.1 && p s.2 x,nx s.2 x)) (false,b)).1=false
 | [],_=>rfl
 | x :: xs,b=>by simp only [List.foldl_cons,Bool.false_and];exact ZbS xs _
theorem Zxm {α β:Type} {p:β→α→Bool} {nx:β→α→β} {b0:β} {xs:List α} {k:Nat} (h:(scn p nx b0 (xs.take k)).1=false):(scn p nx b0 xs).1=false:=by
 have e:xs=xs.take k ++ xs.drop k:=(List.take_append_drop k xs).symm
 have:scn p nx b0 xs=(xs.drop k).foldl (fun s x=>(s.1 && p s.2 x,nx s.2 x)) (scn p nx b0 (xs.take k)):=by
  conv=>lhs;rw [e,scn,List.foldl_append]
  rfl
 rw [this]
 rcases hs:scn p nx b0 (xs.take k) with ⟨b,c⟩
 rw [hs] at h
 simp only at h
 subst h
 exact ZbS _ _
theorem ZfT {α β:Type} {p:β→α→Bool} {nx:β→α→β} {b0:β} {xs:List α} {k:Nat} {x:α} (hx:xs[k]? = some x) (h:p (scn p nx b0 (xs.take k)).2 x=false):(scn p nx b0 xs).1=false:=
 Zxm (k:=k+1) (by rw [Zog hx,h,Bool.and_false])
theorem ZcN {α β:Type} {p:β→α→Bool} {nx:β→α→β} {b0 b:β} {xs:List α} {k:Nat} {x:α} (hx:xs[k]? = some x) (hs:scn p nx b0 (xs.take k)=(true,b)) (h:p b x=true):scn p nx b0 (xs.take (k+1))=(true,nx b x):=by
 rw [Zog hx,hs];simp [h]
theorem Zew {α β:Type} {p:β→α→Bool} {nx:β→α→β} {b0 b:β} {xs:List α} {k:Nat} (hs:scn p nx b0 (xs.take k)=(true,b)) (hk:xs.length≤k):scn p nx b0 xs=(true,b):=by
 rwa [List.take_of_length_le hk] at hs
def Zc0 (b:Int) (m:DMail):Bool:=ZbU m && decide (b<m.uid)
def Zdc (ms:List DMail):Bool × Int:=scn Zc0 (fun _ m=>m.uid) 0 ms
def Zbq (b:DBox):Bool:=(Zdc b.mail).1 && (decide ((Zdc b.mail).2+1≤b.next) && decide (b.next≤100)) && decide (b.mail.length≤10)
def ZbR (ms:List DMail):Nat:=(ms.map (·.text.length)).sum
theorem Zh0 {ms:List DMail} {k:Nat} {x:DMail} (hx:ms[k]? = some x):ZbR (ms.take (k+1))=ZbR (ms.take k)+x.text.length:=by
 have:ms.take (k+1)=ms.take k ++ [x]:=by rw [List.take_add_one,hx];rfl
 simp [ZbR,this]
theorem Zgx {b:DBox} (h:(Zdc b.mail).1=false):Zbq b=false:=by simp [Zbq,h]
theorem Zgw {b:DBox} {l:Int} (h:Zdc b.mail=(true,l)):Zbq b=((decide (l+1≤b.next) && decide (b.next≤100)) && decide (b.mail.length≤10)):=by simp [Zbq,h]
theorem Zjg {m:DMail} (h:ZbU m=true):0≤m.uid∧m.uid≤99:=by
 simp only [ZbU,Bool.and_eq_true,decide_eq_true_eq] at h;omega
theorem Zi4 {ms:List DMail} {k n:Nat} (h:n=ZbR (ms.take k)) (hk:ms.length≤k):n=ZbR ms:=by rwa [List.take_of_length_le hk] at h
def ZdZ (b:DBox):Int:=if Zbq b then (ZbR b.mail:Int) else -1
def anyone:Str:=[97,110,121,111,110,101]
def Zc2 (u:DUser):Bool:=Zaj u.name && decide (u.name≠anyone) && Zaj u.pass && (decide (0≤u.quota) && decide (u.quota≤200))
theorem ZbH :∀(a b:Str),Op.bytesLess a b = !(Op.bytesLess b a || decide (b=a))
 | [],[]=>by simp [Op.bytesLess]
 | [],_ :: _=>by simp [Op.bytesLess]
 | _ :: _,[]=>by simp [Op.bytesLess]
 | a :: x,b :: y=>by
  have ih:=ZbH x y
  simp only [Op.bytesLess,ih]
  rcases UInt8.lt_or_lt_of_ne (a:=a) (b:=b) with h
  by_cases e:a=b
  ·subst e
   have : ¬ a<a:=UInt8.lt_irrefl a
   simp [this,ih]
  ·rcases h e with h | h
   ·have h2 : ¬ b<a:=UInt8.lt_asymm h
    simp [h,h2,e,Ne.symm e]
   ·have h2 : ¬ a<b:=UInt8.lt_asymm h
    simp [h,h2,e]
def ZeN (b:Str) (u:DUser):Bool:=Zc2 u && Op.bytesLess b u.name
def Zeo (us:List DUser):Bool × Str:=scn ZeN (fun _ u=>u.name) [] us
def ZaJ (us:List DUser):Bool:=(Zeo us).1 && (decide (1≤us.length) && decide (us.length≤4))
theorem ZfJ {us:List DUser} (h:(Zeo us).1=false):ZaJ us=false:=by simp [ZaJ,h]
theorem ZhU {us:List DUser} {b:Str} (h:Zeo us=(true,b)):ZaJ us=(decide (1≤us.length) && decide (us.length≤4)):=by simp [ZaJ,h]
def ZrH:DUser:=⟨[],[],0⟩
def ZhB (t:DUser→Bool) (us:List DUser):DUser × Bool:=match us.find? t with | some x=>(x,true) | none=>(ZrH,false)
theorem Zl9 {α:Type} {t:α→Bool} {xs:List α} (h :∀y,y∈xs→t y=false):xs.find? t=none:=List.find?_eq_none.2 fun y hy=>by simp [h y hy]
theorem Zvt {α:Type} {t:α→Bool} {xs:List α} {k:Nat} {x:α} (hx:xs[k]? = some x) (ht:t x=true) (h :∀y,y∈xs.take k→t y=false):xs.find? t=some x:=by
 have hlt:=(List.getElem?_eq_some_iff.1 hx).1
 have e:xs=xs.take k ++ (x :: xs.drop (k+1)):=by
  rw [← (List.getElem?_eq_some_iff.1 hx).2,← List.drop_eq_getElem_cons hlt,List.take_append_drop]
 rw [e,List.find?_append,Zl9 h];simp [ht]
theorem ZsQ {t:DUser→Bool} {us:List DUser} {k:Nat} {x:DUser} (hx:us[k]? = some x) (ht:t x=true) (h :∀y,y∈us.take k→t y=false):ZhB t us=(x,true):=by simp [ZhB,Zvt hx ht h]
theorem Zp4 {t:DUser→Bool} {us:List DUser} (h :∀y,y∈us→t y=false):ZhB t us=(ZrH,false):=by simp [ZhB,Zl9 h]
theorem ZjQ {B:Kn} {b:Nat} {T:TypeId} {vs:List Value} (h :∀p,p∈ZP b vs T→B.mem p.1=some p.2):Zam B b 0 vs:=fun L j u hu=>
 ⟨rfl,vs.toArray,T,(0,0),.inl (h (b,.cells vs.toArray T) (List.mem_singleton.2 rfl)),by simpa using hu⟩
def ZaO (us:List DUser) (n:Str):DUser × Bool:=if ZaJ us then ZhB (fun y=>decide (y.name=n)) us else (ZrH,false)
def inF (o n:Str) (f:DFolder):Bool:=decide (f.owner=o) && decide (f.name=n)
def Zde (us:List DUser) (x:DItem):Bool:=(ZaO us x.fr).2 && x.left.all fun n=>(ZaO us n).2
theorem Zb1 {α:Type} {p:α→Bool} {xs:List α} {k:Nat} {x:α} (hx:xs[k]? = some x) (h:p x=false):xs.all p=false:=by
 rw [List.all_eq_false];exact ⟨x,List.mem_of_getElem? hx,by simp [h]⟩
theorem ZdP {α:Type} {p:α→Bool} {xs:List α} (h :∀y,y∈xs→p y=true):xs.all p=true:=List.all_eq_true.2 h
def Zgp (a b:DFolder):Bool:=Op.bytesLess a.owner b.owner || (decide (a.owner=b.owner) && Op.bytesLess a.name b.name)
theorem ZdM (a:Str):Op.bytesLess a a=false:=by
 have:=ZbH a a
 cases h:Op.bytesLess a a with
 | false=>rfl
 | true=>rw [h] at this;simp at this
end Go.BL
namespace Go.BL
open Go
inductive Prev {α β:Type} (f:α→β) (z:β) (xs:List α):Nat→β→Prop
 | zero:Prev f z xs 0 z
 | succ {k:Nat} {x:α} : xs[k]? = some x→Prev f z xs (k+1) (f x)
theorem Prev.at {α β:Type} {f:α→β} {z:β} {xs:List α} {k:Nat} {b:β} {y:α} (h:Prev f z xs k b) (hy:xs[((k:Int) - 1).toNat]? = some y) (hk:0<(k:Int)):b=f y:=by
 cases h with
 | zero=>omega
 | succ hx=>
  rename_i k x
  rw [show (((k+1:Nat):Int) - 1).toNat=k from by omega,hx] at hy
  cases hy;rfl
theorem Prev.at0 {α β:Type} {f:α→β} {z:β} {xs:List α} {k:Nat} {b:β} (h:Prev f z xs k b) (hk:(k:Int)≤0):b=z:=by
 cases h with
 | zero=>rfl
 | succ hx=>omega
theorem ZjN {α β:Type} {p:β→α→Bool} {nx:β→α→β} {b0 b:β} {xs:List α} {k:Nat} {x:α} (hx:xs[k]? = some x) (hs:scn p nx b0 (xs.take k)=(true,b)) (h:p b x=false):(scn p nx b0 xs).1=false:=
 ZfT hx (by rw [congrArg Prod.snd hs];exact h)
theorem Zdn {us:List DUser} {k:Nat} {x:DUser} {nm:Str} (hx:us[k]? = some x) (hs:Zeo (us.take k)=(true,nm)) (h:ZeN nm x=false):ZaJ us=false:=
 ZfJ (ZjN hx hs h)
theorem Zoy {s:Str} (h:0<s.length):Op.bytesLess [] s=true:=by
 cases s with
 | nil=>cases h
 | cons a s=>rfl
theorem Zjb {s:Str} (h:Zaj s=true):0<s.length:=by
 cases s with
 | nil=>simp [Zaj] at h
 | cons a s=>simp
def Zce (b:Str) (g:DGrant):Bool:=Zaj g.user && (decide (1≤g.rights) && decide (g.rights≤63)) && Op.bytesLess b g.user
def ZcW (gs:List DGrant):Bool × Str:=scn Zce (fun _ g=>g.user) [] gs
def ZdF (gs:List DGrant):Bool:=(ZcW gs).1 && decide (gs.length≤4)
theorem ZdB {gs:List DGrant} {k:Nat} {x:DGrant} {nm:Str} (hx:gs[k]? = some x) (hs:ZcW (gs.take k)=(true,nm)) (h:Zce nm x=false):ZdF gs=false:=by
 rw [ZdF,show (ZcW gs).1=false from ZjN hx hs h,Bool.false_and]
theorem Zmz {gs:List DGrant} {b:Str} (h:ZcW gs=(true,b)):ZdF gs=decide (gs.length≤4):=by rw [ZdF,h,Bool.true_and]
def DFolder.box (f:DFolder):DBox:=⟨f.next,f.mail⟩
def inbox:Str:=[105,110,98,111,120]
def Zae (us:List DUser) (f:DFolder):Bool:=decide (0≤Zhn us f.owner) && Zaj f.name && ZdF f.grants && Zbq f.box
def ZbC (us:List DUser) (b:Option DFolder) (f:DFolder):Bool:=Zae us f && (match b with | none=>true | some y=>Zgp y f)
def Zdk (us:List DUser) (fs:List DFolder):Bool × Option DFolder:=scn (ZbC us) (fun _ f=>some f) none fs
def Zct (us:List DUser) (fs:List DFolder):Bool:=(Zdk us fs).1 && decide (fs.length≤8)
theorem Zcs {us:List DUser} {fs:List DFolder} {k:Nat} {x:DFolder} {b:Option DFolder} (hx:fs[k]? = some x) (hs:Zdk us (fs.take k)=(true,b)) (h:ZbC us b x=false):Zct us fs=false:=by
 rw [Zct,show (Zdk us fs).1=false from ZjN hx hs h,Bool.false_and]
theorem Zkn {us:List DUser} {fs:List DFolder} {b:Option DFolder} (h:Zdk us fs=(true,b)):Zct us fs=decide (fs.length≤8):=by rw [Zct,h,Bool.true_and]
def Zgb (fs:List DFolder) (u:Str):Nat:=(fs.map fun f=>if f.owner=u then ZbR f.mail else 0).sum
theorem ZiZ {fs:List DFolder} {u:Str} {k:Nat} {x:DFolder} (hx:fs[k]? = some x):Zgb (fs.take (k+1)) u=Zgb (fs.take k) u+if x.owner=u then ZbR x.mail else 0:=by
 have:fs.take (k+1)=fs.take k ++ [x]:=by rw [List.take_add_one,hx];rfl
 simp [Zgb,this]
theorem ZqQ {fs:List DFolder} {u:Str} {k n:Nat} (h:n=Zgb (fs.take k) u) (hk:fs.length≤k):n=Zgb fs u:=by rwa [List.take_of_length_le hk] at h
def ZlU (us:List DUser) (ns:List Str):Bool:=ns.all fun n=>decide (0≤Zhn us n)
def Zbs (fs:List DFolder) (u:DUser):Bool:=decide (0≤Zb5 (inF u.name inbox) fs) && decide ((Zgb fs u.name:Int)≤u.quota)
def Za3 (us:List DUser) (x:DItem):Bool:=decide (0≤Zhn us x.fr) && ZlU us x.left
def ZaB (h:DHost):Bool:=ZcY h.domain && ZaJ h.users && Zbg h.queue && Zct h.users h.folders && h.users.all (Zbs h.folders) && h.queue.items.all (Za3 h.users)
theorem ZaN {B:Kn} {q:Option Addr} {cp:Nat} {ms:List DMail} (h:SlK B q cp 3 Zah ms):ZbR ms≤4000000000000:=by
 have h1 :∀m,m∈ms→m.text.length≤2000000:=fun m hm=>by
  obtain ⟨i,hi⟩:=List.mem_iff_getElem?.1 hm
  obtain ⟨b,o,row,_,h2,_⟩:=h.rows i m hi
  exact h2.2
 have h2 :∀l:List DMail,(∀m,m∈l→m.text.length≤2000000)→ZbR l≤l.length*2000000:=by
  intro l
  induction l with
  | nil=>intro _;simp [ZbR]
  | cons m l ih=>
   intro hl
   have:=ih fun y hy=>hl y (List.mem_cons_of_mem _ hy)
   have:=hl m (List.mem_cons_self ..)
   simp only [ZbR,List.map_cons,List.sum_cons,List.length_cons] at *
   omega
 have:=h2 ms h1
 have:=h.len
 omega
theorem Zik {h:DHost} {k:Nat} {u:DUser} (hu:h.users[k]? = some u) (hf:Zbs h.folders u=false):ZaB h=false:=by
 rw [ZaB,Zb1 hu hf,Bool.and_false,Bool.false_and]
theorem Zil {h:DHost} {k:Nat} {y:DItem} (hy:h.queue.items[k]? = some y) (hf:Za3 h.users y=false):ZaB h=false:=by
 rw [ZaB,Zb1 hy hf,Bool.and_false]
theorem ZpU {h:DHost} (h1:ZcY h.domain=true) (h2:ZaJ h.users=true) (h3:Zbg h.queue=true) (h4:Zct h.users h.folders=true) (h5:h.users.all (Zbs h.folders)=true) (h6:h.queue.items.all (Za3 h.users)=true):ZaB h=true:=by
 rw [ZaB,h1,h2,h3,h4,h5,h6];rfl
theorem Zk6 {fs:List DFolder} {u:DUser} (h:Zb5 (inF u.name inbox) fs<0):Zbs fs u=false:=by
 rw [Zbs,decide_eq_false (by omega),Bool.false_and]
theorem Zk5 {fs:List DFolder} {u:DUser} (h:u.quota<Zgb fs u.name):Zbs fs u=false:=by
 rw [Zbs,decide_eq_false (p:=(Zgb fs u.name:Int)≤u.quota) (by omega),Bool.and_false]
theorem Zk4 {fs:List DFolder} {u:DUser} (h:0≤Zb5 (inF u.name inbox) fs) (h':(Zgb fs u.name:Int)≤u.quota):Zbs fs u=true:=by
 rw [Zbs,decide_eq_true h,decide_eq_true h'];rfl
theorem Zke {us:List DUser} {x:DItem} (h:Zhn us x.fr<0):Za3 us x=false:=by rw [Za3,decide_eq_false (by omega),Bool.false_and]
theorem Zkd {us:List DUser} {x:DItem} (h:ZlU us x.left=false):Za3 us x=false:=by rw [Za3,h,Bool.and_false]
theorem Zkc {us:List DUser} {x:DItem} (h:0≤Zhn us x.fr) (h':ZlU us x.left=true):Za3 us x=true:=by rw [Za3,decide_eq_true h,h'];rfl
theorem Zfg :∀{a b c:Str},Op.bytesLess a b=true→Op.bytesLess b c=true→Op.bytesLess a c=true
 | [],[],_,h,_=>by simp [Op.bytesLess] at h
 | _ :: _,[],_,h,_=>by simp [Op.bytesLess] at h
 | _,_ :: _,[],_,h=>by simp [Op.bytesLess] at h
 | [],_ :: _,_ :: _,_,_=>by simp [Op.bytesLess]
 | a :: x,b :: y,c :: z,h,h'=>by
  simp only [Op.bytesLess,Bool.or_eq_true,decide_eq_true_eq,Bool.and_eq_true,beq_iff_eq] at h h' ⊢
  rcases h with h | ⟨rfl,h⟩
  ·rcases h' with h' | ⟨rfl,h'⟩
   ·exact .inl (UInt8.lt_trans h h')
   ·exact .inl h
  ·rcases h' with h' | ⟨rfl,h'⟩
   ·exact .inl h'
   ·exact .inr ⟨rfl,Zfg h h'⟩
def ZeZ (gs:List DGrant):List (Str × Int):=gs.map fun g=>(g.user,g.rights)
theorem Zhs :∀(xs:List DGrant) (b0 b:Str),xs.foldl (fun s x=>(s.1 && Zce s.2 x,x.user)) (true,b0)=(true,b)→(∀y,y∈xs→y.user=b∨Op.bytesLess y.user b=true)∧(b=b0∨Op.bytesLess b0 b=true)
 | [],b0,b,h=>by
  cases h;exact ⟨by simp,.inl rfl⟩
 | x :: xs,b0,b,h=>by
  simp only [List.foldl_cons,Bool.true_and] at h
  cases hp:Zce b0 x with
  | false=>
   rw [hp] at h
   have:=ZbS (p:=Zce) (nx:=fun _ g=>g.user) xs x.user
   rw [h] at this;cases this
  | true=>
   rw [hp] at h
   obtain ⟨h1,h2⟩:=Zhs xs x.user b h
   have hl:Op.bytesLess b0 x.user=true:=by
    simp only [Zce,Bool.and_eq_true] at hp;exact hp.2
   refine ⟨fun y hy=>?_,.inr ?_⟩
   ·rcases List.mem_cons.1 hy with rfl | hy
    ·rcases h2 with h2 | h2
     ·exact .inl h2.symm
     ·exact .inr h2
    ·exact h1 y hy
   ·rcases h2 with rfl | h2
    ·exact hl
    ·exact Zfg hl h2
theorem ZuT {kvs:List (Str × Int)} {k:Str} {v:Int} (h:k ∉ kvs.map (·.1)):mput kvs k v=kvs ++ [(k,v)]:=by
 induction kvs with
 | nil=>rfl
 | cons p r ih=>
  simp only [List.map_cons,List.mem_cons,not_or] at h
  simp only [mput,if_neg h.1,ih h.2,List.cons_append]
theorem ZxQ {gs:List DGrant} {k:Nat} {m:DGrant} {nm:Str} (hm:gs[k]? = some m) (hs:ZcW (gs.take k)=(true,nm)) (hl:Op.bytesLess nm m.user=true):mput (ZeZ (gs.take k)) m.user m.rights=ZeZ (gs.take (k+1)):=by
 have h1:=(Zhs _ _ _ hs).1
 rw [ZuT]
 ·rw [ZeZ,ZeZ,List.take_add_one,hm];simp
 ·intro hc
  simp only [ZeZ,List.map_map,List.mem_map,Function.comp] at hc
  obtain ⟨y,hy,e⟩:=hc
  rcases h1 y hy with h | h
  ·rw [← e,h,ZdM] at hl;cases hl
  ·rw [e] at h
   have:=Zfg hl h
   rw [ZdM] at this;cases this
def ZnV (gs:List DGrant) (B:Kn):Value→Kn→List Cells→Prop:=fun v B' Ls=>∃m l,v = .tuple #[.map m,.bool (ZdF gs)]∧Ls=[l]∧B'=B∧(ZdF gs=true→∃b,m=some b∧ZyQ l b (ZeZ gs))
theorem Ziy {P:PJ} {S:Env} {B:Kn} {L:List Cells} {rs:List ResultVar} {gs:List DGrant} (e:Exit) (he:e = .ret∨e = .normal) (vs:List Value) (hr:Zcb P S B L rs vs) (h:ZdF gs=false) (hv:Zc4 vs = .tuple #[.map none,.bool false]:=by rfl):Zgz P rs (ZnV gs B) e S [] B L:=
 ZFh e he vs hr ⟨none,[],by rw [hv,h],rfl,rfl,fun hc=>by rw [h] at hc;cases hc⟩
theorem ZyB {P:PJ} {S:Env} {B:Kn} {L:List Cells} {rs:List ResultVar} {gs:List DGrant} (e:Exit) (he:e = .ret∨e = .normal) (vs:List Value) {b:Nat} {l:Cells} {r:List Cells} (hp:ZaA L [0]=some ([l],r)) (hr:Zcb P S B L rs vs) (h:ZdF gs=true) (hm:ZyQ l b (ZeZ gs)) (hv:Zc4 vs = .tuple #[.map (some b),.bool true]:=by rfl):Zgz P rs (ZnV gs B) e S [] B L:=
 Zdh e he vs [0] hp hr ⟨some b,l,by rw [hv,h],rfl,rfl,fun _=>⟨b,rfl,hm⟩⟩
def ZAM (f:DFolder) (ow nm:Str):Int:=if Lib.compareBytes f.owner ow≠0 then Lib.compareBytes f.owner ow else Lib.compareBytes f.name nm
theorem Zmi (f g:DFolder):0≤ZAM f g.owner g.name↔Zgp f g=false:=by
 have h1:=ZnO f.owner g.owner
 have h2:=ZnO f.name g.name
 unfold ZAM Zgp
 by_cases e:f.owner=g.owner
 ·have e0:=h1.2.2 e
  have e1:Op.bytesLess f.owner g.owner=false:=by rw [e];exact ZdM _
  rw [if_neg (fun h=>h e0),e1,decide_eq_true e,Bool.true_and,Bool.false_or,Bool.eq_false_iff,ne_eq,← h2.1];omega
 ·have e0:Lib.compareBytes f.owner g.owner≠0:=fun h=>e (h1.2.1 h)
  rw [if_pos e0,decide_eq_false e,Bool.false_and,Bool.or_false,Bool.eq_false_iff,ne_eq,← h1.1];omega
def ZfK (fs:List DFolder) (u:Str):Int:=(fs.map fun f=>if f.owner=u then ZdZ ⟨f.next,f.mail⟩ else 0).sum
theorem ZiY {fs:List DFolder} {u:Str} {k:Nat} {x:DFolder} (hx:fs[k]? = some x):ZfK (fs.take (k+1)) u=ZfK (fs.take k) u+if x.owner=u then ZdZ ⟨x.next,x.mail⟩ else 0:=by
 have:fs.take (k+1)=fs.take k ++ [x]:=by rw [List.take_add_one,hx];rfl
 simp [ZfK,this]
theorem ZqP {fs:List DFolder} {u:Str} {k:Nat} {n:Int} (h:n=ZfK (fs.take k) u) (hk:fs.length≤k):n=ZfK fs u:=by rwa [List.take_of_length_le hk] at h
theorem ZoB :∀(xs:List DMail) (b0 b:Int),xs.foldl (fun s x=>(s.1 && Zc0 s.2 x,x.uid)) (true,b0)=(true,b)→∀y,y∈xs→ZbU y=true
 | [],_,_,_,_,h=>by cases h
 | x :: xs,b0,b,h,y,hy=>by
  simp only [List.foldl_cons,Bool.true_and] at h
  cases hp:Zc0 b0 x with
  | false=>
   rw [hp] at h
   have:=ZbS (p:=Zc0) (nx:=fun _ m=>m.uid) xs x.uid
   rw [h] at this;cases this
  | true=>
   rw [hp] at h
   rcases List.mem_cons.1 hy with rfl | hy
   ·simp only [Zc0,Bool.and_eq_true] at hp;exact hp.1
   ·exact ZoB xs x.uid b h y hy
theorem ZaL {b:DBox} (h:Zbq b=true):(∀y,y∈b.mail→ZbU y=true)∧b.mail.length≤10:=by
 simp only [Zbq,Bool.and_eq_true,decide_eq_true_eq] at h
 exact ⟨ZoB b.mail 0 (Zdc b.mail).2 (Prod.ext h.1.1 rfl),h.2⟩
theorem Zh1 :∀l:List DMail,(∀m,m∈l→ZbU m=true)→ZbR l≤l.length*20
 | [],_=>by simp [ZbR]
 | m :: l,h=>by
  have h1:=Zh1 l fun y hy=>h y (List.mem_cons_of_mem _ hy)
  have h2:=h m (List.mem_cons_self ..)
  simp only [ZbU,Bool.and_eq_true,decide_eq_true_eq] at h2
  simp only [ZbR,List.map_cons,List.sum_cons,List.length_cons] at *
  omega
theorem Zjy (b:DBox) : -1≤ZdZ b∧ZdZ b≤200:=by
 unfold ZdZ
 split
 ·rename_i h
  obtain ⟨h1,h2⟩:=ZaL h
  have:=Zh1 _ h1
  omega
 ·omega
theorem Zt5 (fs:List DFolder) (u:Str) : -1*fs.length≤ZfK fs u∧ZfK fs u≤fs.length*200:=by
 induction fs with
 | nil=>simp [ZfK]
 | cons f fs ih=>
  have:=Zjy ⟨f.next,f.mail⟩
  simp only [ZfK,List.map_cons,List.sum_cons,List.length_cons] at *
  split <;> omega
def ZeB (x:DHost) (u:Str) (more:Int):Bool:=!(ZaO x.users u).2 || decide ((ZaO x.users u).1.quota<ZfK x.folders u+more)
def ZcM (x:DHost) (w:DUser):Bool:=decide (0≤Zb5 (inF w.name inbox) x.folders) && !ZeB x w.name 0
theorem Zk9 {x:DHost} {w:DUser} (h:Zb5 (inF w.name inbox) x.folders<0):ZcM x w=false:=by rw [ZcM,decide_eq_false (by omega),Bool.false_and]
theorem Zk8 {x:DHost} {w:DUser} (h:ZeB x w.name 0=true):ZcM x w=false:=by rw [ZcM,h];simp
theorem Zk7 {x:DHost} {w:DUser} (h:0≤Zb5 (inF w.name inbox) x.folders) (h':ZeB x w.name 0=false):ZcM x w=true:=by rw [ZcM,h',decide_eq_true h];rfl
def ZhV (x:DHost):Bool:=x.users.all (ZcM x)
def Za8:Rel Bool:=fun _ row x=>row=[.bool x]
theorem Za8.mono:Mono Za8:=fun _ _ _ h=>h
def ZaP (us:List DUser) (f:DFolder):Bool:=(ZaO us f.owner).2 && Zaj f.name && ZdF f.grants && Zbq f.box
theorem ZhE (C i:Nat):(some (ptr (Addr.add ⟨C,0,none⟩ ((i:Int).toNat*1))):Option Value)=some (ptr ⟨C,i,none⟩):=by
 rw [Addr.add_off _ _ rfl];simp
def ZtF (x:DHost) (i:Nat):Value:=.bool (match x.folders[i]? with | some m=>ZaP x.users m | none=>false)
theorem Zoa {x:DHost} {i:Nat} {m:DFolder} (h:x.folders[i]? = some m):ZtF x i = .bool (ZaP x.users m):=by simp [ZtF,h]
theorem ZqN {B:Kn} {x:DHost} {C:Nat} {T:TypeId} (hm :∀p,p∈[(C,Obj.cells ((List.range x.folders.length).map (ZtF x)).toArray T (0,0))]→B.mem p.1=some p.2) (hl:x.folders.length≤2000000):SlK B (some ⟨C,0,none⟩) (x.folders.map (ZaP x.users)).length 1 Za8 (x.folders.map (ZaP x.users)):=by
 refine ⟨fun i y hy=>⟨C,0,[.bool y],rfl,rfl,fun j u hu=>?_⟩,by simp,by simpa using hl⟩
 have hj:j=0:=by
  cases j with
  | zero=>rfl
  | succ j=>simp at hu
 subst hj
 simp only [List.getElem?_cons_zero,Option.some.injEq] at hu
 subst hu
 rw [List.getElem?_map] at hy
 obtain ⟨m,hm',rfl⟩:=Option.map_eq_some_iff.1 hy
 have hi:i<x.folders.length:=(List.getElem?_eq_some_iff.1 hm').1
 refine ⟨rfl,_,T,(0,0),.inl (hm _ (List.mem_singleton.2 rfl)),?_⟩
 simp only [Nat.mul_one,Nat.zero_add,Nat.add_zero,List.getElem?_toArray,List.getElem?_map,List.getElem?_range hi,Option.map_some,Zoa hm']
theorem ZkM {us:List DUser} {fs:List DFolder} : (!decide (0≤Zb5 (fun y=>decide (false=y)) (fs.map (ZaP us))))=fs.all (ZaP us):=by
 by_cases h :∀f,f∈fs→ZaP us f=true
 ·rw [List.all_eq_true.2 h,Zec (fun y hy=>by
   obtain ⟨f,hf,rfl⟩:=List.mem_map.1 hy
   simp [h f hf])]
  rfl
 ·have h2:fs.all (ZaP us)=false:=by
   rw [Bool.eq_false_iff,ne_eq,List.all_eq_true];exact h
  rw [h2]
  have h3 :∃k,(fs.map (ZaP us)).findIdx? (fun y=>decide (false=y))=some k:=by
   cases hk:(fs.map (ZaP us)).findIdx? (fun y=>decide (false=y)) with
   | some k=>exact ⟨k,rfl⟩
   | none=>
    exfalso;apply h
    intro f hf
    have:=List.findIdx?_eq_none_iff.1 hk (ZaP us f) (List.mem_map_of_mem hf)
    cases hq:ZaP us f with
    | true=>rfl
    | false=>rw [hq] at this;simp at this
  obtain ⟨k,hk⟩:=h3
  have e:Zb5 (fun y=>decide (false=y)) (fs.map (ZaP us))=(k:Int):=by unfold Zb5;rw [hk]
  rw [e];simp
def Zoq:List DFolder→Bool
 | []=>true
 | [_]=>true
 | a :: b :: r=>Zgp a b && Zoq (b :: r)
def Zdu (x:DHost):Bool:=ZcY x.domain && ZaJ x.users && Zbg x.queue && decide (x.folders.length≤8) && Zoq x.folders && (x.folders.all (ZaP x.users) && ZhV x && x.queue.items.all (Zde x.users))
def Zv4 (fs:List DFolder) (k:Nat):Prop:=∀i a b,i<k→fs[i]? = some a→fs[i+1]? = some b→Zgp a b=true
theorem Zps {fs:List DFolder} : Zv4 fs 0:=fun i a b h=>by omega
theorem Zpt {fs:List DFolder} {k:Nat} {x y:DFolder} (h:Zv4 fs k) (hx:fs[k]? = some x) (hy:fs[k+1]? = some y) (hl:Zgp x y=true):Zv4 fs (k+1):=fun i a b hi ha hb=>by
 rcases Nat.lt_or_ge i k with h' | h'
 ·exact h i a b h' ha hb
 ·obtain rfl:i=k:=by omega
  rw [hx] at ha;rw [hy] at hb
  cases ha;cases hb;exact hl
theorem ZjU :∀(fs:List DFolder),Zoq fs=true↔∀i a b,fs[i]? = some a→fs[i+1]? = some b→Zgp a b=true
 | []=>by simp [Zoq]
 | [_]=>by simp [Zoq]
 | x :: y :: r=>by
  rw [Zoq,Bool.and_eq_true,ZjU (y :: r)]
  constructor
  ·rintro ⟨h1,h2⟩ i a b ha hb
   cases i with
   | zero=>simp at ha hb;rw [← ha,← hb];exact h1
   | succ i=>exact h2 i a b (by simpa using ha) (by simpa using hb)
  ·intro h
   exact ⟨h 0 x y rfl rfl,fun i a b ha hb=>h (i+1) a b (by simpa using ha) (by simpa using hb)⟩
theorem ZuG {fs:List DFolder} {k:Nat} {x y:DFolder} (hx:fs[k]? = some x) (hy:fs[k+1]? = some y) (hl:Zgp x y=false):Zoq fs=false:=by
 rw [Bool.eq_false_iff,ne_eq,ZjU]
 intro h
 have:=h k x y hx hy
 rw [hl] at this;cases this
theorem ZuF {fs:List DFolder} (h :∀i a b,i<fs.length - 1→fs[i]? = some a→fs[i+1]? = some b→Zgp a b=true):Zoq fs=true:=
 (ZjU fs).2 fun i a b ha hb=>h i a b (by have:=(List.getElem?_eq_some_iff.1 hb).1;omega) ha hb
theorem ZfU {α:Type} {p:Str→α→Bool} {f:α→Str} (hp :∀b x,p b x=true→Op.bytesLess b (f x)=true) :∀(xs:List α) (b0 b:Str),xs.foldl (fun s x=>(s.1 && p s.2 x,f x)) (true,b0)=(true,b)→(∀y,y∈xs→Op.bytesLess b0 (f y)=true)∧xs.Pairwise (fun x y=>Op.bytesLess (f x) (f y)=true)
 | [],_,_,_=>⟨by simp,.nil⟩
 | x :: xs,b0,b,h=>by
  simp only [List.foldl_cons,Bool.true_and] at h
  cases hq:p b0 x with
  | false=>
   rw [hq] at h
   have:=ZbS (p:=p) (nx:=fun _ g=>f g) xs (f x)
   rw [h] at this;cases this
  | true=>
   rw [hq] at h
   obtain ⟨h1,h2⟩:=ZfU hp xs (f x) b h
   refine ⟨fun y hy=>?_,.cons h1 h2⟩
   rcases List.mem_cons.1 hy with rfl | hy
   ·exact hp _ _ hq
   ·exact Zfg (hp _ _ hq) (h1 y hy)
theorem ZiP {us:List DUser} (h:ZaJ us=true):us.Pairwise fun x y=>Op.bytesLess x.name y.name=true:=by
 simp only [ZaJ,Bool.and_eq_true] at h
 exact (ZfU (p:=ZeN) (f:=fun u=>u.name) (fun b x hq=>by simp only [ZeN,Bool.and_eq_true] at hq;exact hq.2) us [] (Zeo us).2 (Prod.ext h.1 rfl)).2
theorem Zii {us:List DUser} {u:Str} : 0≤Zhn us u↔∃x,x∈us∧x.name=u:=by
 unfold Zhn
 cases h:us.findIdx? (fun x=>decide (x.name=u)) with
 | none=>
  have:=List.findIdx?_eq_none_iff.1 h
  simp only [decide_eq_false_iff_not] at this
  exact ⟨fun hc=>absurd hc (by simp only [];omega),fun ⟨x,hx,e⟩=>absurd e (this x hx)⟩
 | some i=>
  rw [List.findIdx?_eq_some_iff_getElem] at h
  obtain ⟨hi,h1,_⟩:=h
  exact ⟨fun _=>⟨us[i],List.getElem_mem hi,by simpa using h1⟩,fun _=>by simp only [];omega⟩
theorem ZsP {us:List DUser} {t:DUser→Bool} : (ZhB t us).2=true↔∃x,x∈us∧t x=true:=by
 unfold ZhB
 cases h:us.find? t with
 | none=>simp only [Bool.false_eq_true,false_iff];rintro ⟨x,hx,e⟩;have:=List.find?_eq_none.1 h x hx;exact this e
 | some x=>simp only [true_iff];exact ⟨x,List.mem_of_find?_eq_some h,List.find?_some h⟩
theorem ZdH {us:List DUser} (h:ZaJ us=true) (n:Str):(ZaO us n).2=decide (0≤Zhn us n):=by
 rw [ZaO,if_pos h,Bool.eq_iff_iff,ZsP,decide_eq_true_eq,Zii];simp
theorem Ziw :∀{us:List DUser},us.Pairwise (fun x y=>Op.bytesLess x.name y.name=true)→∀w,w∈us→us.find? (fun y=>decide (y.name=w.name))=some w
 | [],_,w,h=>by cases h
 | x :: us,hp,w,h=>by
  cases hp with
  | cons h1 h2=>
   rw [List.find?_cons]
   rcases List.mem_cons.1 h with rfl | h
   ·simp
   ·have hne:x.name≠w.name:=fun e=>by
     have:=h1 w h
     rw [e,ZdM] at this;cases this
    simp only [hne,decide_false]
    exact Ziw h2 w h
theorem ZjH {us:List DUser} (h:ZaJ us=true) {w:DUser} (hw:w∈us):ZaO us w.name=(w,true):=by
 rw [ZaO,if_pos h,ZhB,Ziw (ZiP h) w hw]
theorem Zp2 {us:List DUser} (h:ZaJ us=true) (f:DFolder):ZaP us f=Zae us f:=by
 rw [ZaP,Zae,ZdH h]
theorem ZeI {us:List DUser} :∀(fs:List DFolder) (b0:Option DFolder),(fs.foldl (fun s x=>(s.1 && ZbC us s.2 x,some x)) (true,b0)).1=(fs.all (Zae us) && Zoq ((match b0 with | none=>[] | some y=>[y]) ++ fs))
 | [],none=>rfl
 | [],some y=>rfl
 | x :: fs,b0=>by
  simp only [List.foldl_cons,Bool.true_and]
  have hstep:(fs.foldl (fun (s:Bool × Option DFolder) x=>(s.1 && ZbC us s.2 x,some x)) (ZbC us b0 x,some x)).1=(ZbC us b0 x && (fs.all (Zae us) && Zoq (x :: fs))):=by
   cases hq:ZbC us b0 x with
   | false=>rw [Bool.false_and];exact ZbS (p:=ZbC us) (nx:=fun _ f=>some f) fs (some x)
   | true=>rw [Bool.true_and];exact ZeI fs (some x)
  rw [hstep]
  cases b0 with
  | none=>
   simp only [ZbC,Bool.and_true,List.all_cons,List.nil_append]
   cases Zae us x <;> simp
  | some y=>
   simp only [ZbC,List.all_cons,List.cons_append,List.nil_append,Zoq]
   cases Zae us x <;> cases Zgp y x <;> simp
theorem Ze2 {us:List DUser} {fs:List DFolder} : Zct us fs=(fs.all (Zae us) && Zoq fs && decide (fs.length≤8)):=by
 rw [Zct,show (Zdk us fs).1=_ from ZeI fs none];rfl
theorem Zob {us:List DUser} {u:Str} :∀{fs:List DFolder},fs.all (Zae us)=true→ZfK fs u=(Zgb fs u:Int)
 | [],_=>rfl
 | f :: fs,h=>by
  simp only [List.all_cons,Bool.and_eq_true] at h
  have ih:=Zob (u:=u) h.2
  have hb:Zbq ⟨f.next,f.mail⟩=true:=by
   have:=h.1;simp only [Zae,Bool.and_eq_true] at this;exact this.2
  simp only [ZfK,Zgb,List.map_cons,List.sum_cons] at ih ⊢
  rw [ih]
  by_cases he:f.owner=u
  ·simp [he,ZdZ,hb]
  ·simp [he]
theorem ZmO {x:DHost} (hu:ZaJ x.users=true) (hf:x.folders.all (Zae x.users)=true) {w:DUser} (hw:w∈x.users):ZcM x w=Zbs x.folders w:=by
 rw [ZcM,Zbs,ZeB,ZjH hu hw,Zob hf]
 simp only [Bool.not_true,Bool.false_or,Int.add_zero]
 congr 1
 rw [Bool.eq_iff_iff];simp
theorem Znv {us:List DUser} (h:ZaJ us=true) (y:DItem):Zde us y=Za3 us y:=by
 rw [Zde,Za3,ZdH h,ZlU]
 simp only [ZdH h]
theorem Ztx {α:Type} {p q:α→Bool} {xs:List α} (h :∀x,x∈xs→p x=q x):xs.all p=xs.all q:=by
 rw [Bool.eq_iff_iff,List.all_eq_true,List.all_eq_true]
 exact ⟨fun a x hx=>h x hx ▸ a x hx,fun a x hx=>(h x hx).symm ▸ a x hx⟩
theorem ZpV (x:DHost):Zdu x=ZaB x:=by
 cases hu:ZaJ x.users with
 | false=>simp [Zdu,ZaB,hu]
 | true=>
  have e1:x.folders.all (ZaP x.users)=x.folders.all (Zae x.users):=Ztx fun f _=>Zp2 hu f
  have e2:x.queue.items.all (Zde x.users)=x.queue.items.all (Za3 x.users):=Ztx fun y _=>Znv hu y
  rw [Zdu,ZaB,hu,e1,e2,Ze2]
  cases hf:x.folders.all (Zae x.users) with
  | false=>simp
  | true=>
   have e3:ZhV x=x.users.all (Zbs x.folders):=Ztx fun w hw=>ZmO hu hf hw
   rw [e3]
   cases ZcY x.domain <;> cases Zbg x.queue <;> cases Zoq x.folders <;> cases decide (x.folders.length≤8) <;> simp
end Go.BL
namespace Go.BL
open Go
theorem Zho {x:DHost} (h:ZaB x=true):ZaJ x.users=true:=by
 simp only [ZaB,Bool.and_eq_true] at h;exact h.1.1.1.1.2
theorem ZnB {x:DHost} (h:ZaB x=true) (n:Str):(ZaO x.users n).2=decide (0≤Zhn x.users n):=ZdH (Zho h) n
structure DSess where
 user:Str
 owner:Str
 name:Str
deriving DecidableEq
end Go.BL
namespace Go.BL
open Go
def Zox:DHost:=⟨[],[],[],⟨0,[]⟩⟩
theorem Zm4 {α β:Type} {p:β→α→Bool} {nx:β→α→β} :∀(xs:List α) (b:β),(xs.foldl (fun (s:Bool × β) x=>(s.1 && p s.2 x,nx s.2 x)) (true,b)).1=true→∀x,x∈xs→∃b',p b' x=true
 | [],_,_,x,hx=>by cases hx
 | x :: xs,b,h,y,hy=>by
  simp only [List.foldl_cons,Bool.true_and] at h
  cases hq:p b x with
  | false=>
   rw [hq] at h
   have:=ZbS (p:=p) (nx:=nx) xs (nx b x)
   rw [this] at h;cases h
  | true=>
   rw [hq] at h
   rcases List.mem_cons.1 hy with rfl | hy
   ·exact ⟨b,hq⟩
   ·exact Zm4 xs _ h y hy
theorem Zk1 {us:List DUser} (h:ZaJ us=true) {u:DUser} (hu:u∈us):Zc2 u=true:=by
 simp only [ZaJ,Bool.and_eq_true] at h
 obtain ⟨b,hb⟩:=Zm4 (p:=ZeN) (nx:=fun _ u=>u.name) us [] h.1 u hu
 simp only [ZeN,Bool.and_eq_true] at hb;exact hb.1
theorem Zij {α:Type} (p:α→Bool) (xs:List α):Zb5 p xs<xs.length∧Zb5 p xs ≥ -1:=by
 unfold Zb5
 cases hf:xs.findIdx? p with
 | none=>simp only [];omega
 | some i=>
  rw [List.findIdx?_eq_some_iff_getElem] at hf
  obtain ⟨hi,_⟩:=hf
  simp only [];omega
end Go.BL
namespace Go.BL
open Go
def dig (k:Nat):Str:=[UInt8.ofNat (IntKind.u8.wrap (48+((k % 10:Nat):Int))).toNat]
def digs (k:Nat):Str:=if h:k=0 then [] else digs (k / 10) ++ dig k
termination_by k
decreasing_by omega
theorem Zmf:digs 0=[]:=by unfold digs;rfl
theorem ZoS {k:Nat} (h:0<k):digs k=digs (k / 10) ++ dig k:=by
 conv=>lhs;unfold digs
 rw [dif_neg (by omega)]
theorem ZkD :∀(n k:Nat),k<10 ^ n→(digs k).length≤n
 | n,0,_=>by rw [Zmf];simp
 | 0,k+1,h=>by simp at h
 | n+1,k+1,h=>by
  rw [ZoS (by omega),List.length_append]
  have h1:(k+1) / 10<10 ^ n:=by rw [Nat.pow_succ] at h;omega
  have:=ZkD n _ h1
  simp only [dig,List.length_cons,List.length_nil];omega
def ZU (k:Nat):Str:=if k=0 then [109,48] else 109 :: digs k
theorem Zbi {k:Nat} (h:k≤1000000000000000):(ZU k).length≤20:=by
 unfold ZU
 split
 ·simp
 ·have:=ZkD 16 k (by omega)
  simp only [List.length_cons];omega
theorem Zta {k0 k:Nat} {t:Str} (h:digs k0=digs k ++ t) (hk:0<k):digs k0=digs (k / 10) ++ (dig k ++ t):=by
 rw [h,ZoS hk,List.append_assoc]
theorem ZyH {k0 k:Nat} {t:Str} (h0:k0≤1000000000000000) (h:digs k0=digs k ++ t):t.length≤16:=by
 have h1:=ZkD 16 k0 (by omega)
 rw [h,List.length_append] at h1;omega
theorem Zbe {α:Type} {ys:List α} {i:Nat} {c:α} (h:i<ys.length):(ys.set i c).take (i+1)=ys.take i ++ [c]:=by
 rw [List.take_add_one,List.getElem?_set_self h,List.take_set_of_le (Nat.le_refl _)];rfl
def ZcZ (k n:Nat):List DMail:=(List.range n).map fun i=>⟨((k+3*i:Nat):Int),((k+3*i+1:Nat):Int),ZU (k+3*i+1+1)⟩
theorem Zez (k n:Nat):(ZcZ k n).length=n:=by simp [ZcZ]
theorem ZlF {ys:List DMail} {i k:Nat} {z1 z2 z3:DMail} (ht:ys.take i=ZcZ k i) (h1:ys[i]? = some z1) (h2:(ys.set i ⟨((k+3*i:Nat):Int),z1.flags,z1.text⟩)[i]? = some z2)
  (h3:((ys.set i ⟨((k+3*i:Nat):Int),z1.flags,z1.text⟩).set i ⟨z2.uid,((k+3*i+1:Nat):Int),z2.text⟩)[i]? = some z3) :
  (((ys.set i ⟨((k+3*i:Nat):Int),z1.flags,z1.text⟩).set i ⟨z2.uid,((k+3*i+1:Nat):Int),z2.text⟩).set i ⟨z3.uid,z3.flags,ZU (k+3*i+1+1)⟩).take (i+1)=ZcZ k (i+1):=by
 have hl:=(List.getElem?_eq_some_iff.1 h1).1
 rw [List.getElem?_set_self hl] at h2;cases h2
 rw [List.set_set,List.getElem?_set_self hl] at h3;cases h3
 rw [List.set_set,List.set_set,Zbe hl,ht,ZcZ,ZcZ,List.range_succ,List.map_append];rfl
def Za2 (k n:Nat):List DGrant:=(List.range n).map fun i=>⟨ZU (k+2*i),((k+2*i+1:Nat):Int)⟩
theorem ZdL (k n:Nat):(Za2 k n).length=n:=by simp [Za2]
theorem Zj1 {ys:List DGrant} {i k:Nat} {z1 z2:DGrant} (ht:ys.take i=Za2 k i) (h1:ys[i]? = some z1) (h2:(ys.set i ⟨ZU (k+2*i),z1.rights⟩)[i]? = some z2) :
  ((ys.set i ⟨ZU (k+2*i),z1.rights⟩).set i ⟨z2.user,((k+2*i+1:Nat):Int)⟩).take (i+1)=Za2 k (i+1):=by
 have hl:=(List.getElem?_eq_some_iff.1 h1).1
 rw [List.getElem?_set_self hl] at h2;cases h2
 rw [List.set_set,Zbe hl,ht,Za2,Za2,List.range_succ,List.map_append];rfl
def ZfV (k n:Nat):List DUser:=(List.range n).map fun i=>⟨ZU (k+3*i),ZU (k+3*i+1),((k+3*i+1+1:Nat):Int)⟩
theorem ZlD {ys:List DUser} {i k:Nat} {z1 z2 z3:DUser} (ht:ys.take i=ZfV k i) (h1:ys[i]? = some z1) (h2:(ys.set i ⟨ZU (k+3*i),z1.pass,z1.quota⟩)[i]? = some z2)
  (h3:((ys.set i ⟨ZU (k+3*i),z1.pass,z1.quota⟩).set i ⟨z2.name,ZU (k+3*i+1),z2.quota⟩)[i]? = some z3) :
  (((ys.set i ⟨ZU (k+3*i),z1.pass,z1.quota⟩).set i ⟨z2.name,ZU (k+3*i+1),z2.quota⟩).set i ⟨z3.name,z3.pass,((k+3*i+1+1:Nat):Int)⟩).take (i+1)=ZfV k (i+1):=by
 have hl:=(List.getElem?_eq_some_iff.1 h1).1
 rw [List.getElem?_set_self hl] at h2;cases h2
 rw [List.set_set,List.getElem?_set_self hl] at h3;cases h3
 rw [List.set_set,List.set_set,Zbe hl,ht,ZfV,ZfV,List.range_succ,List.map_append];rfl
def ZeG (k n:Nat):List Str:=(List.range n).map fun i=>ZU (k+1*i)
theorem Zjf (k n:Nat):(ZeG k n).length=n:=by simp [ZeG]
theorem Zne {ys:List Str} {i k:Nat} {z1:Str} (ht:ys.take i=ZeG k i) (h1:ys[i]? = some z1):(ys.set i (ZU (k+1*i))).take (i+1)=ZeG k (i+1):=by
 have hl:=(List.getElem?_eq_some_iff.1 h1).1
 rw [Zbe hl,ht,ZeG,ZeG,List.range_succ,List.map_append];rfl
theorem Zje {α:Type} {ys zs:List α} {i:Nat} (h:ys.take i=zs) (hi:ys.length≤i):ys=zs:=by rwa [List.take_of_length_le hi] at h
end Go.BL
namespace Go.BL
open Go
def Zcw (k:Nat):Int:=([1,2,4,8,16,32]:List Int).getD k 0
theorem Zts {k:Nat} (h:k<6):(k=0∧Zcw k=1)∨(k=1∧Zcw k=2)∨(k=2∧Zcw k=4)∨(k=3∧Zcw k=8)∨(k=4∧Zcw k=16)∨(k=5∧Zcw k=32):=by
 have:k=0∨k=1∨k=2∨k=3∨k=4∨k=5:=by omega
 rcases this with rfl | rfl | rfl | rfl | rfl | rfl <;> simp [Zcw]
theorem Ztr {k:Nat} (h:k<6):0<Zcw k∧Zcw k≤32:=by rcases Zts h with h | h | h | h | h | h <;> omega
theorem Zdi {α:Type} {p:α→Bool} {xs:List α} {k:Nat} {x:α} (hx:xs[k]? = some x):(xs.take (k+1)).any p=((xs.take k).any p || p x):=by
 rw [ZbP hx,List.any_append];simp
theorem Ztv {α:Type} {p:α→Bool} {xs:List α} {k:Nat} {b:Bool} (h:b=(xs.take k).any p) (hk:xs.length≤k):b=xs.any p:=by rwa [List.take_of_length_le hk] at h
def onB (u:Str) (b:Int) (g:DGrant):Bool:=(decide (g.user=u) || decide (g.user=anyone)) && decide (Int.tmod (Int.tdiv g.rights b) 2=1)
def ZfF (gs:List DGrant) (u:Str):Nat→Int
 | 0=>0
 | k+1=>if gs.any (onB u (Zcw k))=true then ZfF gs u k+Zcw k else ZfF gs u k
theorem ZiG (gs:List DGrant) (u:Str) :∀k,k≤6→0≤ZfF gs u k∧ZfF gs u k≤100*k
 | 0,_=>by simp [ZfF]
 | k+1,h=>by
  have:=ZiG gs u k (by omega)
  have:=Ztr (k:=k) (by omega)
  simp only [ZfF]
  split <;> omega
def Zbt (gs:List DGrant) (u:Str):Int:=ZfF gs u 6
def Zmm (f:DFolder) (u:Str) (r:Int):Bool:=decide (u=f.owner) || decide (Int.tmod (Int.tdiv (Zbt f.grants u) r) 2=1)
def Zqb (us:List DUser) (fs:List DFolder) (u:Str) (k:Int) (r:Int):Int:=
 if Zhn us u<0∨k<0 then 1 else match fs[k.toNat]? with
  | none=>1
  | some f=>if Zmm f u 1=false then 1 else if Zmm f u r=false then 2 else 0
theorem ZkG {us:List DUser} {fs:List DFolder} {u:Str} {k r:Int} (h:Zhn us u<0∨k<0):Zqb us fs u k r=1:=by rw [Zqb,if_pos h]
theorem Ztg {us:List DUser} {fs:List DFolder} {u:Str} {k r:Int} {f:DFolder} (h : ¬ (Zhn us u<0∨k<0)) (hf:fs[k.toNat]? = some f):Zqb us fs u k r=if Zmm f u 1=false then 1 else if Zmm f u r=false then 2 else 0:=by
 rw [Zqb,if_neg h,hf]
theorem Zmj {us:List DUser} {fs:List DFolder} {u:Str} {k r:Int} (h:Zqb us fs u k r=0):0≤Zhn us u∧0≤k∧∃f,fs[k.toNat]? = some f∧Zmm f u 1=true∧Zmm f u r=true:=by
 unfold Zqb at h
 split at h
 ·cases h
 ·split at h
  ·cases h
  ·rename_i f hf
   split at h
   ·cases h
   ·split at h
    ·cases h
    ·rename_i h1 h2 h3
     exact ⟨by omega,by omega,f,hf,by simpa using h2,by simpa using h3⟩
def ZbO (n:Int):Bool:=decide (0≤n) && decide (n≤31)
def ZeT (s:DSpan):Bool:=(decide (0≤s.low) && decide (s.low≤99)) && (decide (0≤s.high) && decide (s.high≤99))
def Zdq (s:List DSpan):Bool:=s.all ZeT && (decide (1≤s.length) && decide (s.length≤6))
def ZcC (last n:Int) (s:DSpan):Bool:=decide (min (if s.low=0 then last else s.low) (if s.high=0 then last else s.high)≤n) && decide (n≤max (if s.low=0 then last else s.low) (if s.high=0 then last else s.high))
def Zbz (s:List DSpan) (last n:Int):Bool:=s.any (ZcC last n)
def ZcV (s:List DSpan) (last:Int):Nat→List Int
 | 0=>[]
 | n+1=>if Zbz s last (n+1:Nat)=true then ZcV s last n ++ [((n+1:Nat):Int)] else ZcV s last n
def Zco (s:List DSpan) (last:Int):List Int:=if Zdq s=true then ZcV s (min last 99) (min last 99).toNat else []
def atF (x:DHost) (s:DSess) (r:Int):Int × Int:=
 if Zqb x.users x.folders s.user (Zb5 (inF s.owner s.name) x.folders) 2≠0 then (Zb5 (inF s.owner s.name) x.folders,Zqb x.users x.folders s.user (Zb5 (inF s.owner s.name) x.folders) 2)
 else (Zb5 (inF s.owner s.name) x.folders,Zqb x.users x.folders s.user (Zb5 (inF s.owner s.name) x.folders) r)
def ZiU (x:DHost) (k:Nat):DBox:=match x.folders[k]? with | some f=>f.box | none=>⟨0,[]⟩
end Go.BL
namespace Go.BL
open Go
theorem Zfi {x:DHost} : ZaB x=true↔(ZcY x.domain=true∧ZaJ x.users=true∧Zbg x.queue=true)∧((∀f,f∈x.folders→Zae x.users f=true)∧Zoq x.folders=true∧x.folders.length≤8)∧(∀u,u∈x.users→Zbs x.folders u=true)∧(∀y,y∈x.queue.items→Za3 x.users y=true):=by
 simp only [ZaB,Ze2,Bool.and_eq_true,decide_eq_true_eq,List.all_eq_true]
 constructor
 ·rintro ⟨⟨⟨⟨⟨h1,h2⟩,h3⟩,⟨h4,h5⟩,h6⟩,h7⟩,h8⟩
  exact ⟨⟨h1,h2,h3⟩,⟨h4,h5,h6⟩,h7,h8⟩
 ·rintro ⟨⟨h1,h2,h3⟩,⟨h4,h5,h6⟩,h7,h8⟩
  exact ⟨⟨⟨⟨⟨h1,h2⟩,h3⟩,⟨h4,h5⟩,h6⟩,h7⟩,h8⟩
theorem Zjz {b:DBox} (h:Zbq b=true) :∃l,Zdc b.mail=(true,l)∧l+1≤b.next∧b.next≤100∧b.mail.length≤10:=by
 simp only [Zbq,Bool.and_eq_true,decide_eq_true_eq] at h
 exact ⟨(Zdc b.mail).2,Prod.ext h.1.1 rfl,h.1.2.1,h.1.2.2,h.2⟩
theorem ZjO :∀(xs:List DMail) (b0 b:Int),xs.foldl (fun (s:Bool × Int) x=>(s.1 && Zc0 s.2 x,x.uid)) (true,b0)=(true,b)→b0≤b
 | [],b0,b,h=>by cases h;omega
 | x :: xs,b0,b,h=>by
  simp only [List.foldl_cons,Bool.true_and] at h
  cases hp:Zc0 b0 x with
  | false=>
   rw [hp] at h
   have:=ZbS (p:=Zc0) (nx:=fun _ m=>m.uid) xs x.uid
   rw [h] at this;cases this
  | true=>
   rw [hp] at h
   have:=ZjO xs x.uid b h
   simp only [Zc0,Bool.and_eq_true,decide_eq_true_eq] at hp
   omega
theorem Zit {x:DHost} {k:Nat} {f:DFolder} (h:ZaB x=true) (hf:x.folders[k]? = some f):Zae x.users f=true:=(Zfi.1 h).2.1.1 f (List.mem_of_getElem? hf)
theorem ZgX {us:List DUser} {f:DFolder} (h:Zae us f=true):Zbq f.box=true:=by simp only [Zae,Bool.and_eq_true] at h;exact h.2
theorem Zfo {x:DHost} {k:Nat} {f:DFolder} (h:x.folders[k]? = some f):ZiU x k=f.box:=by simp only [ZiU,h]
theorem ZvR {x:DHost} {s:DSess} {r:Int} (h:(atF x s r).2=0):(atF x s r).1=Zb5 (inF s.owner s.name) x.folders∧0≤(atF x s r).1∧0≤Zhn x.users s.user∧∃f,x.folders[(atF x s r).1.toNat]? = some f∧Zmm f s.user 1=true∧Zmm f s.user 2=true∧Zmm f s.user r=true:=by
 unfold atF at h ⊢
 split at h
 ·rename_i h1;exact absurd h h1
 ·rename_i h1
  rw [if_neg h1]
  obtain ⟨h2,h3,f,hf,h4,h5⟩:=Zmj h
  obtain ⟨_,_,f',hf',_,h6⟩:=Zmj (Decidable.not_not.1 h1)
  rw [hf] at hf';cases hf'
  exact ⟨rfl,h3,h2,f,hf,h4,h6,h5⟩
end Go.BL
namespace Go.BL
open Go
theorem Zuz {k:Nat} {e:Int} (h:([1,2,4,8,16,32]:List Int)[k]? = some e):e=Zcw k:=by rw [Zcw,List.getD_eq_getElem?_getD,h];rfl
theorem Zrp {a b:Int} (h0:0≤a) (h1:a≤1000000) (hb:0<b):IntKind.i64.wrap (Int.tdiv a b)=Int.tdiv a b:=
 Zb2 (Int.le_trans (by decide) (Int.tdiv_nonneg h0 (by omega))) (Int.le_trans (Int.tdiv_le_self _ h0) (by omega))
theorem Ze9 {gs:List DGrant} (h:ZdF gs=true) :∀y,y∈gs→0≤y.rights∧y.rights≤63:=by
 intro y hy
 simp only [ZdF,Bool.and_eq_true] at h
 obtain ⟨b,hb⟩:=Zm4 (p:=Zce) (nx:=fun _ g=>g.user) gs [] h.1 y hy
 simp only [Zce,Bool.and_eq_true,decide_eq_true_eq] at hb;omega
def ZhJ (fs:List DFolder):Prop:=∀f,f∈fs→∀y,y∈f.grants→0≤y.rights∧y.rights≤63
theorem Zki {x:DHost} (h:ZaB x=true):ZhJ x.folders:=fun f hf=>by
 have:=(Zfi.1 h).2.1.1 f hf
 simp only [Zae,Bool.and_eq_true] at this
 exact Ze9 this.1.2
theorem Zm5 (gs:List DGrant) (u:Str):0≤Zbt gs u∧Zbt gs u≤600:=ZiG gs u 6 (Nat.le_refl _)
theorem Zfn {b:DBox} (h:Zbq b=true):1≤b.next∧b.next≤100∧b.mail.length≤10:=by
 obtain ⟨l,hs,h1,h2,h3⟩:=Zjz h
 have:=ZjO b.mail 0 l hs
 omega
theorem Zi8 {s:List DSpan} {last:Int} {n:Nat} (h:Zbz s last (n+1:Nat)=true):ZcV s last (n+1)=ZcV s last n ++ [((n+1:Nat):Int)]:=by simp only [ZcV,h,if_true]
theorem Zlz {s:List DSpan} {last:Int} {n:Nat} (h:Zbz s last (n+1:Nat)=false):ZcV s last (n+1)=ZcV s last n:=by simp only [ZcV,h];rfl
theorem Zpj {s:List DSpan} (h:Zdq s=true) :∀y,y∈s→ZeT y=true:=by simp only [Zdq,Bool.and_eq_true,List.all_eq_true] at h;exact h.1
end Go.BL
namespace Go.BL
open Go
def ZkO (gs:List DGrant) (o u:Str):Int:=
 if ¬ (ZdF gs=true∧Zaj o=true∧Zaj u=true) then -1 else if u=o then 63 else orI ((mget (ZeZ gs) u).getD 0) ((mget (ZeZ gs) anyone).getD 0)
theorem ZkN {gs:List DGrant} {o u:Str} (h : ¬ (ZdF gs=true∧Zaj o=true∧Zaj u=true)):ZkO gs o u = -1:=by rw [ZkO,if_pos h]
theorem Zv2 {gs:List DGrant} {o u:Str} (h1:ZdF gs=true) (h2:Zaj o=true) (h3:Zaj u=true):ZkO gs o u=if u=o then 63 else orI ((mget (ZeZ gs) u).getD 0) ((mget (ZeZ gs) anyone).getD 0):=by rw [ZkO,if_neg (fun h=>h ⟨h1,h2,h3⟩)]
def ZrS (us:List DUser) (f:DFolder) (u:Str) (r:Int):Bool:=(ZaO us u).2 && (decide (0≤ZkO f.grants f.owner u) && !decide (Ztw (ZkO f.grants f.owner u) r=0))
theorem Zqi {gs:List DGrant} (h:ZdF gs=true):gs.Pairwise fun x y=>Op.bytesLess x.user y.user=true:=by
 simp only [ZdF,Bool.and_eq_true] at h
 exact (ZfU (p:=Zce) (f:=fun u=>u.user) (fun b x hq=>by simp only [Zce,Bool.and_eq_true] at hq;exact hq.2) gs [] (ZcW gs).2 (Prod.ext h.1 rfl)).2
def ZiH (r b:Int):Bool:=decide (Int.tmod (Int.tdiv r b) 2=1)
theorem Zj2 (u:Str) (b:Int) (h0:ZiH 0 b=false) :∀{gs:List DGrant},gs.Pairwise (fun x y=>Op.bytesLess x.user y.user=true)→(gs.any fun g=>decide (g.user=u) && ZiH g.rights b)=ZiH ((mget (ZeZ gs) u).getD 0) b
 | [],_=>by simp [ZeZ,mget,h0]
 | g :: gs,hp=>by
  obtain ⟨h1,h2⟩:=List.pairwise_cons.1 hp
  have ih:=Zj2 u b h0 h2
  simp only [ZeZ,List.map_cons,mget,List.any_cons] at ih ⊢
  by_cases hu:u=g.user
  ·subst hu
   have hn:(gs.any fun x=>decide (x.user=g.user) && ZiH x.rights b)=false:=by
    rw [List.any_eq_false]
    intro x hx hc
    simp only [Bool.and_eq_true,decide_eq_true_eq] at hc
    have:=h1 x hx
    rw [hc.1,ZdM] at this;cases this
   simp [hn]
  ·rw [if_neg hu,decide_eq_false (Ne.symm hu),← ih];simp
theorem Zng (u:Str) :∀{gs:List DGrant},(∀y,y∈gs→0≤y.rights∧y.rights≤63)→0≤(mget (ZeZ gs) u).getD 0∧(mget (ZeZ gs) u).getD 0≤63
 | [],_=>by simp [ZeZ,mget]
 | g :: gs,h=>by
  have ih:=Zng u (gs:=gs) fun y hy=>h y (List.mem_cons_of_mem _ hy)
  simp only [ZeZ,List.map_cons,mget] at ih ⊢
  by_cases hu:u=g.user
  ·rw [if_pos hu];exact h g (List.mem_cons_self ..)
  ·rw [if_neg hu];exact ih
theorem ZzL :∀a,a<64→∀b,b<64→0≤orI (a:Nat) (b:Nat)∧orI (a:Nat) (b:Nat)≤63∧(∀k,k<6→(!decide (Ztw (orI (a:Nat) (b:Nat)) (Zcw k)=0))=(ZiH (a:Nat) (Zcw k) || ZiH (b:Nat) (Zcw k)))∧(!decide (Int.tmod (orI (a:Nat) (b:Nat)) 2=0))=(ZiH (a:Nat) 1 || ZiH (b:Nat) 1)∧(!decide (Int.tmod (Int.tdiv (orI (a:Nat) (b:Nat)) 2) 2=0))=(ZiH (a:Nat) 2 || ZiH (b:Nat) 2):=by
 decide +kernel
theorem Zxw :∀k,k<6→(!decide (Ztw 63 (Zcw k)=0))=true:=by decide +kernel
def ZEN (b0 b1 b2 b3 b4 b5:Bool):Int:=
 let s0:Int:=if b0=true then 0+Zcw 0 else 0
 let s1:=if b1=true then s0+Zcw 1 else s0
 let s2:=if b2=true then s1+Zcw 2 else s1
 let s3:=if b3=true then s2+Zcw 3 else s2
 let s4:=if b4=true then s3+Zcw 4 else s3
 if b5=true then s4+Zcw 5 else s4
theorem ZvQ :∀b0 b1 b2 b3 b4 b5:Bool,∀k,k<6→ZiH (ZEN b0 b1 b2 b3 b4 b5) (Zcw k)=[b0,b1,b2,b3,b4,b5].getD k false:=by decide +kernel
theorem Zpn {gs:List DGrant} {u:Str} {k:Nat} (hk:k<6):ZiH (Zbt gs u) (Zcw k)=gs.any (onB u (Zcw k)):=by
 have e:Zbt gs u=ZEN (gs.any (onB u (Zcw 0))) (gs.any (onB u (Zcw 1))) (gs.any (onB u (Zcw 2))) (gs.any (onB u (Zcw 3))) (gs.any (onB u (Zcw 4))) (gs.any (onB u (Zcw 5))):=rfl
 rw [e,ZvQ _ _ _ _ _ _ k hk]
 have:k=0∨k=1∨k=2∨k=3∨k=4∨k=5:=by omega
 rcases this with rfl | rfl | rfl | rfl | rfl | rfl <;> rfl
theorem ZxD {gs:List DGrant} {u:Str} {b:Int} : gs.any (onB u b)=((gs.any fun g=>decide (g.user=u) && ZiH g.rights b) || (gs.any fun g=>decide (g.user=anyone) && ZiH g.rights b)):=by
 induction gs with
 | nil=>rfl
 | cons g gs ih=>
  simp only [List.any_cons,ih,onB,ZiH]
  cases decide (g.user=u) <;> cases decide (g.user=anyone) <;> cases decide (Int.tmod (Int.tdiv g.rights b) 2=1) <;> simp
theorem ZnX {k:Nat} (hk:k<6):ZiH 0 (Zcw k)=false:=by
 have:k=0∨k=1∨k=2∨k=3∨k=4∨k=5:=by omega
 rcases this with rfl | rfl | rfl | rfl | rfl | rfl <;> rfl
theorem Zrm {gs:List DGrant} {u:Str} (h:ZdF gs=true) {k:Nat} (hk:k<6):(!decide (Ztw (orI ((mget (ZeZ gs) u).getD 0) ((mget (ZeZ gs) anyone).getD 0)) (Zcw k)=0))=ZiH (Zbt gs u) (Zcw k)∧0≤orI ((mget (ZeZ gs) u).getD 0) ((mget (ZeZ gs) anyone).getD 0)∧orI ((mget (ZeZ gs) u).getD 0) ((mget (ZeZ gs) anyone).getD 0)≤63∧(!decide (Int.tmod (orI ((mget (ZeZ gs) u).getD 0) ((mget (ZeZ gs) anyone).getD 0)) 2=0))=ZiH (Zbt gs u) 1∧(!decide (Int.tmod (Int.tdiv (orI ((mget (ZeZ gs) u).getD 0) ((mget (ZeZ gs) anyone).getD 0)) 2) 2=0))=ZiH (Zbt gs u) 2:=by
 obtain ⟨a0,a1⟩:=Zng u (Ze9 h)
 obtain ⟨b0,b1⟩:=Zng anyone (Ze9 h)
 have hs:=Zqi h
 have e1 :∀k,k<6→ZiH (Zbt gs u) (Zcw k)=(ZiH ((mget (ZeZ gs) u).getD 0) (Zcw k) || ZiH ((mget (ZeZ gs) anyone).getD 0) (Zcw k)):=fun k hk=>by
  rw [Zpn hk,ZxD,Zj2 u _ (ZnX hk) hs,Zj2 anyone _ (ZnX hk) hs]
 generalize (mget (ZeZ gs) u).getD 0=a at *
 generalize (mget (ZeZ gs) anyone).getD 0=b at *
 obtain ⟨n,rfl⟩:=Int.eq_ofNat_of_zero_le a0
 obtain ⟨m,rfl⟩:=Int.eq_ofNat_of_zero_le b0
 obtain ⟨t1,t2,t3,t4,t5⟩:=ZzL n (by omega) m (by omega)
 have h0:=e1 0 (by omega)
 exact ⟨by rw [t3 k hk,e1 k hk],t1,t2,by rw [t4];exact h0.symm,by rw [t5];exact (e1 1 (by omega)).symm⟩
theorem Zk3 {x:DHost} {u:Str} (h:ZaB x=true) (hu:0≤Zhn x.users u):Zaj u=true:=by
 obtain ⟨w,hw,rfl⟩:=Zii.1 hu
 have:=Zk1 (Zho h) hw
 simp only [Zc2,Bool.and_eq_true] at this
 exact this.1.1.1
theorem Zv1 {x:DHost} {f:DFolder} {u:Str} (h:ZaB x=true) (hf:f∈x.folders) (hu:0≤Zhn x.users u):ZkO f.grants f.owner u=if u=f.owner then 63 else orI ((mget (ZeZ f.grants) u).getD 0) ((mget (ZeZ f.grants) anyone).getD 0):=by
 have hi:=(Zfi.1 h).2.1.1 f hf
 simp only [Zae,Bool.and_eq_true,decide_eq_true_eq] at hi
 rw [ZkO,if_neg (fun hc=>hc ⟨hi.1.2,Zk3 h hi.1.1.1,Zk3 h hu⟩)]
theorem ZAX {x:DHost} {f:DFolder} (h:ZaB x=true) (hf:f∈x.folders):ZdF f.grants=true:=by
 have hi:=(Zfi.1 h).2.1.1 f hf
 simp only [Zae,Bool.and_eq_true] at hi
 exact hi.1.2
theorem ZrR {x:DHost} {f:DFolder} {u:Str} {k:Nat} (h:ZaB x=true) (hf:f∈x.folders) (hk:k<6):ZrS x.users f u (Zcw k)=(decide (0≤Zhn x.users u) && Zmm f u (Zcw k)):=by
 rw [ZrS,ZnB h]
 by_cases hu:0≤Zhn x.users u
 ·rw [Zv1 h hf hu,Zmm]
  obtain ⟨r1,r2,r3,r4,r5⟩:=Zrm (gs:=f.grants) (u:=u) (ZAX h hf) hk
  by_cases ho:u=f.owner
  ·rw [if_pos ho,decide_eq_true ho,Zxw k hk];simp
  ·rw [if_neg ho,decide_eq_false ho,r1,decide_eq_true r2];simp [ZiH]
 ·simp [hu]
end Go.BL
namespace Go.BL
open Go
def Zfr (f:DFolder):Nat:=3+2*f.grants.length+3*f.mail.length
def mkF (k:Nat) (f:DFolder):DFolder:=⟨ZU k,ZU (k+1),Za2 (k+1+1) f.grants.length,((k+1+1+2*f.grants.length:Nat):Int),ZcZ (k+1+1+2*f.grants.length+1) f.mail.length⟩
def ZfP (x:DItem):Nat:=3+x.left.length
def mkI (k:Nat) (x:DItem):DItem:=⟨((k:Nat):Int),ZU (k+1),ZU (k+1+1),ZeG (k+1+1+1) x.left.length⟩
def kL {α:Type} (st:α→Nat) (k:Nat) (xs:List α):Nat:=k+(xs.map st).sum
def mkL {α:Type} (st:α→Nat) (mk:Nat→α→α):Nat→List α→List α
 | _,[]=>[]
 | k,x :: xs=>mk k x :: mkL st mk (k+st x) xs
theorem Zsa {α:Type} {st:α→Nat} {k:Nat} : kL st k []=k:=by simp [kL]
theorem Zsc {α:Type} {st:α→Nat} {k:Nat} {x:α} {xs:List α} : kL st k (x :: xs)=kL st (k+st x) xs:=by simp [kL];omega
theorem Zkb {α:Type} {st:α→Nat} {k i:Nat} {xs:List α} {x:α} (hx:xs[i]? = some x):kL st k (xs.take (i+1))=kL st k (xs.take i)+st x:=by
 rw [ZbP hx,kL,kL,List.map_append,List.sum_append];simp;omega
theorem ZoA {α:Type} {st:α→Nat} {mk:Nat→α→α} {x:α} :∀{xs:List α} (k:Nat),mkL st mk k (xs ++ [x])=mkL st mk k xs ++ [mk (kL st k xs) x]
 | [],k=>by simp [mkL,kL]
 | y :: xs,k=>by
  rw [List.cons_append,mkL,ZoA (xs:=xs) (k+st y),mkL,Zsc,List.cons_append]
theorem ZuW {α:Type} {st:α→Nat} {mk:Nat→α→α} {xs ys:List α} {i k:Nat} {x:α} (ht:ys.take i=mkL st mk k (xs.take i)) (hx:xs[i]? = some x) (hl:ys.length=xs.length):(ys.set i (mk (kL st k (xs.take i)) x)).take (i+1)=mkL st mk k (xs.take (i+1)):=by
 have hi:=(List.getElem?_eq_some_iff.1 hx).1
 rw [Zbe (by omega),ZbP hx,ZoA,ht]
theorem ZrQ {α:Type} {st:α→Nat} {mk:Nat→α→α} {xs ys:List α} {i k:Nat} (ht:ys.take i=mkL st mk k (xs.take i)) (hl:ys.length=xs.length) (hi:xs.length≤i):ys=mkL st mk k xs:=by
 rwa [List.take_of_length_le (by omega),List.take_of_length_le hi] at ht
theorem ZkA {α:Type} {xs ys:List α} {i:Nat} {z:α} (hd:ys.drop i=xs.drop i):(ys.set i z).drop (i+1)=xs.drop (i+1):=by
 rw [List.drop_set_of_lt (by omega),← List.drop_drop,← List.drop_drop,hd]
theorem ZkB {α:Type} {xs ys:List α} {i:Nat} (hd:ys.drop i=xs.drop i):ys[i]? = xs[i]?:=by
 have:=congrArg (fun l=>l[0]?) hd
 simpa using this
theorem Zcn {α:Type} {xs:List α} {k:Nat} {x z:α} (h:xs[k]? = some x):(xs.set k z)[k]? = some z:=List.getElem?_set_self (List.getElem?_eq_some_iff.1 h).1
theorem ZxS {α:Type} {st:α→Nat} {k i:Nat} {xs:List α} {x:α} (hx:xs[i]? = some x):kL st k (xs.take i)+st x≤kL st k xs:=by
 have e:xs=xs.take (i+1) ++ xs.drop (i+1):=(List.take_append_drop _ _).symm
 have h1:=Zkb (st:=st) (k:=k) hx
 have h2:kL st k xs=kL st k (xs.take (i+1))+((xs.drop (i+1)).map st).sum:=by
  conv=>lhs;rw [e]
  simp only [kL,List.map_append,List.sum_append];omega
 omega
theorem Zsb {α:Type} {st:α→Nat} {k i:Nat} {xs:List α} (h:xs.length≤i):kL st k (xs.take i)=kL st k xs:=by rw [List.take_of_length_le h]
theorem Zz8 {α:Type} {st:α→Nat} {k:Nat} {xs:List α} : k≤kL st k xs:=by simp [kL]
theorem ZjK {α:Type} {xs ys:List α} {i:Nat} {z:α} (h:ys.length=xs.length):(ys.set i z).length=xs.length:=by rw [List.length_set,h]
theorem Zz7 {α:Type} {st sz:α→Nat} {xs:List α} (k:Nat) (h :∀x,x∈xs→st x≤3+3*sz x):kL st k xs≤k+3*(xs.length+(xs.map sz).sum):=by
 induction xs generalizing k with
 | nil=>simp [kL]
 | cons x xs ih=>
  rw [Zsc]
  have h1:=ih (k+st x) fun y hy=>h y (List.mem_cons_of_mem _ hy)
  have h2:=h x (List.mem_cons_self ..)
  simp only [List.length_cons,List.map_cons,List.sum_cons];omega
theorem ZlG {α:Type} {st:α→Nat} {mk:Nat→α→α} {xs ys:List α} {i k m:Nat} {x:α} (ht:ys.take i=mkL st mk k (xs.take i)) (hx:xs[i]? = some x) (hl:ys.length=xs.length) (hs:m=kL st k (xs.take i)):(ys.set i (mk m x)).take (i+1)=mkL st mk k (xs.take (i+1)):=by
 subst hs;exact ZuW ht hx hl
end Go.BL
namespace Go.BL
open Go
theorem ZCf {k:Nat} {fs:List DFolder} : kL Zfr k fs≤k+3*szL Zay fs:=Zz7 k fun x _=>by simp only [Zfr,Zay,szL];omega
theorem ZCd {k:Nat} {xs:List DItem} : kL ZfP k xs≤k+3*szL ZbQ xs:=Zz7 k fun x _=>by simp only [ZfP,ZbQ,Zfy,szL];omega
def kH (k:Nat) (x:DHost):Nat:=kL ZfP (kL Zfr (k+3*x.users.length) x.folders) x.queue.items
theorem ZCe {x:DHost} (h:Zc3 x≤1048576):kH 1 x≤10000000:=by
 have h1:=@ZCd (kL Zfr (1+3*x.users.length) x.folders) x.queue.items
 have h2:=@ZCf (1+3*x.users.length) x.folders
 unfold Zc3 at h
 have h3:x.users.length≤szL Zdo x.users:=by simp only [szL];omega
 unfold kH;omega
end Go.BL
namespace Go.BL
open Go
def ZdO (us:List DUser) (fs:List DFolder) (u o n:Str) (r:Int):Nat:=
 if Zb5 (inF o n) fs<0 then 1 else match fs[(Zb5 (inF o n) fs).toNat]? with
  | none=>1
  | some f=>if ZrS us f u 1=false then 1 else if ZrS us f u r=false then 2 else 0
theorem Zte {us:List DUser} {fs:List DFolder} {u o n:Str} {r:Int} (h:Zb5 (inF o n) fs<0):ZdO us fs u o n r=1:=by rw [ZdO,if_pos h]
theorem ZkF {us:List DUser} {fs:List DFolder} {u o n:Str} {r:Int} {f:DFolder} (h : ¬ Zb5 (inF o n) fs<0) (hf:fs[(Zb5 (inF o n) fs).toNat]? = some f):ZdO us fs u o n r=if ZrS us f u 1=false then 1 else if ZrS us f u r=false then 2 else 0:=by
 rw [ZdO,if_neg h,hf]
theorem Ztf (us:List DUser) (fs:List DFolder) (u o n:Str) (r:Int):ZdO us fs u o n r<3:=by
 unfold ZdO
 split
 ·omega
 ·split
  ·omega
  ·split
   ·omega
   ·split <;> omega
theorem ZyK {x:DHost} {u o n:Str} {k:Nat} (h:ZaB x=true) (hk:k<6):((ZdO x.users x.folders u o n (Zcw k):Nat):Int)=Zqb x.users x.folders u (Zb5 (inF o n) x.folders) (Zcw k):=by
 by_cases h0:Zb5 (inF o n) x.folders<0
 ·rw [Zte h0,ZkG (.inr h0)];rfl
 ·have hl:=Zij (inF o n) x.folders
  obtain ⟨f,hf⟩:=Zvq (xs:=x.folders) (i:=Zb5 (inF o n) x.folders) (by omega) (by omega)
  have hm:=List.mem_of_getElem? hf
  rw [ZkF h0 hf]
  have e1:ZrS x.users f u 1=(decide (0≤Zhn x.users u) && Zmm f u 1):=ZrR (k:=0) h hm (by omega)
  rw [e1,ZrR h hm hk]
  by_cases hu:Zhn x.users u<0
  ·rw [ZkG (.inl hu),decide_eq_false (by omega)];rfl
  ·rw [Ztg (by omega) hf,decide_eq_true (by omega)]
   cases Zmm f u 1 <;> cases Zmm f u (Zcw k) <;> rfl
theorem ZvJ {x:DHost} {u o n:Str} (h:ZaB x=true):((ZdO x.users x.folders u o n 2:Nat):Int)=Zqb x.users x.folders u (Zb5 (inF o n) x.folders) 2:=ZyK (k:=1) h (by omega)
end Go.BL
namespace Go.BL
open Go
end Go.BL
namespace Go.BL
open Go
end Go.BL
namespace Go.BL
open Go
end Go.BL
namespace Go.BL
open Go
end Go.BL
namespace Go.BL
open Go
end Go.BL
namespace Go.BL
open Go
theorem ZE3 {B:Kn} {L:List Cells} {b o:Nat} {row vs:List Value} {a:Addr} (hc :∀(m:Nat) (u:Value),row[m]? = some u→ZaY B L.flatten ⟨b,o+m,none⟩ u) (off:Nat) (ha:a=⟨b,o+off,none⟩) (hv:(row.drop off).take vs.length=vs):ZtD B L a vs:=by
 intro i v hi
 subst ha
 rw [Addr.add_off _ _ rfl]
 have hlt:i<vs.length:=(List.getElem?_eq_some_iff.1 hi).1
 have:row[off+i]? = some v:=by
  have e:=congrArg (fun l=>l[i]?) hv
  simp only [List.getElem?_take,if_pos hlt,List.getElem?_drop] at e
  rw [e,hi]
 have:=hc _ v this
 rwa [show o+(off+i)=o+off+i from by omega] at this
theorem ZaM.cellA {α:Type} {l:Cells} {p:Option Addr} {c:Nat} {T:TypeId} {w:Nat} {R:Zg6 α} {xs:List α} (h:ZaM l p c T w R xs) {i:Nat} {x:α} (hx:xs[i]? = some x) :
∃b row li lr,p=some ⟨b,0,none⟩∧R row x li∧row.length=w∧l.Perm (li ++ lr)∧(∀(B:Kn) (L:List Cells) (j:Nat),L[j]? = some l→∀(m:Nat) (u:Value),row[m]? = some u→ZaY B L.flatten ⟨b,i*w+m,none⟩ u)∧(∀(B:Kn) (L:List Cells) (j:Nat),L[j]? = some lr→∀(m:Nat) (u:Value),row[m]? = some u→ZaY B L.flatten ⟨b,i*w+m,none⟩ u)∧∀x' li',R row x' li'→ZaM (li' ++ lr) p c T w R (xs.set i x'):=by
 obtain ⟨b,arr,row,li,lr,e1,e2,e3,e4,e5,e6⟩:=h.open1 hx
 refine ⟨b,row,li,ZP b arr T ++ lr,e1,e2,e3,e4,fun B L j hj m u hm=>⟨rfl,arr.toArray,T,(0,0),.inr ?_,by simpa using e5 m u hm⟩,fun B L j hj m u hm=>⟨rfl,arr.toArray,T,(0,0),.inr ?_,by simpa using e5 m u hm⟩,e6⟩
 ·exact List.mem_flatten.2 ⟨l,List.mem_of_getElem? hj,e4.mem_iff.2 (List.mem_append_right _ (List.mem_append_left _ (List.mem_singleton.2 rfl)))⟩
 ·exact List.mem_flatten.2 ⟨_,List.mem_of_getElem? hj,List.mem_append_left _ (List.mem_singleton.2 rfl)⟩
theorem ZvK {x:DHost} {u o n:Str} {r:Int} (h:ZdO x.users x.folders u o n r=0):0≤Zb5 (inF o n) x.folders:=by
 unfold ZdO at h
 split at h
 ·cases h
 ·omega
end Go.BL
namespace Go.BL
open Go
end Go.BL
namespace Go.BL
open Go
end Go.BL
namespace Go.BL
open Go
def usN (x:DHost) (u o n:Str) (r:Int) (k:Nat):Nat:=if ZdO x.users x.folders u o n 2=0 then (if ZdO x.users x.folders u o n r=0 then k else ZdO x.users x.folders u o n r) else ZdO x.users x.folders u o n 2
def usX {α:Type} (x:DHost) (u o n:Str) (r:Int) (A B:α):α:=if ZdO x.users x.folders u o n 2=0∧ZdO x.users x.folders u o n r=0 then A else B
theorem Zzm {x:DHost} {u o n:Str} {r:Int} {k:Nat} (hk:k<5):usN x u o n r k<5:=by
 unfold usN
 have h2:=Ztf x.users x.folders u o n 2
 have hr:=Ztf x.users x.folders u o n r
 split <;> (try split) <;> omega
theorem Zwl {x:DHost} {u o n:Str} {r:Int} (h:ZdO x.users x.folders u o n 2≠0) (k:Nat):usN x u o n r k=ZdO x.users x.folders u o n 2∧∀{α:Type} (A B:α),usX x u o n r A B=B:=⟨by rw [usN,if_neg h],fun A B=>by rw [usX,if_neg (fun hh=>h hh.1)]⟩
theorem Zzl {x:DHost} {u o n:Str} {r:Int} (h2:ZdO x.users x.folders u o n 2=0) (h:ZdO x.users x.folders u o n r≠0) (k:Nat):usN x u o n r k=ZdO x.users x.folders u o n r∧∀{α:Type} (A B:α),usX x u o n r A B=B:=⟨by rw [usN,if_pos h2,if_neg h],fun A B=>by rw [usX,if_neg (fun hh=>h hh.2)]⟩
theorem Zwk {x:DHost} {u o n:Str} {r:Int} (h2:ZdO x.users x.folders u o n 2=0) (h:ZdO x.users x.folders u o n r=0) (k:Nat):usN x u o n r k=k∧∀{α:Type} (A B:α),usX x u o n r A B=A:=⟨by rw [usN,if_pos h2,if_pos h],fun A B=>by rw [usX,if_pos ⟨h2,h⟩]⟩
end Go.BL
namespace Go.BL
open Go
def Zic (s:List DSpan) (L:Int) (k n:Nat):Bool:=(decide (1≤n) && decide ((n:Int)≤L)) && (s.take k).any (ZcC L n)
def Zku (f:Nat→Bool) (a j:Int) (n:Nat):Bool:=f n || (decide (a≤(n:Int)) && decide ((n:Int)<j))
theorem ZrT (s:List DSpan) (L:Int):(fun _:Nat=>false)=Zic s L 0:=funext fun n=>by simp [Zic]
theorem Zjr (f:Nat→Bool) (a:Int):f=Zku f a a:=funext fun n=>by
 have:(decide (a≤(n:Int)) && decide ((n:Int)<a))=false:=by rw [Bool.and_eq_false_iff];simp;omega
 simp [Zku,this]
theorem Zjs {f F:Nat→Bool} {a j:Int} (h:F=Zku f a j) (h0:0≤j) (ha:a≤j):(fun n=>if n=j.toNat then true else F n)=Zku f a (j+1):=by
 subst h
 funext n
 simp only [Zku]
 by_cases e:n=j.toNat
 ·rw [if_pos e]
  have h1:decide (a≤(n:Int))=true:=by simp;omega
  have h2:decide ((n:Int)<j+1)=true:=by simp;omega
  simp [h1,h2]
 ·rw [if_neg e]
  have:decide ((n:Int)<j)=decide ((n:Int)<j+1):=by rw [decide_eq_decide];omega
  rw [this]
theorem ZlJ {s:List DSpan} {L a e j lo hi:Int} {k:Nat} {m:DSpan} {F:Nat→Bool} (hm:s[k]? = some m) (hlo:lo=if m.low=0 then L else m.low) (hhi:hi=if m.high=0 then L else m.high) (ha:a=min lo hi) (he:e=max lo hi) (ha1:1≤a) (hF:F=Zku (Zic s L k) a j)
  (h1:min e L<j) (h2:a≤j) (h3:j≤min e L+1∨j=a):F=Zic s L (k+1):=by
 subst hF
 funext n
 have hs:ZcC L n m=(decide (a≤(n:Int)) && decide ((n:Int)≤e)):=by simp only [ZcC,← hlo,← hhi,← ha,← he]
 simp only [Zku,Zic,Zdi hm,hs]
 have key:(decide (a≤(n:Int)) && decide ((n:Int)<j))=((decide (1≤n) && decide ((n:Int)≤L)) && (decide (a≤(n:Int)) && decide ((n:Int)≤e))):=by
  rw [Bool.eq_iff_iff]
  simp only [Bool.and_eq_true,decide_eq_true_eq]
  omega
 rw [key,← Bool.and_or_distrib_left]
theorem ZuX {s:List DSpan} {L:Int} {k:Nat} (h:Zic s L s.length k=true):ZcV s L (min k L.toNat)=ZcV s L (min (k - 1) L.toNat) ++ [(k:Int)]:=by
 simp only [Zic,List.take_length,Bool.and_eq_true,decide_eq_true_eq] at h
 obtain ⟨⟨h1,h2⟩,h3⟩:=h
 obtain ⟨m,rfl⟩ :∃m,k=m+1:=⟨k - 1,by omega⟩
 rw [show min (m+1) L.toNat=m+1 from by omega,show min (m+1 - 1) L.toNat=m from by omega,Zi8 (show Zbz s L (m+1:Nat)=true from h3)]
theorem ZxH {s:List DSpan} {L:Int} {k:Nat} (h:Zic s L s.length k=false):ZcV s L (min k L.toNat)=ZcV s L (min (k - 1) L.toNat):=by
 by_cases h1:k=0
 ·subst h1;rfl
 ·by_cases h2:(k:Int)≤L
  ·obtain ⟨m,rfl⟩ :∃m,k=m+1:=⟨k - 1,by omega⟩
   have h3:Zbz s L (m+1:Nat)=false:=by
    simp only [Zic,List.take_length] at h
    rw [show decide (1≤m+1)=true from by simp,show decide (((m+1:Nat):Int)≤L)=true from by simpa using h2] at h
    simpa [Zbz] using h
   rw [show min (m+1) L.toNat=m+1 from by omega,show min (m+1 - 1) L.toNat=m from by omega,Zlz h3]
  ·rw [show min k L.toNat=L.toNat from by omega,show min (k - 1) L.toNat=L.toNat from by omega]
theorem Zja {s:List DSpan} {last:Int} (h:Zdq s=true):Zco s last=ZcV s (min last 99) (min last 99).toNat:=by rw [Zco,if_pos h]
theorem ZlA {s:List DSpan} {last:Int} (h:Zdq s=false∨last<1):Zco s last=[]:=by
 rw [Zco]
 split
 ·rcases h with h | h
  ·rename_i e;rw [h] at e;cases e
  ·rw [show (min last 99).toNat=0 from by omega];rfl
 ·rfl
end Go.BL
namespace Go.BL
open Go
theorem ZiE {x:DHost} {u o n:Str} {r:Int} (h:ZdO x.users x.folders u o n r=0) :∃(k:Nat) (f:DFolder),Zb5 (inF o n) x.folders=(k:Int)∧x.folders[k]? = some f:=by
 have h0:=ZvK h
 obtain ⟨k,hk⟩ :∃k:Nat,Zb5 (inF o n) x.folders=(k:Int):=⟨_,(Int.toNat_of_nonneg h0).symm⟩
 have hl:=Zij (inF o n) x.folders
 exact ⟨k,x.folders[k]'(by omega),hk,List.getElem?_eq_getElem (by omega)⟩
theorem ZyN (x:DHost) (u o n:Str):atF x ⟨u,o,n⟩ 2=(Zb5 (inF o n) x.folders,Zqb x.users x.folders u (Zb5 (inF o n) x.folders) 2):=by
 unfold atF
 split <;> rfl
end Go.BL
namespace Go.BL
open Go
def ZcI (k n:Nat):List DSpan:=(List.range n).map fun i=>⟨((k+2*i:Nat):Int),((k+2*i+1:Nat):Int)⟩
theorem Zey (k n:Nat):(ZcI k n).length=n:=by simp [ZcI]
theorem ZlE {ys:List DSpan} {i k:Nat} {z1 z2:DSpan} (ht:ys.take i=ZcI k i) (h1:ys[i]? = some z1) (h2:(ys.set i ⟨((k+2*i:Nat):Int),z1.high⟩)[i]? = some z2) :
  ((ys.set i ⟨((k+2*i:Nat):Int),z1.high⟩).set i ⟨z2.low,((k+2*i+1:Nat):Int)⟩).take (i+1)=ZcI k (i+1):=by
 have hl:=(List.getElem?_eq_some_iff.1 h1).1
 rw [List.getElem?_set_self hl] at h2;cases h2
 rw [List.set_set,Zbe hl,ht,ZcI,ZcI,List.range_succ,List.map_append];rfl
def ZeH (k n:Nat):List Int:=(List.range n).map fun i=>((k+1*i:Nat):Int)
theorem Zff (k n:Nat):(ZeH k n).length=n:=by simp [ZeH]
theorem ZpB {k n g:Nat} (h:g<n):(ZeH k n)[g]? = some ((k+1*g:Nat):Int):=by simp [ZeH,h]
theorem Znf {ys:List Int} {i k:Nat} {z1:Int} (ht:ys.take i=ZeH k i) (h1:ys[i]? = some z1):(ys.set i ((k+1*i:Nat):Int)).take (i+1)=ZeH k (i+1):=by
 have hl:=(List.getElem?_eq_some_iff.1 h1).1
 rw [Zbe hl,ht,ZeH,ZeH,List.range_succ,List.map_append];rfl
end Go.BL
namespace Go.BL
open Go
end Go.BL
namespace Go.BL
open Go
end Go.BL
namespace Go.BL
open Go
end Go.BL
namespace Go.BL
open Go
end Go.BL
namespace Go.BL
open Go
end Go.BL
namespace Go.BL
open Go
end Go.BL
namespace Go.BL
open Go
end Go.BL
namespace Go.BL
open Go
end Go.BL
