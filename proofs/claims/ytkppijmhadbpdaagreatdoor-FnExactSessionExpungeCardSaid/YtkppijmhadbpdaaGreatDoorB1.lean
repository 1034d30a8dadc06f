/-
  THE WALK'S LOGIC: owned cells and known cells, goroutines started and awaited, calls, loops, data, and plain laws on lists: no program in sight.
-/
import Derived.Test.YtkppijmhadbpdaaGreatDoorB0
set_option linter.unusedVariables false
set_option linter.unusedSimpArgs false
set_option linter.unusedSectionVars false
namespace Go.BL
open Go.Conc (G)
def ZU (Tg Tm:TypeId):Zgw DFolder:=fun row x ins=>∃q c q' c' i1 i2,row=[str x.owner,str x.name,.slice q x.grants.length c,.int .i64 x.next,.slice q' x.mail.length c']∧ins=i1 ++ i2∧ZN Kn.none i1 q c Tg 2 Z5 x.grants∧ZN Kn.none i2 q' c' Tm 3 Z6 x.mail∧
 x.owner.length≤2000000∧x.name.length≤2000000∧x.grants.length≤2000000∧x.mail.length≤2000000
theorem ZU.known {Tg Tm:TypeId} {B:Kn} {row:List Value} {x:DFolder} {ins:Cells} (h:ZU Tg Tm row x ins) (hm :∀q,q∈ins→B.mem q.1=some q.2):Zu B row x:=by
 obtain ⟨q,c,q',c',i1,i2,h1,rfl,h2,h3,h4,h5,h6,h7⟩:=h
 exact ⟨q,c,q',c',h1,⟨h2.rowsF Z5.any fun p hp=>hm p (List.mem_append.2 (.inl hp)),h2.cap,h6⟩,⟨h3.rowsF Z6.any fun p hp=>hm p (List.mem_append.2 (.inr hp)),h3.cap,h7⟩,h4,h5⟩
theorem All3.set {α:Type} {R:Zgw α} {rows:List (List Value)} {xs:List α} {s:Cells} (h:All3 R rows xs s) {row:List Value} {z:α} {ins:Cells} (hz:R row z ins) :∀k,k<xs.length→∃s' gl,All3 R (rows.set k row) (xs.set k z) s'∧(s ++ ins).Perm (s' ++ gl):=by
 induction h with
 | nil=>intro k hk;simp at hk
 | @cons row0 x ins0 rest rows xs h1 h2 ih=>
  intro k hk
  cases k with
  | zero=>
   refine ⟨ins ++ rest,ins0,.cons hz h2,?_⟩
   exact Zo4 fun f g h0 ha hc=>by simp only [ha];omega
  | succ k=>
   obtain ⟨s',gl,h3,h4⟩:=ih k (by simpa using hk)
   refine ⟨ins0 ++ s',gl,.cons h1 h3,?_⟩
   rw [List.append_assoc,List.append_assoc]
   exact List.Perm.append_left _ h4
theorem All3.zeros {α:Type} {R:Zgw α} {row:List Value} {d:α} (h:R row d []) :∀m,All3 R (List.replicate m row) (List.replicate m d) []
 | 0=>.nil
 | m+1=>by rw [List.replicate_succ,List.replicate_succ];exact All3.cons (ins:=[]) h (All3.zeros h m)
theorem ZaP.zeros {α:Type} {b:Nat} {T:TypeId} {R:Zgw α} {zs:List Value} {d:α} {m c w:Nat} (hw:zs.length=w) (hR:R zs d []) (hmc:m≤c):ZaP (ZK b (zrow zs c) T) (some ⟨b,0,Option.none⟩) c T w R (List.replicate m d):=by
 refine ⟨List.replicate m zs,_,[],All3.zeros hR m,fun r hr=>by rw [(List.mem_replicate.1 hr).2];exact hw,by rw [List.append_nil],?_,.inr ⟨b,_,rfl,by rw [Zb3,hw],?_,rfl,by rw [List.length_replicate];exact hmc⟩⟩
 ·rw [List.length_replicate]
  exact (Zb3 (z:=zs) (c:=m)).trans (by rw [hw])
 ·rw [List.length_replicate]
  have e:zrow zs c=zrow zs m ++ zrow zs (c - m):=by
   simp only [zrow,← List.flatten_append,List.replicate_append_replicate]
   rw [show m+(c - m)=c from by omega]
  rw [e,List.take_append_of_le_length (by rw [Zb3,hw];exact Nat.le_refl _),List.take_of_length_le (by rw [Zb3,hw];exact Nat.le_refl _)]
  rfl
theorem Zgf :∀{l vs:List Value},l.length=vs.length→Z7 l 0 vs=vs
 | l,[],h=>by rw [ZbC];exact List.eq_nil_of_length_eq_zero h
 | [],v :: vs,h=>by simp at h
 | x :: l,v :: vs,h=>by
  have:=Zgf (l:=l) (vs:=vs) (by simpa using h)
  simp [Z7,this]
section
variable {P:PJ} {n:Nat} {ops:Array Oper} {i:Nat} {K:ZaO} {S:Env} {D:List Deferred} {B:Kn} {L:List Cells} {Q:Exit→Zab}
variable {dst:Option Tmp} {ty:TypeId} {pos:String} {after:Array Edge} {g:Option (Nat × Bool)}
theorem Zlp {o:Oper} {L':List Cells} {K':ZaO} (hp:L.flatten.Perm L'.flatten) (h:opX P n ops i o K' S D B L') (hk :∀v D' B' L₁,B.le B'→K' v D' B' L₁→∃L₂ gl,L₁.flatten.Perm (L₂.flatten ++ gl)∧K v D' B' L₂):opX P n ops i o K S D B L:=⟨h.1,fun C todo k T ho hn hT hA=>
 C.X.perm (hp.append_right _) (h.2 C todo k T ho hn hT fun v D' B' L₁ hle hK=>by
  obtain ⟨L₂,gl,hp2,hK2⟩:=hk v D' B' L₁ hle hK
  refine C.X.drop (r:=L₂.flatten ++ C.F) (gl:=gl) ((hp2.append_right _).trans ?_) (hA v D' B' L₂ hle hK2)
  rw [List.append_assoc,List.append_assoc]
  exact List.Perm.append_left _ List.perm_append_comm)⟩
theorem Zu7 {α:Type} {R:Zgw α} {xs:List α} (z:α) {t T:TypeId} {x y:Operand} {v:Value} {row:List Value} {sz k c b:Nat} {l:Cells} {p:Option Addr} {inss r:List Cells} (j:Nat) (ks:List Nat) (hpk:Zaw L (j :: ks)=some (l :: inss,r)) (hnd:Zed (j :: ks)=true) (hv:ZaP l p c T sz R xs) (hp:p=some ⟨b,0,Option.none⟩) (hk:k<xs.length) (hg:Zj ops S g=some true) (hd:Zx n dst=true) (hsz:ZR P t=some sz)
  (hx:ev S x=some (ptr ⟨b,k*sz,Option.none⟩)) (hy:ev S y=some v) (hvc:v.cells=row.toArray) (ho:row.all Zhn=true) (hrl:row.length=sz) (ins0:Cells) (hi0:inss.flatten=ins0) (hr:R row z ins0)
  (h :∀l',ZaP l' p c T sz R (xs.set k z)→K undef D B (Zci r (j :: ks) (l' :: inss.map fun _=>[]))):opX P n ops i ⟨dst,.store t x y,ty,pos,after,g⟩ K S D B L:=by
 subst hp
 subst hi0
 obtain ⟨rows,blk,ins,h1,h2,h3,hl1,⟨hc,_⟩ | ⟨b',arr,e,ha,ht,rfl,hmc⟩⟩:=hv
 ·cases hc
 ·cases e
  have hpp:=Zaf (j :: ks) L (l :: inss) r hpk
  have hb1:k*sz+row.length≤arr.length:=by
   have:(k+1)*sz≤c*sz:=Nat.mul_le_mul_right sz (by omega)
   rw [Nat.succ_mul] at this;omega
  obtain ⟨s',gl,a1,a2⟩:=h1.set hr k hk
  refine Zlp (L':=[ZK b arr T ++ ins,inss.flatten ++ r.flatten]) (K':=fun u D' B' L₁=>u=undef∧D'=D∧B'=B∧L₁=[ZK b (Z7 arr (k*sz) row) T ++ ins,inss.flatten ++ r.flatten]) ?_ ?_ ?_
  ·refine hpp.trans ?_
   simp only [List.flatten_cons,List.flatten_nil,List.append_nil,List.append_assoc]
   refine (h3.append_right _).trans ?_
   rw [List.append_assoc]
  ·exact ZM row 0 (Z7 arr (k*sz) row) hg hd (by rw [hrl];exact hsz) hx hy hvc ho (T:=T) (r:=ins) rfl rfl (by rw [Nat.ble_eq];exact hb1) rfl ⟨rfl,rfl,rfl,rfl⟩
  ·rintro u D' B' L₁ hle ⟨rfl,rfl,rfl,rfl⟩
   have hlen:k<rows.length:=by rw [h1.len];exact hk
   have hnew:ZaP (ZK b (Z7 arr (k*sz) row) T ++ s') (some ⟨b,0,Option.none⟩) c T sz R (xs.set k z):=by
    refine ⟨rows.set k row,_,s',a1,fun r' hr'=>?_,.refl _,?_,.inr ⟨b,_,rfl,by rw [Z4];exact ha,?_,rfl,by rw [List.length_set];exact hmc⟩⟩
    ·rcases List.mem_or_eq_of_mem_set hr' with hr' | rfl
     ·exact h2 r' hr'
     ·exact hrl
    ·rw [ZcX (w:=sz),List.length_set,List.length_set,h1.len]
     intro r' hr'
     rcases List.mem_or_eq_of_mem_set hr' with hr' | rfl
     ·exact h2 r' hr'
     ·exact hrl
    ·rw [List.length_set]
     have hr1:rows[k]? = some rows[k]:=List.getElem?_eq_getElem hlen
     have hrow0:rows[k].length=sz:=h2 _ (List.getElem_mem hlen)
     have e:=ZcQ (us:=row) (off:=0) h2 hr1 (by omega)
     rw [Zgf (by rw [hrow0,hrl]),Nat.add_zero] at e
     have hb2:k*sz+row.length≤xs.length*sz:=by
      have:(k+1)*sz≤xs.length*sz:=Nat.mul_le_mul_right sz hk
      rw [Nat.succ_mul] at this;omega
     have hb3:xs.length*sz≤arr.length:=by rw [ha];exact Nat.mul_le_mul_right sz hmc
     rw [Zc3 _ _ _ _ hb2 hb3,ht,e]
   refine ⟨_,gl,?_,h _ hnew⟩
   have hq:=ZbN ((ZK b (Z7 arr (k*sz) row) T ++ s') :: inss.map fun _=>[]) r (j :: ks) (ZbP hnd) (fun jj hj=>ZbO (j :: ks) L (l :: inss) r hpk jj (.inr hj))
   have hnil:((inss.map fun _=>([]:Cells))).flatten=[]:=by
    clear hpk hpp hq hr h
    induction inss with
    | nil=>rfl
    | cons a as ih=>simp
   rw [List.flatten_cons,hnil,List.append_nil] at hq
   simp only [List.flatten_cons,List.flatten_nil,List.append_nil]
   refine List.Perm.trans ?_ (hq.append_right gl)
   have e1:(ZK b (Z7 arr (k*sz) row) T ++ ins ++ (inss.flatten ++ r.flatten)).Perm (ZK b (Z7 arr (k*sz) row) T ++ ((ins ++ inss.flatten) ++ r.flatten)):=by simp only [List.append_assoc];exact .refl _
   have e2:(ZK b (Z7 arr (k*sz) row) T ++ ((ins ++ inss.flatten) ++ r.flatten)).Perm (ZK b (Z7 arr (k*sz) row) T ++ ((s' ++ gl) ++ r.flatten)):=List.Perm.append_left _ (a2.append_right _)
   refine (e1.trans e2).trans ?_
   exact Zo4 fun f g h0 ha hc=>by simp only [ha];omega
end
section
variable {P:PJ} {n:Nat} {ops:Array Oper} {i:Nat} {K:ZaO} {S:Env} {D:List Deferred} {B BV:Kn} {L:List Cells}
variable {dst:Option Tmp} {ty:TypeId} {pos:String} {after:Array Edge} {g:Option (Nat × Bool)}
theorem Zrc {α:Type} {R:Rel α} {xs:List α} (z:α) {t T:TypeId} {x y:Operand} {v:Value} {row:List Value} {l:Cells} {p:Option Addr} {c sz k b:Nat} (j:Nat) (hj:L[j]? = some l) (hv:ZN BV l p c T sz R xs) (hp:p=some ⟨b,0,none⟩) (hk:k<xs.length) (hg:Zj ops S g=some true) (hd:Zx n dst=true) (hsz:ZR P t=some sz)
  (hx:ev S x=some (ptr ⟨b,k*sz,none⟩)) (hy:ev S y=some v) (hvc:v.cells=row.toArray) (ho:row.all Zhn=true) (hrl:row.length=sz) (hr:R BV row z)
  (h :∀l',ZN BV l' p c T sz R (xs.set k z)→K undef D B (L.set j l')):opX P n ops i ⟨dst,.store t x y,ty,pos,after,g⟩ K S D B L:=by
 obtain ⟨rows,h1,h2,h3,⟨rfl,_,_,_⟩ | ⟨b',arr,rfl,ha,ht,rfl,hmc⟩⟩:=hv
 ·cases hp
 ·cases hp
  have hlen:k<rows.length:=by rw [h1.len];exact hk
  have hr1:rows[k]? = some rows[k]:=List.getElem?_eq_getElem hlen
  have hrow0:rows[k].length=sz:=h2 _ (List.getElem_mem hlen)
  have hb1:k*sz+row.length≤xs.length*sz:=by
   have:(k+1)*sz≤xs.length*sz:=Nat.mul_le_mul_right sz hk
   rw [Nat.succ_mul] at this;omega
  have hb2:xs.length*sz≤arr.length:=by rw [ha];exact Nat.mul_le_mul_right sz hmc
  refine ZM row j (Z7 arr (k*sz) row) hg hd (by rw [hrl];exact hsz) hx hy hvc ho (r:=[]) hj rfl (by rw [Nat.ble_eq];show k*sz+row.length≤arr.length;omega) rfl (h _ ?_)
  have e:=ZcQ (us:=row) (off:=0) h2 hr1 (by omega)
  rw [Zgf (by rw [hrow0,hrl]),Nat.add_zero] at e
  refine ⟨rows.set k row,h1.set hr k,fun r hr'=>?_,?_,.inr ⟨b,_,rfl,by rw [Z4];exact ha,?_,rfl,by rw [List.length_set];exact hmc⟩⟩
  ·rcases List.mem_or_eq_of_mem_set hr' with hr' | rfl
   ·exact h2 r hr'
   ·exact hrl
  ·rw [← e,Z4,List.length_set];exact h3
  ·rw [List.length_set,Zc3 _ _ _ _ hb1 hb2,ht,e]
end
def fill {α:Type} (xs:List α) (d:α) (k:Nat):List α:=xs.take k ++ List.replicate (xs.length - k) d
theorem ZeT {α:Type} {xs:List α} {d:α} {k:Nat} (h:k≤xs.length):(fill xs d k).length=xs.length:=by
 rw [fill,List.length_append,List.length_take,List.length_replicate];omega
theorem ZdM {α:Type} {xs:List α} {d:α} : fill xs d 0=List.replicate xs.length d:=by simp [fill]
theorem ZeU {α:Type} {xs:List α} {d:α} {k:Nat} (h:xs.length≤k):fill xs d k=xs:=by
 rw [fill,List.take_of_length_le h,show xs.length - k=0 from by omega];simp
theorem ZdN {α:Type} {xs:List α} {d z:α} {k:Nat} (hz:xs[k]? = some z):(fill xs d k).set k z=fill xs d (k+1):=by
 have hk:=(List.getElem?_eq_some_iff.1 hz).1
 have e1:(xs.take k).length=k:=by rw [List.length_take];omega
 rw [fill,fill,List.set_append_right _ _ (by omega),e1,Nat.sub_self,List.take_add_one,hz,show xs.length - k=(xs.length - (k+1))+1 from by omega,List.replicate_succ]
 simp
theorem Zv.borrowL {P:PJ} {f:FuncId} {args:List Value} {B:Kn} {ls Ls:List Cells} {Post:Value→Kn→List Cells→Prop}
  (h:(∀p,p∈ls.flatten→(B.add ls.flatten).mem p.1=some p.2)→Zv P f args (B.add ls.flatten) Ls Post) :
  Zv P f args B (ls ++ Ls) (fun v B' Ls'=>∃B₂ Ls₂,Ls'=ls ++ Ls₂∧B'=B₂.minus ls.flatten∧(B.add ls.flatten).le B₂∧(∀p,p∈ls.flatten→(B.add ls.flatten).mem p.1=some p.2)∧(B.add ls.flatten).minus ls.flatten=B∧Post v B₂ Ls₂):=fun X kind c cs F hk hA=>by
 have key:=Zv.borrow (l:=ls.flatten) (Ls:=Ls) h X kind c cs F hk fun v B' Ls' hle ⟨B₂,Ls₂,h1,h2,h3,h4,h5,h6⟩=>by
  have:=hA v B' (ls ++ Ls₂) hle ⟨B₂,Ls₂,rfl,h2,h3,h4,h5,h6⟩
  subst h1
  rw [List.flatten_cons]
  rwa [List.flatten_append] at this
 rw [List.flatten_cons] at key
 rwa [List.flatten_append]
section
variable {P:PJ} {C:Cx P} {k:List Item} {n:Nat} {ops:Array Oper} {i:Nat} {S:Env} {D:List Deferred} {B BV:Kn} {L:List Cells} {Q:Exit→Zab}
variable {α:Type} {xs:List α} {l:Cells} {p:Option Addr} {cp:Nat} {T:TypeId} {w:Nat}
theorem ZzH {R:Rel α} {B':Kn} (hv:ZN BV l p cp T w R xs) (hA:ZqS R) (hl:xs.length≤2000000) (hm :∀q,q∈l→B'.mem q.1=some q.2):SlK B' p cp w R xs:=⟨hv.rowsF hA hm,hv.cap,hl⟩
theorem ZkT {R:Rel α} {I:Kn→List Cells→Prop} {ℓ:List Nat} {K:Zab} (j:Nat) (hj:L[j]? = some l) (hv:ZN BV l p cp T w R xs) (hA:ZqS R) (hl:xs.length≤2000000) (hI' :∀B',B.le B'→I B' (L.set j []))
  (h :∀B',B.le B'→SlK B' p cp w R xs→Zbd C k n ops I ℓ K S D B' (L.set j [])):Zbd C k n ops I ℓ K S D B L:=fun T ex pend π a1 a2 a3 a4 a5 a6 a7 a8 a9 hI hA'=>by
 obtain ⟨r,h1,h2⟩:=ZZ C.F [] hj
 exact C.X.publish rfl h1 fun B' hle hm=>C.X.perm (by simpa using h2.symm) (h B' hle (ZzH hv hA hl hm) T ex pend π a1 a2 a3 a4 a5 a6 a7 a8 a9 (hI' B' hle) fun S' D' B'' L' T' hle' hq=>hA' S' D' B'' L' T' (hle.trans hle') hq)
theorem Zff {R:Zgw α} {R':Rel α} {I:Kn→List Cells→Prop} {ℓ:List Nat} {K:Zab} (j:Nat) (hj:L[j]? = some l) (hv:ZaP l p cp T w R xs) (hR :∀{B:Kn} {row:List Value} {x:α} {ins:Cells},R row x ins→(∀q,q∈ins→B.mem q.1=some q.2)→R' B row x) (hM:Mono R') (hl:xs.length≤2000000) (hI' :∀B',B.le B'→I B' (L.set j []))
  (h :∀B',B.le B'→SlK B' p cp w R' xs→Zbd C k n ops I ℓ K S D B' (L.set j [])):Zbd C k n ops I ℓ K S D B L:=fun T ex pend π a1 a2 a3 a4 a5 a6 a7 a8 a9 hI hA'=>by
 obtain ⟨r,h1,h2⟩:=ZZ C.F [] hj
 exact C.X.publish rfl h1 fun B' hle hm=>C.X.perm (by simpa using h2.symm) (h B' hle (hv.known (fun _ _ _ a b=>hR a b) hM hm hl) T ex pend π a1 a2 a3 a4 a5 a6 a7 a8 a9 (hI' B' hle) fun S' D' B'' L' T' hle' hq=>hA' S' D' B'' L' T' (hle.trans hle') hq)
end
end Go.BL
namespace Go.BL
open Go.ChangeShapes Go.WideShapes Go.ChangeAt Go.RowKit
theorem Zkf {α β:Type} {f:α→Option β} :∀{xs:List α} {ys:List β},xs.mapM f=some ys→ys.length=xs.length∧∀(i:Nat) (x:α),xs[i]? = some x→f x=ys[i]?
 | [],ys,h=>by
  simp only [List.mapM_nil,Option.pure_def,Option.some.injEq] at h
  subst h;simp
 | x :: xs,ys,h=>by
  simp only [List.mapM_cons,Option.bind_eq_bind,Option.pure_def,Option.bind_eq_some_iff,Option.some.injEq] at h
  obtain ⟨y,hy,zs,hz,rfl⟩:=h
  obtain ⟨h1,h2⟩:=Zkf hz
  refine ⟨by simp [h1],fun i z hi=>?_⟩
  cases i with
  | zero=>simp only [List.getElem?_cons_zero,Option.some.injEq] at hi;subst hi;simpa using hy
  | succ i=>simpa using h2 i z (by simpa using hi)
theorem ZqC {w:World} {a:Addr} {n:Nat} {cs:List Value} (h:w.cells? 0 a n=some cs):cs.length=n∧∀i,i<n→w.cell? (a.add i)=cs[i]?:=by
 unfold World.cells? at h
 rw [if_pos (Nat.zero_le _)] at h
 obtain ⟨h1,h2⟩:=Zkf h
 exact ⟨by simpa using h1,fun i hi=>h2 i i (by simp [hi])⟩
section
variable {H:Type} (enc:TypeId × Value→H) (P:Program) (W:World)
def Zdr (t:TypeId) (p:List Value→Prop):Prop:=∀(fuel:Nat) (cs:List Value) (d:DataW H) (ps:List MemPlace),DataW.trod enc P W 0 (fun _=>true) true fuel t cs=some (d,ps)→(∀m,m∈d.weights P t→m≤reachBytes)→p cs
def ZcH {α:Type} (t:TypeId) (R:Rel α):Prop:=Zdr enc P W t fun cs=>∃x,R (ZaZ W) cs x
def ZdR {α:Type} (w:Nat) (R:Rel α):Rel (List α):=fun B row xs=>∃q cp,row=[.slice q xs.length cp]∧SlB B q cp w R xs
def Parts:List (List Value→Prop)→List Value→Prop
 | [],cs=>cs=[]
 | p :: ps,cs=>∃a b,cs=a ++ b∧p a∧Parts ps b
def ZeV (P:Program):List Field→Nat→Nat→Bool
 | [],off,n=>off == n
 | f :: fs,off,n=>f.offset == off && ZeV P fs (off+P.cellsOf f.type) n
end
section
variable {H:Type} {enc:TypeId × Value→H} {P:Program} {W:World}
theorem Zdr.mono {t:TypeId} {p p':List Value→Prop} (h:Zdr enc P W t p) (hp :∀cs,p cs→p' cs):Zdr enc P W t p':=fun fuel cs d ps ht hw=>hp cs (h fuel cs d ps ht hw)
theorem Zo6 {t:TypeId} (ht:P.underlying t=some (.int .i64)):ZcH enc P W t Zag:=fun fuel cs d ps h _=>by
 cases fuel with
 | zero=>simp [DataW.trod] at h
 | succ n=>
  unfold DataW.trod at h
  rw [ht] at h
  split at h <;> simp_all
  rename_i he
  subst he
  exact ⟨_,rfl⟩
theorem Zo5 {t:TypeId} (ht:P.underlying t=some .string):ZcH enc P W t ZiE:=fun fuel cs d ps h hw=>by
 cases fuel with
 | zero=>simp [DataW.trod] at h
 | succ n=>
  unfold DataW.trod at h
  rw [ht] at h
  split at h <;> simp_all
  rename_i s
  obtain ⟨_,rfl,_⟩:=h
  have h1:=hw s.data.toList.length (by simp [DataW.weights])
  refine ⟨s.data.toList,rfl,?_⟩
  unfold reachBytes at h1
  omega
theorem ZrF {fs:List Field} {ps:List (List Value→Prop)} {n off:Nat} (hf:ZeV P fs off n=true) {cs:List Value} (hl:cs.length=n) (hlen:fs.length=ps.length)
  (h :∀(i:Nat) (f:Field) (p:List Value→Prop),fs[i]? = some f→ps[i]? = some p→p ((cs.drop f.offset).take (P.cellsOf f.type))):Parts ps (cs.drop off):=by
 induction fs generalizing ps off with
 | nil=>
  simp only [ZeV,beq_iff_eq] at hf
  cases ps with
  | nil=>show cs.drop off=[];rw [List.drop_eq_nil_iff];omega
  | cons p ps=>simp at hlen
 | cons f fs ih=>
  simp only [ZeV,Bool.and_eq_true,beq_iff_eq] at hf
  cases ps with
  | nil=>simp at hlen
  | cons p ps=>
   refine ⟨(cs.drop off).take (P.cellsOf f.type),(cs.drop off).drop (P.cellsOf f.type),(List.take_append_drop _ _).symm,?_,?_⟩
   ·have:=h 0 f p rfl rfl
    rwa [hf.1] at this
   ·rw [List.drop_drop]
    exact ih hf.2 (by simpa using hlen) fun i f' p' h1 h2=>h (i+1) f' p' (by simpa using h1) (by simpa using h2)
theorem ZcY :∀{ts:List TypeId} {ds:List (DataW H)} {i:Nat} {t:TypeId} {d:DataW H},ts[i]? = some t→ds[i]? = some d→∀m,m∈d.weights P t→m∈DataW.weightsEach P ts ds
 | t :: ts,d :: ds,0,t',d',h1,h2,m,hm=>by
  simp only [List.getElem?_cons_zero,Option.some.injEq] at h1 h2
  subst h1;subst h2
  simp only [DataW.weightsEach,List.mem_append];exact .inl hm
 | t :: ts,d :: ds,i+1,t',d',h1,h2,m,hm=>by
  simp only [DataW.weightsEach,List.mem_append];exact .inr (ZcY (by simpa using h1) (by simpa using h2) m hm)
 | [],_,_,_,_,h1,_,_,_=>by simp at h1
 | _ :: _,[],_,_,_,_,h2,_,_=>by simp at h2
theorem Ze6 {e:TypeId} :∀{ds:List (DataW H)} {i:Nat} {d:DataW H},ds[i]? = some d→∀m,m∈d.weights P e→m∈DataW.weightsAll P e ds
 | d :: ds,0,d',h2,m,hm=>by
  simp only [List.getElem?_cons_zero,Option.some.injEq] at h2
  subst h2
  simp only [DataW.weightsAll,List.mem_append];exact .inl hm
 | d :: ds,i+1,d',h2,m,hm=>by
  simp only [DataW.weightsAll,List.mem_append];exact .inr (Ze6 (by simpa using h2) m hm)
 | [],_,_,h2,_,_=>by simp at h2
theorem Zj4 {t:TypeId} {fs:Array Field} (ht:P.underlying t=some (.struct fs)) (ps:List (List Value→Prop)) (hf:ZeV P fs.toList 0 (P.cellsOf t)=true) (hlen:fs.toList.length=ps.length)
  (h :∀(i:Nat) (f:Field) (p:List Value→Prop),fs.toList[i]? = some f→ps[i]? = some p→Zdr enc P W f.type p):Zdr enc P W t (Parts ps):=fun fuel cs d pl htr hw=>by
 obtain ⟨xs,n,rfl,hx,hl,hxl,hel⟩:=DataW.trod_struct ht htr
 simp only [Prod.mk.injEq] at hx
 obtain ⟨rfl,_⟩:=hx
 have:=ZrF (ps:=ps) hf hl hlen fun i f p h1 h2=>by
  have h3:=hel i f (by simpa using h1)
  have hi:i<xs.length:=by
   have:=(List.getElem?_eq_some_iff.1 h1).1
   simp only [Array.length_toList] at this
   omega
  rw [List.getElem?_eq_getElem hi] at h3
  rcases hxi:xs[i] with ⟨d,pl'⟩
  refine h i f p h1 h2 n _ d pl' (by rw [h3,hxi]) fun m hm=>hw m ?_
  simp only [DataW.weights,ht]
  exact ZcY (i:=i) (t:=f.type) (d:=d) (by simp [h1]) (by simp [List.getElem?_eq_getElem hi,hxi]) m hm
 simpa using this
theorem Zcp {α:Type} {t e:TypeId} {w:Nat} {R:Rel α} (ht:P.underlying t=some (.slice e)) (hc:P.cellsOf e=w) (hb:0<P.bytesOf e) (hw0:0<w) (h:ZcH enc P W e R):ZcH enc P W t (ZdR w R):=fun fuel cs d pl htr hw=>by
 rcases DataW.trod_slice ht htr with ⟨rfl,_⟩ | ⟨a,len,cap,elems,rest,n,rfl,rfl,hx,_,hl,hm,hlen,hel,_,_⟩
 ·exact ⟨[],none,0,rfl,⟨fun i x hi=>by simp at hi,Nat.le_refl _,Nat.zero_le _⟩⟩
 ·simp only [Prod.mk.injEq] at hx
  obtain ⟨rfl,_⟩:=hx
  have hlen2:len≤140737488355328:=by
   have:=hw ((elems.length+rest.length)*P.bytesOf e) (by simp [DataW.weights,ht])
   have h2:elems.length+rest.length≤(elems.length+rest.length)*P.bytesOf e:=Nat.le_mul_of_pos_right _ hb
   unfold reachBytes at this
   omega
  have each :∀i,i<len→∃x row,R (ZaZ W) row x∧row.length=w∧∀j,j<w→W.cell? ((a.add (i*w)).add j)=row[j]?:=fun i hi=>by
   have h1:=hel i hi
   have hi':i<elems.length:=by omega
   rw [List.getElem?_eq_getElem hi'] at h1
   obtain ⟨row,hr1,hr2⟩:=Option.bind_eq_some_iff.1 h1
   rw [hc] at hr1
   obtain ⟨hr3,hr4⟩:=ZqC hr1
   rcases hxi:elems[i] with ⟨d,pl'⟩
   obtain ⟨x,hx⟩:=h n row d pl' (by rw [hr2,hxi]) fun m hm=>hw m (by
    simp only [DataW.weights,ht,List.mem_cons,List.mem_append]
    exact .inr (.inl (Ze6 (i:=i) (d:=d) (by simp [List.getElem?_eq_getElem hi',hxi]) m hm)))
   exact ⟨x,row,hx,hr3,hr4⟩
  have hsp:0<len→a.spot=none:=fun h0=>by
   obtain ⟨x,row,_,hr,hj⟩:=each 0 h0
   have h1:=hj 0 hw0
   rw [List.getElem?_eq_getElem (by omega)] at h1
   have:=(ZhP h1).1
   simpa [Addr.add] using this
  refine ⟨(List.range len).attach.map fun i=>(each i.1 (List.mem_range.1 i.2)).choose,some a,cap,by simp,⟨fun i x hi=>?_,by simpa using hl,by simpa using hlen2⟩⟩
  have hi':i<len:=by
   have:=(List.getElem?_eq_some_iff.1 hi).1
   simpa using this
  have hxx:x=(each i hi').choose:=by
   simp [hi'] at hi
   exact hi.symm
  obtain ⟨row,hr1,hr2,hr3⟩:=(each i hi').choose_spec
  have hs:=hsp (by omega)
  refine ⟨a.block,a.off,row,?_,by rw [hxx];exact hr1,fun j u hj=>?_⟩
  ·obtain ⟨b,o,s⟩:=a;simp only at hs;subst hs;rfl
  ·have hjw:j<w:=by rw [← hr2];exact (List.getElem?_eq_some_iff.1 hj).1
   have h4:=hr3 j hjw
   rw [hj] at h4
   have:=ZhP h4
   have ea:(a.add (i*w)).add j=⟨a.block,a.off+i*w+j,none⟩:=by
    rw [Addr.add_off _ _ (by rw [Addr.add_off _ _ hs]),Addr.add_off _ _ hs]
   rwa [ea] at this
def ZsL (enc:TypeId × Value→H) (P:Program) (W:World):List Field→List (List Value→Prop)→Prop
 | [],[]=>True
 | f :: fs,p :: ps=>Zdr enc P W f.type p∧ZsL enc P W fs ps
 | _,_=>False
theorem Zj5 :∀{fs:List Field} {ps:List (List Value→Prop)},ZsL enc P W fs ps→fs.length=ps.length
 | [],[],_=>rfl
 | _ :: _,_ :: _,h=>by simp only [List.length_cons,Zj5 h.2]
 | [],_ :: _,h=>h.elim
 | _ :: _,[],h=>h.elim
theorem Zj6 :∀{fs:List Field} {ps:List (List Value→Prop)},ZsL enc P W fs ps→∀(i:Nat) (f:Field) (p:List Value→Prop),fs[i]? = some f→ps[i]? = some p→Zdr enc P W f.type p
 | _ :: _,_ :: _,h,0,f,p,h1,h2=>by
  simp only [List.getElem?_cons_zero,Option.some.injEq] at h1 h2
  subst h1;subst h2;exact h.1
 | _ :: _,_ :: _,h,i+1,f,p,h1,h2=>Zj6 h.2 i f p (by simpa using h1) (by simpa using h2)
 | [],_,_,i,f,p,h1,h2=>by simp at h1
 | _ :: _,[],h,_,_,_,_,_=>h.elim
theorem Zb6 {t:TypeId} {fs:Array Field} (ht:P.underlying t=some (.struct fs)) (ps:List (List Value→Prop)) (hf:ZeV P fs.toList 0 (P.cellsOf t)=true) (h:ZsL enc P W fs.toList ps):Zdr enc P W t (Parts ps):=
 Zj4 ht ps hf (Zj5 h) (Zj6 h)
theorem ZmC {t:TypeId} {v:Value} {d:DataW H} {ps:List MemPlace} {p:List Value→Prop} (h:DataW.Trod enc P W 0 (fun _=>true) true t v d ps) (ho:Zdr enc P W t p) (hw :∀m,m∈d.weights P t→m≤reachBytes):p v.cells.toList:=by
 obtain ⟨n,hn⟩:=h;exact ho n _ _ _ hn hw
theorem weigh {ts:List TypeId} {ds:List (DataW H)} (h:(DataW.weightsEach P ts ds).all (·≤reachBytes)=true) {i:Nat} {t:TypeId} {d:DataW H} (h1:ts[i]? = some t) (h2:ds[i]? = some d) :∀m,m∈d.weights P t→m≤reachBytes:=fun m hm=>by
 have:=List.all_eq_true.1 h m (ZcY h1 h2 m hm)
 simpa using this
end
end Go.BL
namespace Go.BL
section
variable {P:PJ} {n:Nat} {ops:Array Oper} {i:Nat} {K:ZaO} {S:Env} {D:List Deferred} {B:Kn} {L:List Cells}
variable {dst:Option Tmp} {ty:TypeId} {pos:String} {after:Array Edge} {g:Option (Nat × Bool)}
theorem ZnT {P:Program} {B:Kn} {L:Cells} {q:Addr} {cp:Nat} {b:Int} (hs:ZcG B L (some q) [.int .u8 b]) {Q:Value→Kn→Cells→Prop} (h:Q (str [UInt8.ofNat b.toNat]) B L):hb P (Conv.bytesToString (.slice (some q) 1 cp)) Q B L:=by
 simp only [Conv.bytesToString,Zi,loadCells]
 refine ZbI [.int .u8 b] 0 #[] (fun j v hj=>by simpa using hs j v hj) ?_
 have e:Q (Value.string (ByteArray.empty.push (UInt8.ofNat b.toNat))) B L:=h
 simpa [Zp,Zi] using e
theorem Zor {s d e:TypeId} {x:Operand} {q:Addr} {cp:Nat} {b:Int} (hg:Zj ops S g=some true) (hd:Zx n dst=true) (hs:P.underlying s=some (.slice e)) (hd':P.underlying d=some .string) (he:P.underlying e=some (.int .u8))
  (hx:ev S x=some (.slice (some q) 1 cp)) (hc:ZcG B L.flatten (some q) [.int .u8 b]) (h:K (str [UInt8.ofNat b.toNat]) D B L):opX P n ops i ⟨dst,.convert s d x,ty,pos,after,g⟩ K S D B L:=
 ZL hg hd (fun ρ hρ Q F q'=>by
  simp only [execOp,convert,hρ x _ hx,Zi,Zq hs,Zq hd',Zq he]
  exact ZnT hc.app q') h
end
end Go.BL
namespace Go.BL
theorem All3.at {α:Type} {R:Zgw α} {rows:List (List Value)} {xs:List α} {s:Cells} (h:All3 R rows xs s) :∀{i:Nat} {x:α},xs[i]? = some x→∃row li lr,rows[i]? = some row∧R row x li∧s.Perm (li ++ lr)∧∀x' li',R row x' li'→∃s',All3 R rows (xs.set i x') s'∧s'.Perm (li' ++ lr):=by
 induction h with
 | nil=>intro i x hx;simp at hx
 | @cons row0 x0 ins0 rest rows xs h1 h2 ih=>
  intro i x hx
  cases i with
  | zero=>
   simp only [List.getElem?_cons_zero,Option.some.injEq] at hx
   subst hx
   exact ⟨row0,ins0,rest,rfl,h1,.refl _,fun x' li' hr=>⟨li' ++ rest,.cons hr h2,.refl _⟩⟩
  | succ i=>
   obtain ⟨row,li,lr,e1,e2,e3,e4⟩:=ih (by simpa using hx)
   refine ⟨row,li,ins0 ++ lr,by simpa using e1,e2,?_,fun x' li' hr=>?_⟩
   ·exact (List.Perm.append_left ins0 e3).trans (by rw [← List.append_assoc,← List.append_assoc];exact List.Perm.append_right lr List.perm_append_comm)
   ·obtain ⟨s',f1,f2⟩:=e4 x' li' hr
    exact ⟨ins0 ++ s',.cons h1 f1,(List.Perm.append_left ins0 f2).trans (by rw [← List.append_assoc,← List.append_assoc];exact List.Perm.append_right lr List.perm_append_comm)⟩
theorem ZaP.open1 {α:Type} {l:Cells} {p:Option Addr} {c:Nat} {T:TypeId} {w:Nat} {R:Zgw α} {xs:List α} (h:ZaP l p c T w R xs) {i:Nat} {x:α} (hx:xs[i]? = some x) :
∃b arr row li lr,p=some ⟨b,0,none⟩∧R row x li∧row.length=w∧l.Perm (li ++ (ZK b arr T ++ lr))∧(∀(j:Nat) (u:Value),row[j]? = some u→arr[i*w+j]? = some u)∧
∀x' li',R row x' li'→ZaP (li' ++ (ZK b arr T ++ lr)) p c T w R (xs.set i x'):=by
 obtain ⟨rows,blk,ins,h1,h2,h3,hvl⟩:=h
 have hlt:=(List.getElem?_eq_some_iff.1 hx).1
 obtain ⟨hl0,⟨_,h0,_,_⟩ | ⟨b,arr,rfl,ha,ht,rfl,hm⟩⟩:=hvl
 ·omega
 ·obtain ⟨row,li,lr,e1,e2,e3,e4⟩:=h1.at hx
  refine ⟨b,arr,row,li,lr,rfl,e2,h2 row (List.mem_of_getElem? e1),?_,fun j u hj=>?_,fun x' li' hr=>?_⟩
  ·refine h3.trans ((List.Perm.append_left _ e3).trans ?_)
   rw [← List.append_assoc,← List.append_assoc];exact List.Perm.append_right lr List.perm_append_comm
  ·have hu:=ZfL h2 e1 hj
   rw [← ht,List.getElem?_take] at hu
   split at hu
   ·exact hu
   ·cases hu
  ·obtain ⟨s',f1,f2⟩:=e4 x' li' hr
   refine ⟨rows,ZK b arr T,s',f1,h2,?_,by rw [List.length_set];exact hl0,.inr ⟨b,arr,rfl,ha,by rw [List.length_set];exact ht,rfl,by rw [List.length_set];exact hm⟩⟩
   refine List.Perm.trans ?_ (List.Perm.append_left _ f2.symm)
   rw [← List.append_assoc,← List.append_assoc];exact List.Perm.append_right lr List.perm_append_comm
section
variable {P:PJ} {n:Nat} {Q:Exit→Zab} {S:Env} {D:List Deferred} {B:Kn} {L:List Cells} {c:Code}
theorem ZsQ {L':List Cells} (hp:L.flatten.Perm L'.flatten) (h:wpS P n c Q S D B L'):wpS P n c Q S D B L:=fun C k T hn hT hA=>by
 refine C.X.drop (r:=L'.flatten ++ C.F) (gl:=[]) ?_ (h C k T hn hT hA)
 rw [List.append_nil];exact hp.append_right C.F
theorem Zfk {a b:Cells} (j m:Nat) (hj:L[j]? = some a) (hm:L[m]? = some b) (hne:j≠m) (h:wpS P n c Q S D B ((L.set j (b ++ a)).set m [])):wpS P n c Q S D B L:=by
 refine ZsQ ?_ h
 obtain ⟨r,h1,h2⟩:=ZZ [] (b ++ a) hj
 have hm':(L.set j (b ++ a))[m]? = some b:=by rw [List.getElem?_set_ne hne];exact hm
 obtain ⟨r2,h3,h4⟩:=ZZ [] [] hm'
 rw [List.append_nil] at h1 h2 h3 h4
 rw [List.nil_append] at h4
 have h5:(b ++ (a ++ r)).Perm (b ++ r2):=by rw [← List.append_assoc];exact h2.symm.trans h3
 exact h1.trans (((List.perm_append_left_iff b).1 h5).trans h4.symm)
end
end Go.BL
namespace Go.BL
theorem All3.row {α:Type} {R:Zgw α} {rows:List (List Value)} {xs:List α} {s:Cells} (h:All3 R rows xs s) {z x:α} (f:List Value→List Value) (hf :∀row li,R row x li→R (f row) z li) :∀{k:Nat},xs[k]? = some x→∃row,rows[k]? = some row∧All3 R (rows.set k (f row)) (xs.set k z) s:=by
 induction h with
 | nil=>intro k hx;simp at hx
 | @cons row0 x0 ins0 rest rows xs h1 h2 ih=>
  intro k hx
  cases k with
  | zero=>
   simp only [List.getElem?_cons_zero,Option.some.injEq] at hx
   subst hx
   exact ⟨row0,rfl,.cons (hf _ _ h1) h2⟩
  | succ k=>
   obtain ⟨row,e1,e2⟩:=ih (k:=k) (by simpa using hx)
   exact ⟨row,by simpa using e1,.cons h1 e2⟩
theorem ZaP.cell {α:Type} {l:Cells} {p:Option Addr} {c:Nat} {T:TypeId} {w:Nat} {R:Zgw α} {xs:List α} (h:ZaP l p c T w R xs) {i:Nat} {x:α} (hx:xs[i]? = some x) {B:Kn} {L:List Cells} (j:Nat) (hj:L[j]? = some l) :
∃b row li lr,p=some ⟨b,0,none⟩∧R row x li∧row.length=w∧l.Perm (li ++ lr)∧(∀(m:Nat) (u:Value),row[m]? = some u→ZaU B L.flatten ⟨b,i*w+m,none⟩ u)∧∀x' li',R row x' li'→ZaP (li' ++ lr) p c T w R (xs.set i x'):=by
 obtain ⟨b,arr,row,li,lr,e1,e2,e3,e4,e5,e6⟩:=h.open1 hx
 refine ⟨b,row,li,ZK b arr T ++ lr,e1,e2,e3,e4,fun m u hm=>⟨rfl,arr.toArray,T,(0,0),.inr ?_,by simpa using e5 m u hm⟩,e6⟩
 obtain ⟨r,h1,h2⟩:=ZZ [] [] hj
 rw [List.append_nil] at h1
 rw [h1.mem_iff]
 refine List.mem_append_left _ (e4.mem_iff.2 (List.mem_append_right _ (List.mem_append_left _ ?_)))
 exact List.mem_singleton.2 rfl
section
variable {P:PJ} {n:Nat} {ops:Array Oper} {i:Nat} {K:ZaO} {S:Env} {D:List Deferred} {B:Kn} {L:List Cells}
variable {dst:Option Tmp} {ty:TypeId} {pos:String} {after:Array Edge} {g:Option (Nat × Bool)}
theorem Zh9 {α:Type} {R:Zgw α} {xs:List α} {x0:α} (z:α) {t T:TypeId} {x y:Operand} {v:Value} {us:List Value} {sz k c b:Nat} (off:Nat) {l:Cells} {p:Option Addr} (j:Nat) (hj:L[j]? = some l) (hv:ZaP l p c T sz R xs) (hp:p=some ⟨b,0,Option.none⟩) (hx0:xs[k]? = some x0) (hg:Zj ops S g=some true) (hd:Zx n dst=true) (hsz:ZR P t=some us.length)
  (hx:ev S x=some (ptr ⟨b,k*sz+off,Option.none⟩)) (hy:ev S y=some v) (hvc:v.cells=us.toArray) (ho:us.all Zhn=true) (hoff:off+us.length≤sz) (hr :∀row li,R row x0 li→R (Z7 row off us) z li)
  (h :∀l',ZaP l' p c T sz R (xs.set k z)→K undef D B (L.set j l')):opX P n ops i ⟨dst,.store t x y,ty,pos,after,g⟩ K S D B L:=by
 subst hp
 obtain ⟨rows,blk,ins,h1,h2,h3,hl1,⟨hc,_⟩ | ⟨b',arr,e,ha,ht,rfl,hmc⟩⟩:=hv
 ·cases hc
 ·cases e
  have hk:=(List.getElem?_eq_some_iff.1 hx0).1
  obtain ⟨row,hrow,a1⟩:=h1.row (fun row=>Z7 row off us) hr hx0
  have hw:row.length=sz:=h2 row (List.mem_of_getElem? hrow)
  have hsz1:(k+1)*sz≤xs.length*sz:=Nat.mul_le_mul_right sz hk
  have hcs:xs.length*sz≤c*sz:=Nat.mul_le_mul_right sz hmc
  rw [Nat.succ_mul] at hsz1
  have hb1:k*sz+off+us.length≤arr.length:=by omega
  refine Zlp (L':=L.set j (ZK b arr T ++ ins)) (K':=fun u D' B' L₁=>u=undef∧D'=D∧B'=B∧L₁=(L.set j (ZK b arr T ++ ins)).set j (ZK b (Z7 arr (k*sz+off) us) T ++ ins)) ?_ ?_ ?_
  ·obtain ⟨r,e1,e2⟩:=ZZ [] (ZK b arr T ++ ins) hj
   rw [List.append_nil] at e1 e2
   exact e1.trans ((h3.append_right r).trans e2.symm)
  ·have hj':(L.set j (ZK b arr T ++ ins))[j]? = some (ZK b arr T ++ ins):=by
    rw [List.getElem?_set_self (List.getElem?_eq_some_iff.1 hj).1]
   exact ZM us j (Z7 arr (k*sz+off) us) hg hd hsz hx hy hvc ho (T:=T) (r:=ins) hj' rfl (by rw [Nat.ble_eq];exact hb1) rfl ⟨rfl,rfl,rfl,rfl⟩
  ·rintro u D' B' L₁ hle ⟨rfl,rfl,rfl,rfl⟩
   have hnew:ZaP (ZK b (Z7 arr (k*sz+off) us) T ++ ins) (some ⟨b,0,Option.none⟩) c T sz R (xs.set k z):=by
    have hsl:(Z7 row off us).length=sz:=by rw [Z4];exact hw
    have hwide:wide sz (rows.set k (Z7 row off us)):=fun r' hr'=>by
     rcases List.mem_or_eq_of_mem_set hr' with hr' | rfl
     ·exact h2 r' hr'
     ·exact hsl
    refine ⟨rows.set k (Z7 row off us),_,ins,a1,hwide,.refl _,?_,.inr ⟨b,_,rfl,by rw [Z4];exact ha,?_,rfl,by rw [List.length_set];exact hmc⟩⟩
    ·rw [ZcX hwide,List.length_set,List.length_set,h1.len]
    ·rw [List.length_set]
     have e:=ZcQ (us:=us) (off:=off) h2 hrow hoff
     rw [Zc3 _ _ _ _ (by omega) (by omega),ht,e]
   refine ⟨L.set j (ZK b (Z7 arr (k*sz+off) us) T ++ ins),[],?_,h _ hnew⟩
   rw [List.set_set,List.append_nil]
end
end Go.BL
namespace Go.BL
open Go.Conc (G)
section
variable {P:PJ} {n:Nat} {ops:Array Oper} {i:Nat} {K:ZaO} {S:Env} {D:List Deferred} {B:Kn} {L:List Cells}
variable {dst:Option Tmp} {ty:TypeId} {pos:String} {after:Array Edge} {g:Option (Nat × Bool)}
theorem Ztw {α:Type} {R:Zgw α} {xs:List α} (z:α) {t u e:TypeId} {x y:Operand} {sz by_ m c c2:Nat} {p q:Option Addr} {row:List Value} {l:Cells} {inss r:List Cells} (j:Nat) (ks:List Nat) (hpk:Zaw L (j :: ks)=some (l :: inss,r)) (hnd:Zed (j :: ks)=true) (hv:ZaP l p c e sz R xs) (hm:m=xs.length) (hg:Zj ops S g=some true) (hd:Zx n dst=true)
  (he:ZcE P t e sz by_=true) (hu:(match P.underlying u with | some (.slice _)=>true | _=>false)=true) (hx:ev S x=some (.slice p m c)) (hy:ev S y=some (.slice q 1 c2)) (hs:ZcG B L.flatten q row) (hone:row.all Zhn=true) (hrl:row.length=sz) (ins0:Cells) (hi0:inss.flatten=ins0) (hr:R row z ins0) (hb1:(xs.length+1)*by_≤140737488355328)
  (h :∀l' p' c',ZaP l' p' c' e sz R (xs ++ [z])→K (.slice p' (xs ++ [z]).length c') D B (Zci r (j :: ks) (l' :: inss.map fun _=>[]))):opX P n ops i ⟨dst,.call ⟨.builtin .append,#[x,y],#[t,u]⟩,ty,pos,after,g⟩ K S D B L:=by
 subst hm
 subst hi0
 obtain ⟨rows,blk,inn,h1,h2,h3,h4⟩:=hv
 have hpp:=Zaf (j :: ks) L (l :: inss) r hpk
 have p1:L.flatten.Perm (blk ++ (inn ++ (inss.flatten ++ r.flatten))):=by
  refine hpp.trans ?_
  simp only [List.flatten_cons,List.append_assoc]
  refine (h3.append_right _).trans ?_
  rw [List.append_assoc]
 refine ZmD (L':=[blk,inn ++ (inss.flatten ++ r.flatten)]) (K':=fun v D' B' L₁=>∃blk' p' c',L₁=[blk',inn ++ (inss.flatten ++ r.flatten)]∧v = .slice p' (xs.length+1) c'∧D'=D∧B'=B∧ZhV blk' p' (xs.length+1) c' e sz (rows.flatten ++ row)) ?_ ?_ ?_
 ·simpa using p1
 ·refine ZeI 0 rfl h4 hg hd he hu hx hy ?_ (by rw [hrl,Nat.one_mul]) hone hb1 fun l' p' c' hv'=>⟨l',p',c',rfl,rfl,rfl,rfl,hv'⟩
  cases q with
  | none=>exact hs
  | some a=>
   intro jj v hjj
   exact (hs jj v hjj).perm (by simpa using p1)
 ·rintro v D' B' L₁ hle ⟨blk',p',c',rfl,rfl,rfl,rfl,hv'⟩
  have hnew:ZaP (blk' ++ (inn ++ inss.flatten)) p' c' e sz R (xs ++ [z]):=⟨rows ++ [row],blk',inn ++ inss.flatten,h1.snoc hr,fun r' hr'=>by
   rcases List.mem_append.1 hr' with hr' | hr'
   ·exact h2 r' hr'
   ·rw [List.mem_singleton.1 hr'];exact hrl,.refl _,by rw [List.length_append,List.flatten_append];simpa using hv'⟩
  refine ⟨_,?_,by have:=h _ _ _ hnew;rwa [List.length_append] at this⟩
  have hq:=ZbN ((blk' ++ (inn ++ inss.flatten)) :: inss.map fun _=>[]) r (j :: ks) (ZbP hnd) (fun jj hj=>ZbO (j :: ks) L (l :: inss) r hpk jj (.inr hj))
  have hnil:((inss.map fun _=>([]:Cells))).flatten=[]:=by
   clear hpk hpp h hnew hs h3 p1 hq
   induction inss with
   | nil=>rfl
   | cons a as ih=>simp
  rw [List.flatten_cons,hnil,List.append_nil] at hq
  refine List.Perm.trans ?_ hq
  simp only [List.flatten_cons,List.flatten_nil,List.append_nil,List.append_assoc]
  exact .refl _
theorem Zaa.borrowL {f:FuncId} {args:List Value} {ls:List Cells} {v:Value} (h:(∀p,p∈ls.flatten→(B.add ls.flatten).mem p.1=some p.2)→Zaa P f args (B.add ls.flatten) v):Zv P f args B ls (fun v' B' Ls=>v'=v∧B'=B∧Ls=ls):=by
 have:=(Zv.borrowL (P:=P) (Ls:=[]) h).mono (Post':=fun v' B' Ls=>v'=v∧B'=B∧Ls=ls) fun v' B' Ls' _ ⟨B₂,Ls₂,a1,a2,_,_,a3,a4,a5,a6⟩=>by subst a5;subst a6;exact ⟨a4,a2.trans a3,by rw [a1,List.append_nil]⟩
 rwa [List.append_nil] at this
theorem ZgE {f:FuncId} {xs:List Operand} {vs:List Value} {ats:Array TypeId} {v:Value} {ls r:List Cells} (js:List Nat) (hp:Zaw L js=some (ls,r)) (hput:Zci r js ls=L) (hn:Zed js=true) (hg:Zj ops S g=some true) (hd:Zx n dst=true) (he:enters P f=true) (ha:evs S xs=some vs)
  (hc:Zv P f vs B ls (fun v' B' Ls=>v'=v∧B'=B∧Ls=ls)) (h:K v D B L):opX P n ops i ⟨dst,.call ⟨.value (.func f),xs.toArray,ats⟩,ty,pos,after,g⟩ K S D B L:=
 Zby js hp hn hg hd he ha hc fun v' B' Ls' hle ⟨h1,h2,h3⟩=>by subst h1;subst h2;subst h3;rw [hput];exact h
end
theorem Zv.borrowK {P:PJ} {B:Kn} {f:FuncId} {args:List Value} {Ls:List Cells} {Post:Value→Kn→List Cells→Prop} (k:Nat)
  (h:(∀p,p∈(Ls.take k).flatten→(B.add (Ls.take k).flatten).mem p.1=some p.2)→Zv P f args (B.add (Ls.take k).flatten) (Ls.drop k) Post) :
  Zv P f args B Ls (fun v B' Ls'=>∃B₂ Ls₂,Ls'=Ls.take k ++ Ls₂∧B'=B₂.minus (Ls.take k).flatten∧(B.add (Ls.take k).flatten).le B₂∧(∀p,p∈(Ls.take k).flatten→(B.add (Ls.take k).flatten).mem p.1=some p.2)∧(B.add (Ls.take k).flatten).minus (Ls.take k).flatten=B∧Post v B₂ Ls₂):=by
 have:=Zv.borrowL (P:=P) (ls:=Ls.take k) (Ls:=Ls.drop k) h
 rwa [List.take_append_drop] at this
theorem Zpq {B:Kn} {ls:List Cells} {l:Cells} (hm :∀p,p∈ls.flatten→B.mem p.1=some p.2) (k:Nat) (hk:ls[k]? = some l) :∀q,q∈l→B.mem q.1=some q.2:=fun q hq=>hm q (List.mem_flatten.2 ⟨l,List.mem_of_getElem? hk,hq⟩)
theorem ZN.lendK {α:Type} {B BV:Kn} {l:Cells} {ls:List Cells} {p:Option Addr} {c:Nat} {T:TypeId} {w:Nat} {R:Rel α} {xs:List α} (h:ZN BV l p c T w R xs) (hR:ZqS R) (k:Nat) (hk:ls[k]? = some l) (hm :∀q,q∈ls.flatten→(B.add ls.flatten).mem q.1=some q.2) (hl:xs.length≤2000000):SlK (B.add ls.flatten) p c w R xs:=⟨h.rowsF hR (Zpq hm k hk),h.cap,hl⟩
theorem ZaP.lendK {α:Type} {B:Kn} {l:Cells} {ls:List Cells} {p:Option Addr} {c:Nat} {T:TypeId} {w:Nat} {R:Zgw α} {R':Rel α} {xs:List α} (h:ZaP l p c T w R xs) (hR :∀{B:Kn} {row:List Value} {x:α} {ins:Cells},R row x ins→(∀q,q∈ins→B.mem q.1=some q.2)→R' B row x) (hM:Mono R') (k:Nat) (hk:ls[k]? = some l) (hm :∀q,q∈ls.flatten→(B.add ls.flatten).mem q.1=some q.2) (hl:xs.length≤2000000):SlK (B.add ls.flatten) p c w R' xs:=h.known (fun _ _ _ a b=>hR a b) hM (Zpq hm k hk) hl
theorem ZvI {l a lr:Cells} (h:l.Perm (a ++ lr)):l.Perm (lr ++ ([a]:List Cells).flatten):=by
 simpa using h.trans List.perm_append_comm
theorem ZrE {l a b lr:Cells} (h:l.Perm (a ++ b ++ lr)):l.Perm (lr ++ ([a,b]:List Cells).flatten):=by
 simpa using h.trans List.perm_append_comm
theorem Zvm {P:PJ} {n:Nat} {Q:Exit→Zab} {S:Env} {D:List Deferred} {B:Kn} {L:List Cells} {c:Code} (es:List Cells) (he:es.flatten=[]) (h:wpS P n c Q S D B (L ++ es)):wpS P n c Q S D B L:=
 ZsQ (by rw [List.flatten_append,he,List.append_nil]) h
end Go.BL
namespace Go.BL
open Go.Conc (G)
def errv (tE:TypeId) (a:Nat→Addr):Nat→Value
 | 0=>.nilIface
 | k+1=>.iface tE (.pointer (some (a k)))
structure ErrsB (tE:TypeId) (gs:List Nat) (B:Kn) (a:Nat→Addr):Prop where
 row :∀k,k<4→Zau B (gs.getD k 0) 0 [.iface tE (.pointer (some (a k)))]
 cell :∀k,k<4→∃cs T,B.mem (a k).block=some (.cells cs T (0,0))
 ne :∀i j,i<4→j<4→i≠j→a i≠a j
theorem ErrsB.mono {tE:TypeId} {gs:List Nat} {B B':Kn} {a:Nat→Addr} (h:ErrsB tE gs B a) (hle:B.le B'):ErrsB tE gs B' a:=
 ⟨fun k hk=>(h.row k hk).mono hle,fun k hk=>let ⟨cs,T,e⟩:=h.cell k hk;⟨cs,T,hle _ _ e⟩,h.ne⟩
section
variable {P:Program}
theorem Zsd {a:Addr} {B:Kn} {L:Cells} {Q:Bool→Kn→Cells→Prop} (q:Q true B L):hb P (sameAddr a a) Q B L:=by
 have e:sameAddr a a=pure true:=by simp [sameAddr]
 rw [e];exact q
theorem ZgN {x:Addr} {cx:Array Value} {tx:TypeId} {B:Kn} {L:Cells} {Q:Bool→Kn→Cells→Prop} (hx:ZiF B L x.block (.cells cx tx (0,0))) (q:Q false B L):hb P (stringish x) Q B L:=by
 unfold stringish
 rw [Zi]
 refine ⟨_,hx,?_⟩
 simp only [Zbv,Zp,Za6,Nat.not_lt_zero,decide_false,Bool.and_false,Bool.false_eq_true,if_false]
 rw [Zi]
 refine ⟨_,hx,?_⟩
 simp only [ZiK,Zp,Za6]
 refine ⟨_,hx,?_⟩
 simp only [Zbv,Nat.not_lt_zero,decide_false,Bool.and_false]
 exact q
theorem Zkq {x:Addr} {cx:Array Value} {tx:TypeId} {B:Kn} {L:Cells} {Q:Unit→Kn→Cells→Prop} (hx:ZiF B L x.block (.cells cx tx (0,0))) (q:Q () B L):hb P (noView x) Q B L:=by
 unfold noView viewAt
 simp only [Zi]
 refine ⟨_,hx,?_⟩
 simp only [ZiK,Option.isSome_some,if_true,Zp,Za6]
 exact q
theorem Zse {a b:Addr} {ca cb:Array Value} {ta tb:TypeId} {B:Kn} {L:Cells} {Q:Bool→Kn→Cells→Prop} (hne:a≠b) (ha:ZiF B L a.block (.cells ca ta (0,0))) (hb':ZiF B L b.block (.cells cb tb (0,0))) (q:Q false B L):hb P (sameAddr a b) Q B L:=by
 unfold sameAddr
 by_cases h:a.block=b.block
 ·have e1:(a.block == b.block)=true:=by simpa using h
  have e2:(a == b)=false:=by simpa using hne
  simp only [e1,if_true,e2];exact q
 ·have e1:(a.block == b.block)=false:=by simpa using h
  simp only [e1,Bool.false_eq_true,if_false,Zi]
  refine ⟨_,ha,?_⟩
  have f1:Zbv a.off (.cells ca ta (0,0))=false:=by simp [Zbv]
  simp only [f1,Zp,Za6,Bool.false_eq_true,if_false,Bool.false_and,Zi]
  refine ⟨_,hb',?_⟩
  simp only [Zp,Za6,Zi]
  refine Zkq ha ?_
  rw [Zi]
  refine Zkq hb' ?_
  unfold mayBeOne
  simp only [Zi]
  refine ZgN ha ?_
  rw [Zi]
  refine ZgN hb' ?_
  simp only [Zi]
  refine ⟨_,ha,?_⟩
  simp only [Zp,Za6,Zi]
  refine ⟨_,hb',?_⟩
  simp only [Bool.false_and,Bool.or_false,Bool.false_eq_true,if_false,Zp,Za6]
  exact q
theorem Zv2 {tI tE te:TypeId} {ms:Array (String × TypeId)} {i:TypeInfo} {d:Nat} {x y:Addr} {B:Kn} {L:Cells} {Q:Bool→Kn→Cells→Prop} (hi:P.underlying tI=some (.interface ms)) (hp:P.underlying tE=some (.pointer te)) (hinfo:P.info? tE=some i) (hc:i.comparable=true) (hs:ZR P te=some (d+1))
  (h:hb P (sameAddr x y) Q B L):hb P (Op.equal tI (.iface tE (.pointer (some x))) (.iface tE (.pointer (some y)))) Q B L:=by
 show hb P (Op.equalIn (9999+1) tI _ _) Q B L
 rw [Op.equalIn,Zi,Zq hi]
 simp only [ne_eq,not_true_eq_false,if_false,Zi,Zbn hinfo,hc,Bool.not_true,Bool.false_eq_true]
 show hb P (Op.equalIn (9998+1) tE _ _) Q B L
 rw [Op.equalIn,Zi,Zq hp]
 simp only [Zi,ZaG hs,ne_eq,Nat.add_eq_zero_iff,Nat.one_ne_zero,and_false,not_false_eq_true,if_true]
 exact h
theorem Zqc {tE:TypeId} {gs:List Nat} {B:Kn} {a:Nat→Addr} (h:ErrsB tE gs B a) {k:Nat} (hk:k<4) (L:Cells) :∃cs T,ZiF B L (a k).block (.cells cs T (0,0)):=
 let ⟨cs,T,e⟩:=h.cell k hk;⟨cs,T,.inl e⟩
theorem Zv3 {tI tE te:TypeId} {ms:Array (String × TypeId)} {i:TypeInfo} {d:Nat} {c k:Nat} {gs:List Nat} {a:Nat→Addr} {B:Kn} {L:Cells} {Q:Bool→Kn→Cells→Prop} (hE:ErrsB tE gs B a) (hcb:c<5) (hkb:k<4) (hi:P.underlying tI=some (.interface ms)) (hp:P.underlying tE=some (.pointer te)) (hinfo:P.info? tE=some i) (hc:i.comparable=true) (hs:ZR P te=some (d+1))
  (h:Q (decide (c=k+1)) B L):hb P (Op.equal tI (errv tE a c) (errv tE a (k+1))) Q B L:=by
 cases c with
 | zero=>
  show hb P (Op.equalIn (9999+1) tI .nilIface _) Q B L
  rw [Op.equalIn,Zi,Zq hi]
  simp only [errv,Zp]
  simpa using h
 | succ c=>
  refine Zv2 hi hp hinfo hc hs ?_
  by_cases e:c=k
  ·subst e
   exact Zsd (by simpa using h)
  ·obtain ⟨cs,T,h1⟩:=Zqc hE (k:=c) (by omega) L
   obtain ⟨cs',T',h2⟩:=Zqc hE hkb L
   exact Zse (hE.ne c k (by omega) hkb e) h1 h2 (by simpa [e] using h)
end
section
variable {P:PJ} {n:Nat} {ops:Array Oper} {i:Nat} {K:ZaO} {S:Env} {D:List Deferred} {B:Kn} {L:List Cells}
variable {dst:Option Tmp} {ty:TypeId} {pos:String} {after:Array Edge} {g:Option (Nat × Bool)}
theorem Zml {t u:TypeId} {x:Operand} {tE:TypeId} {a:Nat→Addr} {c:Nat} {ms:Array (String × TypeId)} (hg:Zj ops S g=some true) (hd:Zx n dst=true) (hu:P.underlying t=some (.interface ms)) (hx:ev S x=some (errv tE a c)) (h:K (.bool (decide (c=0))) D B L):opX P n ops i ⟨dst,.binOp .eql t x (.const .nilIface) u,ty,pos,after,g⟩ K S D B L:=
 ZL hg hd (fun ρ hρ Q F q=>by
  have e0:ρ (.const .nilIface) = .nilIface:=hρ (.const .nilIface) _ rfl
  simp only [execOp,hρ x _ hx,e0,Zi]
  cases c with
  | zero=>
   simp only [errv,eqGuard,binOp,Bool.not_true,Bool.false_eq_true,if_false,Bool.or_true,if_true,Zp,Zi]
   show hb P (Op.equalIn (9999+1) t .nilIface .nilIface) _ B _
   rw [Op.equalIn,Zi,Zq hu]
   simp only [Zp]
   simpa using q
  | succ c=>
   simp only [errv,eqGuard,binOp,Bool.not_true,Bool.false_eq_true,if_false,Bool.or_true,if_true,Zp,Zi]
   show hb P (Op.equalIn (9999+1) t (.iface tE _) .nilIface) _ B _
   rw [Op.equalIn,Zi,Zq hu]
   simp only [Zp]
   simpa using q) h
theorem ZsT {t u:TypeId} {x:Operand} {tE:TypeId} {a:Nat→Addr} {c:Nat} {ms:Array (String × TypeId)} (hg:Zj ops S g=some true) (hd:Zx n dst=true) (hu:P.underlying t=some (.interface ms)) (hx:ev S x=some (errv tE a c)) (h:K (.bool (decide (c≠0))) D B L):opX P n ops i ⟨dst,.binOp .neq t x (.const .nilIface) u,ty,pos,after,g⟩ K S D B L:=
 ZL hg hd (fun ρ hρ Q F q=>by
  have e0:ρ (.const .nilIface) = .nilIface:=hρ (.const .nilIface) _ rfl
  simp only [execOp,hρ x _ hx,e0,Zi]
  cases c with
  | zero=>
   simp only [errv,eqGuard,binOp,Bool.not_true,Bool.false_eq_true,if_false,Bool.or_true,if_true,Zp,Zi]
   show hb P (Op.equalIn (9999+1) t .nilIface .nilIface) _ B _
   rw [Op.equalIn,Zi,Zq hu]
   simp only [Zp]
   simpa using q
  | succ c=>
   simp only [errv,eqGuard,binOp,Bool.not_true,Bool.false_eq_true,if_false,Bool.or_true,if_true,Zp,Zi]
   show hb P (Op.equalIn (9999+1) t (.iface tE _) .nilIface) _ B _
   rw [Op.equalIn,Zi,Zq hu]
   simp only [Zp]
   simpa using q) h
theorem Zoo {t u:TypeId} {x y:Operand} {tE te:TypeId} {gs:List Nat} {a:Nat→Addr} {c k:Nat} {ms:Array (String × TypeId)} (hE:ErrsB tE gs B a) (hcb:c<5) (hkb:k<4) (hg:Zj ops S g=some true) (hd:Zx n dst=true) (hu:P.underlying t=some (.interface ms)) (hp:P.underlying tE=some (.pointer te)) (hinf:(P.info? tE).map (·.comparable)=some true) (hs:ZR P te=some 1)
  (hx:ev S x=some (errv tE a c)) (hy:ev S y=some (errv tE a (k+1))) (h:K (.bool (decide (c=k+1))) D B L):opX P n ops i ⟨dst,.binOp .eql t x y u,ty,pos,after,g⟩ K S D B L:=
 ZL hg hd (fun ρ hρ Q F q=>by
  obtain ⟨inf,hinfo,hc⟩:=Option.map_eq_some_iff.1 hinf
  have hpl:Zgr (errv tE a c) (errv tE a (k+1))=true:=by cases c <;> rfl
  simp only [execOp,hρ x _ hx,hρ y _ hy,Zi,Zfx hpl,ZkN (.inl hpl)]
  exact Zv3 hE hcb hkb hu hp hinfo hc hs q) h
theorem Zhb {x:Operand} {xt t asserted:TypeId} {v:Value} {want:Array (String × TypeId)} (hg:Zj ops S g=some true) (hd:Zx n dst=true) (hu:P.underlying asserted=some (.interface want)) (hl:(P.info? t).map (fun i=>(lacking want i.methods).isEmpty)=some false) (hz:Zae P asserted=some .nilIface)
  (hx:ev S x=some (.iface t v)) (h:K (.tuple #[.nilIface,.bool false]) D B L):opX P n ops i ⟨dst,.typeAssert x xt asserted true,ty,pos,after,g⟩ K S D B L:=
 ZL hg hd (fun ρ hρ Q F q=>by
  obtain ⟨j,hj,hm⟩:=Option.map_eq_some_iff.1 hl
  obtain ⟨m,hm⟩:=missingMethod_some (want:=want) (got:=j.methods) (fun e=>by rw [e] at hm;cases hm)
  simp only [execOp,Instr.typeAssert,hρ x _ hx,Zi,Zq hu,Zbn hj,hm,if_true,Zbm hz,Zp]
  exact q) h
theorem Zvl {f:FuncId} {fn:Func} {ext:Array Value→Sem Value} {x:Operand} {ats:Array TypeId} {v r:Value} (hg:Zj ops S g=some true) (hd:Zx n dst=true) (hf:P.funcs[f]? = some fn) (hname:(fn.name == "runtime.NumGoroutine")=false) (hb0:fn.body.isNone=true) (hn:Extern.findNext fn=none) (he:Extern.find fn=some ext)
  (hx:ev S x=some v) (hr :∀(Q:Value→Kn→Cells→Prop) B L,hb P (ext #[v]) Q B L=Q r B L) (h:K r D B L):opX P n ops i ⟨dst,.call ⟨.value (.func f),#[x],ats⟩,ty,pos,after,g⟩ K S D B L:=
 ZdC hg hd fun ρ hρ F=>by
  have e0:ρ (.func f) = .func (.func f) #[] #[]:=hρ (.func f) _ rfl
  simp only [execOp,resolve,e0,Deferred.ofValue,Zi,Zp,invoke,List.map_toArray,List.map_cons,List.map_nil,hρ x _ hx]
  have e:(#[] ++ #[v]:Array Value) ++ #[] = #[v]:=by simp
  rw [e]
  simp only [callFunc,Zi,ZbX,hf,hname,Bool.false_eq_true,if_false,hb0,if_true,hn,he]
  refine ⟨rfl,?_⟩
  simp only [Za6,Zp,Zi,hr]
  exact ⟨L,.of (.refl _),h⟩
theorem Zvi {f:FuncId} {fn:Func} {ext:Array Value→Sem Value} {x:Operand} {t:TypeId} {name:String} {ats:Array TypeId} {v u r:Value} (hg:Zj ops S g=some true) (hd:Zx n dst=true) (hf:P.funcs[f]? = some fn) (hname:(fn.name == "runtime.NumGoroutine")=false) (hb0:fn.body.isNone=true) (hn:Extern.findNext fn=none) (he:Extern.find fn=some ext)
  (hx:ev S x=some (.iface t v)) (hm :∀(k:Nat) (Q:FuncId × Value→Kn→Cells→Prop) B L,hb P (method (k+1) t v name) Q B L=Q (f,u) B L) (hr :∀(Q:Value→Kn→Cells→Prop) B L,hb P (ext #[u]) Q B L=Q r B L) (h:K r D B L):opX P n ops i ⟨dst,.call ⟨.invoke x name,#[],ats⟩,ty,pos,after,g⟩ K S D B L:=
 ZdC hg hd fun ρ hρ F=>by
  have e1:(#[Value.iface t v] ++ #[])[0]? = some (.iface t v):=by simp
  have e2:(#[Value.iface t v] ++ #[]).extract 1 (#[Value.iface t v] ++ #[]).size = #[]:=by apply Array.ext';simp
  have e3 : #[u] ++ #[] = #[u]:=by simp
  simp only [execOp,resolve,hρ x _ hx,Zi,Zp,invoke,List.map_toArray,List.map_nil,e1,e2,callMethod,ZbX]
  have hpos:0<Made.depth:=by decide
  obtain ⟨d,hd'⟩ :∃d,P.types.size+Made.depth=d+1:=⟨P.types.size+Made.depth - 1,by omega⟩
  rw [hd',hm]
  simp only [e3,callFunc,Zi,ZbX,hf,hname,Bool.false_eq_true,if_false,hb0,if_true,hn,he]
  refine ⟨rfl,?_⟩
  simp only [Za6,Zp,Zi,hr]
  exact ⟨L,.of (.refl _),h⟩
end
end Go.BL
namespace Go.BL
open Go.ChangeShapes Go.WideShapes Go.ChangeAt Go.RowKit Go.Conc
section
variable {H:Type} {enc:TypeId × Value→H} {P:Program}
theorem Znc {t:TypeId} {ms:Array (String × TypeId)} (hu:P.underlying t=some (.interface ms)) {W W':World} {sp sp':Nat→Bool} {fuel:Nat} {cs:List Value} : DataW.trod enc P W 0 sp true fuel t cs=DataW.trod enc P W' 0 sp' true fuel t cs:=by
 cases fuel with
 | zero=>simp [DataW.trod]
 | succ n=>
  cases cs with
  | nil=>simp [DataW.trod,hu]
  | cons x xs=>
   cases xs with
   | nil=>cases x <;> simp [DataW.trod,hu]
   | cons y ys=>cases x <;> simp [DataW.trod,hu]
theorem Zrf {W W':World} (hk:Kept W W') {n:String} {g:Nat} {cs:Array Value} (hg:P.globalNamed n=some g) (hlt:g<W.heap.size) (h:W.var? P n=some cs):W'.var? P n=some cs:=by
 simp only [World.var?,hg,Option.bind_some] at h ⊢
 rw [hk.1 g hlt];exact h
theorem ZjX {W W':World} (hk:Kept W W') {sp sp':Nat→Bool} :∀{ns:List String} {gs:List (DataW H)} {ps:List MemPlace},(∀n,n∈ns→∀g t,P.globalNamed n=some g→(P.globals[g]?).map (·.type)=some t→∃ms,P.underlying t=some (.interface ms))→
  DataW.TrodVars enc P W sp ns gs ps→(∀n,n∈ns→∀g,P.globalNamed n=some g→g<W.heap.size)→DataW.TrodVars enc P W' sp' ns gs ps
 | [],[],_,_,h,_=>h
 | n :: ns,d :: ds,ps,ht,⟨g,t,cs,fuel,p,q,hg,hty,hv,hd,hr,e⟩,hlt=>by
  obtain ⟨ms,hu⟩:=ht n (List.mem_cons_self ..) g t hg hty
  exact ⟨g,t,cs,fuel,p,q,hg,hty,Zrf hk hg (hlt n (List.mem_cons_self ..) g hg) hv,(Znc hu).trans hd,
   ZjX hk (fun n hn=>ht n (List.mem_cons_of_mem _ hn)) hr (fun n hn=>hlt n (List.mem_cons_of_mem _ hn)),e⟩
 | [],_ :: _,_,_,h,_=>h.elim
 | _ :: _,[],_,_,h,_=>h.elim
theorem Zot {W:World} {sp:Nat→Bool} :∀{ns:List String} {gs:List (DataW H)} {ps:List MemPlace},DataW.TrodVars enc P W sp ns gs ps→∀n,n∈ns→∀g,P.globalNamed n=some g→g<W.heap.size
 | [],_,_,_,n,hn,_,_=>by cases hn
 | m :: ns,d :: ds,ps,⟨g,t,cs,fuel,p,q,hg,hty,hv,hd,hr,e⟩,n,hn,g',hg'=>by
  rcases List.mem_cons.1 hn with rfl | hn
  ·obtain rfl:=Option.some.inj (hg.symm.trans hg')
   simp only [World.var?,hg,Option.bind_some] at hv
   rcases Nat.lt_or_ge g W.heap.size with h | h
   ·exact h
   ·rw [Array.getElem?_eq_none h] at hv;cases hv
  ·exact Zot hr n hn g' hg'
 | _ :: _,[],_,h,_,_,_,_=>h.elim
theorem Zmm {W:World} {sp:Nat→Bool} :∀{ns:List String} {gs:List (DataW H)} {ps:List MemPlace},DataW.TrodVars enc P W sp ns gs ps→gs.length=ns.length
 | [],[],_,_=>rfl
 | n :: ns,d :: ds,ps,⟨g,t,cs,fuel,p,q,hg,hty,hv,hd,hr,e⟩=>by rw [List.length_cons,List.length_cons,Zmm hr]
 | [],_ :: _,_,h=>h.elim
 | _ :: _,[],_,h=>h.elim
theorem Zpr {f:Func} {s:ChangeSpec} {apart fresh handsOn again:Bool} {W W':World} {args:Array Value} {ds gs:List (DataW H)} {before:List MemPlace} {tb:TypeId}
  (hl:laidOutB P=true) (hts:(f.params.toList.all fun t=>P.readableRec t && decide (t<P.types.size))=true) (hres:f.resultTypes.toList=[tb]) (hb:P.underlying tb=some .bool)
  (hvars :∀n,n∈s.vars→∀g t,P.globalNamed n=some g→(P.globals[g]?).map (·.type)=some t→∃ms,P.underlying t=some (.interface ms))
  (hW:DataW.Whole enc P f.params.toList s.vars apart W args.toList ds gs before) (hfn :∀ds' gs',gs'.length=s.vars.length→ds'.length=f.params.toList.length→s.fn H (ds' ++ gs') = { results:=[.lit (.bool true)],args:=ds',vars:=gs' })
  (hk:Kept W W'):s.post enc P f apart fresh handsOn again W args (.bool true) W':=by
 have hlt:=hW.lt
 have hW':=hW
 obtain ⟨p,q,hA0,hV,rfl,hfz,hnd⟩:=hW
 have hlen:=(trodAll_length hA0).2
 have hvl:gs.length=s.vars.length:=Zmm hV
 have hf2:=hfn ds gs hvl hlen
 have hr2:f.resultTypes = #[tb]:=by apply Array.ext';rw [hres]
 refine post_of_same (pa:=p) (pv:=q) hW' (fun b sp hd=>?_) (fun sp hsp=>?_) (fun sp hsp=>?_) rfl (hk.2.frame _) hk.2.2.1 ?_
 ·rw [hf2,hr2]
  exact trodAll_cons_mk (shut_bool hb _) trodAll_mk0
 ·rw [hf2]
  exact Zmx hl hk hts hA0 (fun x hx=>hlt x (List.mem_append_left _ hx)) (fun x hx=>hsp x (List.mem_append_left _ hx))
 ·rw [hf2]
  exact ZjX hk hvars hV (Zot hV)
 ·intro j t r h1 h2
  rw [hr2] at h1 h2
  cases j with
  | zero=>
   simp only [List.getElem?_toArray,List.getElem?_cons_zero,Option.some.injEq] at h1
   simp [Value.resultList] at h2
   subst h1;subst h2
   exact okWide_bool_mk hb _
  | succ j=>simp at h1
theorem Zk2 {ns:List String} (h:(ns.all fun n=>match P.globalNamed n with | some g=>(match (P.globals[g]?).map (·.type) with | some t=>(match P.underlying t with | some (.interface _)=>true | _=>false) | none=>true) | none=>true)=true) :
∀n,n∈ns→∀g t,P.globalNamed n=some g→(P.globals[g]?).map (·.type)=some t→∃ms,P.underlying t=some (.interface ms):=fun n hn g t hg ht=>by
 have h1:=List.all_eq_true.1 h n hn
 simp only [hg,ht] at h1
 split at h1
 ·exact ⟨_,by assumption⟩
 ·cases h1
theorem Zru {ts:Array TypeId} (h:(ts.toList.all fun t=>!P.wantsStandIn t)=true) {j:Nat} {t:TypeId} (ht:ts[j]? = some t):P.wantsStandIn t=false:=by
 have:=List.all_eq_true.1 h t (by
  rw [← Array.getElem?_toList] at ht
  exact List.mem_of_getElem? ht)
 simpa using this
theorem ZjZ {a:Assume} {C:Checked} {os:Os} {f:FuncId} {fn:Func} {s:ChangeSpec} {conds:List PathCond} {apart fresh handsOn again:Bool} {laid:List (String × DataW Unit)}
  (own:ownKnob C.prog.godebug=none) (started:os.Started) (hfn:C.prog.funcs[f]? = some fn)
  (witness :∃(w:World) (tape:Tape) (i:Input),w.os=os∧(w.forCall tape i).Shaped C.prog∧i.vars=[]∧Input.okWide C.prog (w.forCall tape i) .any w.heap.size f i∧
   ((s.pre enc C.prog fn conds apart (w.forCall tape i).memory i.args∧laidMetH C.prog laid (w.forCall tape i).memory)∧sizedMet enc C.prog fn (OpenSpec.ofChange s) apart (w.forCall tape i).memory i.args)∧a.holds C.prog (lone (Frame.enter C.prog f i.args .normal) [] (w.forCall tape i)))
  (runs :∀(W:World) (base:Nat) (args:Array Value) (ds gs:List (DataW H)) (before:List MemPlace),
   (∀(j:Nat) t v,fn.params[j]? = some t→args[j]? = some v→Value.okWide C.prog W .any base t v)→
   DataW.Whole enc C.prog fn.params.toList s.vars apart W args.toList ds gs before→
   (DataW.weightsEach C.prog (fn.params.toList ++ s.plain.varTypes C.prog) (ds ++ gs)).all (·≤reachBytes)=true→
   laidMetH C.prog laid W→
∃M last o w' t',runNT C.prog (M+1) (solo (G (Frame.enter C.prog f args .normal) []) W) #[]=(.ended o w',t')∧runN C.prog M (solo (G (Frame.enter C.prog f args .normal) []) W) = .next last∧
    step C.prog last = .ended o w'∧Conc.Good C.prog (fun v W'=>s.post enc C.prog fn apart fresh handsOn again W args v W') last o w' t') :
  ReturnsInLeavingWide a C os f .any (fun w args=>(s.pre enc C.prog fn conds apart w args∧laidMetH C.prog laid w)∧sizedMet enc C.prog fn (OpenSpec.ofChange s) apart w args) (s.post enc C.prog fn apart fresh handsOn again):=by
 refine returnsInLeavingWide_of_good own started witness ?_
 intro w tape i _ _ _ hok hpre hholds
 obtain ⟨_,_,_,fn',hfn',_,_,_,_,hval⟩:=hok
 have e:fn'=fn:=Option.some.inj (hfn'.symm.trans hfn)
 subst e
 obtain ⟨⟨⟨ds,gs,before,hw,hc⟩,hL⟩,hz⟩:=hpre
 have hw':=DataW.Whole.of_heap (w':=w.forCall tape i) (by rfl) hw
 have hL':=hL.of_heap (w':=w.forCall tape i) (by rfl)
 obtain ⟨M,last,o,w',t',h1,h2,h3,h4⟩:=runs (w.forCall tape i) w.heap.size i.args ds gs before hval hw' (hz.weights hw) hL'
 exact ⟨M,last,o,w',t',h1,h2,h3,h4.mono fun v hp=>ChangeSpec.post_blind hp⟩
theorem Zqd {n0 n1 n2 n3 nm:String} {x0 x1 x2 x3:List UInt8} {r:List (String × DataW Unit)} {W:World} {k0 k1 k2 k3:Nat} {ti tp te ts:TypeId} {ms:Array (String × TypeId)} {f:Field}
  (h:laidMet P ((n0,.iface nm (.ptr (.agg [.lit (.string x0)]))) :: (n1,.iface nm (.ptr (.agg [.lit (.string x1)]))) :: (n2,.iface nm (.ptr (.agg [.lit (.string x2)]))) :: (n3,.iface nm (.ptr (.agg [.lit (.string x3)]))) :: r) W)
  (hg0:P.globalNamed n0=some k0) (hg1:P.globalNamed n1=some k1) (hg2:P.globalNamed n2=some k2) (hg3:P.globalNamed n3=some k3) (hy0:(P.globals[k0]?).map (·.type)=some ti) (hy1:(P.globals[k1]?).map (·.type)=some ti) (hy2:(P.globals[k2]?).map (·.type)=some ti) (hy3:(P.globals[k3]?).map (·.type)=some ti)
  (hi:P.underlying ti=some (.interface ms)) (hrow :∀u,P.typeName? 3 u=some nm→u=tp)
  (hp:P.underlying tp=some (.pointer te)) (he:P.underlying te=some (.struct #[f])) (hft:f.type=ts) (hfo:f.offset=0) (hs:P.underlying ts=some .string) (hc:P.cellsOf te=1) (hcs:P.cellsOf ts=1) :
∃a:Nat→Addr,ErrsB tp [k0,k1,k2,k3] (ZaZ W) a:=by
 obtain ⟨ps,⟨g0,t0,cs0,f0,p0,q0,hg0',ht0',hv0,hd0,⟨g1,t1,cs1,f1,p1,q1,hg1',ht1',hv1,hd1,⟨g2,t2,cs2,f2,p2,q2,hg2',ht2',hv2,hd2,⟨g3,t3,cs3,f3,p3,q3,hg3',ht3',hv3,hd3,_,e3⟩,e2⟩,e1⟩,e0⟩,hnd,hrows⟩:=h
 obtain rfl:=Option.some.inj (hg0.symm.trans hg0')
 obtain rfl:=Option.some.inj (hg1.symm.trans hg1')
 obtain rfl:=Option.some.inj (hg2.symm.trans hg2')
 obtain rfl:=Option.some.inj (hg3.symm.trans hg3')
 obtain rfl:=Option.some.inj (hy0.symm.trans ht0')
 obtain rfl:=Option.some.inj (hy1.symm.trans ht1')
 obtain rfl:=Option.some.inj (hy2.symm.trans ht2')
 obtain rfl:=Option.some.inj (hy3.symm.trans ht3')
 subst e3
 subst e2
 subst e1
 subst e0
 obtain ⟨l0⟩:=cs0
 obtain ⟨l1⟩:=cs1
 obtain ⟨l2⟩:=cs2
 obtain ⟨l3⟩:=cs3
 have ok0 :∀u v,l0=[.iface u v]→Value.okWide P W .any 0 u v:=fun u v e=>by
  subst e
  exact (hrows k0 0 (by simp [MemPlace.row])).2 u v (by simpa using World.var?_cell hg0' hv0 0)
 have ok1 :∀u v,l1=[.iface u v]→Value.okWide P W .any 0 u v:=fun u v e=>by
  subst e
  exact (hrows k1 0 (by simp [MemPlace.row])).2 u v (by simpa using World.var?_cell hg1' hv1 0)
 have ok2 :∀u v,l2=[.iface u v]→Value.okWide P W .any 0 u v:=fun u v e=>by
  subst e
  exact (hrows k2 0 (by simp [MemPlace.row])).2 u v (by simpa using World.var?_cell hg2' hv2 0)
 have ok3 :∀u v,l3=[.iface u v]→Value.okWide P W .any 0 u v:=fun u v e=>by
  subst e
  exact (hrows k3 0 (by simp [MemPlace.row])).2 u v (by simpa using World.var?_cell hg3' hv3 0)
 obtain ⟨a0,s0,rfl,hc0,hs0,hz0,rfl⟩:=errorString_of_trod hi hrow hp he hft hfo hs hc hcs hd0 ok0
 obtain ⟨a1,s1,rfl,hc1,hs1,hz1,rfl⟩:=errorString_of_trod hi hrow hp he hft hfo hs hc hcs hd1 ok1
 obtain ⟨a2,s2,rfl,hc2,hs2,hz2,rfl⟩:=errorString_of_trod hi hrow hp he hft hfo hs hc hcs hd2 ok2
 obtain ⟨a3,s3,rfl,hc3,hs3,hz3,rfl⟩:=errorString_of_trod hi hrow hp he hft hfo hs hc hcs hd3 ok3
 have b0:=(hrows a0.block a0.off (by simp [MemPlace.row])).1
 have b1:=(hrows a1.block a1.off (by simp [MemPlace.row])).1
 have b2:=(hrows a2.block a2.off (by simp [MemPlace.row])).1
 have b3:=(hrows a3.block a3.off (by simp [MemPlace.row])).1
 have row :∀(g:Nat) (v:Value) (n:String),P.globalNamed n=some g→W.var? P n=some #[v]→Zau (ZaZ W) g 0 [v]:=fun g v n hg hv L j u hj=>by
  cases j with
  | zero=>
   simp only [List.getElem?_cons_zero,Option.some.injEq] at hj
   subst hj
   have:=ZhP (by simpa using World.var?_cell hg hv 0:W.cell? ⟨g,0,none⟩=some v)
   obtain ⟨h1,cs,T,fr,h2,h3⟩:=this
   exact ⟨h1,cs,T,fr,h2.elim .inl (fun h=>by cases h),h3⟩
  | succ j=>simp at hj
 refine ⟨fun k=>if k=0 then a0 else if k=1 then a1 else if k=2 then a2 else a3,fun k hk=>?_,fun k hk=>?_,fun i j hi' hj' hne=>?_⟩
 ·match k,hk with
  | 0,_=>exact row k0 _ _ hg0 hv0
  | 1,_=>exact row k1 _ _ hg1 hv1
  | 2,_=>exact row k2 _ _ hg2 hv2
  | 3,_=>exact row k3 _ _ hg3 hv3
 ·match k,hk with
  | 0,_=>exact b0
  | 1,_=>exact b1
  | 2,_=>exact b2
  | 3,_=>exact b3
 ·have h01:a0≠a1:=by rintro rfl;simp [MemPlace.row] at hnd
  have h02:a0≠a2:=by rintro rfl;simp [MemPlace.row] at hnd
  have h03:a0≠a3:=by rintro rfl;simp [MemPlace.row] at hnd
  have h12:a1≠a2:=by rintro rfl;simp [MemPlace.row] at hnd
  have h13:a1≠a3:=by rintro rfl;simp [MemPlace.row] at hnd
  have h23:a2≠a3:=by rintro rfl;simp [MemPlace.row] at hnd
  match i,j,hi',hj',hne with
  | 0,1,_,_,_=>exact h01
  | 0,2,_,_,_=>exact h02
  | 0,3,_,_,_=>exact h03
  | 1,0,_,_,_=>exact h01.symm
  | 1,2,_,_,_=>exact h12
  | 1,3,_,_,_=>exact h13
  | 2,0,_,_,_=>exact h02.symm
  | 2,1,_,_,_=>exact h12.symm
  | 2,3,_,_,_=>exact h23
  | 3,0,_,_,_=>exact h03.symm
  | 3,1,_,_,_=>exact h13.symm
  | 3,2,_,_,_=>exact h23.symm
  | 0,0,_,_,h=>exact (h rfl).elim
  | 1,1,_,_,h=>exact (h rfl).elim
  | 2,2,_,_,h=>exact (h rfl).elim
  | 3,3,_,_,h=>exact (h rfl).elim
end
theorem ZqD (Lk:Looks) {p:Pinned} {s:OpenSpec} {c:OpenClaim} (kinds:List LaidKind) (tests:Bool) (har:Bool × String) (lk:Bool)
  (hc:c.holds p s) (hw:c.wfByText s=true) (htie:c.laidByTextAt Lk p kinds tests)
  (hst:c.start = .entering) (hnb:c.noBlocks=false∧c.again=false) (hm:p.checked.prog.mainIs=some (har.1,har.2.toList)) (hn:(!har.1 && har.2.isEmpty && !lk)=false)
  (hl :∀f fn,p.checked.prog.funcNamed c.func=some f→p.checked.prog.funcs[f]? = some fn→lk=p.checked.prog.looks []∧∀(j:Nat) t,fn.params[j]? = some t→p.checked.prog.wantsStandIn t=false)
  (hg:true=c.goesBy p.checked.prog) :
  Claim7.holds p (.plain s) { stood:={ row:=c,standIns:=[],harness:=har,looks:=lk },kinds:=[],alts:=[],goes:=true,laidByText:=true,laidKinds:=kinds,laidTests:=tests,laidLooks:=Lk }:=by
 have h6 :∀r:OpenClaim,Claim7.isSixth { stood:={ row:=r,standIns:=[],harness:=har,looks:=lk },kinds:=[] } = false:=fun r=>by simpa [Claim7.isSixth] using hn
 refine ⟨Claim7.tied_new_at Lk kinds tests (Claim7.new_of_sixth hc har lk hst hnb hm (h6 c) hl) hw,(fun D hD=>by cases hD),htie,(fun h=>by cases h),hg⟩
end Go.BL
namespace Go.BL
open Go.Conc (G)
section
variable {P:PJ} {n:Nat} {ops:Array Oper} {i:Nat} {K:ZaO} {S:Env} {D:List Deferred} {B:Kn} {L:List Cells}
variable {dst:Option Tmp} {ty:TypeId} {pos:String} {after:Array Edge} {g:Option (Nat × Bool)}
theorem Ztu {f:FuncId} {x:Operand} {cap:Array Value} {xs:List Operand} {vs:List Value} {ats:Array TypeId} {Post:Value→Kn→List Cells→Prop} (js:List Nat) {ss r:List Cells} (hp:Zaw L js=some (ss,r)) (hn:Zed js=true) (hg:Zj ops S g=some true) (hd:Zx n dst=true) (he:enters P f=true) (hx:ev S x=some (.func (.func f) #[] cap)) (ha:evs S xs=some vs) (hc:Zv P f (vs ++ cap.toList) B ss Post)
  (h :∀v B' Ls',B.le B'→Post v B' Ls'→K v D B' (Zci r js Ls')):opX P n ops i ⟨dst,.call ⟨.value x,xs.toArray,ats⟩,ty,pos,after,g⟩ K S D B L:=
 ZdD (o:=⟨dst,.call ⟨.value x,xs.toArray,ats⟩,ty,pos,after,g⟩) (vs:=vs ++ cap.toList) hg (fun ρ hρ Q F q=>by
   have:=Zeb (P:=P) (B:=B) (L:=L) (dst:=dst) (ty:=ty) (pos:=pos) (after:=after) (g:=g) (x:=x) (first:=#[]) (cap:=cap) (ats:=ats) he hx ha ρ hρ Q F
   exact this (by simpa using q)) hd (Ls:=ss) (Lk:=r) (Zaf js L ss r hp) hc
  fun v' B' Ls' hle hq=>⟨Zci r js Ls',ZbN Ls' r js (ZbP hn) (fun j hj=>ZbO js L ss r hp j (.inr hj)),h v' B' Ls' hle hq⟩
theorem All3.turn {α:Type} {R:Zgw α} {rows:List (List Value)} {xs:List α} {s:Cells} (h:All3 R rows xs s) {z x:α} {ex:Cells} (f:List Value→List Value) (hf :∀row li,R row x li→∃li' gl,R (f row) z li'∧(li ++ ex).Perm (li' ++ gl)) :∀{k:Nat},xs[k]? = some x→∃row s' gl,rows[k]? = some row∧All3 R (rows.set k (f row)) (xs.set k z) s'∧(s ++ ex).Perm (s' ++ gl):=by
 induction h with
 | nil=>intro k hx;simp at hx
 | @cons row0 x0 ins0 rest rows xs h1 h2 ih=>
  intro k hx
  cases k with
  | zero=>
   simp only [List.getElem?_cons_zero,Option.some.injEq] at hx
   subst hx
   obtain ⟨li',gl,e1,e2⟩:=hf _ _ h1
   refine ⟨row0,li' ++ rest,gl,rfl,.cons e1 h2,?_⟩
   have e3:(ins0 ++ rest ++ ex).Perm ((ins0 ++ ex) ++ rest):=by
    rw [List.append_assoc,List.append_assoc];exact List.Perm.append_left _ List.perm_append_comm
   refine e3.trans ((e2.append_right rest).trans ?_)
   rw [List.append_assoc,List.append_assoc];exact List.Perm.append_left _ List.perm_append_comm
  | succ k=>
   obtain ⟨row,s',gl,e1,e2,e3⟩:=ih (k:=k) (by simpa using hx)
   refine ⟨row,ins0 ++ s',gl,by simpa using e1,.cons h1 e2,?_⟩
   rw [List.append_assoc,List.append_assoc]
   exact List.Perm.append_left ins0 e3
theorem Zu6 {α:Type} {R:Zgw α} {xs:List α} {x0:α} (z:α) {t T:TypeId} {x y:Operand} {v:Value} {us:List Value} {sz k c b:Nat} (off:Nat) {l:Cells} {p:Option Addr} {inss r:List Cells} (j:Nat) (ks:List Nat) (hpk:Zaw L (j :: ks)=some (l :: inss,r)) (hnd:Zed (j :: ks)=true) (hv:ZaP l p c T sz R xs) (hp:p=some ⟨b,0,Option.none⟩) (hx0:xs[k]? = some x0) (hg:Zj ops S g=some true) (hd:Zx n dst=true) (hsz:ZR P t=some us.length)
  (hx:ev S x=some (ptr ⟨b,k*sz+off,Option.none⟩)) (hy:ev S y=some v) (hvc:v.cells=us.toArray) (ho:us.all Zhn=true) (hoff:off+us.length≤sz) (hr :∀row li,R row x0 li→∃li' gl,R (Z7 row off us) z li'∧(li ++ inss.flatten).Perm (li' ++ gl))
  (h :∀l',ZaP l' p c T sz R (xs.set k z)→K undef D B (Zci r (j :: ks) (l' :: inss.map fun _=>[]))):opX P n ops i ⟨dst,.store t x y,ty,pos,after,g⟩ K S D B L:=by
 subst hp
 obtain ⟨rows,blk,ins,h1,h2,h3,hl1,⟨hc,_⟩ | ⟨b',arr,e,ha,ht,rfl,hmc⟩⟩:=hv
 ·cases hc
 ·cases e
  have hk:=(List.getElem?_eq_some_iff.1 hx0).1
  obtain ⟨row,s',gl,hrow,a1,a2⟩:=h1.turn (fun row=>Z7 row off us) hr hx0
  have hw:row.length=sz:=h2 row (List.mem_of_getElem? hrow)
  have hsz1:(k+1)*sz≤xs.length*sz:=Nat.mul_le_mul_right sz hk
  have hcs:xs.length*sz≤c*sz:=Nat.mul_le_mul_right sz hmc
  rw [Nat.succ_mul] at hsz1
  have hb1:k*sz+off+us.length≤arr.length:=by omega
  have hpp:=Zaf (j :: ks) L (l :: inss) r hpk
  refine Zlp (L':=[ZK b arr T ++ ins,inss.flatten ++ r.flatten]) (K':=fun u D' B' L₁=>u=undef∧D'=D∧B'=B∧L₁=[ZK b (Z7 arr (k*sz+off) us) T ++ ins,inss.flatten ++ r.flatten]) ?_ ?_ ?_
  ·refine hpp.trans ?_
   simp only [List.flatten_cons,List.flatten_nil,List.append_nil,List.append_assoc]
   refine (h3.append_right _).trans ?_
   rw [List.append_assoc]
  ·exact ZM us 0 (Z7 arr (k*sz+off) us) hg hd hsz hx hy hvc ho (T:=T) (r:=ins) rfl rfl (by rw [Nat.ble_eq];exact hb1) rfl ⟨rfl,rfl,rfl,rfl⟩
  ·rintro u D' B' L₁ hle ⟨rfl,rfl,rfl,rfl⟩
   have hnew:ZaP (ZK b (Z7 arr (k*sz+off) us) T ++ s') (some ⟨b,0,Option.none⟩) c T sz R (xs.set k z):=by
    have hsl:(Z7 row off us).length=sz:=by rw [Z4];exact hw
    have hwide:wide sz (rows.set k (Z7 row off us)):=fun r' hr'=>by
     rcases List.mem_or_eq_of_mem_set hr' with hr' | rfl
     ·exact h2 r' hr'
     ·exact hsl
    refine ⟨rows.set k (Z7 row off us),_,s',a1,hwide,.refl _,?_,.inr ⟨b,_,rfl,by rw [Z4];exact ha,?_,rfl,by rw [List.length_set];exact hmc⟩⟩
    ·rw [ZcX hwide,List.length_set,List.length_set,h1.len]
    ·rw [List.length_set]
     have e:=ZcQ (us:=us) (off:=off) h2 hrow hoff
     rw [Zc3 _ _ _ _ (by omega) (by omega),ht,e]
   refine ⟨_,gl,?_,h _ hnew⟩
   have hq:=ZbN ((ZK b (Z7 arr (k*sz+off) us) T ++ s') :: inss.map fun _=>[]) r (j :: ks) (ZbP hnd) (fun jj hj=>ZbO (j :: ks) L (l :: inss) r hpk jj (.inr hj))
   have hnil:((inss.map fun _=>([]:Cells))).flatten=[]:=by
    clear hpk hpp hr h a2 hq
    induction inss with
    | nil=>rfl
    | cons a as ih=>simp
   rw [List.flatten_cons,hnil,List.append_nil] at hq
   refine List.Perm.trans ?_ (hq.append_right gl)
   simp only [List.flatten_cons,List.flatten_nil,List.append_nil]
   have e1:(ZK b (Z7 arr (k*sz+off) us) T ++ ins ++ (inss.flatten ++ r.flatten)).Perm (ZK b (Z7 arr (k*sz+off) us) T ++ ((ins ++ inss.flatten) ++ r.flatten)):=by simp only [List.append_assoc];exact .refl _
   refine (e1.trans (List.Perm.append_left _ (a2.append_right _))).trans ?_
   exact Zo4 fun f g h0 ha hc=>by simp only [ha];omega
end
theorem ZzD {B:Kn} {ls:List Cells} {b:Nat} {row:List Value} {T:TypeId} (k:Nat) (hk:ls[k]? = some (ZK b row T)) (hm :∀q,q∈ls.flatten→(B.add ls.flatten).mem q.1=some q.2):Zau (B.add ls.flatten) b 0 row:=ZbD (Zpq hm k hk)
end Go.BL
namespace Go.BL
open Go.Conc (G)
@[reducible] def Ze1 (x:DMail) (v:Value):List Value:=[.int .i64 x.uid,.int .i64 x.flags,str x.text,v]
def Ze4 (Tn:TypeId):Value→List DMail→Cells→Prop
 | v,[],s=>v = .pointer none∧s=[]
 | v,x :: xs,s=>∃b nx rest,v=ptr ⟨b,0,none⟩∧s.Perm (ZK b (Ze1 x nx) Tn ++ rest)∧x.text.length≤2000000∧Ze4 Tn nx xs rest
theorem Ze4.ptr {Tn:TypeId} {v:Value} {xs:List DMail} {s:Cells} (h:Ze4 Tn v xs s) :∃p,v = .pointer p:=by
 cases xs with
 | nil=>exact ⟨none,h.1⟩
 | cons x xs=>obtain ⟨b,nx,rest,rfl,_⟩:=h;exact ⟨_,rfl⟩
theorem Ze4.more {Tn:TypeId} {p:Option Addr} {xs:List DMail} {s:Cells} (h:Ze4 Tn (.pointer p) xs s) (hp:p.isNone=false) :∃y ys b np rest,p=some ⟨b,0,none⟩∧xs=y :: ys∧s.Perm (ZK b (Ze1 y (.pointer np)) Tn ++ [rest].flatten)∧y.text.length≤2000000∧Ze4 Tn (.pointer np) ys rest:=by
 cases xs with
 | nil=>obtain ⟨h1,_⟩:=h;cases h1;cases hp
 | cons x xs=>
  obtain ⟨b,nx,rest,h1,h2,h3,h4⟩:=h
  obtain ⟨np,rfl⟩:=h4.ptr
  cases h1
  exact ⟨x,xs,b,np,rest,rfl,rfl,by simpa using h2,h3,h4⟩
theorem Ze4.done {Tn:TypeId} {p:Option Addr} {xs:List DMail} {s:Cells} (h:Ze4 Tn (.pointer p) xs s) (hp:p.isNone=true):xs=[]:=by
 cases xs with
 | nil=>rfl
 | cons x xs=>obtain ⟨b,nx,rest,h1,_⟩:=h;cases h1;cases hp
def Zjv (Tn:TypeId) (v0:Value) (bl:Nat) (x:DMail) (rest:Cells) (pre:List DMail):Prop:=
∀v xs s,Ze4 Tn v xs s→∃s0,Ze4 Tn v0 (pre ++ xs) s0∧(ZK bl (Ze1 x v) Tn ++ (rest ++ s)).Perm s0
theorem Zjv.init {Tn:TypeId} {b:Nat} {x:DMail} (hx:x.text.length≤2000000):Zjv Tn (Go.BL.ptr ⟨b,0,none⟩) b x [] [x]:=fun v xs s h=>
 ⟨ZK b (Ze1 x v) Tn ++ s,⟨b,v,s,rfl,.refl _,hx,h⟩,by simp⟩
theorem Zjv.step {Tn:TypeId} {v0:Value} {bl b:Nat} {x y:DMail} {rest:Cells} {pre:List DMail} (h:Zjv Tn v0 bl x rest pre) (hy:y.text.length≤2000000) :
  Zjv Tn v0 b y (rest ++ ZK bl (Ze1 x (Go.BL.ptr ⟨b,0,none⟩)) Tn) (pre ++ [y]):=fun v xs s hs=>by
 obtain ⟨s0,h1,h2⟩:=h (Go.BL.ptr ⟨b,0,none⟩) (y :: xs) (ZK b (Ze1 y v) Tn ++ s) ⟨b,v,s,rfl,.refl _,hy,hs⟩
 refine ⟨s0,by simpa using h1,?_⟩
 refine List.Perm.trans ?_ h2
 exact Zo4 fun f g h0 ha hc=>by simp only [ha];omega
def MLst (TL Tn:TypeId) (b:Nat) (xs:List DMail) (s:Cells):Prop:=
 (xs=[]∧s.Perm (ZK b [.pointer none,.pointer none,.int .i64 0] TL))∨
∃v0 bl x rest,s.Perm (ZK b [v0,ptr ⟨bl,0,none⟩,.int .i64 xs.length] TL ++ [ZK bl (Ze1 x (.pointer none)) Tn,rest].flatten)∧Zjv Tn v0 bl x rest xs
theorem MLst.nil {TL Tn:TypeId} {b:Nat} : MLst TL Tn b [] (ZK b [.pointer none,.pointer none,.int .i64 0] TL):=.inl ⟨rfl,.refl _⟩
theorem MLst.chain {TL Tn:TypeId} {b:Nat} {xs:List DMail} {s:Cells} (h:MLst TL Tn b xs s) :∃p vl s0,s.Perm (ZK b [.pointer p,vl,.int .i64 xs.length] TL ++ [s0].flatten)∧Ze4 Tn (.pointer p) xs s0:=by
 rcases h with ⟨rfl,hp⟩ | ⟨v0,bl,x,rest,hp,hh⟩
 ·exact ⟨none,.pointer none,[],by simpa using hp,rfl,rfl⟩
 ·obtain ⟨s0,h1,h2⟩:=hh (.pointer none) [] [] ⟨rfl,rfl⟩
  rw [List.append_nil] at h1
  obtain ⟨p,rfl⟩:=h1.ptr
  refine ⟨p,_,s0,hp.trans (List.Perm.append_left _ ?_),h1⟩
  simpa using h2
end Go.BL
namespace Go.BL
section
variable {P:PJ} {n:Nat} {ops:Array Oper} {i:Nat} {K:ZaO} {S:Env} {D:List Deferred} {B:Kn} {L:List Cells}
variable {dst:Option Tmp} {ty:TypeId} {pos:String} {after:Array Edge} {g:Option (Nat × Bool)}
end
end Go.BL
namespace Go.BL
section
variable {P:PJ} {n:Nat} {ops:Array Oper} {i:Nat} {K:ZaO} {S:Env} {D:List Deferred} {B:Kn} {L:List Cells}
variable {dst:Option Tmp} {ty:TypeId} {pos:String} {after:Array Edge} {g:Option (Nat × Bool)}
variable {α:Type} {R:Rel α} {xs:List α}
end
end Go.BL
namespace Go.BL
theorem ZsO {P:PJ} {n:Nat} {Q:Exit→Zab} {S:Env} {D:List Deferred} {B:Kn} {L:List Cells} {c:Code} (L':List Cells) (hl:L=L') (h:wpS P n c Q S D B L'):wpS P n c Q S D B L:=by subst hl;exact h
theorem sQ:(∀(p:Prop) [Decidable p],(decide p=true)=p)∧(∀(p:Prop) [Decidable p],(decide p=false) = ¬p)∧(∀b:Bool,((!b)=true)=(b=false))∧(∀b:Bool,((!b)=false)=(b=true))∧(∀(p:Prop) [Decidable p],(decide (¬p)) = !decide p)∧(∀(p:Prop) [Decidable p],(¬¬p)=p)∧(∀a b:Int,(¬a<b)=(b≤a))∧(∀a b:Int,(¬a≤b)=(b<a)):=
 ⟨fun p _=>by simp,fun p _=>by simp,by simp,by simp,fun p _=>by simp,fun p _=>by simp,by simp,by simp⟩
end Go.BL
namespace Go.BL
def orI (a b:Int):Int:=IntKind.i64.wrap (BitVec.ofInt 64 a ||| BitVec.ofInt 64 b).toNat
def Ztk (a b:Int):Int:=IntKind.i64.wrap (BitVec.ofInt 64 a &&& BitVec.ofInt 64 b).toNat
section
variable {P:PJ} {n:Nat} {ops:Array Oper} {i:Nat} {K:ZaO} {S:Env} {D:List Deferred} {B:Kn} {L:List Cells}
variable {dst:Option Tmp} {ty:TypeId} {pos:String} {after:Array Edge} {g:Option (Nat × Bool)}
theorem Zmk {t kt et:TypeId} {x y:Operand} {b:Nat} {l:Cells} {kvs:KV} {k:List UInt8} (j:Nat) (hj:L[j]? = some l) (hl:ZuV l b kvs) (hg:Zj ops S g=some true) (hd:Zx n dst=true) (hu:P.underlying t=some (.map kt et)) (hk:P.underlying kt=some .string)
  (hz:Zae P et=some (.int .i64 0)) (hx:ev S x=some (.map (some b))) (hy:ev S y=some (str k)) (h:K (.int .i64 ((mget kvs k).getD 0)) D B L):opX P n ops i ⟨dst,.lookup t x y false,ty,pos,after,g⟩ K S D B L:=
 ZdC hg hd fun ρ hρ F=>by
  obtain ⟨es,clock,rfl,ok⟩:=hl
  have hin:(b,Obj.map es clock)∈L.flatten ++ F:=by
   rw [((ZZ F [] hj).choose_spec.1).mem_iff];simp
  simp only [execOp,Instr.lookup,hρ x _ hx,hρ y _ hy,Zi,Zq hu]
  refine ⟨_,.inr hin,rfl,rfl,?_⟩
  simp only [Za6,Zi,Zp]
  refine ZhC hk ?_
  rw [Zi]
  refine Zis hk ok.ent ?_
  cases hm:mlook kvs k 0 with
  | none=>
   obtain ⟨_,_,_,m4⟩:=Zgj hm
   simp only [Zbm hz,Zp,Zi,ZpH,Bool.false_eq_true,if_false]
   rw [m4] at h
   exact ⟨L,.of (List.Perm.refl _),h⟩
  | some p=>
   obtain ⟨jj,u⟩:=p
   obtain ⟨m,w,rfl,rfl,m3,m4,_,m6⟩:=Zgi hm
   simp only [Zp,Zi,Bool.false_eq_true,if_false]
   rw [m6] at h
   exact ⟨L,.of (List.Perm.refl _),h⟩
section
variable {t u:TypeId} {x y:Operand} {a b r:Int}
theorem ZwT (hg:Zj ops S g=some true) (hd:Zx n dst=true) (hx:ev S x=some (.int .i64 a)) (hy:ev S y=some (.int .i64 b)) (h:K (.int .i64 (orI a b)) D B L):opX P n ops i ⟨dst,.binOp .or t x y u,ty,pos,after,g⟩ K S D B L:=
 ZL hg hd (fun ρ hρ Q F q=>by
  simp only [execOp,hρ x _ hx,hρ y _ hy,Zi,Zai,binOp,ne_eq,not_true_eq_false,if_false,Op.intBits,Zp];exact q) h
theorem ZsZ (hg:Zj ops S g=some true) (hd:Zx n dst=true) (hx:ev S x=some (.int .i64 a)) (hy:ev S y=some (.int .i64 b)) (h:K (.int .i64 (Ztk a b)) D B L):opX P n ops i ⟨dst,.binOp .and t x y u,ty,pos,after,g⟩ K S D B L:=
 ZL hg hd (fun ρ hρ Q F q=>by
  simp only [execOp,hρ x _ hx,hρ y _ hy,Zi,Zai,binOp,ne_eq,not_true_eq_false,if_false,Op.intBits,Zp];exact q) h
end
end
end Go.BL
namespace Go.BL
theorem om {p:Prop} (h:p:=by first | omega | (simp;done) | (simp;omega)):p:=h
theorem om2 {p:Prop} (h:p:=by first | assumption | omega | (simp;done) | (simp;omega)):p:=h
theorem oz {p:Prop} (h:p:=by omega):p:=h
theorem kr {p:Prop} (h:p:=by kernel_rfl):p:=h
theorem so {p:Prop} (h:p:=by simp only [];omega):p:=h
theorem so2 {p:Prop} (h:p:=by first | omega | (simp only [];omega)):p:=h
theorem oa {p:Prop} (h:p:=by first | assumption | omega):p:=h
theorem oy {p:Prop} (h:p:=by assumption):p:=h
theorem om3 {p:Prop} (h:p:=by first | omega | decide | (simp;done) | (simp;omega)):p:=h
theorem t1 {α0:Sort _} {a0:α0} : a0=a0∧True:=⟨rfl,trivial⟩
theorem t2 {α0 α1:Sort _} {a0:α0} {a1:α1} : a0=a0∧a1=a1∧True:=⟨rfl,rfl,trivial⟩
theorem t3 {α0 α1 α2:Sort _} {a0:α0} {a1:α1} {a2:α2} : a0=a0∧a1=a1∧a2=a2∧True:=⟨rfl,rfl,rfl,trivial⟩
theorem t4 {α0 α1 α2 α3:Sort _} {a0:α0} {a1:α1} {a2:α2} {a3:α3} : a0=a0∧a1=a1∧a2=a2∧a3=a3∧True:=⟨rfl,rfl,rfl,rfl,trivial⟩
theorem t5 {α0 α1 α2 α3 α4:Sort _} {a0:α0} {a1:α1} {a2:α2} {a3:α3} {a4:α4} : a0=a0∧a1=a1∧a2=a2∧a3=a3∧a4=a4∧True:=⟨rfl,rfl,rfl,rfl,rfl,trivial⟩
theorem t6 {α0 α1 α2 α3 α4 α5:Sort _} {a0:α0} {a1:α1} {a2:α2} {a3:α3} {a4:α4} {a5:α5} : a0=a0∧a1=a1∧a2=a2∧a3=a3∧a4=a4∧a5=a5∧True:=⟨rfl,rfl,rfl,rfl,rfl,rfl,trivial⟩
theorem t7 {α0 α1 α2 α3 α4 α5 α6:Sort _} {a0:α0} {a1:α1} {a2:α2} {a3:α3} {a4:α4} {a5:α5} {a6:α6} : a0=a0∧a1=a1∧a2=a2∧a3=a3∧a4=a4∧a5=a5∧a6=a6∧True:=⟨rfl,rfl,rfl,rfl,rfl,rfl,rfl,trivial⟩
theorem t8 {α0 α1 α2 α3 α4 α5 α6 α7:Sort _} {a0:α0} {a1:α1} {a2:α2} {a3:α3} {a4:α4} {a5:α5} {a6:α6} {a7:α7} : a0=a0∧a1=a1∧a2=a2∧a3=a3∧a4=a4∧a5=a5∧a6=a6∧a7=a7∧True:=⟨rfl,rfl,rfl,rfl,rfl,rfl,rfl,rfl,trivial⟩
theorem t9 {α0 α1 α2 α3 α4 α5 α6 α7 α8:Sort _} {a0:α0} {a1:α1} {a2:α2} {a3:α3} {a4:α4} {a5:α5} {a6:α6} {a7:α7} {a8:α8} : a0=a0∧a1=a1∧a2=a2∧a3=a3∧a4=a4∧a5=a5∧a6=a6∧a7=a7∧a8=a8∧True:=⟨rfl,rfl,rfl,rfl,rfl,rfl,rfl,rfl,rfl,trivial⟩
theorem t10 {α0 α1 α2 α3 α4 α5 α6 α7 α8 α9:Sort _} {a0:α0} {a1:α1} {a2:α2} {a3:α3} {a4:α4} {a5:α5} {a6:α6} {a7:α7} {a8:α8} {a9:α9} : a0=a0∧a1=a1∧a2=a2∧a3=a3∧a4=a4∧a5=a5∧a6=a6∧a7=a7∧a8=a8∧a9=a9∧True:=⟨rfl,rfl,rfl,rfl,rfl,rfl,rfl,rfl,rfl,rfl,trivial⟩
theorem t11 {α0 α1 α2 α3 α4 α5 α6 α7 α8 α9 α10:Sort _} {a0:α0} {a1:α1} {a2:α2} {a3:α3} {a4:α4} {a5:α5} {a6:α6} {a7:α7} {a8:α8} {a9:α9} {a10:α10} : a0=a0∧a1=a1∧a2=a2∧a3=a3∧a4=a4∧a5=a5∧a6=a6∧a7=a7∧a8=a8∧a9=a9∧a10=a10∧True:=⟨rfl,rfl,rfl,rfl,rfl,rfl,rfl,rfl,rfl,rfl,rfl,trivial⟩
theorem t15 {α0 α1 α2 α3 α4 α5 α6 α7 α8 α9 α10 α11 α12 α13 α14:Sort _} {a0:α0} {a1:α1} {a2:α2} {a3:α3} {a4:α4} {a5:α5} {a6:α6} {a7:α7} {a8:α8} {a9:α9} {a10:α10} {a11:α11} {a12:α12} {a13:α13} {a14:α14} : a0=a0∧a1=a1∧a2=a2∧a3=a3∧a4=a4∧a5=a5∧a6=a6∧a7=a7∧a8=a8∧a9=a9∧a10=a10∧a11=a11∧a12=a12∧a13=a13∧a14=a14∧True:=⟨rfl,rfl,rfl,rfl,rfl,rfl,rfl,rfl,rfl,rfl,rfl,rfl,rfl,rfl,rfl,trivial⟩
section
variable {P:PJ} {n:Nat} {ops:Array Oper} {i:Nat} {K:Zab} {S:Env} {D:List Deferred} {B:Kn} {L:List Cells}
variable {dst:Option Tmp} {ty:TypeId} {pos:String} {after:Array Edge} {g:Option (Nat × Bool)} {t u:TypeId} {x y:Operand}
theorem xM {x:Operand} {v:Value} (hg:Zj ops S g=some true:=by exact rfl) (hd:Zx n dst=true:=by exact rfl) (hx:ev S x=some v:=by exact rfl) (h:K (Zbw S dst v) D B L):opW P n ops i ⟨dst,.move x,ty,pos,after,g⟩ K S D B L:=Zk (Zbe hg hd hx h)
theorem xA {x:Operand} {v:Value} (hg:Zj ops S g=some true:=by exact rfl) (hd:Zx n dst=true:=by exact rfl) (hx:ev S x=some v:=by exact rfl) (h:K (Zbw S dst v) D B L):opW P n ops i ⟨dst,.assign x,ty,pos,after,g⟩ K S D B L:=Zk (Zbp hg hd hx h)
theorem xP  {dst:Option Tmp} {op:Op} {t:TypeId} {pos:String} {after:Array Edge} {g:Option (Nat × Bool)}   (hg:Zj ops S g=some false:=by exact rfl) (hd:Zx n dst=true:=by exact rfl) (h:K (Zbw S dst undef) D B L):opW P n ops i ⟨dst,op,t,pos,after,g⟩ K S D B L:=Zk (ZsR  hg hd h)
theorem xT  {c:Operand} {a:Operand} {b:Operand} {v:Value}   (hg:Zj ops S g=some true:=by exact rfl) (hd:Zx n dst=true:=by exact rfl) (hc:ev S c=some (.bool true):=by exact rfl) (hx:ev S a=some v:=by exact rfl) (h:K (Zbw S dst v) D B L):opW P n ops i ⟨dst,.pick c a b,ty,pos,after,g⟩ K S D B L:=Zk (Zoj  hg hd hc hx h)
theorem xF  {c:Operand} {a:Operand} {b:Operand} {v:Value}   (hg:Zj ops S g=some true:=by exact rfl) (hd:Zx n dst=true:=by exact rfl) (hc:ev S c=some (.bool false):=by exact rfl) (hx:ev S b=some v:=by exact rfl) (h:K (Zbw S dst v) D B L):opW P n ops i ⟨dst,.pick c a b,ty,pos,after,g⟩ K S D B L:=Zk (Zok  hg hd hc hx h)
theorem xE  {x:Operand} {ix:Nat} {vs:List Value} {v:Value}   (hg:Zj ops S g=some true:=by exact rfl) (hd:Zx n dst=true:=by exact rfl) (hx:ev S x=some (.tuple vs.toArray):=by exact rfl) (hi:vs[ix]? = some v:=by exact rfl) (h:K (Zbw S dst v) D B L):opW P n ops i ⟨dst,.extract x ix,ty,pos,after,g⟩ K S D B L:=Zk (Zg9  hg hd hx hi h)
theorem xN  {x:Operand} {b:Bool} {t:TypeId}   (hg:Zj ops S g=some true:=by exact rfl) (hd:Zx n dst=true:=by exact rfl) (hx:ev S x=some (.bool b):=by exact rfl) (h:K (Zbw S dst (.bool (!b))) D B L):opW P n ops i ⟨dst,.unOp .not t x,ty,pos,after,g⟩ K S D B L:=Zk (Zvb  hg hd hx h)
theorem xW  {s:TypeId} {x:Operand} {fi:Nat} {off:Nat} {a:Addr}  (hf:Zr P s fi=some off) (hg:Zj ops S g=some true:=by exact rfl) (hd:Zx n dst=true:=by exact rfl) (hx:ev S x=some (ptr a):=by exact rfl) (h:K (Zbw S dst (ptr (a.add off))) D B L):opW P n ops i ⟨dst,.fieldAddr s x fi,ty,pos,after,g⟩ K S D B L:=Zk (Zao  hg hd hf hx h)
theorem xD  {k:IntKind} {a b r:Int}   (hg:Zj ops S g=some true:=by exact rfl) (hd:Zx n dst=true:=by exact rfl) (hx:ev S x=some (.int k a):=by exact rfl) (hy:ev S y=some (.int k b):=by exact rfl) (hr:k.wrap (a+b)=r:=by first | exact Zcf (by first | omega | (simp;done) | (simp;omega)) (by first | omega | (simp;done) | (simp;omega)) | exact rfl) (h:K (Zbw S dst (.int k r)) D B L):opW P n ops i ⟨dst,.binOp .add t x y u,ty,pos,after,g⟩ K S D B L:=Zk (Zf9  hg hd hx hy hr h)
theorem xU  {k:IntKind} {a b r:Int}   (hg:Zj ops S g=some true:=by exact rfl) (hd:Zx n dst=true:=by exact rfl) (hx:ev S x=some (.int k a):=by exact rfl) (hy:ev S y=some (.int k b):=by exact rfl) (hr:k.wrap (a - b)=r:=by first | exact Zcf (by first | omega | (simp;done) | (simp;omega)) (by first | omega | (simp;done) | (simp;omega)) | exact rfl) (h:K (Zbw S dst (.int k r)) D B L):opW P n ops i ⟨dst,.binOp .sub t x y u,ty,pos,after,g⟩ K S D B L:=Zk (ZiG  hg hd hx hy hr h)
theorem ZF  {k:IntKind} {a b:Int}   (hg:Zj ops S g=some true:=by exact rfl) (hd:Zx n dst=true:=by exact rfl) (hx:ev S x=some (.int k a):=by exact rfl) (hy:ev S y=some (.int k b):=by exact rfl) (h:K (Zbw S dst (.bool (decide (a<b)))) D B L):opW P n ops i ⟨dst,.binOp .lss t x y u,ty,pos,after,g⟩ K S D B L:=Zk (Zve  hg hd hx hy h)
theorem Zck  {k:IntKind} {a b:Int}   (hg:Zj ops S g=some true:=by exact rfl) (hd:Zx n dst=true:=by exact rfl) (hx:ev S x=some (.int k a):=by exact rfl) (hy:ev S y=some (.int k b):=by exact rfl) (h:K (Zbw S dst (.bool (decide (a≤b)))) D B L):opW P n ops i ⟨dst,.binOp .leq t x y u,ty,pos,after,g⟩ K S D B L:=Zk (Zvf  hg hd hx hy h)
theorem Zfi  {k:IntKind} {a b:Int}   (hg:Zj ops S g=some true:=by exact rfl) (hd:Zx n dst=true:=by exact rfl) (hx:ev S x=some (.int k a):=by exact rfl) (hy:ev S y=some (.int k b):=by exact rfl) (h:K (Zbw S dst (.bool (decide (b<a)))) D B L):opW P n ops i ⟨dst,.binOp .gtr t x y u,ty,pos,after,g⟩ K S D B L:=Zk (Zvj  hg hd hx hy h)
theorem Zek  {k:IntKind} {a b:Int}   (hg:Zj ops S g=some true:=by exact rfl) (hd:Zx n dst=true:=by exact rfl) (hx:ev S x=some (.int k a):=by exact rfl) (hy:ev S y=some (.int k b):=by exact rfl) (h:K (Zbw S dst (.bool (decide (b≤a)))) D B L):opW P n ops i ⟨dst,.binOp .geq t x y u,ty,pos,after,g⟩ K S D B L:=Zk (Zvk  hg hd hx hy h)
theorem ZjC  {k:IntKind} {a b:Int}   (hg:Zj ops S g=some true:=by exact rfl) (hd:Zx n dst=true:=by exact rfl) (hx:ev S x=some (.int k a):=by exact rfl) (hy:ev S y=some (.int k b):=by exact rfl) (h:K (Zbw S dst (.bool (decide (a=b)))) D B L):opW P n ops i ⟨dst,.binOp .eql t x y u,ty,pos,after,g⟩ K S D B L:=Zk (ZsY  hg hd hx hy h)
theorem ZaL  {k:IntKind} {a b:Int}   (hg:Zj ops S g=some true:=by exact rfl) (hd:Zx n dst=true:=by exact rfl) (hx:ev S x=some (.int k a):=by exact rfl) (hy:ev S y=some (.int k b):=by exact rfl) (h:K (Zbw S dst (.bool (decide (a≠b)))) D B L):opW P n ops i ⟨dst,.binOp .neq t x y u,ty,pos,after,g⟩ K S D B L:=Zk (Zol  hg hd hx hy h)
theorem Zdx  {a b:List UInt8}   (hg:Zj ops S g=some true:=by exact rfl) (hd:Zx n dst=true:=by exact rfl) (hx:ev S x=some (str a):=by exact rfl) (hy:ev S y=some (str b):=by exact rfl) (h:K (Zbw S dst (.bool (decide (a=b)))) D B L):opW P n ops i ⟨dst,.binOp .eql t x y u,ty,pos,after,g⟩ K S D B L:=Zk (ZsX  hg hd hx hy h)
theorem Ze5  {a b:List UInt8}   (hg:Zj ops S g=some true:=by exact rfl) (hd:Zx n dst=true:=by exact rfl) (hx:ev S x=some (str a):=by exact rfl) (hy:ev S y=some (str b):=by exact rfl) (h:K (Zbw S dst (.bool (decide (a≠b)))) D B L):opW P n ops i ⟨dst,.binOp .neq t x y u,ty,pos,after,g⟩ K S D B L:=Zk (ZsS  hg hd hx hy h)
theorem ZsN  {a b:List UInt8}   (hg:Zj ops S g=some true:=by exact rfl) (hd:Zx n dst=true:=by exact rfl) (hx:ev S x=some (str a):=by exact rfl) (hy:ev S y=some (str b):=by exact rfl) (h:K (Zbw S dst (.bool (Op.bytesLess a b))) D B L):opW P n ops i ⟨dst,.binOp .lss t x y u,ty,pos,after,g⟩ K S D B L:=Zk (Zvd  hg hd hx hy h)
theorem xV  {x:Operand} {t:TypeId} {e:TypeId} {p:Option Addr} {len:Nat} {cap:Nat}  (hu:P.underlying t=some (.slice e)) (hg:Zj ops S g=some true:=by exact rfl) (hd:Zx n dst=true:=by exact rfl) (hx:ev S x=some (.slice p len cap):=by exact rfl) (h:K (Zbw S dst (.int .i64 len)) D B L):opW P n ops i ⟨dst,.call ⟨.builtin .len,#[x],#[t]⟩,ty,pos,after,g⟩ K S D B L:=Zk (Zvg  hg hd hu hx h)
theorem xVs  {x:Operand} {t:TypeId} {l:List UInt8}  (hu:P.underlying t=some .string) (hg:Zj ops S g=some true:=by exact rfl) (hd:Zx n dst=true:=by exact rfl) (hx:ev S x=some (str l):=by exact rfl) (h:K (Zbw S dst (.int .i64 l.length)) D B L):opW P n ops i ⟨dst,.call ⟨.builtin .len,#[x],#[t]⟩,ty,pos,after,g⟩ K S D B L:=Zk (ZsV  hg hd hu hx h)
theorem xNc  {x:Operand} {a:Addr}   (hg:Zj ops S g=some true:=by exact rfl) (hd:Zx n dst=true:=by exact rfl) (hx:ev S x=some (.pointer (some a)):=by exact rfl) (h:K (Zbw S dst (.pointer (some a))) D B L):opW P n ops i ⟨dst,.nilCheck x,ty,pos,after,g⟩ K S D B L:=Zk (ZaK  hg hd hx h)
theorem x1  {t:TypeId} {x:Operand} {a:Addr} {v:Value} {l:List Value} {T:TypeId} {fr:Nat × Nat} {r:Cells}  (hl:lk P t=some none) (j:Nat) (hg:Zj ops S g=some true:=by exact rfl) (hd:Zx n dst=true:=by exact rfl) (hx:ev S x=some (ptr a):=by exact rfl) (hj:L[j]? = some ((a.block,.cells l.toArray T fr) :: r):=by exact rfl) (hs:a.spot=none:=by exact rfl) (hv:l[a.off]? = some v:=by exact rfl) (h:K (Zbw S dst v) D B L):opW P n ops i ⟨dst,.load t x,ty,pos,after,g⟩ K S D B L:=Zk (Zm  hg hd hl hx (atL j hj hs hv) h)
theorem xL  {t:TypeId} {x:Operand} {a:Addr} {l:List Value} {T:TypeId} {fr:Nat × Nat} {r:Cells}  (vs:List Value) (hl:lk P t=some (some vs.length)) (j:Nat) (hg:Zj ops S g=some true:=by exact rfl) (hd:Zx n dst=true:=by exact rfl) (hx:ev S x=some (ptr a):=by exact rfl) (hj:L[j]? = some ((a.block,.cells l.toArray T fr) :: r):=by exact rfl) (hs:a.spot=none:=by exact rfl) (hv:(l.drop a.off).take vs.length=vs:=by exact rfl) (h:K (Zbw S dst (.agg vs.toArray)) D B L):opW P n ops i ⟨dst,.load t x,ty,pos,after,g⟩ K S D B L:=Zk (Z0  vs hg hd hl hx (ZbT j hj hs hv) h)
theorem y1  {t:TypeId} {x:Operand} {a:Addr} {v:Value} {b o:Nat} {row:List Value}  (hl:lk P t=some none) (hc:Zau B b o row) (off:Nat) (hg:Zj ops S g=some true:=by exact rfl) (hd:Zx n dst=true:=by exact rfl) (hx:ev S x=some (ptr a):=by exact rfl) (ha:a=⟨b,o+off,none⟩:=by exact rfl) (hv:row[off]? = some v:=by exact rfl) (h:K (Zbw S dst v) D B L):opW P n ops i ⟨dst,.load t x,ty,pos,after,g⟩ K S D B L:=Zk (Zm  hg hd hl hx (by subst ha;exact hc _ off _ hv) h)
theorem yL  {t:TypeId} {x:Operand} {a:Addr} {b o:Nat} {row:List Value}  (vs:List Value) (hl:lk P t=some (some vs.length)) (hc:Zau B b o row) (off:Nat) (hg:Zj ops S g=some true:=by exact rfl) (hd:Zx n dst=true:=by exact rfl) (hx:ev S x=some (ptr a):=by exact rfl) (ha:a=⟨b,o+off,none⟩:=by exact rfl) (hv:(row.drop off).take vs.length=vs:=by exact rfl) (h:K (Zbw S dst (.agg vs.toArray)) D B L):opW P n ops i ⟨dst,.load t x,ty,pos,after,g⟩ K S D B L:=Zk (Z0  vs hg hd hl hx (Zlh hc off ha hv) h)
theorem xS  {t:TypeId} {x:Operand} {y:Operand} {a:Addr} {v:Value} {l:List Value} {T:TypeId} {r:Cells}  (vs:List Value) (j:Nat) (l':List Value) (hsz:ZR P t=some vs.length) (hg:Zj ops S g=some true:=by exact rfl) (hd:Zx n dst=true:=by exact rfl) (hx:ev S x=some (ptr a):=by exact rfl) (hy:ev S y=some v:=by exact rfl) (hv:v.cells=vs.toArray:=by exact rfl) (ho:vs.all Zhn=true:=by exact rfl) (hj:L[j]? = some ((a.block,.cells l.toArray T (0,0)) :: r):=by exact rfl) (hs:a.spot=none:=by exact rfl) (hlen:Nat.ble (a.off+vs.length) l.length=true:=by exact rfl) (hl':Z7 l a.off vs=l':=by exact rfl) (h:K (Zbw S dst undef) D B (L.set j ((a.block,.cells l'.toArray T (0,0)) :: r))):opW P n ops i ⟨dst,.store t x y,ty,pos,after,g⟩ K S D B L:=Zk (ZM  vs j l' hg hd hsz hx hy hv ho hj hs hlen hl' h)
theorem xB  {t:TypeId} {z:Value} {pl:List (Nat × Nat)} {vs:List Value} (parts:List (Nat × Operand)) (zl l':List Value) (hpl:Za5 P t=some pl) (hz:Zae P t=some z) (hg:Zj ops S g=some true:=by exact rfl) (hd:Zx n dst=true:=by exact rfl) (hzl:z.cells.toList=zl:=by exact rfl) (ha:evs S (parts.map (·.2))=some vs:=by exact rfl) (hf:Zh5 (fun i=>pl[i]?) zl ((parts.map (·.1)).zip vs)=some l':=by exact rfl) (h:K (Zbw S dst (.agg l'.toArray)) D B L):opW P n ops i ⟨dst,.build t parts.toArray,ty,pos,after,g⟩ K S D B L:=Zk (Zak (parts:=parts) zl l' hg hd hpl hz hzl ha hf h)
theorem xAl  {t:TypeId} {z:Value} (l:List Value) (hz:Zae P t=some z) (hg:Zj ops S g=some true:=by exact rfl) (hd:Zx n dst=true:=by exact rfl) (hl:z.cells=l.toArray:=by exact rfl) (h :∀b,K (Zbw S dst (ptr ⟨b,0,none⟩)) D B (L ++ [ZK b l t])):opW P n ops i ⟨dst,.alloc t,ty,pos,after,g⟩ K S D B L:=Zk (Zav (l:=l) hg hd hz hl h)
theorem xBx  {t:TypeId} {x:Operand} {v:Value} (l:List Value)  (hg:Zj ops S g=some true:=by exact rfl) (hd:Zx n dst=true:=by exact rfl) (hx:ev S x=some v:=by exact rfl) (hl:v.cells=l.toArray:=by exact rfl) (h :∀b,K (Zbw S dst (ptr ⟨b,0,none⟩)) D B (L ++ [ZK b l t])):opW P n ops i ⟨dst,.box t x,ty,pos,after,g⟩ K S D B L:=Zk (Zos (l:=l) hg hd hx hl h)
theorem xIx  {t:TypeId} {e:TypeId} {x:Operand} {y:Operand} {k:IntKind} {b:Nat} {o:Nat} {len:Nat} {cap:Nat} {sz:Nat} {ix:Int}  (hu:P.underlying t=some (.slice e)) (hsz:ZR P e=some sz) (hg:Zj ops S g=some true:=by exact rfl) (hd:Zx n dst=true:=by exact rfl) (hx:ev S x=some (.slice (some ⟨b,o,none⟩) len cap):=by exact rfl) (hy:ev S y=some (.int k ix):=by exact rfl) (h0:0≤ix:=by first | omega | (simp;done) | (simp;omega)) (h1:ix<len:=by first | omega | (simp;done) | (simp;omega)) (h:K (Zbw S dst (ptr ⟨b,o+ix.toNat*sz,none⟩)) D B L):opW P n ops i ⟨dst,.indexAddr t x y,ty,pos,after,g⟩ K S D B L:=Zk (Zvh  hg hd hu hsz hx hy h0 h1 h)
theorem xIp  {t:TypeId} {e:TypeId} {x:Operand} {y:Operand} {k:IntKind} {p:Option Addr} {b:Nat} {len:Nat} {cap:Nat} {sz:Nat} {ix:Int}  (hp:p=some ⟨b,0,none⟩) (hu:P.underlying t=some (.slice e)) (hsz:ZR P e=some sz) (hg:Zj ops S g=some true:=by exact rfl) (hd:Zx n dst=true:=by exact rfl) (hx:ev S x=some (.slice p len cap):=by exact rfl) (hy:ev S y=some (.int k ix):=by exact rfl) (h0:0≤ix:=by first | omega | (simp;done) | (simp;omega)) (h1:ix<len:=by first | omega | (simp;done) | (simp;omega)) (h:K (Zbw S dst (ptr ⟨b,ix.toNat*sz,none⟩)) D B L):opW P n ops i ⟨dst,.indexAddr t x y,ty,pos,after,g⟩ K S D B L:=Zk (ZjE  hp hg hd hu hsz hx hy h0 h1 h)
theorem xR  {f:FuncId} {xs:List Operand} {vs:List Value} {ats:Array TypeId} {v:Value}  (he:enters P f=true) (ha:evs S xs=some vs) (hc:Zaa P f vs B v) (hg:Zj ops S g=some true:=by exact rfl) (hd:Zx n dst=true:=by exact rfl) (h:K (Zbw S dst v) D B L):opW P n ops i ⟨dst,.call ⟨.value (.func f),xs.toArray,ats⟩,ty,pos,after,g⟩ K S D B L:=Zk (Z8  hg hd he ha hc h)
theorem xC  {f:FuncId} {xs:List Operand} {vs:List Value} {ats:Array TypeId} {Post:Value→Kn→List Cells→Prop}  (he:enters P f=true) (ha:evs S xs=some vs) (hc:Zv P f vs B [] Post) (hg:Zj ops S g=some true:=by exact rfl) (hd:Zx n dst=true:=by exact rfl) (h :∀v B' Ls',B.le B'→Post v B' Ls'→K (Zbw S dst v) D B' (L ++ Ls')):opW P n ops i ⟨dst,.call ⟨.value (.func f),xs.toArray,ats⟩,ty,pos,after,g⟩ K S D B L:=Zk (Zap  hg hd he ha hc h)
theorem xQ  {f:FuncId} {xs:List Operand} {vs:List Value} {ats:Array TypeId} {Post:Value→Kn→Prop}  (he:enters P f=true) (ha:evs S xs=some vs) (hc:Zv P f vs B [] (fun v B' Ls=>Ls=[]∧Post v B')) (hg:Zj ops S g=some true:=by exact rfl) (hd:Zx n dst=true:=by exact rfl) (h :∀v B',B.le B'→Post v B'→K (Zbw S dst v) D B' L):opW P n ops i ⟨dst,.call ⟨.value (.func f),xs.toArray,ats⟩,ty,pos,after,g⟩ K S D B L:=Zk (Zha  hg hd he ha hc h)
theorem xK  {f:FuncId} {xs:List Operand} {vs:List Value} {ats:Array TypeId} {Post:Value→Kn→List Cells→Prop} {ss:List Cells} {r:List Cells}  (js:List Nat) (hp:Zaw L js=some (ss,r)) (he:enters P f=true) (ha:evs S xs=some vs) (hc:Zv P f vs B ss Post) (hn:Zed js=true:=by exact rfl) (hg:Zj ops S g=some true:=by exact rfl) (hd:Zx n dst=true:=by exact rfl) (h :∀v B' Ls',B.le B'→Post v B' Ls'→K (Zbw S dst v) D B' (Zci r js Ls')):opW P n ops i ⟨dst,.call ⟨.value (.func f),xs.toArray,ats⟩,ty,pos,after,g⟩ K S D B L:=Zk (Zby  js hp hn hg hd he ha hc h)
theorem xBs  {t:TypeId} {e:TypeId} {len:Nat} {sz:Nat} {z:Value} {vs:List Value} (parts:List (Nat × Operand)) (l':List Value) (hu:P.underlying t=some (.slice e)) (hsz:ZR P e=some sz) (hz:Zae P e=some z) (hg:Zj ops S g=some true:=by exact rfl) (hd:Zx n dst=true:=by exact rfl) (hbig:Nat.ble (len*sz) 1024=true:=by exact rfl) (hidx:parts.map (·.1)=List.range len:=by exact rfl) (ha:evs S (parts.map (·.2))=some vs:=by exact rfl) (hall:vs.all (fun v=>Nat.beq v.cells.toList.length sz)=true:=by exact rfl) (hl':(vs.map fun v=>v.cells.toList).flatten=l':=by exact rfl) (h :∀b,K (Zbw S dst (.slice (some ⟨b,0,none⟩) len len)) D B (L ++ [ZK b l' e])):opW P n ops i ⟨dst,.buildSlice t len parts.toArray,ty,pos,after,g⟩ K S D B L:=Zk (ZJ (parts:=parts) l' hg hd hu hsz hz hbig hidx ha hall hl' h)
end
section
variable {P:PJ} {n:Nat} {ops:Array Oper} {K:Zab} {S:Env} {D:List Deferred} {B:Kn} {L:List Cells}
variable {dst:Option Tmp} {ty:TypeId} {pos:String} {after:Array Edge} {g:Option (Nat × Bool)} {t u:TypeId} {x y:Operand}
theorem aT {C:Cx P} {k':List Item} {I:Kn→List Cells→Prop} {ℓ:List Nat} (i:Nat) {o:Oper} {v:Value} (hi:ops[i]? = some o) (hq:quiet P n ops I i o v (sel (o.looksAt ops) S)) (hr:(ZaM ops ℓ).contains i=true:=by kernel_rfl) (hd:Zx n o.dst=true:=by exact rfl) (hp:Zip o=false:=by rfl) (h:Zbd C k' n ops I (i :: ℓ) K (Zbw S o.dst v) D B L):Zbd C k' n ops I ℓ K S D B L:=ZsD i hi hr hd hq h hp
theorem r4 {α β γ δ:Type} {a:α} {b:β} {c:γ} {d:δ} : a=a∧b=b∧c=c∧d=d:=⟨rfl,rfl,rfl,rfl⟩
variable {C:Cx P} {k':List Item} {I:Kn→List Cells→Prop} {ℓ:List Nat}
theorem aM  {x:Operand} {v:Value} (i:Nat) (hii:ops[i]? = some ⟨dst,.move x,ty,pos,after,g⟩)  (hrr:(ZaM ops ℓ).contains i=true:=by kernel_rfl) (hdd:Zx n dst=true:=by exact rfl) (hg:Zj ops (sel ((⟨dst,.move x,ty,pos,after,g⟩:Oper).looksAt ops) S) g=some true:=by exact rfl) (hd:Zx n dst=true:=by exact rfl) (hx:ev (sel ((⟨dst,.move x,ty,pos,after,g⟩:Oper).looksAt ops) S) x=some v:=by exact rfl) (h:Zbd C k' n ops I (i :: ℓ) K (Zbw S dst v) D B L):Zbd C k' n ops I ℓ K S D B L:=Zan i hii hrr hdd (fun _ _ _=>Zbe hg hd hx ⟨rfl,rfl,rfl,rfl⟩) h
theorem aA  {x:Operand} {v:Value} (i:Nat) (hii:ops[i]? = some ⟨dst,.assign x,ty,pos,after,g⟩)  (hrr:(ZaM ops ℓ).contains i=true:=by kernel_rfl) (hdd:Zx n dst=true:=by exact rfl) (hg:Zj ops (sel ((⟨dst,.assign x,ty,pos,after,g⟩:Oper).looksAt ops) S) g=some true:=by exact rfl) (hd:Zx n dst=true:=by exact rfl) (hx:ev (sel ((⟨dst,.assign x,ty,pos,after,g⟩:Oper).looksAt ops) S) x=some v:=by exact rfl) (h:Zbd C k' n ops I (i :: ℓ) K (Zbw S dst v) D B L):Zbd C k' n ops I ℓ K S D B L:=Zan i hii hrr hdd (fun _ _ _=>Zbp hg hd hx ⟨rfl,rfl,rfl,rfl⟩) h
theorem aZ  {dst:Option Tmp} {op:Op} {t:TypeId} {pos:String} {after:Array Edge} {g:Option (Nat × Bool)} (i:Nat) (hii:ops[i]? = some ⟨dst,op,t,pos,after,g⟩)  (hrr:(ZaM ops ℓ).contains i=true:=by kernel_rfl) (hdd:Zx n dst=true:=by exact rfl) (hg:Zj ops (sel ((⟨dst,op,t,pos,after,g⟩:Oper).looksAt ops) S) g=some false:=by exact rfl) (hd:Zx n dst=true:=by exact rfl) (h:Zbd C k' n ops I (i :: ℓ) K (Zbw S dst undef) D B L):Zbd C k' n ops I ℓ K S D B L:=Zan i hii hrr hdd (fun _ _ _=>ZsR hg hd ⟨rfl,rfl,rfl,rfl⟩) h
theorem aPT  {c:Operand} {a:Operand} {b:Operand} {v:Value} (i:Nat) (hii:ops[i]? = some ⟨dst,.pick c a b,ty,pos,after,g⟩)  (hrr:(ZaM ops ℓ).contains i=true:=by kernel_rfl) (hdd:Zx n dst=true:=by exact rfl) (hg:Zj ops (sel ((⟨dst,.pick c a b,ty,pos,after,g⟩:Oper).looksAt ops) S) g=some true:=by exact rfl) (hd:Zx n dst=true:=by exact rfl) (hc:ev (sel ((⟨dst,.pick c a b,ty,pos,after,g⟩:Oper).looksAt ops) S) c=some (.bool true):=by exact rfl) (hx:ev (sel ((⟨dst,.pick c a b,ty,pos,after,g⟩:Oper).looksAt ops) S) a=some v:=by exact rfl) (h:Zbd C k' n ops I (i :: ℓ) K (Zbw S dst v) D B L):Zbd C k' n ops I ℓ K S D B L:=Zan i hii hrr hdd (fun _ _ _=>Zoj hg hd hc hx ⟨rfl,rfl,rfl,rfl⟩) h
theorem aPF  {c:Operand} {a:Operand} {b:Operand} {v:Value} (i:Nat) (hii:ops[i]? = some ⟨dst,.pick c a b,ty,pos,after,g⟩)  (hrr:(ZaM ops ℓ).contains i=true:=by kernel_rfl) (hdd:Zx n dst=true:=by exact rfl) (hg:Zj ops (sel ((⟨dst,.pick c a b,ty,pos,after,g⟩:Oper).looksAt ops) S) g=some true:=by exact rfl) (hd:Zx n dst=true:=by exact rfl) (hc:ev (sel ((⟨dst,.pick c a b,ty,pos,after,g⟩:Oper).looksAt ops) S) c=some (.bool false):=by exact rfl) (hx:ev (sel ((⟨dst,.pick c a b,ty,pos,after,g⟩:Oper).looksAt ops) S) b=some v:=by exact rfl) (h:Zbd C k' n ops I (i :: ℓ) K (Zbw S dst v) D B L):Zbd C k' n ops I ℓ K S D B L:=Zan i hii hrr hdd (fun _ _ _=>Zok hg hd hc hx ⟨rfl,rfl,rfl,rfl⟩) h
theorem aE  {x:Operand} {ix:Nat} {vs:List Value} {v:Value} (i:Nat) (hii:ops[i]? = some ⟨dst,.extract x ix,ty,pos,after,g⟩)  (hrr:(ZaM ops ℓ).contains i=true:=by kernel_rfl) (hdd:Zx n dst=true:=by exact rfl) (hg:Zj ops (sel ((⟨dst,.extract x ix,ty,pos,after,g⟩:Oper).looksAt ops) S) g=some true:=by exact rfl) (hd:Zx n dst=true:=by exact rfl) (hx:ev (sel ((⟨dst,.extract x ix,ty,pos,after,g⟩:Oper).looksAt ops) S) x=some (.tuple vs.toArray):=by exact rfl) (hi:vs[ix]? = some v:=by exact rfl) (h:Zbd C k' n ops I (i :: ℓ) K (Zbw S dst v) D B L):Zbd C k' n ops I ℓ K S D B L:=Zan i hii hrr hdd (fun _ _ _=>Zg9 hg hd hx hi ⟨rfl,rfl,rfl,rfl⟩) h
theorem aW  {s:TypeId} {x:Operand} {fi:Nat} {off:Nat} {a:Addr} (i:Nat) (hii:ops[i]? = some ⟨dst,.fieldAddr s x fi,ty,pos,after,g⟩) (hf:Zr P s fi=some off) (hrr:(ZaM ops ℓ).contains i=true:=by kernel_rfl) (hdd:Zx n dst=true:=by exact rfl) (hg:Zj ops (sel ((⟨dst,.fieldAddr s x fi,ty,pos,after,g⟩:Oper).looksAt ops) S) g=some true:=by exact rfl) (hd:Zx n dst=true:=by exact rfl) (hx:ev (sel ((⟨dst,.fieldAddr s x fi,ty,pos,after,g⟩:Oper).looksAt ops) S) x=some (ptr a):=by exact rfl) (h:Zbd C k' n ops I (i :: ℓ) K (Zbw S dst (ptr (a.add off))) D B L):Zbd C k' n ops I ℓ K S D B L:=Zan i hii hrr hdd (fun _ _ _=>Zao hg hd hf hx ⟨rfl,rfl,rfl,rfl⟩) h
theorem aN  {x:Operand} {b:Bool} {t:TypeId} (i:Nat) (hii:ops[i]? = some ⟨dst,.unOp .not t x,ty,pos,after,g⟩)  (hrr:(ZaM ops ℓ).contains i=true:=by kernel_rfl) (hdd:Zx n dst=true:=by exact rfl) (hg:Zj ops (sel ((⟨dst,.unOp .not t x,ty,pos,after,g⟩:Oper).looksAt ops) S) g=some true:=by exact rfl) (hd:Zx n dst=true:=by exact rfl) (hx:ev (sel ((⟨dst,.unOp .not t x,ty,pos,after,g⟩:Oper).looksAt ops) S) x=some (.bool b):=by exact rfl) (h:Zbd C k' n ops I (i :: ℓ) K (Zbw S dst (.bool (!b))) D B L):Zbd C k' n ops I ℓ K S D B L:=Zan i hii hrr hdd (fun _ _ _=>Zvb hg hd hx ⟨rfl,rfl,rfl,rfl⟩) h
theorem aNc  {x:Operand} {a:Addr} (i:Nat) (hii:ops[i]? = some ⟨dst,.nilCheck x,ty,pos,after,g⟩)  (hrr:(ZaM ops ℓ).contains i=true:=by kernel_rfl) (hdd:Zx n dst=true:=by exact rfl) (hg:Zj ops (sel ((⟨dst,.nilCheck x,ty,pos,after,g⟩:Oper).looksAt ops) S) g=some true:=by exact rfl) (hd:Zx n dst=true:=by exact rfl) (hx:ev (sel ((⟨dst,.nilCheck x,ty,pos,after,g⟩:Oper).looksAt ops) S) x=some (.pointer (some a)):=by exact rfl) (h:Zbd C k' n ops I (i :: ℓ) K (Zbw S dst (.pointer (some a))) D B L):Zbd C k' n ops I ℓ K S D B L:=Zan i hii hrr hdd (fun _ _ _=>ZaK hg hd hx ⟨rfl,rfl,rfl,rfl⟩) h
theorem ZsJ  {k:IntKind} {a b:Int} (i:Nat) (hii:ops[i]? = some ⟨dst,.binOp .lss t x y u,ty,pos,after,g⟩)  (hrr:(ZaM ops ℓ).contains i=true:=by kernel_rfl) (hdd:Zx n dst=true:=by exact rfl) (hg:Zj ops (sel ((⟨dst,.binOp .lss t x y u,ty,pos,after,g⟩:Oper).looksAt ops) S) g=some true:=by exact rfl) (hd:Zx n dst=true:=by exact rfl) (hx:ev (sel ((⟨dst,.binOp .lss t x y u,ty,pos,after,g⟩:Oper).looksAt ops) S) x=some (.int k a):=by exact rfl) (hy:ev (sel ((⟨dst,.binOp .lss t x y u,ty,pos,after,g⟩:Oper).looksAt ops) S) y=some (.int k b):=by exact rfl) (h:Zbd C k' n ops I (i :: ℓ) K (Zbw S dst (.bool (decide (a<b)))) D B L):Zbd C k' n ops I ℓ K S D B L:=Zan i hii hrr hdd (fun _ _ _=>Zve hg hd hx hy ⟨rfl,rfl,rfl,rfl⟩) h
theorem ZuT  {k:IntKind} {a b:Int} (i:Nat) (hii:ops[i]? = some ⟨dst,.binOp .leq t x y u,ty,pos,after,g⟩)  (hrr:(ZaM ops ℓ).contains i=true:=by kernel_rfl) (hdd:Zx n dst=true:=by exact rfl) (hg:Zj ops (sel ((⟨dst,.binOp .leq t x y u,ty,pos,after,g⟩:Oper).looksAt ops) S) g=some true:=by exact rfl) (hd:Zx n dst=true:=by exact rfl) (hx:ev (sel ((⟨dst,.binOp .leq t x y u,ty,pos,after,g⟩:Oper).looksAt ops) S) x=some (.int k a):=by exact rfl) (hy:ev (sel ((⟨dst,.binOp .leq t x y u,ty,pos,after,g⟩:Oper).looksAt ops) S) y=some (.int k b):=by exact rfl) (h:Zbd C k' n ops I (i :: ℓ) K (Zbw S dst (.bool (decide (a≤b)))) D B L):Zbd C k' n ops I ℓ K S D B L:=Zan i hii hrr hdd (fun _ _ _=>Zvf hg hd hx hy ⟨rfl,rfl,rfl,rfl⟩) h
theorem ZqM  {k:IntKind} {a b:Int} (i:Nat) (hii:ops[i]? = some ⟨dst,.binOp .gtr t x y u,ty,pos,after,g⟩)  (hrr:(ZaM ops ℓ).contains i=true:=by kernel_rfl) (hdd:Zx n dst=true:=by exact rfl) (hg:Zj ops (sel ((⟨dst,.binOp .gtr t x y u,ty,pos,after,g⟩:Oper).looksAt ops) S) g=some true:=by exact rfl) (hd:Zx n dst=true:=by exact rfl) (hx:ev (sel ((⟨dst,.binOp .gtr t x y u,ty,pos,after,g⟩:Oper).looksAt ops) S) x=some (.int k a):=by exact rfl) (hy:ev (sel ((⟨dst,.binOp .gtr t x y u,ty,pos,after,g⟩:Oper).looksAt ops) S) y=some (.int k b):=by exact rfl) (h:Zbd C k' n ops I (i :: ℓ) K (Zbw S dst (.bool (decide (b<a)))) D B L):Zbd C k' n ops I ℓ K S D B L:=Zan i hii hrr hdd (fun _ _ _=>Zvj hg hd hx hy ⟨rfl,rfl,rfl,rfl⟩) h
theorem Zzc  {k:IntKind} {a b:Int} (i:Nat) (hii:ops[i]? = some ⟨dst,.binOp .geq t x y u,ty,pos,after,g⟩)  (hrr:(ZaM ops ℓ).contains i=true:=by kernel_rfl) (hdd:Zx n dst=true:=by exact rfl) (hg:Zj ops (sel ((⟨dst,.binOp .geq t x y u,ty,pos,after,g⟩:Oper).looksAt ops) S) g=some true:=by exact rfl) (hd:Zx n dst=true:=by exact rfl) (hx:ev (sel ((⟨dst,.binOp .geq t x y u,ty,pos,after,g⟩:Oper).looksAt ops) S) x=some (.int k a):=by exact rfl) (hy:ev (sel ((⟨dst,.binOp .geq t x y u,ty,pos,after,g⟩:Oper).looksAt ops) S) y=some (.int k b):=by exact rfl) (h:Zbd C k' n ops I (i :: ℓ) K (Zbw S dst (.bool (decide (b≤a)))) D B L):Zbd C k' n ops I ℓ K S D B L:=Zan i hii hrr hdd (fun _ _ _=>Zvk hg hd hx hy ⟨rfl,rfl,rfl,rfl⟩) h
theorem ZqO  {k:IntKind} {a b:Int} (i:Nat) (hii:ops[i]? = some ⟨dst,.binOp .eql t x y u,ty,pos,after,g⟩)  (hrr:(ZaM ops ℓ).contains i=true:=by kernel_rfl) (hdd:Zx n dst=true:=by exact rfl) (hg:Zj ops (sel ((⟨dst,.binOp .eql t x y u,ty,pos,after,g⟩:Oper).looksAt ops) S) g=some true:=by exact rfl) (hd:Zx n dst=true:=by exact rfl) (hx:ev (sel ((⟨dst,.binOp .eql t x y u,ty,pos,after,g⟩:Oper).looksAt ops) S) x=some (.int k a):=by exact rfl) (hy:ev (sel ((⟨dst,.binOp .eql t x y u,ty,pos,after,g⟩:Oper).looksAt ops) S) y=some (.int k b):=by exact rfl) (h:Zbd C k' n ops I (i :: ℓ) K (Zbw S dst (.bool (decide (a=b)))) D B L):Zbd C k' n ops I ℓ K S D B L:=Zan i hii hrr hdd (fun _ _ _=>ZsY hg hd hx hy ⟨rfl,rfl,rfl,rfl⟩) h
theorem Ztl  {k:IntKind} {a b:Int} (i:Nat) (hii:ops[i]? = some ⟨dst,.binOp .neq t x y u,ty,pos,after,g⟩)  (hrr:(ZaM ops ℓ).contains i=true:=by kernel_rfl) (hdd:Zx n dst=true:=by exact rfl) (hg:Zj ops (sel ((⟨dst,.binOp .neq t x y u,ty,pos,after,g⟩:Oper).looksAt ops) S) g=some true:=by exact rfl) (hd:Zx n dst=true:=by exact rfl) (hx:ev (sel ((⟨dst,.binOp .neq t x y u,ty,pos,after,g⟩:Oper).looksAt ops) S) x=some (.int k a):=by exact rfl) (hy:ev (sel ((⟨dst,.binOp .neq t x y u,ty,pos,after,g⟩:Oper).looksAt ops) S) y=some (.int k b):=by exact rfl) (h:Zbd C k' n ops I (i :: ℓ) K (Zbw S dst (.bool (decide (a≠b)))) D B L):Zbd C k' n ops I ℓ K S D B L:=Zan i hii hrr hdd (fun _ _ _=>Zol hg hd hx hy ⟨rfl,rfl,rfl,rfl⟩) h
theorem ZqN  {a b:List UInt8} (i:Nat) (hii:ops[i]? = some ⟨dst,.binOp .eql t x y u,ty,pos,after,g⟩)  (hrr:(ZaM ops ℓ).contains i=true:=by kernel_rfl) (hdd:Zx n dst=true:=by exact rfl) (hg:Zj ops (sel ((⟨dst,.binOp .eql t x y u,ty,pos,after,g⟩:Oper).looksAt ops) S) g=some true:=by exact rfl) (hd:Zx n dst=true:=by exact rfl) (hx:ev (sel ((⟨dst,.binOp .eql t x y u,ty,pos,after,g⟩:Oper).looksAt ops) S) x=some (str a):=by exact rfl) (hy:ev (sel ((⟨dst,.binOp .eql t x y u,ty,pos,after,g⟩:Oper).looksAt ops) S) y=some (str b):=by exact rfl) (h:Zbd C k' n ops I (i :: ℓ) K (Zbw S dst (.bool (decide (a=b)))) D B L):Zbd C k' n ops I ℓ K S D B L:=Zan i hii hrr hdd (fun _ _ _=>ZsX hg hd hx hy ⟨rfl,rfl,rfl,rfl⟩) h
theorem Zfg  {a b:List UInt8} (i:Nat) (hii:ops[i]? = some ⟨dst,.binOp .neq t x y u,ty,pos,after,g⟩)  (hrr:(ZaM ops ℓ).contains i=true:=by kernel_rfl) (hdd:Zx n dst=true:=by exact rfl) (hg:Zj ops (sel ((⟨dst,.binOp .neq t x y u,ty,pos,after,g⟩:Oper).looksAt ops) S) g=some true:=by exact rfl) (hd:Zx n dst=true:=by exact rfl) (hx:ev (sel ((⟨dst,.binOp .neq t x y u,ty,pos,after,g⟩:Oper).looksAt ops) S) x=some (str a):=by exact rfl) (hy:ev (sel ((⟨dst,.binOp .neq t x y u,ty,pos,after,g⟩:Oper).looksAt ops) S) y=some (str b):=by exact rfl) (h:Zbd C k' n ops I (i :: ℓ) K (Zbw S dst (.bool (decide (a≠b)))) D B L):Zbd C k' n ops I ℓ K S D B L:=Zan i hii hrr hdd (fun _ _ _=>ZsS hg hd hx hy ⟨rfl,rfl,rfl,rfl⟩) h
theorem aD  {k:IntKind} {a b r:Int} (i:Nat) (hii:ops[i]? = some ⟨dst,.binOp .add t x y u,ty,pos,after,g⟩)  (hrr:(ZaM ops ℓ).contains i=true:=by kernel_rfl) (hdd:Zx n dst=true:=by exact rfl) (hg:Zj ops (sel ((⟨dst,.binOp .add t x y u,ty,pos,after,g⟩:Oper).looksAt ops) S) g=some true:=by exact rfl) (hd:Zx n dst=true:=by exact rfl) (hx:ev (sel ((⟨dst,.binOp .add t x y u,ty,pos,after,g⟩:Oper).looksAt ops) S) x=some (.int k a):=by exact rfl) (hy:ev (sel ((⟨dst,.binOp .add t x y u,ty,pos,after,g⟩:Oper).looksAt ops) S) y=some (.int k b):=by exact rfl) (hr:k.wrap (a+b)=r:=by first | exact Zcf (by first | omega | (simp;done) | (simp;omega)) (by first | omega | (simp;done) | (simp;omega)) | exact rfl) (h:Zbd C k' n ops I (i :: ℓ) K (Zbw S dst (.int k r)) D B L):Zbd C k' n ops I ℓ K S D B L:=Zan i hii hrr hdd (fun _ _ _=>Zf9 hg hd hx hy hr ⟨rfl,rfl,rfl,rfl⟩) h
theorem aU  {k:IntKind} {a b r:Int} (i:Nat) (hii:ops[i]? = some ⟨dst,.binOp .sub t x y u,ty,pos,after,g⟩)  (hrr:(ZaM ops ℓ).contains i=true:=by kernel_rfl) (hdd:Zx n dst=true:=by exact rfl) (hg:Zj ops (sel ((⟨dst,.binOp .sub t x y u,ty,pos,after,g⟩:Oper).looksAt ops) S) g=some true:=by exact rfl) (hd:Zx n dst=true:=by exact rfl) (hx:ev (sel ((⟨dst,.binOp .sub t x y u,ty,pos,after,g⟩:Oper).looksAt ops) S) x=some (.int k a):=by exact rfl) (hy:ev (sel ((⟨dst,.binOp .sub t x y u,ty,pos,after,g⟩:Oper).looksAt ops) S) y=some (.int k b):=by exact rfl) (hr:k.wrap (a - b)=r:=by first | exact Zcf (by first | omega | (simp;done) | (simp;omega)) (by first | omega | (simp;done) | (simp;omega)) | exact rfl) (h:Zbd C k' n ops I (i :: ℓ) K (Zbw S dst (.int k r)) D B L):Zbd C k' n ops I ℓ K S D B L:=Zan i hii hrr hdd (fun _ _ _=>ZiG hg hd hx hy hr ⟨rfl,rfl,rfl,rfl⟩) h
theorem aIx  {t:TypeId} {e:TypeId} {x:Operand} {y:Operand} {k:IntKind} {b:Nat} {o:Nat} {len:Nat} {cap:Nat} {sz:Nat} {ix:Int} (i:Nat) (hii:ops[i]? = some ⟨dst,.indexAddr t x y,ty,pos,after,g⟩) (hu:P.underlying t=some (.slice e)) (hsz:ZR P e=some sz) (hrr:(ZaM ops ℓ).contains i=true:=by kernel_rfl) (hdd:Zx n dst=true:=by exact rfl) (hg:Zj ops (sel ((⟨dst,.indexAddr t x y,ty,pos,after,g⟩:Oper).looksAt ops) S) g=some true:=by exact rfl) (hd:Zx n dst=true:=by exact rfl) (hx:ev (sel ((⟨dst,.indexAddr t x y,ty,pos,after,g⟩:Oper).looksAt ops) S) x=some (.slice (some ⟨b,o,none⟩) len cap):=by exact rfl) (hy:ev (sel ((⟨dst,.indexAddr t x y,ty,pos,after,g⟩:Oper).looksAt ops) S) y=some (.int k ix):=by exact rfl) (h0:0≤ix:=by first | omega | (simp;done) | (simp;omega)) (h1:ix<len:=by first | omega | (simp;done) | (simp;omega)) (h:Zbd C k' n ops I (i :: ℓ) K (Zbw S dst (ptr ⟨b,o+ix.toNat*sz,none⟩)) D B L):Zbd C k' n ops I ℓ K S D B L:=Zan i hii hrr hdd (fun _ _ _=>Zvh hg hd hu hsz hx hy h0 h1 ⟨rfl,rfl,rfl,rfl⟩) h
end
section
variable {P:PJ} {n:Nat} {Q:Exit→Zab} {S:Env} {D:List Deferred} {B:Kn} {L:List Cells}
theorem tL1 {c:Code} {x0:Cells} (h:wpS P n c Q S D B [x0]):wpS P n c Q S D B [x0]:=h
theorem tL2 {c:Code} {x0 x1:Cells} (h:wpS P n c Q S D B [x0,x1]):wpS P n c Q S D B [x0,x1]:=h
theorem tL3 {c:Code} {x0 x1 x2:Cells} (h:wpS P n c Q S D B [x0,x1,x2]):wpS P n c Q S D B [x0,x1,x2]:=h
theorem tL4 {c:Code} {x0 x1 x2 x3:Cells} (h:wpS P n c Q S D B [x0,x1,x2,x3]):wpS P n c Q S D B [x0,x1,x2,x3]:=h
theorem tL5 {c:Code} {x0 x1 x2 x3 x4:Cells} (h:wpS P n c Q S D B [x0,x1,x2,x3,x4]):wpS P n c Q S D B [x0,x1,x2,x3,x4]:=h
theorem tL6 {c:Code} {x0 x1 x2 x3 x4 x5:Cells} (h:wpS P n c Q S D B [x0,x1,x2,x3,x4,x5]):wpS P n c Q S D B [x0,x1,x2,x3,x4,x5]:=h
theorem tL7 {c:Code} {x0 x1 x2 x3 x4 x5 x6:Cells} (h:wpS P n c Q S D B [x0,x1,x2,x3,x4,x5,x6]):wpS P n c Q S D B [x0,x1,x2,x3,x4,x5,x6]:=h
theorem tL8 {c:Code} {x0 x1 x2 x3 x4 x5 x6 x7:Cells} (h:wpS P n c Q S D B [x0,x1,x2,x3,x4,x5,x6,x7]):wpS P n c Q S D B [x0,x1,x2,x3,x4,x5,x6,x7]:=h
theorem tL9 {c:Code} {x0 x1 x2 x3 x4 x5 x6 x7 x8:Cells} (h:wpS P n c Q S D B [x0,x1,x2,x3,x4,x5,x6,x7,x8]):wpS P n c Q S D B [x0,x1,x2,x3,x4,x5,x6,x7,x8]:=h
theorem Zrm {c:Code} {x0 x1 x2 x3 x4 x5 x6 x7 x8 x9:Cells} (h:wpS P n c Q S D B [x0,x1,x2,x3,x4,x5,x6,x7,x8,x9]):wpS P n c Q S D B [x0,x1,x2,x3,x4,x5,x6,x7,x8,x9]:=h
theorem Zw5 {c:Code} {x0 x1 x2 x3 x4 x5 x6 x7 x8 x9 x10 x11 x12 x13 x14:Cells} (h:wpS P n c Q S D B [x0,x1,x2,x3,x4,x5,x6,x7,x8,x9,x10,x11,x12,x13,x14]):wpS P n c Q S D B [x0,x1,x2,x3,x4,x5,x6,x7,x8,x9,x10,x11,x12,x13,x14]:=h
theorem wSk {K:Zab} (h:K S D B L):wpS P n .skip (thn K Q) S D B L:=ZX (Zo h)
theorem eR {rs:List ResultVar} {Post:Value→Kn→List Cells→Prop} {v:Value} (hr:ZbE P S B L rs [v]) (hp:Post v B []):ZfH P rs Post .ret S [] B L:=Zql .ret (.inl rfl) [v] hr hp
theorem eN {rs:List ResultVar} {Post:Value→Kn→List Cells→Prop} {v:Value} (js:List Nat) {ss r:List Cells} (hp:Zaw L js=some (ss,r)) (hr:ZbE P S B L rs [v]) (hq:Post v B ss):ZfH P rs Post .ret S [] B L:=ZeC .ret (.inl rfl) [v] js hp hr hq
theorem e1 {rs:List ResultVar} {Post:Value→Kn→List Cells→Prop} {v:Value} (j:Nat) {s:Cells} (hj:L[j]? = some s) (hr:ZbE P S B L rs [v]) (hp:Post v B [s]):ZfH P rs Post .ret S [] B L:=ZuF .ret (.inl rfl) [v] j hj hr hp
end
theorem mT {α:Type} {R:Rel α} (h:Mono R:=by first | exact Zs.mono | exact Zu.mono | exact ZI.mono | exact Z6.mono | exact Z5.mono | exact ZuU.mono | exact Zde.mono | exact Zag.mono):Mono R:=h
theorem up1 {B B':Kn} {α1:Type} {q1:Option Addr} {c1 w1:Nat} {R1:Rel α1} {x1:List α1} (hle:B.le B') (h1:SlK B q1 c1 w1 R1 x1) (g1:Mono R1:=by exact mT):SlK B' q1 c1 w1 R1 x1:=h1.mono g1 hle
theorem up2 {B B':Kn} {α1:Type} {q1:Option Addr} {c1 w1:Nat} {R1:Rel α1} {x1:List α1} {α2:Type} {q2:Option Addr} {c2 w2:Nat} {R2:Rel α2} {x2:List α2} (hle:B.le B') (h1:SlK B q1 c1 w1 R1 x1) (h2:SlK B q2 c2 w2 R2 x2) (g1:Mono R1:=by exact mT) (g2:Mono R2:=by exact mT):SlK B' q1 c1 w1 R1 x1∧SlK B' q2 c2 w2 R2 x2:=⟨h1.mono g1 hle,h2.mono g2 hle⟩
theorem up3 {B B':Kn} {α1:Type} {q1:Option Addr} {c1 w1:Nat} {R1:Rel α1} {x1:List α1} {α2:Type} {q2:Option Addr} {c2 w2:Nat} {R2:Rel α2} {x2:List α2} {α3:Type} {q3:Option Addr} {c3 w3:Nat} {R3:Rel α3} {x3:List α3} (hle:B.le B') (h1:SlK B q1 c1 w1 R1 x1) (h2:SlK B q2 c2 w2 R2 x2) (h3:SlK B q3 c3 w3 R3 x3) (g1:Mono R1:=by exact mT) (g2:Mono R2:=by exact mT) (g3:Mono R3:=by exact mT):SlK B' q1 c1 w1 R1 x1∧SlK B' q2 c2 w2 R2 x2∧SlK B' q3 c3 w3 R3 x3:=⟨h1.mono g1 hle,h2.mono g2 hle,h3.mono g3 hle⟩
theorem up4 {B B':Kn} {α1:Type} {q1:Option Addr} {c1 w1:Nat} {R1:Rel α1} {x1:List α1} {α2:Type} {q2:Option Addr} {c2 w2:Nat} {R2:Rel α2} {x2:List α2} {α3:Type} {q3:Option Addr} {c3 w3:Nat} {R3:Rel α3} {x3:List α3} {α4:Type} {q4:Option Addr} {c4 w4:Nat} {R4:Rel α4} {x4:List α4} (hle:B.le B') (h1:SlK B q1 c1 w1 R1 x1) (h2:SlK B q2 c2 w2 R2 x2) (h3:SlK B q3 c3 w3 R3 x3) (h4:SlK B q4 c4 w4 R4 x4) (g1:Mono R1:=by exact mT) (g2:Mono R2:=by exact mT) (g3:Mono R3:=by exact mT) (g4:Mono R4:=by exact mT):SlK B' q1 c1 w1 R1 x1∧SlK B' q2 c2 w2 R2 x2∧SlK B' q3 c3 w3 R3 x3∧SlK B' q4 c4 w4 R4 x4:=⟨h1.mono g1 hle,h2.mono g2 hle,h3.mono g3 hle,h4.mono g4 hle⟩
theorem up5 {B B':Kn} {α1:Type} {q1:Option Addr} {c1 w1:Nat} {R1:Rel α1} {x1:List α1} {α2:Type} {q2:Option Addr} {c2 w2:Nat} {R2:Rel α2} {x2:List α2} {α3:Type} {q3:Option Addr} {c3 w3:Nat} {R3:Rel α3} {x3:List α3} {α4:Type} {q4:Option Addr} {c4 w4:Nat} {R4:Rel α4} {x4:List α4} {α5:Type} {q5:Option Addr} {c5 w5:Nat} {R5:Rel α5} {x5:List α5} (hle:B.le B') (h1:SlK B q1 c1 w1 R1 x1) (h2:SlK B q2 c2 w2 R2 x2) (h3:SlK B q3 c3 w3 R3 x3) (h4:SlK B q4 c4 w4 R4 x4) (h5:SlK B q5 c5 w5 R5 x5) (g1:Mono R1:=by exact mT) (g2:Mono R2:=by exact mT) (g3:Mono R3:=by exact mT) (g4:Mono R4:=by exact mT) (g5:Mono R5:=by exact mT):SlK B' q1 c1 w1 R1 x1∧SlK B' q2 c2 w2 R2 x2∧SlK B' q3 c3 w3 R3 x3∧SlK B' q4 c4 w4 R4 x4∧SlK B' q5 c5 w5 R5 x5:=⟨h1.mono g1 hle,h2.mono g2 hle,h3.mono g3 hle,h4.mono g4 hle,h5.mono g5 hle⟩
theorem up6 {B B':Kn} {α1:Type} {q1:Option Addr} {c1 w1:Nat} {R1:Rel α1} {x1:List α1} {α2:Type} {q2:Option Addr} {c2 w2:Nat} {R2:Rel α2} {x2:List α2} {α3:Type} {q3:Option Addr} {c3 w3:Nat} {R3:Rel α3} {x3:List α3} {α4:Type} {q4:Option Addr} {c4 w4:Nat} {R4:Rel α4} {x4:List α4} {α5:Type} {q5:Option Addr} {c5 w5:Nat} {R5:Rel α5} {x5:List α5} {α6:Type} {q6:Option Addr} {c6 w6:Nat} {R6:Rel α6} {x6:List α6} (hle:B.le B') (h1:SlK B q1 c1 w1 R1 x1) (h2:SlK B q2 c2 w2 R2 x2) (h3:SlK B q3 c3 w3 R3 x3) (h4:SlK B q4 c4 w4 R4 x4) (h5:SlK B q5 c5 w5 R5 x5) (h6:SlK B q6 c6 w6 R6 x6) (g1:Mono R1:=by exact mT) (g2:Mono R2:=by exact mT) (g3:Mono R3:=by exact mT) (g4:Mono R4:=by exact mT) (g5:Mono R5:=by exact mT) (g6:Mono R6:=by exact mT):SlK B' q1 c1 w1 R1 x1∧SlK B' q2 c2 w2 R2 x2∧SlK B' q3 c3 w3 R3 x3∧SlK B' q4 c4 w4 R4 x4∧SlK B' q5 c5 w5 R5 x5∧SlK B' q6 c6 w6 R6 x6:=⟨h1.mono g1 hle,h2.mono g2 hle,h3.mono g3 hle,h4.mono g4 hle,h5.mono g5 hle,h6.mono g6 hle⟩
theorem cB {P:PJ} {f:FuncId} {fn:Func} {code:Code} {rs:List ResultVar} (n:Nat) (hf:P.funcs[f]? = some fn) (hb:fn.body=some code:=by exact rfl) (hn:fn.ntmps=n:=by exact rfl) (hrs:fn.results.toList=rs:=by exact rfl) {args:List Value} (ha:args.length≤n:=by exact Nat.le_of_ble_eq_true rfl) {B:Kn} {Ls:List Cells} {Post:Value→Kn→List Cells→Prop} (h:wpS P n code (ZfH P rs Post) (Zdc args 0) [] B Ls):Zv P f args B Ls Post:=Zda n hf hb hn hrs ha h
end Go.BL
namespace Go.BL
open Go.Conc (G)
section
variable {P:PJ} {n:Nat} {ops:Array Oper} {i:Nat} {K:ZaO} {S:Env} {D:List Deferred} {B:Kn} {L:List Cells}
variable {dst:Option Tmp} {ty:TypeId} {pos:String} {after:Array Edge} {g:Option (Nat × Bool)}
end
end Go.BL
namespace Go.BL
end Go.BL
namespace Go.BL
open Go.Conc (G)
def ZhW (TL Tn:TypeId) (b:Nat) (vl vc:Value) (bl o:Nat) (cs:List Value) (Tc:TypeId) (rest:Cells) (pre:List DMail):Prop:=
∀v xs s,Ze4 Tn v xs s→∃v0 s0,Ze4 Tn v0 (pre ++ xs) s0∧(ZK bl (cs.set o v) Tc ++ (rest ++ s)).Perm (ZK b [v0,vl,vc] TL ++ s0)
theorem ZhW.init {TL Tn:TypeId} {b:Nat} {v0 vl vc:Value} : ZhW TL Tn b vl vc b 0 [v0,vl,vc] TL [] []:=fun v xs s h=>⟨v,s,h,.refl _⟩
theorem ZhW.step {TL Tn Tc:TypeId} {b bl o b8:Nat} {vl vc np:Value} {cs:List Value} {rest:Cells} {pre:List DMail} {y:DMail} (h:ZhW TL Tn b vl vc bl o cs Tc rest pre) (hy:y.text.length≤2000000) :
  ZhW TL Tn b vl vc b8 3 (Ze1 y np) Tn (ZK bl (cs.set o (Go.BL.ptr ⟨b8,0,none⟩)) Tc ++ rest) (pre ++ [y]):=fun v xs s hs=>by
 obtain ⟨v0,s0,h1,h2⟩:=h (Go.BL.ptr ⟨b8,0,none⟩) (y :: xs) (ZK b8 (Ze1 y v) Tn ++ s) ⟨b8,v,s,rfl,.refl _,hy,hs⟩
 refine ⟨v0,s0,by simpa using h1,?_⟩
 refine List.Perm.trans ?_ h2
 show (ZK b8 (Ze1 y v) Tn ++ _).Perm _
 exact Zo4 fun f g h0 ha hc=>by simp only [ha];omega
theorem ZhW.put {TL Tn Tc:TypeId} {b bl o:Nat} {vl vc:Value} {cs:List Value} {rest:Cells} {pre:List DMail} (h:ZhW TL Tn b vl vc bl o cs Tc rest pre) (v':Value):ZhW TL Tn b vl vc bl o (cs.set o v') Tc rest pre:=fun v xs s hs=>by
 have:=h v xs s hs
 simpa only [List.set_set] using this
def MLw (TL Tn:TypeId) (b:Nat) (xs:List DMail) (s:Cells):Prop:=
∃(p:Option Addr) (vl:Value) (n:Nat) (s0:Cells),n≤2000000∧s.Perm (ZK b [.pointer p,vl,.int .i64 n] TL ++ [s0].flatten)∧Ze4 Tn (.pointer p) xs s0
theorem ZhW.done {TL Tn Tc:TypeId} {b bl o n:Nat} {vl:Value} {cs:List Value} {rest s:Cells} {pre:List DMail} (h:ZhW TL Tn b vl (.int .i64 n) bl o cs Tc rest pre) (hn:n≤2000000) (hc:cs.set o (.pointer none)=cs) (hs:s.Perm (ZK bl cs Tc ++ rest)):MLw TL Tn b pre s:=by
 obtain ⟨v0,s0,h1,h2⟩:=h (.pointer none) [] [] ⟨rfl,rfl⟩
 rw [List.append_nil] at h1
 obtain ⟨p,rfl⟩:=h1.ptr
 rw [hc,List.append_nil] at h2
 exact ⟨p,vl,n,s0,hn,by simpa using hs.trans h2,h1⟩
structure ExM where
 don:List DMail
 pre:List DMail
 xs:List DMail
 p:Option Addr
 bl:Nat
 o:Nat
 cs:List Value
 Tc:TypeId
 rest:Cells
 cells:Cells
 l:Cells
 a:Option Addr
 c:Nat
 ys:List Int
 n:Nat
end Go.BL
namespace Go.BL
open Go.Conc Go.ConcN
variable {H:Type} {enc:TypeId × Value→H}
theorem Zrb {C:Checked} {os:Os} {f:FuncId} {fn:Func} {s:ChangeSpec} {conds:List PathCond} {apart:Bool} {X:World→Array Value→Prop} (w0:World) (args:Array Value) (fuel:Nat) (hos:w0.os=os)
  (hsh:(w0.forCall (fun _ _=>0) ⟨#[],args,[]⟩).Shaped C.prog)
  (hok:Input.okWideB C.prog (w0.forCall (fun _ _=>0) ⟨#[],args,[]⟩) f ⟨#[],args,[]⟩=true)
  (hpre:s.preB enc C.prog fn conds apart (w0.forCall (fun _ _=>0) ⟨#[],args,[]⟩).memory args fuel=true)
  (hsz:s.sizedB enc C.prog fn apart (w0.forCall (fun _ _=>0) ⟨#[],args,[]⟩).memory args fuel=true)
  (hx:X (w0.forCall (fun _ _=>0) ⟨#[],args,[]⟩).memory args) :
∃(w:World) (tape:Tape) (i:Input),w.os=os∧(w.forCall tape i).Shaped C.prog∧i.vars=[]∧Input.okWide C.prog (w.forCall tape i) .any w.heap.size f i∧
   ((s.pre enc C.prog fn conds apart (w.forCall tape i).memory i.args∧X (w.forCall tape i).memory i.args)∧sizedMet enc C.prog fn (OpenSpec.ofChange s) apart (w.forCall tape i).memory i.args)∧({ calm:=true } : Assume).holds C.prog (lone (Frame.enter C.prog f i.args .normal) [] (w.forCall tape i)):=
 ⟨w0,fun _ _=>0,⟨#[],args,[]⟩,hos,hsh,(Input.okWide_of_okWideB (base:=0) hok).1,(Input.okWide_of_okWideB hok).2,⟨⟨ChangeSpec.pre_of_preB hpre,hx⟩,sizedMet_of_sizedB hsz⟩,by
  simp only [Assume.holds]
  exact ⟨by simp,fun _ _ _ _=>rfl,by simp,by simp,by simp⟩⟩
theorem Zo3 {P:Program} {f:Func} {s:ChangeSpec} {F:Stop.Interp} {apart fresh handsOn:Bool} {W W':World} {args:Array Value} {v:Value} (h:s.post enc P f apart fresh handsOn false W args v W') :
  (OpenSpec.ofChange s).postWith enc P f F (outsideKept [.timePasses]) apart fresh handsOn W args v W':=by
 have e:W'.os=W.os:=by
  obtain ⟨_,_,_,_,_,_,_,_,_,_,h5,_⟩:=h
  exact h5.1
 have e2:({ W' with os:=W.os } : World)=W':=by rw [← e]
 exact postWith_of_post (by rw [e2];exact h) ⟨0,e⟩
theorem ZlD {a:Assume} {C:Checked} {os:Os} {f:FuncId} {fn:Func} {s:ChangeSpec} {apart fresh handsOn:Bool} {Pre:World→Array Value→Prop} {F:Stop.Interp} (h:ReturnsInLeavingWide a C os f .any Pre (s.post enc C.prog fn apart fresh handsOn false)) :
  ReturnsInLeavingWide a C os f .any Pre ((OpenSpec.ofChange s).postWith enc C.prog fn F (outsideKept [.timePasses]) apart fresh handsOn):=fun enter=>by
 obtain ⟨x1,x2,x3,x4,x5⟩:=h enter
 refine ⟨x1,x2,x3,x4,fun w tape i hf=>?_⟩
 obtain ⟨n,v,w',r1,r2,r3,r4,r5⟩:=x5 w tape i hf
 exact ⟨n,v,w',r1,r2,r3,Zo3 r4,r5⟩
end Go.BL
namespace Go.BL
open Go.Conc (G)
theorem ZN.knownF {B:Kn} {l:Cells} {q:Option Addr} {c:Nat} {Tm:TypeId} {xs:List DMail} (h:ZN Kn.none l q c Tm 3 Z6 xs) (hl:xs.length≤2000000) (hm :∀p,p∈l→B.mem p.1=some p.2):SlK B q c 3 Z6 xs:=⟨h.rowsF Z6.any hm,h.cap,hl⟩
theorem Zbx {P:PJ} {C:Cx P} {k:List Item} {n:Nat} {ops:Array Oper} {I:Kn→List Cells→Prop} {ℓ:List Nat} {K:Zab} {S:Env} {D:List Deferred} {B:Kn} {L:List Cells} (L':List Cells) (hl:L=L') (h:Zbd C k n ops I ℓ K S D B L'):Zbd C k n ops I ℓ K S D B L:=by subst hl;exact h
theorem ZdG {α:Type} {Q:Exit→Zab} {S:Env} {D:List Deferred} {B:Kn} {L:List Cells} {E:α→Env} {Sg:α→List Cells} {F:α→Kn→Prop} (g:α) (L':List Cells) (hL:L=L') (js:List Nat) {r:List Cells} (hF:F g B) (hs:Sub (E g) S) (hp:Zaw L' js=some (Sg g,r)):thn (Zxi E Sg F D) Q .normal S D B L:=by
 subst hL;exact Zaj g js hF hs hp
end Go.BL
namespace Go.BL
open Go.Conc (G)
section
variable {P:PJ} {n:Nat} {ops:Array Oper} {i:Nat} {K:ZaO} {S:Env} {D:List Deferred} {B:Kn} {L:List Cells}
variable {dst:Option Tmp} {ty:TypeId} {pos:String} {after:Array Edge} {g:Option (Nat × Bool)}
end
end Go.BL
namespace Go.BL
open Go.Conc (G)
end Go.BL
namespace Go.BL
open Go
def Zbc (c:UInt8):Bool:=(decide (97≤c.toNat) && decide (c.toNat≤122)) || (decide (48≤c.toNat) && decide (c.toNat≤57))
def Zas (l:List UInt8):Bool:=l.all Zbc && decide (1≤l.length) && decide (l.length≤8)
theorem ZsE {l:List UInt8} {k:Nat} {c:UInt8} (hc:l[k]? = some c) (h:Zbc c=false):l.all Zbc=false:=by
 rw [Bool.eq_false_iff];intro ha
 have:=List.all_eq_true.1 ha c (List.mem_of_getElem? hc)
 rw [h] at this;cases this
theorem Zm1 {l:List UInt8} {k:Nat} {c:UInt8} (hc:l[k]? = some c) (h:Zbc c=true) (ha:(l.take k).all Zbc=true):(l.take (k+1)).all Zbc=true:=by
 rw [List.take_add_one,hc];simp only [Option.toList_some,List.all_append,ha,List.all_cons,h,List.all_nil];rfl
def word (l:List UInt8) (i:Nat):List UInt8:=(l.drop i).takeWhile Zbc
def Zdj (w:List UInt8):Bool:=decide (1≤w.length) && decide (w.length≤8)
theorem ZoT {o:Option UInt8} {f:UInt8→Bool} (h:(match o with | some c=>f c | none=>false)=true) :∃c,o=some c∧f c=true:=by
 cases o with
 | none=>cases h
 | some c=>exact ⟨c,rfl,h⟩
theorem Zbl {α:Type} {l:List α} {k:Nat} {c:α} (h:l[k]? = some c):k<l.length:=(List.getElem?_eq_some_iff.1 h).1
theorem ZfN {p:UInt8→Bool} :∀{m:List UInt8} {k:Nat},(m.take k).all p=true→(∀c,m[k]? = some c→p c=false)→m.takeWhile p=m.take k
 | [],k,_,_=>by simp
 | c :: m,0,_,h=>by simp [List.takeWhile,h c rfl]
 | c :: m,k+1,ha,h=>by
  simp only [List.take_succ_cons,List.all_cons,Bool.and_eq_true] at ha
  simp only [List.takeWhile,ha.1,List.take_succ_cons]
  rw [ZfN ha.2 (fun c hc=>h c (by simpa using hc))]
theorem Zq9 {l:List UInt8} {i k:Nat} (ha:((l.drop i).take k).all Zbc=true) (h :∀c,l[i+k]? = some c→Zbc c=false):word l i=(l.drop i).take k:=
 ZfN ha (fun c hc=>h c (by simpa using hc))
theorem Zfd {l:List UInt8} {i k:Nat} : (l.take (i+k)).drop i=(l.drop i).take k:=by
 rw [List.drop_take,Nat.add_sub_cancel_left]
theorem Zic {a b c d:Value} (h:a=c) (h':b=d):Value.tuple #[a,b]=Value.tuple #[c,d]:=by rw [h,h']
def more:Nat→List UInt8→Nat→Bool × Nat
 | 0,_,i=>(true,i)
 | n+1,l,i=>if l[i]? = some 46 then (if Zdj (word l (i+1))=true then more n l (i+1+(word l (i+1)).length) else (false,i+1+(word l (i+1)).length)) else (true,i)
def dom (l:List UInt8) (i:Nat):Bool × Nat:=if Zdj (word l i)=true then more 2 l (i+(word l i).length) else (false,i+(word l i).length)
def ZhN (l:List UInt8) (i:Nat):List UInt8:=if (dom l i).1=true then (l.take (dom l i).2).drop i else []
def Zl6 (l:List UInt8) (i:Nat):Bool:=(dom l i).1 && decide ((dom l i).2 - i≤20)
theorem Zl5 {l:List UInt8} {i:Nat} (h:Zdj (word l i)=false):dom l i=(false,i+(word l i).length):=by simp [dom,h]
theorem Zss {l:List UInt8} {i:Nat} (h:Zdj (word l i)=true):dom l i=more 2 l (i+(word l i).length):=by simp [dom,h]
theorem Zg7 {l:List UInt8} {i:Nat} (h:i≤l.length):i+(word l i).length≤l.length:=by
 have:=List.IsPrefix.length_le (List.takeWhile_prefix Zbc (l:=l.drop i))
 rw [List.length_drop] at this
 unfold word;omega
theorem Zhq {l:List UInt8} {n j:Nat} (h : ¬ l[j]? = some 46):more n l j=(true,j):=by
 cases n with
 | zero=>rfl
 | succ n=>rw [more,if_neg h]
theorem ZrS {l:List UInt8} {n j:Nat} (hn:1≤n) (h:l[j]? = some 46) (hw:Zdj (word l (j+1))=false):more n l j=(false,j+1+(word l (j+1)).length):=by
 cases n with
 | zero=>omega
 | succ n=>rw [more,if_pos h,if_neg (by simp [hw])]
theorem Zpi {l:List UInt8} {n j:Nat} (hn:1≤n) (h:l[j]? = some 46) (hw:Zdj (word l (j+1))=true):more n l j=more (n - 1) l (j+1+(word l (j+1)).length):=by
 cases n with
 | zero=>omega
 | succ n=>rw [more,if_pos h,if_pos hw];rfl
theorem ZdW {p:UInt8→Bool} :∀l:List UInt8,(l.takeWhile p).length=l.length↔l.all p=true
 | []=>by simp
 | c :: l=>by
  have h:=ZdW (p:=p) l
  cases hc:p c with
  | true=>simp [List.takeWhile,hc] at h ⊢;exact h
  | false=>simp [List.takeWhile,hc]
theorem Zc4 {l:List UInt8} : Zas l=(Zdj (word l 0) && decide ((word l 0).length=l.length)):=by
 have h:=ZdW (p:=Zbc) l
 have e:word l 0=l.takeWhile Zbc:=by simp [word]
 rw [Bool.eq_iff_iff]
 simp only [Zas,Zdj,e,Bool.and_eq_true,decide_eq_true_eq]
 constructor
 ·rintro ⟨⟨h1,h2⟩,h3⟩
  have:=h.2 h1
  omega
 ·rintro ⟨⟨h1,h2⟩,h3⟩
  exact ⟨⟨h.1 h3,by omega⟩,by omega⟩
theorem Zph {l:List UInt8} :∀(n j:Nat),j≤l.length→(more n l j).2≤l.length
 | 0,j,h=>h
 | n+1,j,h=>by
  rw [more]
  split
  ·rename_i e
   have:=Zbl e
   have h2:=Zg7 (l:=l) (i:=j+1) (by omega)
   split
   ·exact Zph n _ h2
   ·exact h2
  ·exact h
theorem Zwj {l:List UInt8} {i:Nat} (h:i≤l.length):(dom l i).2≤l.length:=by
 unfold dom
 have h2:=Zg7 h
 split
 ·exact Zph 2 _ h2
 ·exact h2
def glue (a:List UInt8):List (List UInt8)→List (List UInt8)
 | []=>[a]
 | p :: ps=>(a ++ p) :: ps
def cut (x:UInt8):List UInt8→List (List UInt8)
 | []=>[[]]
 | c :: r=>if c=x then [] :: cut x r else glue [c] (cut x r)
theorem Zm0 (x:UInt8) :∀l,cut x l≠[]
 | []=>by simp [cut]
 | c :: r=>by
  rw [cut]
  split
  ·simp
  ·cases cut x r <;> simp [glue]
theorem ZmQ {m:List (List UInt8)} (h:m≠[]):glue [] m=m:=by
 cases m with
 | nil=>exact absurd rfl h
 | cons p ps=>rfl
theorem ZpK (a b:List UInt8) (m:List (List UInt8)):glue a (glue b m)=glue (a ++ b) m:=by
 cases m <;> simp [glue]
structure CutSt where
 i:Nat
 f:Nat
 m:Nat
 ps:List (List UInt8)
 q:Option Addr
 cp:Nat
 s:Cells
theorem ZwZ {a b:UInt8} (h:(a.toNat:Int)=b.toNat):a=b:=UInt8.toNat_inj.1 (by exact_mod_cast h)
theorem ZuP {l:List UInt8} {x c:UInt8} {i:Nat} (h:l[i]? = some c) (e:c=x):cut x (l.drop i)=[] :: cut x (l.drop (i+1)):=by
 obtain ⟨hlt,he⟩:=List.getElem?_eq_some_iff.1 h
 rw [List.drop_eq_getElem_cons hlt,he,cut,if_pos e]
theorem Zsu {l:List UInt8} {x c:UInt8} {i:Nat} (h:l[i]? = some c) (e:c≠x):cut x (l.drop i)=glue [c] (cut x (l.drop (i+1))):=by
 obtain ⟨hlt,he⟩:=List.getElem?_eq_some_iff.1 h
 rw [List.drop_eq_getElem_cons hlt,he,cut,if_neg e]
theorem ZwY {a b:UInt8} (h : ¬ (a.toNat:Int)=b.toNat):a≠b:=fun e=>h (by rw [e])
theorem ZoE {l:List UInt8} {c:UInt8} {i f:Nat} (h:l[i]? = some c) (hf:f≤i):(l.take i).drop f ++ [c]=(l.take (i+1)).drop f:=by
 have hlt:=Zbl h
 rw [List.take_add_one,h]
 simp only [Option.toList_some]
 rw [List.drop_append_of_le_length (by rw [List.length_take];omega)]
theorem Zsj (a:List UInt8) (m:List (List UInt8)):glue a ([] :: m)=a :: m:=by simp [glue]
def ZcI (l:List UInt8):Bool:=(cut 46 l).all Zas && decide ((cut 46 l).length≤3) && decide (l.length≤20)
theorem Zsi {a:List UInt8} {m:List (List UInt8)} {n:Nat} (h :∀p,p∈m→p.length≤n) :∀p,p∈glue a m→p.length≤a.length+n:=by
 cases m with
 | nil=>intro p hp;simp [glue] at hp;subst hp;omega
 | cons q qs=>
  intro p hp
  simp only [glue,List.mem_cons] at hp
  rcases hp with rfl | hp
  ·rw [List.length_append];have:=h q (List.mem_cons_self ..);omega
  ·have:=h p (List.mem_cons_of_mem _ hp);omega
theorem Zl7 (x:UInt8) :∀(l p:List UInt8),p∈cut x l→p.length≤l.length
 | [],p,h=>by simp [cut] at h;subst h;simp
 | c :: r,p,h=>by
  rw [cut] at h
  split at h
  ·rcases List.mem_cons.1 h with rfl | h
   ·simp
   ·have:=Zl7 x r p h;simp;omega
  ·have:=Zsi (Zl7 x r) p h;simp at this ⊢;omega
theorem ZkR {l:List (List UInt8)} {k:Nat} {c:List UInt8} (hc:l[k]? = some c) (h:Zas c=false):l.all Zas=false:=by
 rw [Bool.eq_false_iff];intro ha
 have:=List.all_eq_true.1 ha c (List.mem_of_getElem? hc)
 rw [h] at this;cases this
theorem ZhU {l:List (List UInt8)} {k:Nat} {c:List UInt8} (hc:l[k]? = some c) (h:Zas c=true) (ha:(l.take k).all Zas=true):(l.take (k+1)).all Zas=true:=by
 rw [List.take_add_one,hc];simp only [Option.toList_some,List.all_append,ha,List.all_cons,h,List.all_nil];rfl
theorem ZkG (x:UInt8) :∀l:List UInt8,(cut x l).length≤l.length+1
 | []=>by simp [cut]
 | c :: r=>by
  have h:=ZkG x r
  rw [cut]
  split
  ·simp;omega
  ·cases hq:cut x r with
   | nil=>exact absurd hq (Zm0 x r)
   | cons p ps=>rw [hq] at h;simp [glue] at h ⊢;omega
end Go.BL
namespace Go.BL
open Go
theorem Zjo {x:UInt8} :∀{l:List UInt8},x ∉ l→cut x l=[l]
 | [],_=>rfl
 | c :: r,h=>by
  rw [cut,if_neg (fun e=>h (by rw [e];exact List.mem_cons_self ..)),Zjo (fun hm=>h (List.mem_cons_of_mem _ hm))]
  rfl
theorem ZhO {x:UInt8} {b:List UInt8} :∀{a:List UInt8},x ∉ a→cut x (a ++ x :: b)=a :: cut x b
 | [],_=>by simp [cut]
 | c :: r,h=>by
  rw [List.cons_append,cut,if_neg (fun e=>h (by rw [e];exact List.mem_cons_self ..)),ZhO (fun hm=>h (List.mem_cons_of_mem _ hm))]
  rfl
theorem Zfn {x:UInt8} :∀{l:List UInt8},x∈l→∃a b,l=a ++ x :: b∧x ∉ a
 | c :: r,h=>by
  by_cases e:c=x
  ·exact ⟨[],r,by simp [e],by simp⟩
  ·have hr:x∈r:=(List.mem_cons.1 h).resolve_left (Ne.symm e)
   obtain ⟨a,b,h1,h2⟩:=Zfn hr
   exact ⟨c :: a,b,by simp [h1],by simp [Ne.symm e,h2]⟩
theorem Zh7 (l:List UInt8) (i j:Nat):word l (i+j)=word (l.drop i) j:=by
 unfold word;rw [List.drop_drop]
theorem Zik (l:List UInt8) (i:Nat) :∀n j,more n l (i+j)=((more n (l.drop i) j).1,i+(more n (l.drop i) j).2)
 | 0,j=>rfl
 | n+1,j=>by
  simp only [more,List.getElem?_drop]
  rw [show i+j+1=i+(j+1) from by omega,Zh7]
  split
  ·split
   ·rw [show i+(j+1)+(word (l.drop i) (j+1)).length=i+(j+1+(word (l.drop i) (j+1)).length) from by omega,Zik l i n]
   ·simp only [Prod.mk.injEq,true_and];omega
  ·rfl
theorem Zra {l:List UInt8} (h:l.all Zbc=true):word l 0=l:=by
 have:=(ZdW (p:=Zbc) l).2 h
 have h2:=List.takeWhile_prefix Zbc (l:=l)
 simp only [word,List.drop_zero]
 exact List.IsPrefix.eq_of_length h2 this
theorem ZgD {a b:List UInt8} {x:UInt8} (hx:Zbc x=false) (h:a.all Zbc=true):word (a ++ x :: b) 0=a:=by
 simp only [word,List.drop_zero]
 induction a with
 | nil=>simp [List.takeWhile,hx]
 | cons c a ih=>
  simp only [List.all_cons,Bool.and_eq_true] at h
  simp only [List.cons_append,List.takeWhile,h.1,ih h.2]
theorem ZgC {a:List UInt8} (b:List UInt8) (h:a.all Zbc=false):(word (a ++ b) 0).length<a.length∧word (a ++ b) 0=word a 0:=by
 simp only [word,List.drop_zero]
 induction a with
 | nil=>simp at h
 | cons c a ih=>
  cases hc:Zbc c with
  | false=>simp [List.takeWhile,hc]
  | true=>
   have h':a.all Zbc=false:=by simpa [hc] using h
   have:=ih h'
   simp only [List.cons_append,List.takeWhile,hc,List.length_cons]
   exact ⟨by omega,by rw [this.2]⟩
theorem Zuk {a:List UInt8} (b:List UInt8) {k:Nat} (h:k<a.length):(a ++ b)[k]? = a[k]?:=List.getElem?_append_left h
theorem ZhD {x:UInt8} {a:List UInt8} (h:x ∉ a) (k:Nat):a[k]?≠some x:=fun e=>h (List.mem_of_getElem? e)
theorem Zpc :∀(n:Nat) (b:List UInt8),(Zdj (word b 0)=true∧more n b (word b 0).length=(true,b.length))↔((cut 46 b).all Zas=true∧(cut 46 b).length≤n+1):=by
 intro n
 induction n with
 | zero=>
  intro b
  by_cases hd:(46:UInt8)∈b
  ·obtain ⟨a,r,rfl,ha⟩:=Zfn hd
   rw [ZhO ha]
   have hlen:(word (a ++ 46 :: r) 0).length≤a.length:=by
    cases hna:a.all Zbc with
    | true=>rw [ZgD (by decide) hna];exact Nat.le_refl _
    | false=>exact Nat.le_of_lt (ZgC _ hna).1
   constructor
   ·rintro ⟨_,h2⟩
    simp only [more,Prod.mk.injEq,true_and] at h2
    rw [List.length_append,List.length_cons] at h2
    omega
   ·rintro ⟨_,h2⟩
    have:=Zm0 46 r
    simp only [List.length_cons] at h2
    exact absurd (List.eq_nil_of_length_eq_zero (by omega)) this
  ·rw [Zjo hd]
   simp only [more,List.all_cons,List.all_nil,Bool.and_true,List.length_cons,List.length_nil,Nat.zero_add,Nat.le_refl,and_true,Prod.mk.injEq,true_and,Zc4,Bool.and_eq_true,decide_eq_true_eq]
 | succ n ih=>
  intro b
  by_cases hd:(46:UInt8)∈b
  ·obtain ⟨a,r,rfl,ha⟩:=Zfn hd
   rw [ZhO ha]
   cases hna:a.all Zbc with
   | true=>
    rw [ZgD (by decide) hna]
    have hg:(a ++ 46 :: r)[a.length]? = some 46:=by simp
    have hdr:(a ++ 46 :: r).drop (a.length+1)=r:=by rw [List.drop_append];simp
    have hw:word (a ++ 46 :: r) (a.length+1)=word r 0:=by
     have:=Zh7 (a ++ 46 :: r) (a.length+1) 0
     rw [Nat.add_zero,hdr] at this;exact this
    have hm:more n (a ++ 46 :: r) (a.length+1+(word r 0).length)=((more n r (word r 0).length).1,a.length+1+(more n r (word r 0).length).2):=by
     rw [Zik,hdr]
    simp only [more,hg,if_true,hw,hm,List.all_cons,Bool.and_eq_true,List.length_cons]
    have hna':Zas a=Zdj a:=by rw [Zc4,Zra hna];simp
    have hi:=ih r
    constructor
    ·rintro ⟨h1,h2⟩
     split at h2
     ·rename_i h3
      simp only [Prod.mk.injEq,List.length_append,List.length_cons] at h2
      have:=hi.1 ⟨h3,by ext1;exact h2.1;simp only [];omega⟩
      exact ⟨⟨by rw [hna'];exact h1,this.1⟩,by omega⟩
     ·simp at h2
    ·rintro ⟨⟨h1,h2⟩,h3⟩
     obtain ⟨h4,h5⟩:=hi.2 ⟨h2,by omega⟩
     refine ⟨by rw [← hna'];exact h1,?_⟩
     rw [if_pos h4,h5]
     simp;omega
   | false=>
    obtain ⟨h1,h2⟩:=ZgC (46 :: r) hna
    have hne:Zas a=false:=by simp [Zas,hna]
    constructor
    ·rintro ⟨_,h3⟩
     rw [Zhq (by rw [Zuk _ h1];exact ZhD ha _)] at h3
     simp only [Prod.mk.injEq,true_and,List.length_append,List.length_cons] at h3
     omega
    ·rintro ⟨h3,_⟩
     simp [hne] at h3
  ·rw [Zjo hd]
   rw [Zhq (ZhD hd _)]
   simp only [List.all_cons,List.all_nil,Bool.and_true,List.length_cons,List.length_nil,Prod.mk.injEq,true_and,Zc4,Bool.and_eq_true,decide_eq_true_eq]
   constructor
   ·rintro ⟨h1,h2⟩;exact ⟨⟨h1,h2⟩,by omega⟩
   ·rintro ⟨⟨h1,h2⟩,_⟩;exact ⟨h1,h2⟩
theorem ZkD (b:List UInt8):((dom b 0).1=true∧(dom b 0).2≤20∧(dom b 0).2=b.length)↔ZcI b=true:=by
 have h:=Zpc 2 b
 simp only [ZcI,Bool.and_eq_true,decide_eq_true_eq]
 constructor
 ·rintro ⟨h1,h2,h3⟩
  cases hw:Zdj (word b 0) with
  | false=>simp [dom,hw] at h1
  | true=>
   simp only [dom,hw,if_true,Nat.zero_add] at h1 h2 h3
   have:=h.1 ⟨hw,by ext1;exact h1;exact h3⟩
   exact ⟨⟨this.1,this.2⟩,by omega⟩
 ·rintro ⟨⟨h1,h2⟩,h3⟩
  obtain ⟨h4,h5⟩:=h.2 ⟨h1,h2⟩
  simp only [dom,h4,if_true,Nat.zero_add,h5]
  exact ⟨trivial,h3,trivial⟩
end Go.BL
namespace Go.BL
open Go
theorem Zbg {α:Type} {p:α→Prop} {l:List α} {k:Nat} {x:α} (hx:l[k]? = some x) (h :∀y,y∈l.take k→p y) (hp:p x) :∀y,y∈l.take (k+1)→p y:=by
 intro y hy
 rw [List.take_add_one,hx] at hy
 simp only [Option.toList_some,List.mem_append,List.mem_singleton] at hy
 rcases hy with hy | rfl
 ·exact h y hy
 ·exact hp
def Zeu (us:List DUser) (u:Str):Int:=match us.findIdx? (fun x=>decide (x.name=u)) with | some i=>i | none=>-1
theorem Zr6 {us:List DUser} {u:Str} {k:Nat} {x:DUser} (hx:us[k]? = some x) (he:x.name=u) (h :∀y,y∈us.take k→y.name≠u):Zeu us u=k:=by
 have:us.findIdx? (fun x=>decide (x.name=u))=some k:=by
  rw [List.findIdx?_eq_some_iff_getElem]
  obtain ⟨hk,rfl⟩:=List.getElem?_eq_some_iff.1 hx
  refine ⟨hk,by simpa using he,fun j hj=>?_⟩
  have:=h us[j] (by rw [List.mem_take_iff_getElem];exact ⟨j,by omega,rfl⟩)
  simpa using this
 rw [Zeu,this]
theorem ZpC {us:List DUser} {u:Str} (h :∀y,y∈us→y.name≠u):Zeu us u = -1:=by
 have:us.findIdx? (fun x=>decide (x.name=u))=none:=by
  rw [List.findIdx?_eq_none_iff]
  intro x hx
  simpa using h x hx
 rw [Zeu,this]
theorem Zbj {α:Type} {as bs:List α} {k:Nat} {x y:α} (hx:as[k]? = some x) (hy:bs[k]? = some y) (e:x=y) (h:as.take k=bs.take k):as.take (k+1)=bs.take (k+1):=by
 rw [List.take_add_one,List.take_add_one,hx,hy,e,h]
theorem ZfD {α:Type} {as bs:List α} {inst:Decidable (as=bs)} (h : ¬ (as.length:Int)=bs.length):false=decide (as=bs):=by
 symm;rw [decide_eq_false_iff_not];intro e;exact h (by rw [e])
theorem Zd9 {α:Type} {as bs:List α} {inst:Decidable (as=bs)} {k:Nat} {x y:α} (hx:as[k]? = some x) (hy:bs[k]? = some y) (e : ¬ x=y):false=decide (as=bs):=by
 symm;rw [decide_eq_false_iff_not];intro h;rw [h,hy] at hx;exact e (Option.some.inj hx).symm
theorem eqT {α:Type} {as bs:List α} {inst:Decidable (as=bs)} {k:Nat} (hl:as.length=bs.length) (hk:k=as.length) (h:as.take k=bs.take k):true=decide (as=bs):=by
 symm;rw [decide_eq_true_eq]
 rw [List.take_of_length_le (by omega),List.take_of_length_le (by omega)] at h;exact h
theorem ZzO {α:Type} {as:List α} {x:α} {inst:Decidable (x∈as)} (h :∀y,y∈as→y≠x):false=decide (x∈as):=by
 symm;rw [decide_eq_false_iff_not];intro hx;exact h x hx rfl
theorem ZzN {α:Type} {as:List α} {x y:α} {inst:Decidable (x∈as)} {k:Nat} (hy:as[k]? = some y) (e:y=x):true=decide (x∈as):=by
 symm;rw [decide_eq_true_eq];subst e;exact List.mem_of_getElem? hy
theorem Zbq {α:Type} {p:α→Prop} {l:List α} {k:Nat} (hk : ¬ (k:Int)<l.length) (h :∀y,y∈l.take k→p y) :∀y,y∈l→p y:=by
 rwa [List.take_of_length_le (by omega)] at h
theorem Zjl {α:Type} {l:List α} {k:Nat} {x:α} (h:l[k]? = some x):l.drop k=x :: l.drop (k+1):=by
 obtain ⟨hlt,he⟩:=List.getElem?_eq_some_iff.1 h
 rw [List.drop_eq_getElem_cons hlt,he]
theorem Zqq {α:Type} {l:List α} {k:Nat} (h : ¬ (k:Int)<l.length):l.drop k=[]:=List.drop_eq_nil_of_le (by omega)
def ZcJ (l:List Str):Bool:=l.all Zas && decide l.Nodup && decide (l.length≤3)
def Zcy (x:DLetter):Bool:=Zas x.fr && ZcJ x.to_ && decide (0<x.to_.length) && decide (x.text.length≤20)
def Zes (x:DItem):Bool:=Zcy ⟨x.fr,x.left,x.text⟩
def ZdA:Int→List DItem→Option Int
 | last,[]=>some last
 | last,x :: r=>if (last+1≤x.id∧x.id≤99)∧Zes x=true then ZdA x.id r else none
def ZaX (q:DQueue):Bool:=match ZdA 0 q.items with
 | some last=>decide (last+1≤q.next) && decide (q.next≤100) && decide (q.items.length≤6)
 | none=>false
theorem Zpb {α:Type} {l:List α} {k:Nat} {x:α} (hx:l[k]? = some x) (h:(l.take k).Nodup) (hn : ¬ x∈l.take k):(l.take (k+1)).Nodup:=by
 rw [List.take_add_one,hx]
 simp only [Option.toList_some]
 rw [List.nodup_append]
 exact ⟨h,by simp,fun a ha b hb=>by rw [List.mem_singleton.1 hb];exact fun e=>hn (e ▸ ha)⟩
theorem ZtZ {α:Type} {l:List α} {k:Nat} {x:α} (hx:l[k]? = some x) (h:x∈l.take k) : ¬ l.Nodup:=by
 intro hn
 have e:l=l.take k ++ l.drop k:=(List.take_append_drop k l).symm
 rw [e,Zjl hx,List.nodup_append] at hn
 exact hn.2.2 x h x (List.mem_cons_self ..) rfl
theorem ZgK {l:List Str} {k:Nat} {x:Str} (hx:l[k]? = some x) (h:Zas x=false):false=ZcJ l:=by
 simp [ZcJ,ZkR hx h]
theorem ZgJ {l:List Str} {k:Nat} {x:Str} (hx:l[k]? = some x) (h:x∈l.take k):false=ZcJ l:=by
 simp [ZcJ,ZtZ hx h]
theorem Zhp {l:List Str} {k:Nat} (hk : ¬ (k:Int)<l.length) (ha:(l.take k).all Zas=true) (hn:(l.take k).Nodup):decide ((l.length:Int)≤3)=ZcJ l:=by
 rw [List.take_of_length_le (by omega)] at ha hn
 rw [Bool.eq_iff_iff];simp only [ZcJ,ha,decide_eq_true hn,Bool.true_and,decide_eq_true_eq];omega
def ZbR {α:Type} (p:α→Bool) (xs:List α):Int:=match xs.findIdx? p with | some i=>i | none=>-1
theorem ZgX {α:Type} {p:α→Bool} {xs:List α} {k:Nat} {x:α} (hx:xs[k]? = some x) (he:p x=true) (h :∀y,y∈xs.take k→p y=false):ZbR p xs=k:=by
 have:xs.findIdx? p=some k:=by
  rw [List.findIdx?_eq_some_iff_getElem]
  obtain ⟨hk,rfl⟩:=List.getElem?_eq_some_iff.1 hx
  refine ⟨hk,he,fun j hj=>?_⟩
  have:=h xs[j] (by rw [List.mem_take_iff_getElem];exact ⟨j,by omega,rfl⟩)
  simpa using this
 rw [ZbR,this]
theorem Zev {α:Type} {p:α→Bool} {xs:List α} (h :∀y,y∈xs→p y=false):ZbR p xs = -1:=by
 have:xs.findIdx? p=none:=by
  rw [List.findIdx?_eq_none_iff]
  intro x hx
  simpa using h x hx
 rw [ZbR,this]
theorem ZmM {α:Type} {p:α→Bool} {xs:List α} : (0≤ZbR p xs)↔∃x,x∈xs∧p x=true:=by
 cases h:xs.findIdx? p with
 | none=>
  rw [List.findIdx?_eq_none_iff] at h
  simp only [ZbR,List.findIdx?_eq_none_iff.2 h]
  refine ⟨fun e=>absurd e (by omega),fun ⟨x,hx,hp⟩=>?_⟩
  rw [h x hx] at hp;cases hp
 | some i=>
  simp only [ZbR,h]
  rw [List.findIdx?_eq_some_iff_getElem] at h
  obtain ⟨hi,hp,_⟩:=h
  exact ⟨fun _=>⟨_,List.getElem_mem hi,hp⟩,fun _=>by omega⟩
def Zxr (xs:List Str) (v:Str):Int:=ZbR (fun x=>decide (x=v)) xs
theorem Zr7 {xs:List Str} {v:Str} : (0≤Zxr xs v)↔v∈xs:=by
 rw [Zxr,ZmM];simp
theorem ZmB {q:DQueue} (h:ZdA 0 q.items=none):false=ZaX q:=by simp [ZaX,h]
theorem ZmA {q:DQueue} {last:Int} (h:ZdA 0 q.items=some last):(decide (last+1≤q.next) && decide (q.next≤100) && decide (q.items.length≤6))=ZaX q:=by simp [ZaX,h]
theorem ZoW {q:DQueue} {k:Nat} {last:Int} {x:DItem} (hs:ZdA 0 q.items=ZdA last (q.items.drop k)) (hx:q.items[k]? = some x):ZdA 0 q.items=if (last+1≤x.id∧x.id≤99)∧Zes x=true then ZdA x.id (q.items.drop (k+1)) else none:=by
 rw [hs,Zjl hx,ZdA]
theorem Zep (x:DLetter):Zcy x=(Zas x.fr && (decide (1≤x.to_.length) && ZcJ x.to_) && decide ((x.text.length:Int)≤20)):=by
 rw [Bool.eq_iff_iff];simp only [Zcy,Bool.and_eq_true,decide_eq_true_eq]
 constructor
 ·rintro ⟨⟨⟨a,b⟩,c⟩,d⟩;exact ⟨⟨a,by omega,b⟩,by omega⟩
 ·rintro ⟨⟨a,c,b⟩,d⟩;exact ⟨⟨⟨a,b⟩,by omega⟩,by omega⟩
structure Gh (α:Type) where
 k:Nat
 p:Nat
 l:Cells
 a:Option Addr
 c:Nat
 xs:List α
theorem ZaV {α:Type} {l:List α} {k:Nat} {x:α} (hx:l[k]? = some x):l.take (k+1)=l.take k ++ [x]:=by
 rw [List.take_add_one,hx];rfl
theorem ZoX :∀{xs:List DItem} {l r:Int},ZdA l xs=some r→l≤r
 | [],l,r,h=>by simp only [ZdA,Option.some.injEq] at h;omega
 | x :: xs,l,r,h=>by
  rw [ZdA] at h
  split at h
  ·rename_i e;have:=ZoX h;omega
  ·cases h
theorem ZgH {q:DQueue} (h:ZaX q=true):1≤q.next∧q.next≤100∧q.items.length≤6:=by
 unfold ZaX at h
 split at h
 ·rename_i last e
  have:=ZoX e
  simp only [Bool.and_eq_true,decide_eq_true_eq] at h
  omega
 ·cases h
structure Gh2 (α β:Type) where
 k:Nat
 p:Nat
 l:Cells
 a:Option Addr
 c:Nat
 xs:List α
 e:β
theorem Zqp {α:Type} {xs:List α} {j:Nat} {y:α} (h:xs[j]? = some y):xs.drop j=y :: xs.drop (j+1):=by
 obtain ⟨hj,rfl⟩:=List.getElem?_eq_some_iff.1 h
 exact List.drop_eq_getElem_cons hj
structure QOf where
 p:Option Addr
 ys:List DItem
 xs:List DItem
 l:Cells
 q:Option Addr
 c:Nat
 cells:Cells
theorem ZN.slice0 {α:Type} {B:Kn} {l:Cells} {p:Option Addr} {c:Nat} {T:TypeId} {w sz:Nat} {R:Rel α} {xs:List α} (h:ZN B l p c T w R xs):(if c=0 then p else p.map (fun a=>a.add (0*sz)))=p:=by
 obtain ⟨rows,_,_,_,⟨rfl,_,rfl,_⟩ | ⟨b,arr,rfl,_,_,_,_⟩⟩:=h
 ·rfl
 ·split
  ·rfl
  ·rw [Nat.zero_mul];simp [Addr.add_off]
theorem Zgh {q:DQueue} (h : ¬ (q.items.length≤6∧1≤q.next∧q.next≤100)):false=ZaX q:=by
 symm;rw [Bool.eq_false_iff];intro hq
 have:=ZgH hq
 omega
end Go.BL
namespace Go.BL
open Go
def hat (xs:List Int) (k:Nat):Int:=xs.getD k 0
def swp (xs:List Int) (i j:Nat):List Int:=(xs.set i (hat xs j)).set j (hat xs i)
def Zdg (xs:List Int):Prop:=∀k,0<k→k<xs.length→hat xs ((k - 1) / 2)≤hat xs k
def ZfJ (xs:List Int) (j:Nat):Prop:=(∀k,0<k→k<xs.length→k≠j→hat xs ((k - 1) / 2)≤hat xs k)∧(∀k,0<k→k<xs.length→(k - 1) / 2=j→0<j→hat xs ((j - 1) / 2)≤hat xs k)
theorem Zuj {xs:List Int} {k:Nat} {a:Int} (h:xs[k]? = some a):hat xs k=a:=by simp [hat,List.getD,h]
theorem ZaN {xs:List Int} {k:Nat} (h:k<xs.length):xs[k]? = some (hat xs k):=by simp [hat,List.getD,List.getElem?_eq_getElem h]
theorem Zc2 (xs:List Int) (i j:Nat):(swp xs i j).length=xs.length:=by simp [swp]
theorem Zew {xs:List Int} {i j:Nat} (hi:i<xs.length) (hj:j<xs.length) (k:Nat):hat (swp xs i j) k=if k=j then hat xs i else if k=i then hat xs j else hat xs k:=by
 simp only [hat,swp,List.getD,List.getElem?_set]
 by_cases h1:k=j
 ·subst h1;simp [hj]
 ·have h1' : ¬j=k:=fun h=>h1 h.symm
  by_cases h2:k=i
  ·subst h2;simp [hi,h1,h1']
  ·have h2' : ¬i=k:=fun h=>h2 h.symm
   simp [h1,h1',h2,h2']
theorem ZfO {xs:List Int} {i j:Nat} (hi:i<xs.length) (hj:j<xs.length):(swp xs i j).Perm xs:=by
 rw [List.perm_iff_count]
 intro a
 unfold swp
 rw [List.count_set (by simpa using hj),List.count_set hi]
 have e1:(xs.set i (hat xs j))[j]'(by simpa using hj)=hat xs j:=by
  rw [List.getElem_set];split
  ·rfl
  ·simp [hat,List.getD,List.getElem?_eq_getElem hj]
 have e2:xs[i]=hat xs i:=by simp [hat,List.getD,List.getElem?_eq_getElem hi]
 rw [e1,e2]
 have hp :∀v,(v == a)=true→v∈xs→0<List.count a xs:=fun v hv hm=>by
  rw [beq_iff_eq] at hv;subst hv;exact List.count_pos_iff.2 hm
 have hm1:hat xs i∈xs:=by rw [← e2];exact List.getElem_mem _
 by_cases h1:(hat xs i == a)=true <;> by_cases h2:(hat xs j == a)=true <;> simp [h1,h2] <;> (try have:=hp _ h1 hm1;omega)
theorem Ztx {xs:List Int} (h:ZfJ xs 0):Zdg xs:=fun k h0 hk=>h.1 k h0 hk (by omega)
theorem Ztz {xs:List Int} {j:Nat} (h:ZfJ xs j) (hj:hat xs ((j - 1) / 2)≤hat xs j):Zdg xs:=fun k h0 hk=>by
 by_cases e:k=j
 ·subst e;exact hj
 ·exact h.1 k h0 hk e
theorem Zty {xs:List Int} {j:Nat} (h0:0<j) (hj:j<xs.length) (h:ZfJ xs j) (hlt:hat xs j<hat xs ((j - 1) / 2)):ZfJ (swp xs ((j - 1) / 2) j) ((j - 1) / 2):=by
 have hi:(j - 1) / 2<xs.length:=by omega
 have H:=fun k=>Zew hi hj k
 generalize hii:(j - 1) / 2=i at *
 refine ⟨fun k hk0 hk hne=>?_,fun k hk0 hk hpar hi0=>?_⟩
 ·rw [Zc2] at hk
  rw [H,H]
  by_cases e1:k=j
  ·subst e1
   rw [hii];rw [if_neg (by omega),if_pos rfl,if_pos rfl];omega
  ·rw [if_neg e1,if_neg hne]
   by_cases e2:(k - 1) / 2=j
   ·rw [if_pos e2];have:=h.2 k hk0 hk e2 h0;rw [hii] at this;exact this
   ·rw [if_neg e2]
    by_cases e3:(k - 1) / 2=i
    ·rw [if_pos e3];have:=h.1 k hk0 hk e1;rw [e3] at this;omega
    ·rw [if_neg e3];exact h.1 k hk0 hk e1
 ·rw [Zc2] at hk
  rw [H,H]
  have hpi:(i - 1) / 2≠i:=by omega
  have hpj:(i - 1) / 2≠j:=by omega
  rw [if_neg hpj,if_neg hpi]
  have hii2:=h.1 i hi0 hi (by omega)
  by_cases e1:k=j
  ·rw [if_pos e1];exact hii2
  ·rw [if_neg e1,if_neg (by omega)]
   have:=h.1 k hk0 hk e1;rw [hpar] at this;omega
theorem Zsa {xs:List Int} (h:Zdg xs) :∀k,k<xs.length→hat xs 0≤hat xs k:=fun k=>by
 induction k using Nat.strongRecOn with
 | ind k ih=>
  intro hk
  by_cases h0:k=0
  ·subst h0;exact Int.le_refl _
  ·have h1:=ih ((k - 1) / 2) (by omega) (by omega)
   have h2:=h k (by omega) hk
   omega
def ZsM (xs:List Int) (n:Nat):Prop:=∀k,0<k→k<n→hat xs ((k - 1) / 2)≤hat xs k
def ZeH (xs:List Int) (n i:Nat):Prop:=(∀k,0<k→k<n→(k - 1) / 2≠i→hat xs ((k - 1) / 2)≤hat xs k)∧(∀k,0<k→k<n→(k - 1) / 2=i→0<i→hat xs ((i - 1) / 2)≤hat xs k)
theorem Zqr {xs:List Int} {n i:Nat} (h:ZeH xs n i) (hl:n≤2*i+1):ZsM xs n:=fun k h0 hk=>h.1 k h0 hk (by omega)
theorem ZhM {xs:List Int} {n i:Nat} (h:ZeH xs n i) (hc :∀k,0<k→k<n→(k - 1) / 2=i→hat xs i≤hat xs k):ZsM xs n:=fun k h0 hk=>by
 by_cases e:(k - 1) / 2=i
 ·rw [e];exact hc k h0 hk e
 ·exact h.1 k h0 hk e
theorem ZhL {xs:List Int} {n i j:Nat} (hn:n≤xs.length) (hj0:0<j) (hj:j<n) (hpj:(j - 1) / 2=i) (h:ZeH xs n i) (hmin :∀k,0<k→k<n→(k - 1) / 2=i→hat xs j≤hat xs k) (hlt:hat xs j<hat xs i):ZeH (swp xs i j) n j:=by
 have hi:i<xs.length:=by omega
 have hij:i≠j:=by omega
 have H:=fun k=>Zew hi (show j<xs.length by omega) k
 refine ⟨fun k hk0 hk hne=>?_,fun k hk0 hk hpar _=>?_⟩
 ·rw [H,H,if_neg hne]
  by_cases e1:k=j
  ·subst e1;rw [if_pos hpj,if_pos rfl];omega
  ·rw [if_neg e1]
   by_cases e2:(k - 1) / 2=i
   ·rw [if_pos e2,if_neg (by omega)];exact hmin k hk0 hk e2
   ·rw [if_neg e2]
    by_cases e3:k=i
    ·rw [if_pos e3];subst e3;exact h.2 j hj0 hj hpj hk0
    ·rw [if_neg e3];exact h.1 k hk0 hk e2
 ·rw [H,H,hpj,if_neg hij,if_pos rfl,if_neg (by omega),if_neg (by omega)]
  have:=h.1 k hk0 hk (by omega)
  rwa [hpar] at this
theorem Zw0 (k:Nat):Int.tdiv ((k:Int) - 1) 2=(((k - 1) / 2:Nat):Int):=by
 cases k with
 | zero=>rfl
 | succ k=>rw [show ((k+1:Nat):Int) - 1=(k:Int) from by omega,Int.tdiv_eq_ediv_of_nonneg (by omega)];simp
theorem ZpJ {xs:List Int} {z:Int} {k:Nat} (h:k<xs.length):hat (xs ++ [z]) k=hat xs k:=by
 simp [hat,List.getD,List.getElem?_append_left h]
theorem Zrz {xs:List Int} {z:Int} (h:Zdg xs):ZfJ (xs ++ [z]) xs.length:=by
 refine ⟨fun k h0 hk hne=>?_,fun k h0 hk hp _=>?_⟩
 ·rw [List.length_append,List.length_singleton] at hk
  rw [ZpJ (by omega),ZpJ (by omega)]
  exact h k h0 (by omega)
 ·rw [List.length_append,List.length_singleton] at hk
  omega
theorem ZtO {xs:List Int} (h:Zdg xs) (h0:0<xs.length):ZeH (swp xs 0 (xs.length - 1)) (xs.length - 1) 0:=by
 refine ⟨fun k hk0 hk hne=>?_,fun k hk0 hk hpar hh=>absurd hh (by omega)⟩
 rw [Zew h0 (by omega),Zew h0 (by omega),if_neg (by omega),if_neg (by omega),if_neg (by omega),if_neg (by omega)]
 exact h k hk0 (by omega)
theorem Zrs {xs:List Int} (h0:0<xs.length):hat (swp xs 0 (xs.length - 1)) (xs.length - 1)=hat xs 0:=by rw [Zew h0 (by omega),if_pos rfl]
theorem ZmO {xs:List Int} {n k:Nat} (h:k<n):hat (xs.take n) k=hat xs k:=by simp [hat,List.getD,List.getElem?_take,h]
theorem ZnP {ys:List Int} {n:Nat} (h:ZsM ys n) (hn:n≤ys.length):Zdg (ys.take n):=fun k h0 hk=>by
 rw [List.length_take] at hk
 rw [ZmO (by omega),ZmO (by omega)]
 exact h k h0 (by omega)
theorem ZrC {xs ys:List Int} (h0:0<ys.length) (hp:ys.Perm xs) {z:Int} (hz:hat ys (ys.length - 1)=z):(z :: ys.take (ys.length - 1)).Perm xs:=by
 refine List.Perm.trans ?_ hp
 have e:ys=ys.take (ys.length - 1) ++ [z]:=by
  have h1:=ZaV (ZaN (xs:=ys) (k:=ys.length - 1) (by omega))
  rw [show ys.length - 1+1=ys.length from by omega,List.take_length] at h1
  rw [hz] at h1;exact h1
 have h2:(z :: ys.take (ys.length - 1)).Perm (ys.take (ys.length - 1) ++ [z]):=(List.perm_append_singleton z _).symm
 rwa [← e] at h2
theorem Zr9:Zdg []:=fun k h0 hk=>by simp at hk
def asc:Int→Int→List Int→Bool
 | _,_,[]=>true
 | b,l,x :: r=>decide (b<x) && decide (x≤l) && asc x l r
theorem ZqJ :∀{r:List Int} {b l z:Int},asc b l r=true→z∈r→b<z
 | [],_,_,_,_,hz=>by cases hz
 | x :: r,b,l,z,h,hz=>by
  simp only [asc,Bool.and_eq_true,decide_eq_true_eq] at h
  rcases List.mem_cons.1 hz with rfl | hz
  ·exact h.1.1
  ·have:=ZqJ h.2 hz;omega
theorem Zui {xs:List Int} {k:Nat} (h:k<xs.length):hat xs k∈xs:=List.mem_of_getElem? (ZaN h)
theorem ZsC {b l x:Int} {r ys:List Int} (hp:ys.Perm (x :: r)) (hh:Zdg ys) (hne:hat ys 0≠x):false=asc b l (x :: r):=by
 symm;rw [Bool.eq_false_iff]
 intro h
 have h0:0<ys.length:=by rw [hp.length_eq];simp
 have hm:=hp.mem_iff.1 (Zui h0)
 simp only [asc,Bool.and_eq_true,decide_eq_true_eq] at h
 rcases List.mem_cons.1 hm with e | hm
 ·exact hne e
 ·have h1:=ZqJ h.2 hm
  obtain ⟨k,hk⟩:=List.mem_iff_getElem?.1 (hp.mem_iff.2 (List.mem_cons_self (a:=x) (l:=r)))
  have h2:=Zsa hh k (List.getElem?_eq_some_iff.1 hk).1
  rw [Zuj hk] at h2
  omega
theorem ZsB {b l x:Int} {r:List Int} (h:x≤b):false=asc b l (x :: r):=by simp [asc,show ¬ b<x from by omega]
theorem ZsA {b l x:Int} {r:List Int} (h:l<x):false=asc b l (x :: r):=by simp [asc,show ¬ x≤l from by omega]
theorem Zwp {b l x:Int} {r:List Int} (h : ¬ x≤b) (h2 : ¬ l<x):asc b l (x :: r)=asc x l r:=by simp [asc,show b<x from by omega,show x≤l from by omega]
theorem Zmw :∀{xs:List DItem} {b:Int} {l:Int},l≤99→(match ZdA b xs with | some r=>decide (r≤l) | none=>false)=(decide (b≤l) && xs.all Zes && asc b l (xs.map (·.id)))
 | [],b,l,_=>by simp [ZdA,asc]
 | x :: xs,b,l,hl=>by
  have ih:=Zmw (xs:=xs) (b:=x.id) hl
  rw [ZdA,List.map_cons,List.all_cons,asc]
  by_cases h1:b+1≤x.id
  ·by_cases h2:Zes x=true
   ·by_cases h3:x.id≤99
    ·rw [if_pos ⟨⟨h1,h3⟩,h2⟩,ih,h2]
     by_cases h4:x.id≤l
     ·simp [h4,show b≤l from by omega,show b<x.id from by omega]
     ·simp [h4]
    ·rw [if_neg (fun h=>h3 h.1.2)]
     simp [show ¬ x.id≤l from by omega]
   ·rw [if_neg (fun h=>h2 h.2)]
    simp [h2]
  ·rw [if_neg (fun h=>h1 h.1.1)]
   simp [show ¬ b<x.id from by omega]
theorem Zfs (q:DQueue):ZaX q=(decide (q.items.length≤6) && decide (1≤q.next) && decide (q.next≤100) && q.items.all Zes && asc 0 (q.next - 1) (q.items.map (·.id))):=by
 by_cases h:q.next≤100
 ·have:=Zmw (xs:=q.items) (b:=0) (l:=q.next - 1) (by omega)
  unfold ZaX
  cases hs:ZdA 0 q.items with
  | none=>
   rw [hs] at this
   simp only at this
   rw [Bool.eq_iff_iff]
   simp only [Bool.and_eq_true,decide_eq_true_eq,Bool.false_eq_true,false_iff]
   rintro ⟨⟨⟨⟨_,h1⟩,_⟩,h2⟩,h3⟩
   rw [h2,h3] at this
   simp at this;omega
  | some r=>
   rw [hs] at this
   simp only at this
   rw [Bool.eq_iff_iff] at this ⊢
   simp only [Bool.and_eq_true,decide_eq_true_eq] at this ⊢
   constructor
   ·rintro ⟨⟨h1,h2⟩,h3⟩
    obtain ⟨⟨a,b⟩,c⟩:=this.1 (by omega)
    exact ⟨⟨⟨⟨h3,by omega⟩,h⟩,b⟩,c⟩
   ·rintro ⟨⟨⟨⟨h1,h2⟩,h3⟩,h4⟩,h5⟩
    have:=this.2 ⟨⟨by omega,h4⟩,h5⟩
    omega
 ·unfold ZaX
  cases ZdA 0 q.items <;> simp [h]
theorem Zwr {α:Type} {p:α→Bool} {l:List α} {k:Nat} {x:α} (hx:l[k]? = some x) (h:p x=false):l.all p=false:=by
 rw [Bool.eq_false_iff];intro hp
 rw [List.all_eq_true] at hp
 have:=hp x (List.mem_of_getElem? hx)
 rw [h] at this;cases this
theorem Zwq {α:Type} {p:α→Bool} {l:List α} {k:Nat} {x:α} (hx:l[k]? = some x) (h:p x=true) (ha:(l.take k).all p=true):(l.take (k+1)).all p=true:=by
 rw [ZaV hx,List.all_append,ha];simp [h]
theorem Zlm {q:DQueue} {k:Nat} {x:DItem} (hx:q.items[k]? = some x) (h:Zes x=false):false=ZaX q:=by
 rw [Zfs,Zwr hx h];simp
theorem Zll {q:DQueue} {k:Nat} (hk : ¬ (k:Int)<q.items.length) (ha:(q.items.take k).all Zes=true) (h6:q.items.length≤6) (h1:1≤q.next) (h2:q.next≤100):asc 0 (q.next - 1) (q.items.map (·.id))=ZaX q:=by
 rw [List.take_of_length_le (by omega)] at ha
 rw [Zfs,ha];simp [h6,h1,h2]
theorem Zj0 {q:DQueue} (h:ZaX q=true) {x:DItem} (hx:x∈q.items):Zes x=true:=by
 rw [Zfs] at h
 simp only [Bool.and_eq_true] at h
 exact List.all_eq_true.1 h.1.2 x hx
end Go.BL
namespace Go.BL
open Go
def Zcj (m:DMail):Bool:=(decide (1≤m.uid) && decide (m.uid≤99)) && (decide (0≤m.flags) && decide (m.flags≤31)) && decide (m.text.length≤20)
def scn {α β:Type} (p:β→α→Bool) (nx:β→α→β) (b0:β) (xs:List α):Bool × β:=xs.foldl (fun s x=>(s.1 && p s.2 x,nx s.2 x)) (true,b0)
theorem Zfp {α β:Type} {p:β→α→Bool} {nx:β→α→β} {b0:β} {xs:List α} : scn p nx b0 (xs.take 0)=(true,b0):=by simp [scn]
theorem Zmt {α β:Type} {p:β→α→Bool} {nx:β→α→β} {b0:β} {xs:List α} {k:Nat} {x:α} (hx:xs[k]? = some x):scn p nx b0 (xs.take (k+1))=((scn p nx b0 (xs.take k)).1 && p (scn p nx b0 (xs.take k)).2 x,nx (scn p nx b0 (xs.take k)).2 x):=by
 have:xs.take (k+1)=xs.take k ++ [x]:=by rw [List.take_add_one,hx];rfl
 rw [this,scn,List.foldl_append];rfl
theorem Zb5 {α β:Type} {p:β→α→Bool} {nx:β→α→β} :∀(xs:List α) (b:β),(xs.foldl (fun (s:Bool × β) x=>(s.1 && p s.2 x,nx s.2 x)) (false,b)).1=false
 | [],_=>rfl
 | x :: xs,b=>by simp only [List.foldl_cons,Bool.false_and];exact Zb5 xs _
theorem ZtK {α β:Type} {p:β→α→Bool} {nx:β→α→β} {b0:β} {xs:List α} {k:Nat} (h:(scn p nx b0 (xs.take k)).1=false):(scn p nx b0 xs).1=false:=by
 have e:xs=xs.take k ++ xs.drop k:=(List.take_append_drop k xs).symm
 have:scn p nx b0 xs=(xs.drop k).foldl (fun s x=>(s.1 && p s.2 x,nx s.2 x)) (scn p nx b0 (xs.take k)):=by
  conv=>lhs;rw [e,scn,List.foldl_append]
  rfl
 rw [this]
 rcases hs:scn p nx b0 (xs.take k) with ⟨b,c⟩
 rw [hs] at h
 simp only at h
 subst h
 exact Zb5 _ _
theorem Zfq {α β:Type} {p:β→α→Bool} {nx:β→α→β} {b0:β} {xs:List α} {k:Nat} {x:α} (hx:xs[k]? = some x) (h:p (scn p nx b0 (xs.take k)).2 x=false):(scn p nx b0 xs).1=false:=
 ZtK (k:=k+1) (by rw [Zmt hx,h,Bool.and_false])
theorem Zcx {α β:Type} {p:β→α→Bool} {nx:β→α→β} {b0 b:β} {xs:List α} {k:Nat} {x:α} (hx:xs[k]? = some x) (hs:scn p nx b0 (xs.take k)=(true,b)) (h:p b x=true):scn p nx b0 (xs.take (k+1))=(true,nx b x):=by
 rw [Zmt hx,hs];simp [h]
theorem Zd1 {α β:Type} {p:β→α→Bool} {nx:β→α→β} {b0 b:β} {xs:List α} {k:Nat} (hs:scn p nx b0 (xs.take k)=(true,b)) (hk:xs.length≤k):scn p nx b0 xs=(true,b):=by
 rwa [List.take_of_length_le hk] at hs
def ZcC (b:Int) (m:DMail):Bool:=Zcj m && decide (b<m.uid)
def ZcN (ms:List DMail):Bool × Int:=scn ZcC (fun _ m=>m.uid) 0 ms
def ZcF (b:DBox):Bool:=(ZcN b.mail).1 && (decide ((ZcN b.mail).2+1≤b.next) && decide (b.next≤100)) && decide (b.mail.length≤10)
def ZaA (ms:List DMail):Nat:=(ms.map (·.text.length)).sum
theorem Zhh {ms:List DMail} {k:Nat} {x:DMail} (hx:ms[k]? = some x):ZaA (ms.take (k+1))=ZaA (ms.take k)+x.text.length:=by
 have:ms.take (k+1)=ms.take k ++ [x]:=by rw [List.take_add_one,hx];rfl
 simp [ZaA,this]
theorem Zf4 {b:DBox} (h:(ZcN b.mail).1=false):ZcF b=false:=by simp [ZcF,h]
theorem ZeD {b:DBox} {l:Int} (h:ZcN b.mail=(true,l)):ZcF b=((decide (l+1≤b.next) && decide (b.next≤100)) && decide (b.mail.length≤10)):=by simp [ZcF,h]
theorem Zim {m:DMail} (h:Zcj m=true):0≤m.uid∧m.uid≤99:=by
 simp only [Zcj,Bool.and_eq_true,decide_eq_true_eq] at h;omega
theorem Zie {ms:List DMail} {k n:Nat} (h:n=ZaA (ms.take k)) (hk:ms.length≤k):n=ZaA ms:=by rwa [List.take_of_length_le hk] at h
def Zdw (b:DBox):Int:=if ZcF b then (ZaA b.mail:Int) else -1
def anyone:Str:=[97,110,121,111,110,101]
def ZcK (u:DUser):Bool:=Zas u.name && decide (u.name≠anyone) && Zas u.pass && (decide (0≤u.quota) && decide (u.quota≤200))
theorem Zbt :∀(a b:Str),Op.bytesLess a b = !(Op.bytesLess b a || decide (b=a))
 | [],[]=>by simp [Op.bytesLess]
 | [],_ :: _=>by simp [Op.bytesLess]
 | _ :: _,[]=>by simp [Op.bytesLess]
 | a :: x,b :: y=>by
  have ih:=Zbt x y
  simp only [Op.bytesLess,ih]
  rcases UInt8.lt_or_lt_of_ne (a:=a) (b:=b) with h
  by_cases e:a=b
  ·subst e
   have : ¬ a<a:=UInt8.lt_irrefl a
   simp [this,ih]
  ·rcases h e with h | h
   ·have h2 : ¬ b<a:=UInt8.lt_asymm h
    simp [h,h2,e,Ne.symm e]
   ·have h2 : ¬ a<b:=UInt8.lt_asymm h
    simp [h,h2,e]
def Zej (b:Str) (u:DUser):Bool:=ZcK u && Op.bytesLess b u.name
def ZdV (us:List DUser):Bool × Str:=scn Zej (fun _ u=>u.name) [] us
def Zax (us:List DUser):Bool:=(ZdV us).1 && (decide (1≤us.length) && decide (us.length≤4))
theorem Zfl {us:List DUser} (h:(ZdV us).1=false):Zax us=false:=by simp [Zax,h]
theorem Zhd {us:List DUser} {b:Str} (h:ZdV us=(true,b)):Zax us=(decide (1≤us.length) && decide (us.length≤4)):=by simp [Zax,h]
def Zpa:DUser:=⟨[],[],0⟩
def ZfB (t:DUser→Bool) (us:List DUser):DUser × Bool:=match us.find? t with | some x=>(x,true) | none=>(Zpa,false)
theorem Zkz {α:Type} {t:α→Bool} {xs:List α} (h :∀y,y∈xs→t y=false):xs.find? t=none:=List.find?_eq_none.2 fun y hy=>by simp [h y hy]
theorem Zsl {α:Type} {t:α→Bool} {xs:List α} {k:Nat} {x:α} (hx:xs[k]? = some x) (ht:t x=true) (h :∀y,y∈xs.take k→t y=false):xs.find? t=some x:=by
 have hlt:=(List.getElem?_eq_some_iff.1 hx).1
 have e:xs=xs.take k ++ (x :: xs.drop (k+1)):=by
  rw [← (List.getElem?_eq_some_iff.1 hx).2,← List.drop_eq_getElem_cons hlt,List.take_append_drop]
 rw [e,List.find?_append,Zkz h];simp [ht]
theorem Zp9 {t:DUser→Bool} {us:List DUser} {k:Nat} {x:DUser} (hx:us[k]? = some x) (ht:t x=true) (h :∀y,y∈us.take k→t y=false):ZfB t us=(x,true):=by simp [ZfB,Zsl hx ht h]
theorem ZnV {t:DUser→Bool} {us:List DUser} (h :∀y,y∈us→t y=false):ZfB t us=(Zpa,false):=by simp [ZfB,Zkz h]
theorem ZiN {B:Kn} {b:Nat} {T:TypeId} {vs:List Value} (h :∀p,p∈ZK b vs T→B.mem p.1=some p.2):Zau B b 0 vs:=fun L j u hu=>
 ⟨rfl,vs.toArray,T,(0,0),.inl (h (b,.cells vs.toArray T) (List.mem_singleton.2 rfl)),by simpa using hu⟩
def ZaH (us:List DUser) (n:Str):DUser × Bool:=if Zax us then ZfB (fun y=>decide (y.name=n)) us else (Zpa,false)
def inF (o n:Str) (f:DFolder):Bool:=decide (f.owner=o) && decide (f.name=n)
def ZcO (us:List DUser) (x:DItem):Bool:=(ZaH us x.fr).2 && x.left.all fun n=>(ZaH us n).2
theorem Zdq {α:Type} {p:α→Bool} {xs:List α} {k:Nat} {x:α} (hx:xs[k]? = some x) (h:p x=false):xs.all p=false:=by
 rw [List.all_eq_false];exact ⟨x,List.mem_of_getElem? hx,by simp [h]⟩
theorem ZeZ {α:Type} {p:α→Bool} {xs:List α} (h :∀y,y∈xs→p y=true):xs.all p=true:=List.all_eq_true.2 h
def Zeq (a b:DFolder):Bool:=Op.bytesLess a.owner b.owner || (decide (a.owner=b.owner) && Op.bytesLess a.name b.name)
theorem Zdo (a:Str):Op.bytesLess a a=false:=by
 have:=Zbt a a
 cases h:Op.bytesLess a a with
 | false=>rfl
 | true=>rw [h] at this;simp at this
end Go.BL
namespace Go.BL
open Go
inductive Prev {α β:Type} (f:α→β) (z:β) (xs:List α):Nat→β→Prop
 | zero:Prev f z xs 0 z
 | succ {k:Nat} {x:α} : xs[k]? = some x→Prev f z xs (k+1) (f x)
theorem Prev.at {α β:Type} {f:α→β} {z:β} {xs:List α} {k:Nat} {b:β} {y:α} (h:Prev f z xs k b) (hy:xs[((k:Int) - 1).toNat]? = some y) (hk:0<(k:Int)):b=f y:=by
 cases h with
 | zero=>omega
 | succ hx=>
  rename_i k x
  rw [show (((k+1:Nat):Int) - 1).toNat=k from by omega,hx] at hy
  cases hy;rfl
theorem Prev.at0 {α β:Type} {f:α→β} {z:β} {xs:List α} {k:Nat} {b:β} (h:Prev f z xs k b) (hk:(k:Int)≤0):b=z:=by
 cases h with
 | zero=>rfl
 | succ hx=>omega
theorem ZiL {α β:Type} {p:β→α→Bool} {nx:β→α→β} {b0 b:β} {xs:List α} {k:Nat} {x:α} (hx:xs[k]? = some x) (hs:scn p nx b0 (xs.take k)=(true,b)) (h:p b x=false):(scn p nx b0 xs).1=false:=
 Zfq hx (by rw [congrArg Prod.snd hs];exact h)
theorem ZcZ {us:List DUser} {k:Nat} {x:DUser} {nm:Str} (hx:us[k]? = some x) (hs:ZdV (us.take k)=(true,nm)) (h:Zej nm x=false):Zax us=false:=
 Zfl (ZiL hx hs h)
theorem ZmF {s:Str} (h:0<s.length):Op.bytesLess [] s=true:=by
 cases s with
 | nil=>cases h
 | cons a s=>rfl
theorem Zij {s:Str} (h:Zas s=true):0<s.length:=by
 cases s with
 | nil=>simp [Zas] at h
 | cons a s=>simp
def ZbY (b:Str) (g:DGrant):Bool:=Zas g.user && (decide (1≤g.rights) && decide (g.rights≤63)) && Op.bytesLess b g.user
def ZcD (gs:List DGrant):Bool × Str:=scn ZbY (fun _ g=>g.user) [] gs
def ZcP (gs:List DGrant):Bool:=(ZcD gs).1 && decide (gs.length≤4)
theorem Zdd {gs:List DGrant} {k:Nat} {x:DGrant} {nm:Str} (hx:gs[k]? = some x) (hs:ZcD (gs.take k)=(true,nm)) (h:ZbY nm x=false):ZcP gs=false:=by
 rw [ZcP,show (ZcD gs).1=false from ZiL hx hs h,Bool.false_and]
theorem ZkS {gs:List DGrant} {b:Str} (h:ZcD gs=(true,b)):ZcP gs=decide (gs.length≤4):=by rw [ZcP,h,Bool.true_and]
def DFolder.box (f:DFolder):DBox:=⟨f.next,f.mail⟩
def inbox:Str:=[105,110,98,111,120]
def Z3 (us:List DUser) (f:DFolder):Bool:=decide (0≤Zeu us f.owner) && Zas f.name && ZcP f.grants && ZcF f.box
def Zbo (us:List DUser) (b:Option DFolder) (f:DFolder):Bool:=Z3 us f && (match b with | none=>true | some y=>Zeq y f)
def ZcU (us:List DUser) (fs:List DFolder):Bool × Option DFolder:=scn (Zbo us) (fun _ f=>some f) none fs
def Zca (us:List DUser) (fs:List DFolder):Bool:=(ZcU us fs).1 && decide (fs.length≤8)
theorem Zb9 {us:List DUser} {fs:List DFolder} {k:Nat} {x:DFolder} {b:Option DFolder} (hx:fs[k]? = some x) (hs:ZcU us (fs.take k)=(true,b)) (h:Zbo us b x=false):Zca us fs=false:=by
 rw [Zca,show (ZcU us fs).1=false from ZiL hx hs h,Bool.false_and]
theorem Zjb {us:List DUser} {fs:List DFolder} {b:Option DFolder} (h:ZcU us fs=(true,b)):Zca us fs=decide (fs.length≤8):=by rw [Zca,h,Bool.true_and]
def Zdz (fs:List DFolder) (u:Str):Nat:=(fs.map fun f=>if f.owner=u then ZaA f.mail else 0).sum
theorem Zib {fs:List DFolder} {u:Str} {k:Nat} {x:DFolder} (hx:fs[k]? = some x):Zdz (fs.take (k+1)) u=Zdz (fs.take k) u+if x.owner=u then ZaA x.mail else 0:=by
 have:fs.take (k+1)=fs.take k ++ [x]:=by rw [List.take_add_one,hx];rfl
 simp [Zdz,this]
theorem Zox {fs:List DFolder} {u:Str} {k n:Nat} (h:n=Zdz (fs.take k) u) (hk:fs.length≤k):n=Zdz fs u:=by rwa [List.take_of_length_le hk] at h
def Zkl (us:List DUser) (ns:List Str):Bool:=ns.all fun n=>decide (0≤Zeu us n)
def Za3 (fs:List DFolder) (u:DUser):Bool:=decide (0≤ZbR (inF u.name inbox) fs) && decide ((Zdz fs u.name:Int)≤u.quota)
def ZaS (us:List DUser) (x:DItem):Bool:=decide (0≤Zeu us x.fr) && Zkl us x.left
def Z9 (h:DHost):Bool:=ZcI h.domain && Zax h.users && ZaX h.queue && Zca h.users h.folders && h.users.all (Za3 h.folders) && h.queue.items.all (ZaS h.users)
theorem Zaq {B:Kn} {q:Option Addr} {cp:Nat} {ms:List DMail} (h:SlK B q cp 3 Z6 ms):ZaA ms≤4000000000000:=by
 have h1 :∀m,m∈ms→m.text.length≤2000000:=fun m hm=>by
  obtain ⟨i,hi⟩:=List.mem_iff_getElem?.1 hm
  obtain ⟨b,o,row,_,h2,_⟩:=h.rows i m hi
  exact h2.2
 have h2 :∀l:List DMail,(∀m,m∈l→m.text.length≤2000000)→ZaA l≤l.length*2000000:=by
  intro l
  induction l with
  | nil=>intro _;simp [ZaA]
  | cons m l ih=>
   intro hl
   have:=ih fun y hy=>hl y (List.mem_cons_of_mem _ hy)
   have:=hl m (List.mem_cons_self ..)
   simp only [ZaA,List.map_cons,List.sum_cons,List.length_cons] at *
   omega
 have:=h2 ms h1
 have:=h.len
 omega
theorem Zhy {h:DHost} {k:Nat} {u:DUser} (hu:h.users[k]? = some u) (hf:Za3 h.folders u=false):Z9 h=false:=by
 rw [Z9,Zdq hu hf,Bool.and_false,Bool.false_and]
theorem Zhz {h:DHost} {k:Nat} {y:DItem} (hy:h.queue.items[k]? = some y) (hf:ZaS h.users y=false):Z9 h=false:=by
 rw [Z9,Zdq hy hf,Bool.and_false]
theorem ZnL {h:DHost} (h1:ZcI h.domain=true) (h2:Zax h.users=true) (h3:ZaX h.queue=true) (h4:Zca h.users h.folders=true) (h5:h.users.all (Za3 h.folders)=true) (h6:h.queue.items.all (ZaS h.users)=true):Z9 h=true:=by
 rw [Z9,h1,h2,h3,h4,h5,h6];rfl
theorem ZjM {fs:List DFolder} {u:DUser} (h:ZbR (inF u.name inbox) fs<0):Za3 fs u=false:=by
 rw [Za3,decide_eq_false (by omega),Bool.false_and]
theorem ZjL {fs:List DFolder} {u:DUser} (h:u.quota<Zdz fs u.name):Za3 fs u=false:=by
 rw [Za3,decide_eq_false (p:=(Zdz fs u.name:Int)≤u.quota) (by omega),Bool.and_false]
theorem ZjK {fs:List DFolder} {u:DUser} (h:0≤ZbR (inF u.name inbox) fs) (h':(Zdz fs u.name:Int)≤u.quota):Za3 fs u=true:=by
 rw [Za3,decide_eq_true h,decide_eq_true h'];rfl
theorem Zi3 {us:List DUser} {x:DItem} (h:Zeu us x.fr<0):ZaS us x=false:=by rw [ZaS,decide_eq_false (by omega),Bool.false_and]
theorem Zi2 {us:List DUser} {x:DItem} (h:Zkl us x.left=false):ZaS us x=false:=by rw [ZaS,h,Bool.and_false]
theorem Zi1 {us:List DUser} {x:DItem} (h:0≤Zeu us x.fr) (h':Zkl us x.left=true):ZaS us x=true:=by rw [ZaS,decide_eq_true h,h'];rfl
theorem ZeP :∀{a b c:Str},Op.bytesLess a b=true→Op.bytesLess b c=true→Op.bytesLess a c=true
 | [],[],_,h,_=>by simp [Op.bytesLess] at h
 | _ :: _,[],_,h,_=>by simp [Op.bytesLess] at h
 | _,_ :: _,[],_,h=>by simp [Op.bytesLess] at h
 | [],_ :: _,_ :: _,_,_=>by simp [Op.bytesLess]
 | a :: x,b :: y,c :: z,h,h'=>by
  simp only [Op.bytesLess,Bool.or_eq_true,decide_eq_true_eq,Bool.and_eq_true,beq_iff_eq] at h h' ⊢
  rcases h with h | ⟨rfl,h⟩
  ·rcases h' with h' | ⟨rfl,h'⟩
   ·exact .inl (UInt8.lt_trans h h')
   ·exact .inl h
  ·rcases h' with h' | ⟨rfl,h'⟩
   ·exact .inl h'
   ·exact .inr ⟨rfl,ZeP h h'⟩
def Zer (gs:List DGrant):List (Str × Int):=gs.map fun g=>(g.user,g.rights)
theorem ZgO :∀(xs:List DGrant) (b0 b:Str),xs.foldl (fun s x=>(s.1 && ZbY s.2 x,x.user)) (true,b0)=(true,b)→(∀y,y∈xs→y.user=b∨Op.bytesLess y.user b=true)∧(b=b0∨Op.bytesLess b0 b=true)
 | [],b0,b,h=>by
  cases h;exact ⟨by simp,.inl rfl⟩
 | x :: xs,b0,b,h=>by
  simp only [List.foldl_cons,Bool.true_and] at h
  cases hp:ZbY b0 x with
  | false=>
   rw [hp] at h
   have:=Zb5 (p:=ZbY) (nx:=fun _ g=>g.user) xs x.user
   rw [h] at this;cases this
  | true=>
   rw [hp] at h
   obtain ⟨h1,h2⟩:=ZgO xs x.user b h
   have hl:Op.bytesLess b0 x.user=true:=by
    simp only [ZbY,Bool.and_eq_true] at hp;exact hp.2
   refine ⟨fun y hy=>?_,.inr ?_⟩
   ·rcases List.mem_cons.1 hy with rfl | hy
    ·rcases h2 with h2 | h2
     ·exact .inl h2.symm
     ·exact .inr h2
    ·exact h1 y hy
   ·rcases h2 with rfl | h2
    ·exact hl
    ·exact ZeP hl h2
theorem ZrR {kvs:List (Str × Int)} {k:Str} {v:Int} (h:k ∉ kvs.map (·.1)):mput kvs k v=kvs ++ [(k,v)]:=by
 induction kvs with
 | nil=>rfl
 | cons p r ih=>
  simp only [List.map_cons,List.mem_cons,not_or] at h
  simp only [mput,if_neg h.1,ih h.2,List.cons_append]
theorem Zt8 {gs:List DGrant} {k:Nat} {m:DGrant} {nm:Str} (hm:gs[k]? = some m) (hs:ZcD (gs.take k)=(true,nm)) (hl:Op.bytesLess nm m.user=true):mput (Zer (gs.take k)) m.user m.rights=Zer (gs.take (k+1)):=by
 have h1:=(ZgO _ _ _ hs).1
 rw [ZrR]
 ·rw [Zer,Zer,List.take_add_one,hm];simp
 ·intro hc
  simp only [Zer,List.map_map,List.mem_map,Function.comp] at hc
  obtain ⟨y,hy,e⟩:=hc
  rcases h1 y hy with h | h
  ·rw [← e,h,Zdo] at hl;cases hl
  ·rw [e] at h
   have:=ZeP hl h
   rw [Zdo] at this;cases this
def Zmf (gs:List DGrant) (B:Kn):Value→Kn→List Cells→Prop:=fun v B' Ls=>∃m l,v = .tuple #[.map m,.bool (ZcP gs)]∧Ls=[l]∧B'=B∧(ZcP gs=true→∃b,m=some b∧ZuV l b (Zer gs))
theorem ZhK {P:PJ} {S:Env} {B:Kn} {L:List Cells} {rs:List ResultVar} {gs:List DGrant} (e:Exit) (he:e = .ret∨e = .normal) (vs:List Value) (hr:ZbE P S B L rs vs) (h:ZcP gs=false) (hv:ZcA vs = .tuple #[.map none,.bool false]:=by rfl):ZfH P rs (Zmf gs B) e S [] B L:=
 ZzR e he vs hr ⟨none,[],by rw [hv,h],rfl,rfl,fun hc=>by rw [h] at hc;cases hc⟩
theorem ZuE {P:PJ} {S:Env} {B:Kn} {L:List Cells} {rs:List ResultVar} {gs:List DGrant} (e:Exit) (he:e = .ret∨e = .normal) (vs:List Value) {b:Nat} {l:Cells} {r:List Cells} (hp:Zaw L [0]=some ([l],r)) (hr:ZbE P S B L rs vs) (h:ZcP gs=true) (hm:ZuV l b (Zer gs)) (hv:ZcA vs = .tuple #[.map (some b),.bool true]:=by rfl):ZfH P rs (Zmf gs B) e S [] B L:=
 ZeC e he vs [0] hp hr ⟨some b,l,by rw [hv,h],rfl,rfl,fun _=>⟨b,rfl,hm⟩⟩
def Zwk (f:DFolder) (ow nm:Str):Int:=if Lib.compareBytes f.owner ow≠0 then Lib.compareBytes f.owner ow else Lib.compareBytes f.name nm
theorem ZkH (f g:DFolder):0≤Zwk f g.owner g.name↔Zeq f g=false:=by
 have h1:=Zl9 f.owner g.owner
 have h2:=Zl9 f.name g.name
 unfold Zwk Zeq
 by_cases e:f.owner=g.owner
 ·have e0:=h1.2.2 e
  have e1:Op.bytesLess f.owner g.owner=false:=by rw [e];exact Zdo _
  rw [if_neg (fun h=>h e0),e1,decide_eq_true e,Bool.true_and,Bool.false_or,Bool.eq_false_iff,ne_eq,← h2.1];omega
 ·have e0:Lib.compareBytes f.owner g.owner≠0:=fun h=>e (h1.2.1 h)
  rw [if_pos e0,decide_eq_false e,Bool.false_and,Bool.or_false,Bool.eq_false_iff,ne_eq,← h1.1];omega
def Zfm (fs:List DFolder) (u:Str):Int:=(fs.map fun f=>if f.owner=u then Zdw ⟨f.next,f.mail⟩ else 0).sum
theorem Zia {fs:List DFolder} {u:Str} {k:Nat} {x:DFolder} (hx:fs[k]? = some x):Zfm (fs.take (k+1)) u=Zfm (fs.take k) u+if x.owner=u then Zdw ⟨x.next,x.mail⟩ else 0:=by
 have:fs.take (k+1)=fs.take k ++ [x]:=by rw [List.take_add_one,hx];rfl
 simp [Zfm,this]
theorem Zow {fs:List DFolder} {u:Str} {k:Nat} {n:Int} (h:n=Zfm (fs.take k) u) (hk:fs.length≤k):n=Zfm fs u:=by rwa [List.take_of_length_le hk] at h
theorem ZmH :∀(xs:List DMail) (b0 b:Int),xs.foldl (fun s x=>(s.1 && ZcC s.2 x,x.uid)) (true,b0)=(true,b)→∀y,y∈xs→Zcj y=true
 | [],_,_,_,_,h=>by cases h
 | x :: xs,b0,b,h,y,hy=>by
  simp only [List.foldl_cons,Bool.true_and] at h
  cases hp:ZcC b0 x with
  | false=>
   rw [hp] at h
   have:=Zb5 (p:=ZcC) (nx:=fun _ m=>m.uid) xs x.uid
   rw [h] at this;cases this
  | true=>
   rw [hp] at h
   rcases List.mem_cons.1 hy with rfl | hy
   ·simp only [ZcC,Bool.and_eq_true] at hp;exact hp.1
   ·exact ZmH xs x.uid b h y hy
theorem ZfF {b:DBox} (h:ZcF b=true):(∀y,y∈b.mail→Zcj y=true)∧b.mail.length≤10:=by
 simp only [ZcF,Bool.and_eq_true,decide_eq_true_eq] at h
 exact ⟨ZmH b.mail 0 (ZcN b.mail).2 (Prod.ext h.1.1 rfl),h.2⟩
theorem Zhi :∀l:List DMail,(∀m,m∈l→Zcj m=true)→ZaA l≤l.length*20
 | [],_=>by simp [ZaA]
 | m :: l,h=>by
  have h1:=Zhi l fun y hy=>h y (List.mem_cons_of_mem _ hy)
  have h2:=h m (List.mem_cons_self ..)
  simp only [Zcj,Bool.and_eq_true,decide_eq_true_eq] at h2
  simp only [ZaA,List.map_cons,List.sum_cons,List.length_cons] at *
  omega
theorem ZiB (b:DBox) : -1≤Zdw b∧Zdw b≤200:=by
 unfold Zdw
 split
 ·rename_i h
  obtain ⟨h1,h2⟩:=ZfF h
  have:=Zhi _ h1
  omega
 ·omega
theorem Zrg (fs:List DFolder) (u:Str) : -1*fs.length≤Zfm fs u∧Zfm fs u≤fs.length*200:=by
 induction fs with
 | nil=>simp [Zfm]
 | cons f fs ih=>
  have:=ZiB ⟨f.next,f.mail⟩
  simp only [Zfm,List.map_cons,List.sum_cons,List.length_cons] at *
  split <;> omega
def Zd8 (x:DHost) (u:Str) (more:Int):Bool:=!(ZaH x.users u).2 || decide ((ZaH x.users u).1.quota<Zfm x.folders u+more)
def Zcw (x:DHost) (w:DUser):Bool:=decide (0≤ZbR (inF w.name inbox) x.folders) && !Zd8 x w.name 0
theorem ZjP {x:DHost} {w:DUser} (h:ZbR (inF w.name inbox) x.folders<0):Zcw x w=false:=by rw [Zcw,decide_eq_false (by omega),Bool.false_and]
theorem ZjO {x:DHost} {w:DUser} (h:Zd8 x w.name 0=true):Zcw x w=false:=by rw [Zcw,h];simp
theorem ZjN {x:DHost} {w:DUser} (h:0≤ZbR (inF w.name inbox) x.folders) (h':Zd8 x w.name 0=false):Zcw x w=true:=by rw [Zcw,h',decide_eq_true h];rfl
def Zhe (x:DHost):Bool:=x.users.all (Zcw x)
def ZuX:Rel Bool:=fun _ row x=>row=[.bool x]
def ZaI (us:List DUser) (f:DFolder):Bool:=(ZaH us f.owner).2 && Zas f.name && ZcP f.grants && ZcF f.box
theorem ZgS (C i:Nat):(some (ptr (Addr.add ⟨C,0,none⟩ ((i:Int).toNat*1))):Option Value)=some (ptr ⟨C,i,none⟩):=by
 rw [Addr.add_off _ _ rfl];simp
def ZqT (x:DHost) (i:Nat):Value:=.bool (match x.folders[i]? with | some m=>ZaI x.users m | none=>false)
theorem Zmn {x:DHost} {i:Nat} {m:DFolder} (h:x.folders[i]? = some m):ZqT x i = .bool (ZaI x.users m):=by simp [ZqT,h]
theorem Zou {B:Kn} {x:DHost} {C:Nat} {T:TypeId} (hm :∀p,p∈[(C,Obj.cells ((List.range x.folders.length).map (ZqT x)).toArray T (0,0))]→B.mem p.1=some p.2) (hl:x.folders.length≤2000000):SlK B (some ⟨C,0,none⟩) (x.folders.map (ZaI x.users)).length 1 ZuX (x.folders.map (ZaI x.users)):=by
 refine ⟨fun i y hy=>⟨C,0,[.bool y],rfl,rfl,fun j u hu=>?_⟩,by simp,by simpa using hl⟩
 have hj:j=0:=by
  cases j with
  | zero=>rfl
  | succ j=>simp at hu
 subst hj
 simp only [List.getElem?_cons_zero,Option.some.injEq] at hu
 subst hu
 rw [List.getElem?_map] at hy
 obtain ⟨m,hm',rfl⟩:=Option.map_eq_some_iff.1 hy
 have hi:i<x.folders.length:=(List.getElem?_eq_some_iff.1 hm').1
 refine ⟨rfl,_,T,(0,0),.inl (hm _ (List.mem_singleton.2 rfl)),?_⟩
 simp only [Nat.mul_one,Nat.zero_add,Nat.add_zero,List.getElem?_toArray,List.getElem?_map,List.getElem?_range hi,Option.map_some,Zmn hm']
theorem Zjs {us:List DUser} {fs:List DFolder} : (!decide (0≤ZbR (fun y=>decide (false=y)) (fs.map (ZaI us))))=fs.all (ZaI us):=by
 by_cases h :∀f,f∈fs→ZaI us f=true
 ·rw [List.all_eq_true.2 h,Zev (fun y hy=>by
   obtain ⟨f,hf,rfl⟩:=List.mem_map.1 hy
   simp [h f hf])]
  rfl
 ·have h2:fs.all (ZaI us)=false:=by
   rw [Bool.eq_false_iff,ne_eq,List.all_eq_true];exact h
  rw [h2]
  have h3 :∃k,(fs.map (ZaI us)).findIdx? (fun y=>decide (false=y))=some k:=by
   cases hk:(fs.map (ZaI us)).findIdx? (fun y=>decide (false=y)) with
   | some k=>exact ⟨k,rfl⟩
   | none=>
    exfalso;apply h
    intro f hf
    have:=List.findIdx?_eq_none_iff.1 hk (ZaI us f) (List.mem_map_of_mem hf)
    cases hq:ZaI us f with
    | true=>rfl
    | false=>rw [hq] at this;simp at this
  obtain ⟨k,hk⟩:=h3
  have e:ZbR (fun y=>decide (false=y)) (fs.map (ZaI us))=(k:Int):=by unfold ZbR;rw [hk]
  rw [e];simp
def ZkW:List DFolder→Bool
 | []=>true
 | [_]=>true
 | a :: b :: r=>Zeq a b && ZkW (b :: r)
def Zc7 (x:DHost):Bool:=ZcI x.domain && Zax x.users && ZaX x.queue && decide (x.folders.length≤8) && ZkW x.folders && (x.folders.all (ZaI x.users) && Zhe x && x.queue.items.all (ZcO x.users))
def ZsK (fs:List DFolder) (k:Nat):Prop:=∀i a b,i<k→fs[i]? = some a→fs[i+1]? = some b→Zeq a b=true
theorem Zns {fs:List DFolder} : ZsK fs 0:=fun i a b h=>by omega
theorem Znt {fs:List DFolder} {k:Nat} {x y:DFolder} (h:ZsK fs k) (hx:fs[k]? = some x) (hy:fs[k+1]? = some y) (hl:Zeq x y=true):ZsK fs (k+1):=fun i a b hi ha hb=>by
 rcases Nat.lt_or_ge i k with h' | h'
 ·exact h i a b h' ha hb
 ·obtain rfl:i=k:=by omega
  rw [hx] at ha;rw [hy] at hb
  cases ha;cases hb;exact hl
theorem ZgU :∀(fs:List DFolder),ZkW fs=true↔∀i a b,fs[i]? = some a→fs[i+1]? = some b→Zeq a b=true
 | []=>by simp [ZkW]
 | [_]=>by simp [ZkW]
 | x :: y :: r=>by
  rw [ZkW,Bool.and_eq_true,ZgU (y :: r)]
  constructor
  ·rintro ⟨h1,h2⟩ i a b ha hb
   cases i with
   | zero=>simp at ha hb;rw [← ha,← hb];exact h1
   | succ i=>exact h2 i a b (by simpa using ha) (by simpa using hb)
  ·intro h
   exact ⟨h 0 x y rfl rfl,fun i a b ha hb=>h (i+1) a b (by simpa using ha) (by simpa using hb)⟩
theorem ZrI {fs:List DFolder} {k:Nat} {x y:DFolder} (hx:fs[k]? = some x) (hy:fs[k+1]? = some y) (hl:Zeq x y=false):ZkW fs=false:=by
 rw [Bool.eq_false_iff,ne_eq,ZgU]
 intro h
 have:=h k x y hx hy
 rw [hl] at this;cases this
theorem ZrH {fs:List DFolder} (h :∀i a b,i<fs.length - 1→fs[i]? = some a→fs[i+1]? = some b→Zeq a b=true):ZkW fs=true:=
 (ZgU fs).2 fun i a b ha hb=>h i a b (by have:=(List.getElem?_eq_some_iff.1 hb).1;omega) ha hb
theorem Zfr {α:Type} {p:Str→α→Bool} {f:α→Str} (hp :∀b x,p b x=true→Op.bytesLess b (f x)=true) :∀(xs:List α) (b0 b:Str),xs.foldl (fun s x=>(s.1 && p s.2 x,f x)) (true,b0)=(true,b)→(∀y,y∈xs→Op.bytesLess b0 (f y)=true)∧xs.Pairwise (fun x y=>Op.bytesLess (f x) (f y)=true)
 | [],_,_,_=>⟨by simp,.nil⟩
 | x :: xs,b0,b,h=>by
  simp only [List.foldl_cons,Bool.true_and] at h
  cases hq:p b0 x with
  | false=>
   rw [hq] at h
   have:=Zb5 (p:=p) (nx:=fun _ g=>f g) xs (f x)
   rw [h] at this;cases this
  | true=>
   rw [hq] at h
   obtain ⟨h1,h2⟩:=Zfr hp xs (f x) b h
   refine ⟨fun y hy=>?_,.cons h1 h2⟩
   rcases List.mem_cons.1 hy with rfl | hy
   ·exact hp _ _ hq
   ·exact ZeP (hp _ _ hq) (h1 y hy)
theorem Ze8 {us:List DUser} (h:Zax us=true):us.Pairwise fun x y=>Op.bytesLess x.name y.name=true:=by
 simp only [Zax,Bool.and_eq_true] at h
 exact (Zfr (p:=Zej) (f:=fun u=>u.name) (fun b x hq=>by simp only [Zej,Bool.and_eq_true] at hq;exact hq.2) us [] (ZdV us).2 (Prod.ext h.1 rfl)).2
theorem Zfv {us:List DUser} {u:Str} : 0≤Zeu us u↔∃x,x∈us∧x.name=u:=by
 unfold Zeu
 cases h:us.findIdx? (fun x=>decide (x.name=u)) with
 | none=>
  have:=List.findIdx?_eq_none_iff.1 h
  simp only [decide_eq_false_iff_not] at this
  exact ⟨fun hc=>absurd hc (by simp only [];omega),fun ⟨x,hx,e⟩=>absurd e (this x hx)⟩
 | some i=>
  rw [List.findIdx?_eq_some_iff_getElem] at h
  obtain ⟨hi,h1,_⟩:=h
  exact ⟨fun _=>⟨us[i],List.getElem_mem hi,by simpa using h1⟩,fun _=>by simp only [];omega⟩
theorem Zp8 {us:List DUser} {t:DUser→Bool} : (ZfB t us).2=true↔∃x,x∈us∧t x=true:=by
 unfold ZfB
 cases h:us.find? t with
 | none=>simp only [Bool.false_eq_true,false_iff];rintro ⟨x,hx,e⟩;have:=List.find?_eq_none.1 h x hx;exact this e
 | some x=>simp only [true_iff];exact ⟨x,List.mem_of_find?_eq_some h,List.find?_some h⟩
theorem Zdk {us:List DUser} (h:Zax us=true) (n:Str):(ZaH us n).2=decide (0≤Zeu us n):=by
 rw [ZaH,if_pos h,Bool.eq_iff_iff,Zp8,decide_eq_true_eq,Zfv];simp
theorem ZfA :∀{us:List DUser},us.Pairwise (fun x y=>Op.bytesLess x.name y.name=true)→∀w,w∈us→us.find? (fun y=>decide (y.name=w.name))=some w
 | [],_,w,h=>by cases h
 | x :: us,hp,w,h=>by
  cases hp with
  | cons h1 h2=>
   rw [List.find?_cons]
   rcases List.mem_cons.1 h with rfl | h
   ·simp
   ·have hne:x.name≠w.name:=fun e=>by
     have:=h1 w h
     rw [e,Zdo] at this;cases this
    simp only [hne,decide_false]
    exact ZfA h2 w h
theorem ZiH {us:List DUser} (h:Zax us=true) {w:DUser} (hw:w∈us):ZaH us w.name=(w,true):=by
 rw [ZaH,if_pos h,ZfB,ZfA (Ze8 h) w hw]
theorem ZnU {us:List DUser} (h:Zax us=true) (f:DFolder):ZaI us f=Z3 us f:=by
 rw [ZaI,Z3,Zdk h]
theorem Zef {us:List DUser} :∀(fs:List DFolder) (b0:Option DFolder),(fs.foldl (fun s x=>(s.1 && Zbo us s.2 x,some x)) (true,b0)).1=(fs.all (Z3 us) && ZkW ((match b0 with | none=>[] | some y=>[y]) ++ fs))
 | [],none=>rfl
 | [],some y=>rfl
 | x :: fs,b0=>by
  simp only [List.foldl_cons,Bool.true_and]
  have hstep:(fs.foldl (fun (s:Bool × Option DFolder) x=>(s.1 && Zbo us s.2 x,some x)) (Zbo us b0 x,some x)).1=(Zbo us b0 x && (fs.all (Z3 us) && ZkW (x :: fs))):=by
   cases hq:Zbo us b0 x with
   | false=>rw [Bool.false_and];exact Zb5 (p:=Zbo us) (nx:=fun _ f=>some f) fs (some x)
   | true=>rw [Bool.true_and];exact Zef fs (some x)
  rw [hstep]
  cases b0 with
  | none=>
   simp only [Zbo,Bool.and_true,List.all_cons,List.nil_append]
   cases Z3 us x <;> simp
  | some y=>
   simp only [Zbo,List.all_cons,List.cons_append,List.nil_append,ZkW]
   cases Z3 us x <;> cases Zeq y x <;> simp
theorem Zey {us:List DUser} {fs:List DFolder} : Zca us fs=(fs.all (Z3 us) && ZkW fs && decide (fs.length≤8)):=by
 rw [Zca,show (ZcU us fs).1=_ from Zef fs none];rfl
theorem Zmo {us:List DUser} {u:Str} :∀{fs:List DFolder},fs.all (Z3 us)=true→Zfm fs u=(Zdz fs u:Int)
 | [],_=>rfl
 | f :: fs,h=>by
  simp only [List.all_cons,Bool.and_eq_true] at h
  have ih:=Zmo (u:=u) h.2
  have hb:ZcF ⟨f.next,f.mail⟩=true:=by
   have:=h.1;simp only [Z3,Bool.and_eq_true] at this;exact this.2
  simp only [Zfm,Zdz,List.map_cons,List.sum_cons] at ih ⊢
  rw [ih]
  by_cases he:f.owner=u
  ·simp [he,Zdw,hb]
  ·simp [he]
theorem Zk5 {x:DHost} (hu:Zax x.users=true) (hf:x.folders.all (Z3 x.users)=true) {w:DUser} (hw:w∈x.users):Zcw x w=Za3 x.folders w:=by
 rw [Zcw,Za3,Zd8,ZiH hu hw,Zmo hf]
 simp only [Bool.not_true,Bool.false_or,Int.add_zero]
 congr 1
 rw [Bool.eq_iff_iff];simp
theorem ZlJ {us:List DUser} (h:Zax us=true) (y:DItem):ZcO us y=ZaS us y:=by
 rw [ZcO,ZaS,Zdk h,Zkl]
 simp only [Zdk h]
theorem ZqK {α:Type} {p q:α→Bool} {xs:List α} (h :∀x,x∈xs→p x=q x):xs.all p=xs.all q:=by
 rw [Bool.eq_iff_iff,List.all_eq_true,List.all_eq_true]
 exact ⟨fun a x hx=>h x hx ▸ a x hx,fun a x hx=>(h x hx).symm ▸ a x hx⟩
theorem ZnM (x:DHost):Zc7 x=Z9 x:=by
 cases hu:Zax x.users with
 | false=>simp [Zc7,Z9,hu]
 | true=>
  have e1:x.folders.all (ZaI x.users)=x.folders.all (Z3 x.users):=ZqK fun f _=>ZnU hu f
  have e2:x.queue.items.all (ZcO x.users)=x.queue.items.all (ZaS x.users):=ZqK fun y _=>ZlJ hu y
  rw [Zc7,Z9,hu,e1,e2,Zey]
  cases hf:x.folders.all (Z3 x.users) with
  | false=>simp
  | true=>
   have e3:Zhe x=x.users.all (Za3 x.folders):=ZqK fun w hw=>Zk5 hu hf hw
   rw [e3]
   cases ZcI x.domain <;> cases ZaX x.queue <;> cases ZkW x.folders <;> cases decide (x.folders.length≤8) <;> simp
end Go.BL
namespace Go.BL
open Go
theorem ZgL {x:DHost} (h:Z9 x=true):Zax x.users=true:=by
 simp only [Z9,Bool.and_eq_true] at h;exact h.1.1.1.1.2
theorem ZlO {x:DHost} (h:Z9 x=true) (n:Str):(ZaH x.users n).2=decide (0≤Zeu x.users n):=Zdk (ZgL h) n
theorem Zsk {us:List DUser} {n:Str} (h:0≤Zeu us n) {x:DUser} (hx:us[(Zeu us n).toNat]? = some x):ZfB (fun y=>decide (y.name=n)) us=(x,true):=by
 unfold Zeu at h hx
 cases hf:us.findIdx? (fun x=>decide (x.name=n)) with
 | none=>rw [hf] at h;simp at h
 | some i=>
  rw [hf] at hx
  simp only [Int.toNat_natCast] at hx
  rw [List.findIdx?_eq_some_iff_getElem] at hf
  obtain ⟨hi,h1,h2⟩:=hf
  rw [List.getElem?_eq_getElem hi] at hx
  cases hx
  have:us.find? (fun y=>decide (y.name=n))=some us[i]:=by
   rw [List.find?_eq_some_iff_getElem]
   exact ⟨h1,i,hi,rfl,fun j hj=>by simpa using h2 j hj⟩
  rw [ZfB,this]
structure DSess where
 user:Str
 owner:Str
 name:Str
deriving DecidableEq
theorem Zug (us:List DUser) (n:Str):Zeu us n<us.length∧Zeu us n ≥ -1:=by
 unfold Zeu
 cases hf:us.findIdx? (fun x=>decide (x.name=n)) with
 | none=>simp only [];omega
 | some i=>
  rw [List.findIdx?_eq_some_iff_getElem] at hf
  obtain ⟨hi,_⟩:=hf
  simp only [];omega
end Go.BL
namespace Go.BL
open Go
def Zdn:DHost:=⟨[],[],[],⟨0,[]⟩⟩
theorem Zlg {α β:Type} {p:β→α→Bool} {nx:β→α→β} :∀(xs:List α) (b:β),(xs.foldl (fun (s:Bool × β) x=>(s.1 && p s.2 x,nx s.2 x)) (true,b)).1=true→∀x,x∈xs→∃b',p b' x=true
 | [],_,_,x,hx=>by cases hx
 | x :: xs,b,h,y,hy=>by
  simp only [List.foldl_cons,Bool.true_and] at h
  cases hq:p b x with
  | false=>
   rw [hq] at h
   have:=Zb5 (p:=p) (nx:=nx) xs (nx b x)
   rw [this] at h;cases h
  | true=>
   rw [hq] at h
   rcases List.mem_cons.1 hy with rfl | hy
   ·exact ⟨b,hq⟩
   ·exact Zlg xs _ h y hy
theorem ZjH {us:List DUser} (h:Zax us=true) {u:DUser} (hu:u∈us):ZcK u=true:=by
 simp only [Zax,Bool.and_eq_true] at h
 obtain ⟨b,hb⟩:=Zlg (p:=Zej) (nx:=fun _ u=>u.name) us [] h.1 u hu
 simp only [Zej,Bool.and_eq_true] at hb;exact hb.1
theorem Zhx {α:Type} (p:α→Bool) (xs:List α):ZbR p xs<xs.length∧ZbR p xs ≥ -1:=by
 unfold ZbR
 cases hf:xs.findIdx? p with
 | none=>simp only [];omega
 | some i=>
  rw [List.findIdx?_eq_some_iff_getElem] at hf
  obtain ⟨hi,_⟩:=hf
  simp only [];omega
end Go.BL
namespace Go.BL
open Go
def dig (k:Nat):Str:=[UInt8.ofNat (IntKind.u8.wrap (48+((k % 10:Nat):Int))).toNat]
def digs (k:Nat):Str:=if h:k=0 then [] else digs (k / 10) ++ dig k
termination_by k
decreasing_by omega
theorem ZkE:digs 0=[]:=by unfold digs;rfl
theorem ZmY {k:Nat} (h:0<k):digs k=digs (k / 10) ++ dig k:=by
 conv=>lhs;unfold digs
 rw [dif_neg (by omega)]
theorem Zjm :∀(n k:Nat),k<10 ^ n→(digs k).length≤n
 | n,0,_=>by rw [ZkE];simp
 | 0,k+1,h=>by simp at h
 | n+1,k+1,h=>by
  rw [ZmY (by omega),List.length_append]
  have h1:(k+1) / 10<10 ^ n:=by rw [Nat.pow_succ] at h;omega
  have:=Zjm n _ h1
  simp only [dig,List.length_cons,List.length_nil];omega
def ZT (k:Nat):Str:=if k=0 then [109,48] else 109 :: digs k
theorem Zb7 {k:Nat} (h:k≤1000000000000000):(ZT k).length≤20:=by
 unfold ZT
 split
 ·simp
 ·have:=Zjm 16 k (by omega)
  simp only [List.length_cons];omega
theorem Zqs {k0 k:Nat} {t:Str} (h:digs k0=digs k ++ t) (hk:0<k):digs k0=digs (k / 10) ++ (dig k ++ t):=by
 rw [h,ZmY hk,List.append_assoc]
theorem ZuN {k0 k:Nat} {t:Str} (h0:k0≤1000000000000000) (h:digs k0=digs k ++ t):t.length≤16:=by
 have h1:=Zjm 16 k0 (by omega)
 rw [h,List.length_append] at h1;omega
theorem Zbs {α:Type} {ys:List α} {i:Nat} {c:α} (h:i<ys.length):(ys.set i c).take (i+1)=ys.take i ++ [c]:=by
 rw [List.take_add_one,List.getElem?_set_self h,List.take_set_of_le (Nat.le_refl _)];rfl
def ZbQ (k n:Nat):List DMail:=(List.range n).map fun i=>⟨((k+3*i:Nat):Int),((k+3*i+1:Nat):Int),ZT (k+3*i+1+1)⟩
theorem ZaD (k n:Nat):(ZbQ k n).length=n:=by simp [ZbQ]
theorem Zka {ys:List DMail} {i k:Nat} {z1 z2 z3:DMail} (ht:ys.take i=ZbQ k i) (h1:ys[i]? = some z1) (h2:(ys.set i ⟨((k+3*i:Nat):Int),z1.flags,z1.text⟩)[i]? = some z2)
  (h3:((ys.set i ⟨((k+3*i:Nat):Int),z1.flags,z1.text⟩).set i ⟨z2.uid,((k+3*i+1:Nat):Int),z2.text⟩)[i]? = some z3) :
  (((ys.set i ⟨((k+3*i:Nat):Int),z1.flags,z1.text⟩).set i ⟨z2.uid,((k+3*i+1:Nat):Int),z2.text⟩).set i ⟨z3.uid,z3.flags,ZT (k+3*i+1+1)⟩).take (i+1)=ZbQ k (i+1):=by
 have hl:=(List.getElem?_eq_some_iff.1 h1).1
 rw [List.getElem?_set_self hl] at h2;cases h2
 rw [List.set_set,List.getElem?_set_self hl] at h3;cases h3
 rw [List.set_set,List.set_set,Zbs hl,ht,ZbQ,ZbQ,List.range_succ,List.map_append];rfl
def ZaC (k n:Nat):List DGrant:=(List.range n).map fun i=>⟨ZT (k+2*i),((k+2*i+1:Nat):Int)⟩
theorem Zat (k n:Nat):(ZaC k n).length=n:=by simp [ZaC]
theorem ZiS {ys:List DGrant} {i k:Nat} {z1 z2:DGrant} (ht:ys.take i=ZaC k i) (h1:ys[i]? = some z1) (h2:(ys.set i ⟨ZT (k+2*i),z1.rights⟩)[i]? = some z2) :
  ((ys.set i ⟨ZT (k+2*i),z1.rights⟩).set i ⟨z2.user,((k+2*i+1:Nat):Int)⟩).take (i+1)=ZaC k (i+1):=by
 have hl:=(List.getElem?_eq_some_iff.1 h1).1
 rw [List.getElem?_set_self hl] at h2;cases h2
 rw [List.set_set,Zbs hl,ht,ZaC,ZaC,List.range_succ,List.map_append];rfl
def Zcr (k n:Nat):List DUser:=(List.range n).map fun i=>⟨ZT (k+3*i),ZT (k+3*i+1),((k+3*i+1+1:Nat):Int)⟩
theorem Zbk (k n:Nat):(Zcr k n).length=n:=by simp [Zcr]
theorem Zj9 {ys:List DUser} {i k:Nat} {z1 z2 z3:DUser} (ht:ys.take i=Zcr k i) (h1:ys[i]? = some z1) (h2:(ys.set i ⟨ZT (k+3*i),z1.pass,z1.quota⟩)[i]? = some z2)
  (h3:((ys.set i ⟨ZT (k+3*i),z1.pass,z1.quota⟩).set i ⟨z2.name,ZT (k+3*i+1),z2.quota⟩)[i]? = some z3) :
  (((ys.set i ⟨ZT (k+3*i),z1.pass,z1.quota⟩).set i ⟨z2.name,ZT (k+3*i+1),z2.quota⟩).set i ⟨z3.name,z3.pass,((k+3*i+1+1:Nat):Int)⟩).take (i+1)=Zcr k (i+1):=by
 have hl:=(List.getElem?_eq_some_iff.1 h1).1
 rw [List.getElem?_set_self hl] at h2;cases h2
 rw [List.set_set,List.getElem?_set_self hl] at h3;cases h3
 rw [List.set_set,List.set_set,Zbs hl,ht,Zcr,Zcr,List.range_succ,List.map_append];rfl
def Zc5 (k n:Nat):List Str:=(List.range n).map fun i=>ZT (k+1*i)
theorem Zbb (k n:Nat):(Zc5 k n).length=n:=by simp [Zc5]
theorem Zls {ys:List Str} {i k:Nat} {z1:Str} (ht:ys.take i=Zc5 k i) (h1:ys[i]? = some z1):(ys.set i (ZT (k+1*i))).take (i+1)=Zc5 k (i+1):=by
 have hl:=(List.getElem?_eq_some_iff.1 h1).1
 rw [Zbs hl,ht,Zc5,Zc5,List.range_succ,List.map_append];rfl
theorem Zj8 {α:Type} {ys zs:List α} {i:Nat} (h:ys.take i=zs) (hi:ys.length≤i):ys=zs:=by rwa [List.take_of_length_le hi] at h
end Go.BL
namespace Go.BL
open Go
def Zcg (k:Nat):Int:=([1,2,4,8,16,32]:List Int).getD k 0
theorem ZqH {k:Nat} (h:k<6):(k=0∧Zcg k=1)∨(k=1∧Zcg k=2)∨(k=2∧Zcg k=4)∨(k=3∧Zcg k=8)∨(k=4∧Zcg k=16)∨(k=5∧Zcg k=32):=by
 have:k=0∨k=1∨k=2∨k=3∨k=4∨k=5:=by omega
 rcases this with rfl | rfl | rfl | rfl | rfl | rfl <;> simp [Zcg]
theorem ZqG {k:Nat} (h:k<6):0<Zcg k∧Zcg k≤32:=by rcases ZqH h with h | h | h | h | h | h <;> omega
theorem Zg1 {α:Type} {p:α→Bool} {xs:List α} {k:Nat} {x:α} (hx:xs[k]? = some x):(xs.take (k+1)).any p=((xs.take k).any p || p x):=by
 rw [ZaV hx,List.any_append];simp
theorem ZuR {α:Type} {p:α→Bool} {xs:List α} {k:Nat} {b:Bool} (h:b=(xs.take k).any p) (hk:xs.length≤k):b=xs.any p:=by rwa [List.take_of_length_le hk] at h
def onB (u:Str) (b:Int) (g:DGrant):Bool:=(decide (g.user=u) || decide (g.user=anyone)) && decide (Int.tmod (Int.tdiv g.rights b) 2=1)
def Zfe (gs:List DGrant) (u:Str):Nat→Int
 | 0=>0
 | k+1=>if gs.any (onB u (Zcg k))=true then Zfe gs u k+Zcg k else Zfe gs u k
theorem ZhS (gs:List DGrant) (u:Str) :∀k,k≤6→0≤Zfe gs u k∧Zfe gs u k≤100*k
 | 0,_=>by simp [Zfe]
 | k+1,h=>by
  have:=ZhS gs u k (by omega)
  have:=ZqG (k:=k) (by omega)
  simp only [Zfe]
  split <;> omega
def Zbf (gs:List DGrant) (u:Str):Int:=Zfe gs u 6
def ZkL (f:DFolder) (u:Str) (r:Int):Bool:=decide (u=f.owner) || decide (Int.tmod (Int.tdiv (Zbf f.grants u) r) 2=1)
def ZkJ (us:List DUser) (fs:List DFolder) (u:Str) (k:Int) (r:Int):Int:=
 if Zeu us u<0∨k<0 then 1 else match fs[k.toNat]? with
  | none=>1
  | some f=>if ZkL f u 1=false then 1 else if ZkL f u r=false then 2 else 0
theorem Zjq {us:List DUser} {fs:List DFolder} {u:Str} {k r:Int} (h:Zeu us u<0∨k<0):ZkJ us fs u k r=1:=by rw [ZkJ,if_pos h]
theorem ZqA {us:List DUser} {fs:List DFolder} {u:Str} {k r:Int} {f:DFolder} (h : ¬ (Zeu us u<0∨k<0)) (hf:fs[k.toNat]? = some f):ZkJ us fs u k r=if ZkL f u 1=false then 1 else if ZkL f u r=false then 2 else 0:=by
 rw [ZkJ,if_neg h,hf]
theorem Zqz (us:List DUser) (fs:List DFolder) (u:Str) (k r:Int):ZkJ us fs u k r=0∨ZkJ us fs u k r=1∨ZkJ us fs u k r=2:=by
 unfold ZkJ
 split
 ·simp
 ·split
  ·simp
  ·split
   ·simp
   ·split <;> simp
theorem ZkI {us:List DUser} {fs:List DFolder} {u:Str} {k r:Int} (h:ZkJ us fs u k r=0):0≤Zeu us u∧0≤k∧∃f,fs[k.toNat]? = some f∧ZkL f u 1=true∧ZkL f u r=true:=by
 unfold ZkJ at h
 split at h
 ·cases h
 ·split at h
  ·cases h
  ·rename_i f hf
   split at h
   ·cases h
   ·split at h
    ·cases h
    ·rename_i h1 h2 h3
     exact ⟨by omega,by omega,f,hf,by simpa using h2,by simpa using h3⟩
def DFolder.withBox (f:DFolder) (b:DBox):DFolder:=⟨f.owner,f.name,f.grants,b.next,b.mail⟩
def DHost.withFolders (x:DHost) (fs:List DFolder):DHost:=⟨x.domain,x.users,fs,x.queue⟩
def Zlk (us:List DUser) (n:Str):Int:=match us[(Zeu us n).toNat]? with | some w=>w.quota | none=>0
def Zct (n:Int):Bool:=decide (0≤n) && decide (n≤31)
def Zjn (m:DMail):Bool:=decide (Int.tmod (Int.tdiv m.flags 8) 2=1)
def Zbi (ms:List DMail):List DMail:=ms.filter fun m=>!Zjn m
def ZbJ (s:Nat × List Int) (m:DMail):Nat × List Int:=if Zjn m=true then (s.1,s.2 ++ [((s.1+1:Nat):Int)]) else (s.1+1,s.2)
def Zex (ms:List DMail):Nat × List Int:=ms.foldl ZbJ (0,[])
def expunge (b:DBox):DBox × List Int:=if ZcF b=true then (⟨b.next,Zbi b.mail⟩,(Zex b.mail).2) else (⟨0,[]⟩,[])
def atF (x:DHost) (s:DSess) (r:Int):Int × Int:=
 if ZkJ x.users x.folders s.user (ZbR (inF s.owner s.name) x.folders) 2≠0 then (ZbR (inF s.owner s.name) x.folders,ZkJ x.users x.folders s.user (ZbR (inF s.owner s.name) x.folders) 2)
 else (ZbR (inF s.owner s.name) x.folders,ZkJ x.users x.folders s.user (ZbR (inF s.owner s.name) x.folders) r)
def Zgt (x:DHost) (k:Nat):DBox:=match x.folders[k]? with | some f=>f.box | none=>⟨0,[]⟩
def ZgG (x:DHost) (k:Nat) (b:DBox):DHost:=match x.folders[k]? with | some f=>x.withFolders (x.folders.set k (f.withBox b)) | none=>x
def Zl (x:DHost) (s:DSess):DHost × List Int × Int:=
 if Z9 x=false then (Zdn,[],5)
 else if (atF x s 16).2≠0 then (x,[],(atF x s 16).2)
 else (ZgG x (atF x s 16).1.toNat (expunge (Zgt x (atF x s 16).1.toNat)).1,(expunge (Zgt x (atF x s 16).1.toNat)).2,0)
end Go.BL
namespace Go.BL
open Go
theorem ZcT {x:DHost} : Z9 x=true↔(ZcI x.domain=true∧Zax x.users=true∧ZaX x.queue=true)∧((∀f,f∈x.folders→Z3 x.users f=true)∧ZkW x.folders=true∧x.folders.length≤8)∧(∀u,u∈x.users→Za3 x.folders u=true)∧(∀y,y∈x.queue.items→ZaS x.users y=true):=by
 simp only [Z9,Zey,Bool.and_eq_true,decide_eq_true_eq,List.all_eq_true]
 constructor
 ·rintro ⟨⟨⟨⟨⟨h1,h2⟩,h3⟩,⟨h4,h5⟩,h6⟩,h7⟩,h8⟩
  exact ⟨⟨h1,h2,h3⟩,⟨h4,h5,h6⟩,h7,h8⟩
 ·rintro ⟨⟨h1,h2,h3⟩,⟨h4,h5,h6⟩,h7,h8⟩
  exact ⟨⟨⟨⟨⟨h1,h2⟩,h3⟩,⟨h4,h5⟩,h6⟩,h7⟩,h8⟩
theorem Zi8 {α:Type} {fs:List α} {k i:Nat} {y g:α} (h:(fs.set k y)[i]? = some g):(i=k∧g=y∧k<fs.length)∨(i≠k∧fs[i]? = some g):=by
 have hi:=(List.getElem?_eq_some_iff.1 h).1
 rw [List.length_set] at hi
 rw [List.getElem?_set] at h
 split at h
 ·rename_i e
  subst e
  simp [hi] at h
  exact .inl ⟨rfl,h.symm,hi⟩
 ·rename_i e
  exact .inr ⟨fun e'=>e e'.symm,h⟩
theorem ZjQ :∀{fs:List DFolder} {k:Nat} {f:DFolder} (f':DFolder) (u:Str),fs[k]? = some f→Zdz (fs.set k f') u+(if f.owner=u then ZaA f.mail else 0)=Zdz fs u+(if f'.owner=u then ZaA f'.mail else 0)
 | [],_,_,_,_,h=>by simp at h
 | g :: fs,0,f,f',u,h=>by
  simp only [List.getElem?_cons_zero,Option.some.injEq] at h
  subst h
  simp only [List.set_cons_zero,Zdz,List.map_cons,List.sum_cons]
  omega
 | g :: fs,k+1,f,f',u,h=>by
  have:=ZjQ (fs:=fs) (k:=k) f' u (by simpa using h)
  simp only [Zdz] at this
  simp only [List.set_cons_succ,Zdz,List.map_cons,List.sum_cons]
  omega
theorem Zki {a b a' b':DFolder} (h1:a.owner=a'.owner) (h2:a.name=a'.name) (h3:b.owner=b'.owner) (h4:b.name=b'.name):Zeq a b=Zeq a' b':=by simp only [Zeq,h1,h2,h3,h4]
theorem ZrG {fs:List DFolder} {k:Nat} {f f':DFolder} (h:ZkW fs=true) (hf:fs[k]? = some f) (ho:f'.owner=f.owner) (hn:f'.name=f.name):ZkW (fs.set k f')=true:=by
 rw [ZgU] at h ⊢
 intro i a b ha hb
 rcases Zi8 ha with ⟨e1,e2,_⟩ | ⟨hi,ha'⟩
 ·rcases Zi8 hb with ⟨e,_,_⟩ | ⟨_,hb'⟩
  ·omega
  ·rw [e2,Zki ho hn rfl rfl];exact h i _ _ (by rw [e1];exact hf) hb'
 ·rcases Zi8 hb with ⟨e,e2,_⟩ | ⟨_,hb'⟩
  ·rw [e2,Zki rfl rfl ho hn];exact h i _ _ ha' (by rw [e];exact hf)
  ·exact h _ _ _ ha' hb'
theorem Zuf {fs:List DFolder} {k:Nat} {f f':DFolder} {o n:Str} (hf:fs[k]? = some f) (ho:f'.owner=f.owner) (hn:f'.name=f.name) (h:0≤ZbR (inF o n) fs):0≤ZbR (inF o n) (fs.set k f'):=by
 rw [ZmM] at h ⊢
 obtain ⟨y,hy,hp⟩:=h
 obtain ⟨i,hi⟩:=List.mem_iff_getElem?.1 hy
 by_cases e:i=k
 ·subst e
  rw [hf] at hi;cases hi
  refine ⟨f',List.mem_iff_getElem?.2 ⟨i,?_⟩,by simp only [inF,ho,hn] at hp ⊢;exact hp⟩
  have:=(List.getElem?_eq_some_iff.1 hf).1
  simp [List.getElem?_set,this]
 ·exact ⟨y,List.mem_iff_getElem?.2 ⟨i,by rw [List.getElem?_set,if_neg (fun e'=>e e'.symm)];exact hi⟩,hp⟩
theorem Znq {us:List DUser} (h:Zax us=true) {w:DUser} (hw:w∈us):Zlk us w.name=w.quota:=by
 have h0:0≤Zeu us w.name:=Zfv.2 ⟨w,hw,rfl⟩
 have h1:=Zug us w.name
 obtain ⟨v,hv⟩ :∃v,us[(Zeu us w.name).toNat]? = some v:=⟨_,List.getElem?_eq_getElem (by omega)⟩
 have h2:=Zsk h0 hv
 rw [ZfB,ZfA (Ze8 h) w hw] at h2
 cases h2
 simp only [Zlk,hv]
theorem ZnK {x:DHost} {k:Nat} {f f':DFolder} (h:Z9 x=true) (hf:x.folders[k]? = some f) (ho:f'.owner=f.owner) (hn:f'.name=f.name) (hi:Z3 x.users f'=true)
  (hq:(Zdz x.folders f.owner:Int)+ZaA f'.mail≤Zlk x.users f.owner+ZaA f.mail∨ZaA f'.mail≤ZaA f.mail):Z9 (x.withFolders (x.folders.set k f'))=true:=by
 rw [ZcT] at h ⊢
 obtain ⟨⟨h1,h2,h3⟩,⟨h4,h5,h6⟩,h7,h8⟩:=h
 refine ⟨⟨h1,h2,h3⟩,⟨?_,ZrG h5 hf ho hn,by simpa [DHost.withFolders] using h6⟩,?_,h8⟩
 ·intro g hg
  obtain ⟨i,hg⟩:=List.mem_iff_getElem?.1 hg
  rcases Zi8 hg with ⟨_,rfl,_⟩ | ⟨_,hg⟩
  ·exact hi
  ·exact h4 g (List.mem_of_getElem? hg)
 ·intro w hw
  have:=h7 w hw
  simp only [Za3,Bool.and_eq_true,decide_eq_true_eq] at this ⊢
  refine ⟨Zuf hf ho hn this.1,?_⟩
  have hu:=ZjQ f' w.name hf
  simp only [DHost.withFolders]
  by_cases e:f.owner=w.name
  ·rw [if_pos e,if_pos (ho.trans e)] at hu
   rw [e,Znq h2 hw] at hq
   omega
  ·rw [if_neg e,if_neg (fun e'=>e (ho ▸ e'))] at hu
   omega
theorem ZiC {b:DBox} (h:ZcF b=true) :∃l,ZcN b.mail=(true,l)∧l+1≤b.next∧b.next≤100∧b.mail.length≤10:=by
 simp only [ZcF,Bool.and_eq_true,decide_eq_true_eq] at h
 exact ⟨(ZcN b.mail).2,Prod.ext h.1.1 rfl,h.1.2.1,h.1.2.2,h.2⟩
theorem Zmv :∀(xs:List DMail) (b0 b:Int),xs.foldl (fun (s:Bool × Int) x=>(s.1 && ZcC s.2 x,x.uid)) (true,b0)=(true,b)→b0≤b
 | [],b0,b,h=>by cases h;omega
 | x :: xs,b0,b,h=>by
  simp only [List.foldl_cons,Bool.true_and] at h
  cases hp:ZcC b0 x with
  | false=>
   rw [hp] at h
   have:=Zb5 (p:=ZcC) (nx:=fun _ m=>m.uid) xs x.uid
   rw [h] at this;cases this
  | true=>
   rw [hp] at h
   have:=Zmv xs x.uid b h
   simp only [ZcC,Bool.and_eq_true,decide_eq_true_eq] at hp
   omega
theorem Zky {us:List DUser} {f:DFolder} {b:DBox} (h:Z3 us f=true) (hb:ZcF b=true):Z3 us (f.withBox b)=true:=by
 simp only [Z3,Bool.and_eq_true,decide_eq_true_eq] at h ⊢
 exact ⟨⟨⟨h.1.1.1,h.1.1.2⟩,h.1.2⟩,hb⟩
theorem Zez {x:DHost} {k:Nat} {f:DFolder} (h:Z9 x=true) (hf:x.folders[k]? = some f):Z3 x.users f=true:=(ZcT.1 h).2.1.1 f (List.mem_of_getElem? hf)
theorem ZeS {us:List DUser} {f:DFolder} (h:Z3 us f=true):ZcF f.box=true:=by simp only [Z3,Bool.and_eq_true] at h;exact h.2
theorem ZoU {x:DHost} {k:Nat} {b:DBox} (h:Z9 x=true) (hb :∀f,x.folders[k]? = some f→ZcF b=true∧ZaA b.mail≤ZaA f.mail):Z9 (ZgG x k b)=true:=by
 unfold ZgG
 split
 ·rename_i f hf
  exact ZnK h hf rfl rfl (Zky (Zez h hf) (hb f hf).1) (.inr (hb f hf).2)
 ·exact h
theorem Zhs :∀(ms:List DMail) (b0 b1 b:Int),b1≤b0→ms.foldl (fun (s:Bool × Int) x=>(s.1 && ZcC s.2 x,x.uid)) (true,b0)=(true,b)→∃c,c≤b∧(Zbi ms).foldl (fun (s:Bool × Int) x=>(s.1 && ZcC s.2 x,x.uid)) (true,b1)=(true,c)∧ZaA (Zbi ms)≤ZaA ms
 | [],b0,b1,b,hb,h=>by cases h;exact ⟨b1,hb,rfl,Nat.le_refl _⟩
 | x :: ms,b0,b1,b,hb,h=>by
  simp only [List.foldl_cons,Bool.true_and] at h
  cases hp:ZcC b0 x with
  | false=>
   rw [hp] at h
   have:=Zb5 (p:=ZcC) (nx:=fun _ m=>m.uid) ms x.uid
   rw [h] at this;cases this
  | true=>
   rw [hp] at h
   have hx:b0<x.uid:=by simp only [ZcC,Bool.and_eq_true,decide_eq_true_eq] at hp;exact hp.2
   cases hd:Zjn x with
   | true=>
    obtain ⟨c,h1,h2,h3⟩:=Zhs ms x.uid b1 b (by omega) h
    have e:Zbi (x :: ms)=Zbi ms:=by simp [Zbi,hd]
    rw [e]
    refine ⟨c,h1,h2,?_⟩
    simp only [ZaA,List.map_cons,List.sum_cons] at h3 ⊢;omega
   | false=>
    obtain ⟨c,h1,h2,h3⟩:=Zhs ms x.uid x.uid b (by omega) h
    have e:Zbi (x :: ms)=x :: Zbi ms:=by simp [Zbi,hd]
    rw [e]
    have hq:ZcC b1 x=true:=by
     simp only [ZcC,Bool.and_eq_true,decide_eq_true_eq] at hp ⊢
     exact ⟨hp.1,by omega⟩
    refine ⟨c,h1,?_,?_⟩
    ·simp only [List.foldl_cons,Bool.true_and,hq];exact h2
    ·simp only [ZaA,List.map_cons,List.sum_cons] at h3 ⊢;omega
theorem Zr0 {b:DBox} (h:ZcF b=true):ZcF ⟨b.next,Zbi b.mail⟩=true∧ZaA (Zbi b.mail)≤ZaA b.mail:=by
 obtain ⟨l,hs,h1,h2,h3⟩:=ZiC h
 obtain ⟨c,h4,h5,h6⟩:=Zhs b.mail 0 0 l (by omega) hs
 refine ⟨?_,h6⟩
 have:(Zbi b.mail).length≤b.mail.length:=List.length_filter_le _ _
 rw [ZeD (b:=⟨b.next,Zbi b.mail⟩) h5]
 simp only [Bool.and_eq_true,decide_eq_true_eq];omega
theorem ZeY {x:DHost} {k:Nat} {f:DFolder} (h:x.folders[k]? = some f):Zgt x k=f.box:=by simp only [Zgt,h]
theorem Zsy {x:DHost} {s:DSess} {r:Int} (h:(atF x s r).2=0):(atF x s r).1=ZbR (inF s.owner s.name) x.folders∧0≤(atF x s r).1∧0≤Zeu x.users s.user∧∃f,x.folders[(atF x s r).1.toNat]? = some f∧ZkL f s.user 1=true∧ZkL f s.user 2=true∧ZkL f s.user r=true:=by
 unfold atF at h ⊢
 split at h
 ·rename_i h1;exact absurd h h1
 ·rename_i h1
  rw [if_neg h1]
  obtain ⟨h2,h3,f,hf,h4,h5⟩:=ZkI h
  obtain ⟨_,_,f',hf',_,h6⟩:=ZkI (Decidable.not_not.1 h1)
  rw [hf] at hf';cases hf'
  exact ⟨rfl,h3,h2,f,hf,h4,h6,h5⟩
theorem ZlU {x:DHost} {s:DSess} (h:Z9 x=true):(Zl x s).2.2=5∨Z9 (Zl x s).1=true:=by
 unfold Zl
 split
 ·exact .inl rfl
 ·split
  ·exact .inr h
  ·refine .inr (ZoU h fun f hf=>?_)
   have hb:=ZeS (Zez h hf)
   rw [ZeY hf,expunge,if_pos hb]
   exact Zr0 hb
end Go.BL
namespace Go.BL
open Go
theorem ZrB {k:Nat} {e:Int} (h:([1,2,4,8,16,32]:List Int)[k]? = some e):e=Zcg k:=by rw [Zcg,List.getD_eq_getElem?_getD,h];rfl
theorem Zmz {a b:Int} (h0:0≤a) (h1:a≤1000000) (hb:0<b):IntKind.i64.wrap (Int.tdiv a b)=Int.tdiv a b:=
 Zcf (Int.le_trans (by decide) (Int.tdiv_nonneg h0 (by omega))) (Int.le_trans (Int.tdiv_le_self _ h0) (by omega))
theorem ZeF {gs:List DGrant} (h:ZcP gs=true) :∀y,y∈gs→0≤y.rights∧y.rights≤63:=by
 intro y hy
 simp only [ZcP,Bool.and_eq_true] at h
 obtain ⟨b,hb⟩:=Zlg (p:=ZbY) (nx:=fun _ g=>g.user) gs [] h.1 y hy
 simp only [ZbY,Bool.and_eq_true,decide_eq_true_eq] at hb;omega
def Zg2 (fs:List DFolder):Prop:=∀f,f∈fs→∀y,y∈f.grants→0≤y.rights∧y.rights≤63
theorem Zi5 {x:DHost} (h:Z9 x=true):Zg2 x.folders:=fun f hf=>by
 have:=(ZcT.1 h).2.1.1 f hf
 simp only [Z3,Bool.and_eq_true] at this
 exact ZeF this.1.2
theorem Zli (gs:List DGrant) (u:Str):0≤Zbf gs u∧Zbf gs u≤600:=ZhS gs u 6 (Nat.le_refl _)
theorem ZeX {b:DBox} (h:ZcF b=true):1≤b.next∧b.next≤100∧b.mail.length≤10:=by
 obtain ⟨l,hs,h1,h2,h3⟩:=ZiC h
 have:=Zmv b.mail 0 l hs
 omega
structure GHC where
 q1:Option Addr
 c1:Nat
 q3:Option Addr
 c3:Nat
 b:Nat
theorem ZqL {gs:List DGrant} (h:ZcP gs=true):gs.length≤4:=by simp only [ZcP,Bool.and_eq_true,decide_eq_true_eq] at h;exact h.2
theorem ZhR {b:DBox} (h:ZcF b=true) {m:DMail} (hm:m∈b.mail):0≤m.flags∧m.flags≤31:=by
 have:=(ZfF h).1 m hm
 simp only [Zcj,Bool.and_eq_true,decide_eq_true_eq] at this;exact this.1.2
theorem ZrY {ms:List DMail} {k:Nat} {x:DMail} (hx:ms[k]? = some x) (h:Zjn x=false):Zbi (ms.take (k+1))=Zbi (ms.take k) ++ [x]:=by
 rw [ZaV hx,Zbi,List.filter_append];simp [Zbi,h]
theorem Zt9 {ms:List DMail} {k:Nat} {x:DMail} (hx:ms[k]? = some x) (h:Zjn x=true):Zbi (ms.take (k+1))=Zbi (ms.take k):=by
 rw [ZaV hx,Zbi,List.filter_append];simp [Zbi,h]
theorem Ziu {ms:List DMail} {k:Nat} {x:DMail} (hx:ms[k]? = some x):Zex (ms.take (k+1))=ZbJ (Zex (ms.take k)) x:=by
 rw [ZaV hx,Zex,List.foldl_append];rfl
theorem Zkw (ms:List DMail):(Zex ms).1=(Zbi ms).length:=by
 have key :∀(ms:List DMail) (s:Nat × List Int),(ms.foldl ZbJ s).1=s.1+(Zbi ms).length:=by
  intro ms
  induction ms with
  | nil=>intro s;rfl
  | cons m ms ih=>
   intro s
   rw [List.foldl_cons,ih,ZbJ]
   cases hd:Zjn m with
   | true=>simp [Zbi,hd]
   | false=>simp [Zbi,hd];omega
 rw [Zex,key];simp
theorem ZrZ (ms:List DMail) (k:Nat):(Zbi (ms.take k)).length≤k:=Nat.le_trans (List.length_filter_le _ _) (by rw [List.length_take];omega)
theorem Zhj {x:DHost} {k:Nat} {b:DBox} {f:DFolder} (h:x.folders[k]? = some f):ZgG x k b=x.withFolders (x.folders.set k (f.withBox b)):=by simp only [ZgG,h]
structure GEx where
 k:Nat
 m:Gh DMail
 n:Gh Int
theorem ZfC (b:DBox):(expunge b).1.mail.length≤b.mail.length∧(expunge b).2.length≤b.mail.length:=by
 unfold expunge
 split
 ·have key :∀(ms:List DMail) (s:Nat × List Int),(ms.foldl ZbJ s).2.length≤s.2.length+ms.length:=by
   intro ms
   induction ms with
   | nil=>intro s;simp
   | cons m ms ih=>
    intro s
    rw [List.foldl_cons]
    cases hd:Zjn m with
    | true=>
     have:=ih (s.1,s.2 ++ [((s.1+1:Nat):Int)])
     rw [ZbJ,if_pos hd]
     simp only [List.length_append,List.length_cons,List.length_nil] at this ⊢;omega
    | false=>
     have:=ih (s.1+1,s.2)
     rw [ZbJ,if_neg (by simp [hd])]
     simp only [List.length_cons] at this ⊢;omega
  have:=key b.mail (0,[])
  exact ⟨List.length_filter_le _ _,by simpa [Zex] using this⟩
 ·simp
end Go.BL
namespace Go.BL
open Go
def Zju (gs:List DGrant) (o u:Str):Int:=
 if ¬ (ZcP gs=true∧Zas o=true∧Zas u=true) then -1 else if u=o then 63 else orI ((mget (Zer gs) u).getD 0) ((mget (Zer gs) anyone).getD 0)
theorem Zjt {gs:List DGrant} {o u:Str} (h : ¬ (ZcP gs=true∧Zas o=true∧Zas u=true)):Zju gs o u = -1:=by rw [Zju,if_pos h]
theorem ZsH {gs:List DGrant} {o u:Str} (h1:ZcP gs=true) (h2:Zas o=true) (h3:Zas u=true):Zju gs o u=if u=o then 63 else orI ((mget (Zer gs) u).getD 0) ((mget (Zer gs) anyone).getD 0):=by rw [Zju,if_neg (fun h=>h ⟨h1,h2,h3⟩)]
def Zpl (us:List DUser) (f:DFolder) (u:Str) (r:Int):Bool:=(ZaH us u).2 && (decide (0≤Zju f.grants f.owner u) && !decide (Ztk (Zju f.grants f.owner u) r=0))
theorem Zn7 {gs:List DGrant} (h:ZcP gs=true):gs.Pairwise fun x y=>Op.bytesLess x.user y.user=true:=by
 simp only [ZcP,Bool.and_eq_true] at h
 exact (Zfr (p:=ZbY) (f:=fun u=>u.user) (fun b x hq=>by simp only [ZbY,Bool.and_eq_true] at hq;exact hq.2) gs [] (ZcD gs).2 (Prod.ext h.1 rfl)).2
def ZhT (r b:Int):Bool:=decide (Int.tmod (Int.tdiv r b) 2=1)
theorem ZiT (u:Str) (b:Int) (h0:ZhT 0 b=false) :∀{gs:List DGrant},gs.Pairwise (fun x y=>Op.bytesLess x.user y.user=true)→(gs.any fun g=>decide (g.user=u) && ZhT g.rights b)=ZhT ((mget (Zer gs) u).getD 0) b
 | [],_=>by simp [Zer,mget,h0]
 | g :: gs,hp=>by
  obtain ⟨h1,h2⟩:=List.pairwise_cons.1 hp
  have ih:=ZiT u b h0 h2
  simp only [Zer,List.map_cons,mget,List.any_cons] at ih ⊢
  by_cases hu:u=g.user
  ·subst hu
   have hn:(gs.any fun x=>decide (x.user=g.user) && ZhT x.rights b)=false:=by
    rw [List.any_eq_false]
    intro x hx hc
    simp only [Bool.and_eq_true,decide_eq_true_eq] at hc
    have:=h1 x hx
    rw [hc.1,Zdo] at this;cases this
   simp [hn]
  ·rw [if_neg hu,decide_eq_false (Ne.symm hu),← ih];simp
theorem Zlw (u:Str) :∀{gs:List DGrant},(∀y,y∈gs→0≤y.rights∧y.rights≤63)→0≤(mget (Zer gs) u).getD 0∧(mget (Zer gs) u).getD 0≤63
 | [],_=>by simp [Zer,mget]
 | g :: gs,h=>by
  have ih:=Zlw u (gs:=gs) fun y hy=>h y (List.mem_cons_of_mem _ hy)
  simp only [Zer,List.map_cons,mget] at ih ⊢
  by_cases hu:u=g.user
  ·rw [if_pos hu];exact h g (List.mem_cons_self ..)
  ·rw [if_neg hu];exact ih
theorem ZvJ :∀a,a<64→∀b,b<64→0≤orI (a:Nat) (b:Nat)∧orI (a:Nat) (b:Nat)≤63∧(∀k,k<6→(!decide (Ztk (orI (a:Nat) (b:Nat)) (Zcg k)=0))=(ZhT (a:Nat) (Zcg k) || ZhT (b:Nat) (Zcg k)))∧(!decide (Int.tmod (orI (a:Nat) (b:Nat)) 2=0))=(ZhT (a:Nat) 1 || ZhT (b:Nat) 1)∧(!decide (Int.tmod (Int.tdiv (orI (a:Nat) (b:Nat)) 2) 2=0))=(ZhT (a:Nat) 2 || ZhT (b:Nat) 2):=by
 decide +kernel
theorem ZtS :∀k,k<6→(!decide (Ztk 63 (Zcg k)=0))=true:=by decide +kernel
def ZzE (b0 b1 b2 b3 b4 b5:Bool):Int:=
 let s0:Int:=if b0=true then 0+Zcg 0 else 0
 let s1:=if b1=true then s0+Zcg 1 else s0
 let s2:=if b2=true then s1+Zcg 2 else s1
 let s3:=if b3=true then s2+Zcg 3 else s2
 let s4:=if b4=true then s3+Zcg 4 else s3
 if b5=true then s4+Zcg 5 else s4
theorem Zsx :∀b0 b1 b2 b3 b4 b5:Bool,∀k,k<6→ZhT (ZzE b0 b1 b2 b3 b4 b5) (Zcg k)=[b0,b1,b2,b3,b4,b5].getD k false:=by decide +kernel
theorem Zno {gs:List DGrant} {u:Str} {k:Nat} (hk:k<6):ZhT (Zbf gs u) (Zcg k)=gs.any (onB u (Zcg k)):=by
 have e:Zbf gs u=ZzE (gs.any (onB u (Zcg 0))) (gs.any (onB u (Zcg 1))) (gs.any (onB u (Zcg 2))) (gs.any (onB u (Zcg 3))) (gs.any (onB u (Zcg 4))) (gs.any (onB u (Zcg 5))):=rfl
 rw [e,Zsx _ _ _ _ _ _ k hk]
 have:k=0∨k=1∨k=2∨k=3∨k=4∨k=5:=by omega
 rcases this with rfl | rfl | rfl | rfl | rfl | rfl <;> rfl
theorem ZtY {gs:List DGrant} {u:Str} {b:Int} : gs.any (onB u b)=((gs.any fun g=>decide (g.user=u) && ZhT g.rights b) || (gs.any fun g=>decide (g.user=anyone) && ZhT g.rights b)):=by
 induction gs with
 | nil=>rfl
 | cons g gs ih=>
  simp only [List.any_cons,ih,onB,ZhT]
  cases decide (g.user=u) <;> cases decide (g.user=anyone) <;> cases decide (Int.tmod (Int.tdiv g.rights b) 2=1) <;> simp
theorem Zmh {k:Nat} (hk:k<6):ZhT 0 (Zcg k)=false:=by
 have:k=0∨k=1∨k=2∨k=3∨k=4∨k=5:=by omega
 rcases this with rfl | rfl | rfl | rfl | rfl | rfl <;> rfl
theorem ZoZ {gs:List DGrant} {u:Str} (h:ZcP gs=true) {k:Nat} (hk:k<6):(!decide (Ztk (orI ((mget (Zer gs) u).getD 0) ((mget (Zer gs) anyone).getD 0)) (Zcg k)=0))=ZhT (Zbf gs u) (Zcg k)∧0≤orI ((mget (Zer gs) u).getD 0) ((mget (Zer gs) anyone).getD 0)∧orI ((mget (Zer gs) u).getD 0) ((mget (Zer gs) anyone).getD 0)≤63∧(!decide (Int.tmod (orI ((mget (Zer gs) u).getD 0) ((mget (Zer gs) anyone).getD 0)) 2=0))=ZhT (Zbf gs u) 1∧(!decide (Int.tmod (Int.tdiv (orI ((mget (Zer gs) u).getD 0) ((mget (Zer gs) anyone).getD 0)) 2) 2=0))=ZhT (Zbf gs u) 2:=by
 obtain ⟨a0,a1⟩:=Zlw u (ZeF h)
 obtain ⟨b0,b1⟩:=Zlw anyone (ZeF h)
 have hs:=Zn7 h
 have e1 :∀k,k<6→ZhT (Zbf gs u) (Zcg k)=(ZhT ((mget (Zer gs) u).getD 0) (Zcg k) || ZhT ((mget (Zer gs) anyone).getD 0) (Zcg k)):=fun k hk=>by
  rw [Zno hk,ZtY,ZiT u _ (Zmh hk) hs,ZiT anyone _ (Zmh hk) hs]
 generalize (mget (Zer gs) u).getD 0=a at *
 generalize (mget (Zer gs) anyone).getD 0=b at *
 obtain ⟨n,rfl⟩:=Int.eq_ofNat_of_zero_le a0
 obtain ⟨m,rfl⟩:=Int.eq_ofNat_of_zero_le b0
 obtain ⟨t1,t2,t3,t4,t5⟩:=ZvJ n (by omega) m (by omega)
 have h0:=e1 0 (by omega)
 exact ⟨by rw [t3 k hk,e1 k hk],t1,t2,by rw [t4];exact h0.symm,by rw [t5];exact (e1 1 (by omega)).symm⟩
theorem ZjJ {x:DHost} {u:Str} (h:Z9 x=true) (hu:0≤Zeu x.users u):Zas u=true:=by
 obtain ⟨w,hw,rfl⟩:=Zfv.1 hu
 have:=ZjH (ZgL h) hw
 simp only [ZcK,Bool.and_eq_true] at this
 exact this.1.1.1
theorem ZsG {x:DHost} {f:DFolder} {u:Str} (h:Z9 x=true) (hf:f∈x.folders) (hu:0≤Zeu x.users u):Zju f.grants f.owner u=if u=f.owner then 63 else orI ((mget (Zer f.grants) u).getD 0) ((mget (Zer f.grants) anyone).getD 0):=by
 have hi:=(ZcT.1 h).2.1.1 f hf
 simp only [Z3,Bool.and_eq_true,decide_eq_true_eq] at hi
 rw [Zju,if_neg (fun hc=>hc ⟨hi.1.2,ZjJ h hi.1.1.1,ZjJ h hu⟩)]
theorem Zwt {x:DHost} {f:DFolder} (h:Z9 x=true) (hf:f∈x.folders):ZcP f.grants=true:=by
 have hi:=(ZcT.1 h).2.1.1 f hf
 simp only [Z3,Bool.and_eq_true] at hi
 exact hi.1.2
theorem Zpk {x:DHost} {f:DFolder} {u:Str} {k:Nat} (h:Z9 x=true) (hf:f∈x.folders) (hk:k<6):Zpl x.users f u (Zcg k)=(decide (0≤Zeu x.users u) && ZkL f u (Zcg k)):=by
 rw [Zpl,ZlO h]
 by_cases hu:0≤Zeu x.users u
 ·rw [ZsG h hf hu,ZkL]
  obtain ⟨r1,r2,r3,r4,r5⟩:=ZoZ (gs:=f.grants) (u:=u) (Zwt h hf) hk
  by_cases ho:u=f.owner
  ·rw [if_pos ho,decide_eq_true ho,ZtS k hk];simp
  ·rw [if_neg ho,decide_eq_false ho,r1,decide_eq_true r2];simp [ZhT]
 ·simp [hu]
end Go.BL
namespace Go.BL
open Go
def ZbB (f:DFolder):Nat:=3+2*f.grants.length+3*f.mail.length
def mkF (k:Nat) (f:DFolder):DFolder:=⟨ZT k,ZT (k+1),ZaC (k+1+1) f.grants.length,((k+1+1+2*f.grants.length:Nat):Int),ZbQ (k+1+1+2*f.grants.length+1) f.mail.length⟩
def Zb1 (x:DItem):Nat:=3+x.left.length
def mkI (k:Nat) (x:DItem):DItem:=⟨((k:Nat):Int),ZT (k+1),ZT (k+1+1),Zc5 (k+1+1+1) x.left.length⟩
def kL {α:Type} (st:α→Nat) (k:Nat) (xs:List α):Nat:=k+(xs.map st).sum
def mkL {α:Type} (st:α→Nat) (mk:Nat→α→α):Nat→List α→List α
 | _,[]=>[]
 | k,x :: xs=>mk k x :: mkL st mk (k+st x) xs
theorem ZmK {α:Type} {st:α→Nat} {k:Nat} : kL st k []=k:=by simp [kL]
theorem Zi0 {α:Type} {st:α→Nat} {k:Nat} {x:α} {xs:List α} : kL st k (x :: xs)=kL st (k+st x) xs:=by simp [kL];omega
theorem Zht {α:Type} {st:α→Nat} {k i:Nat} {xs:List α} {x:α} (hx:xs[i]? = some x):kL st k (xs.take (i+1))=kL st k (xs.take i)+st x:=by
 rw [ZaV hx,kL,kL,List.map_append,List.sum_append];simp;omega
theorem Zub {α:Type} {st:α→Nat} {c:Nat} :∀{xs:List α} (k:Nat),(∀x,x∈xs→st x≤c)→kL st k xs≤k+xs.length*c
 | [],k,_=>by simp [kL]
 | x :: xs,k,h=>by
  have h1:=Zub (st:=st) (c:=c) (xs:=xs) (k+st x) fun y hy=>h y (List.mem_cons_of_mem _ hy)
  have h2:=h x (List.mem_cons_self ..)
  rw [Zi0,List.length_cons,Nat.succ_mul];omega
theorem ZmG {α:Type} {st:α→Nat} {mk:Nat→α→α} {x:α} :∀{xs:List α} (k:Nat),mkL st mk k (xs ++ [x])=mkL st mk k xs ++ [mk (kL st k xs) x]
 | [],k=>by simp [mkL,kL]
 | y :: xs,k=>by
  rw [List.cons_append,mkL,ZmG (xs:=xs) (k+st y),mkL,Zi0,List.cons_append]
theorem Zd3 {α:Type} {st:α→Nat} {mk:Nat→α→α} :∀{xs:List α} (k:Nat),(mkL st mk k xs).length=xs.length
 | [],k=>rfl
 | y :: xs,k=>by rw [mkL,List.length_cons,Zd3 (k+st y),List.length_cons]
theorem ZrT {α:Type} {st:α→Nat} {mk:Nat→α→α} {xs ys:List α} {i k:Nat} {x:α} (ht:ys.take i=mkL st mk k (xs.take i)) (hx:xs[i]? = some x) (hl:ys.length=xs.length):(ys.set i (mk (kL st k (xs.take i)) x)).take (i+1)=mkL st mk k (xs.take (i+1)):=by
 have hi:=(List.getElem?_eq_some_iff.1 hx).1
 rw [Zbs (by omega),ZaV hx,ZmG,ht]
theorem Zpj {α:Type} {st:α→Nat} {mk:Nat→α→α} {xs ys:List α} {i k:Nat} (ht:ys.take i=mkL st mk k (xs.take i)) (hl:ys.length=xs.length) (hi:xs.length≤i):ys=mkL st mk k xs:=by
 rwa [List.take_of_length_le (by omega),List.take_of_length_le hi] at ht
theorem Zlu {α:Type} {st:α→Nat} {mk:Nat→α→α} :∀{xs:List α} {i:Nat} {x:α} (k:Nat),xs[i]? = some x→(mkL st mk k xs)[i]? = some (mk (kL st k (xs.take i)) x)
 | [],i,x,k,h=>by simp at h
 | y :: xs,0,x,k,h=>by
  simp only [List.getElem?_cons_zero,Option.some.injEq] at h
  subst h;simp [mkL,kL]
 | y :: xs,i+1,x,k,h=>by
  rw [mkL,List.getElem?_cons_succ,Zlu (k+st y) (by simpa using h),List.take_succ_cons,Zi0]
theorem ZmV {α:Type} {xs ys:List α} {i:Nat} {z:α} (hd:ys.drop i=xs.drop i):(ys.set i z).drop (i+1)=xs.drop (i+1):=by
 rw [List.drop_set_of_lt (by omega),← List.drop_drop,← List.drop_drop,hd]
theorem ZmW {α:Type} {xs ys:List α} {i:Nat} (hd:ys.drop i=xs.drop i):ys[i]? = xs[i]?:=by
 have:=congrArg (fun l=>l[0]?) hd
 simpa using this
theorem Zlt {k n g:Nat} (h:g<n):(ZbQ k n)[g]? = some ⟨((k+3*g:Nat):Int),((k+3*g+1:Nat):Int),ZT (k+3*g+1+1)⟩:=by simp [ZbQ,h]
theorem Zkc {k n g:Nat} (h:g<n):(ZaC k n)[g]? = some ⟨ZT (k+2*g),((k+2*g+1:Nat):Int)⟩:=by simp [ZaC,h]
theorem Zlr {k n g:Nat} (h:g<n):(Zcr k n)[g]? = some ⟨ZT (k+3*g),ZT (k+3*g+1),((k+3*g+1+1:Nat):Int)⟩:=by simp [Zcr,h]
theorem Znz {k n g:Nat} (h:g<n):(Zc5 k n)[g]? = some (ZT (k+1*g)):=by simp [Zc5,h]
theorem Zd0 {α:Type} {xs:List α} {k:Nat} {x z:α} (h:xs[k]? = some x):(xs.set k z)[k]? = some z:=List.getElem?_set_self (List.getElem?_eq_some_iff.1 h).1
theorem Zr2 {α:Type} {st:α→Nat} {k i:Nat} {xs:List α} {x:α} (hx:xs[i]? = some x):kL st k (xs.take i)+st x≤kL st k xs:=by
 have e:xs=xs.take (i+1) ++ xs.drop (i+1):=(List.take_append_drop _ _).symm
 have h1:=Zht (st:=st) (k:=k) hx
 have h2:kL st k xs=kL st k (xs.take (i+1))+((xs.drop (i+1)).map st).sum:=by
  conv=>lhs;rw [e]
  simp only [kL,List.map_append,List.sum_append];omega
 omega
theorem ZmL {α:Type} {st:α→Nat} {k i:Nat} {xs:List α} (h:xs.length≤i):kL st k (xs.take i)=kL st k xs:=by rw [List.take_of_length_le h]
theorem Zr1 {α:Type} {st:α→Nat} {k:Nat} {xs:List α} : k≤kL st k xs:=by simp [kL]
theorem Zmp {α:Type} {xs ys:List α} {i:Nat} {z:α} (h:ys.length=xs.length):(ys.set i z).length=xs.length:=by rw [List.length_set,h]
theorem ZvY {α:Type} {st sz:α→Nat} {xs:List α} (k:Nat) (h :∀x,x∈xs→st x≤3+3*sz x):kL st k xs≤k+3*(xs.length+(xs.map sz).sum):=by
 induction xs generalizing k with
 | nil=>simp [kL]
 | cons x xs ih=>
  rw [Zi0]
  have h1:=ih (k+st x) fun y hy=>h y (List.mem_cons_of_mem _ hy)
  have h2:=h x (List.mem_cons_self ..)
  simp only [List.length_cons,List.map_cons,List.sum_cons];omega
theorem Zkb {α:Type} {st:α→Nat} {mk:Nat→α→α} {xs ys:List α} {i k m:Nat} {x:α} (ht:ys.take i=mkL st mk k (xs.take i)) (hx:xs[i]? = some x) (hl:ys.length=xs.length) (hs:m=kL st k (xs.take i)):(ys.set i (mk m x)).take (i+1)=mkL st mk k (xs.take (i+1)):=by
 subst hs;exact ZrT ht hx hl
end Go.BL
namespace Go.BL
open Go
theorem Zxq {k:Nat} {fs:List DFolder} : kL ZbB k fs≤k+3*szL Zaz fs:=ZvY k fun x _=>by simp only [ZbB,Zaz,szL];omega
theorem Zxn {k:Nat} {xs:List DItem} : kL Zb1 k xs≤k+3*szL ZbA xs:=ZvY k fun x _=>by simp only [Zb1,ZbA,Ze9,szL];omega
def kH (k:Nat) (x:DHost):Nat:=kL Zb1 (kL ZbB (k+3*x.users.length) x.folders) x.queue.items
theorem Zxp {x:DHost} (h:Zc1 x≤1048576):kH 1 x≤10000000:=by
 have h1:=@Zxn (kL ZbB (1+3*x.users.length) x.folders) x.queue.items
 have h2:=@Zxq (1+3*x.users.length) x.folders
 unfold Zc1 at h
 have h3:x.users.length≤szL Zc0 x.users:=by simp only [szL];omega
 unfold kH;omega
end Go.BL
namespace Go.BL
open Go
def ZcV (us:List DUser) (fs:List DFolder) (u o n:Str) (r:Int):Nat:=
 if ZbR (inF o n) fs<0 then 1 else match fs[(ZbR (inF o n) fs).toNat]? with
  | none=>1
  | some f=>if Zpl us f u 1=false then 1 else if Zpl us f u r=false then 2 else 0
theorem Zqw {us:List DUser} {fs:List DFolder} {u o n:Str} {r:Int} (h:ZbR (inF o n) fs<0):ZcV us fs u o n r=1:=by rw [ZcV,if_pos h]
theorem Zjp {us:List DUser} {fs:List DFolder} {u o n:Str} {r:Int} {f:DFolder} (h : ¬ ZbR (inF o n) fs<0) (hf:fs[(ZbR (inF o n) fs).toNat]? = some f):ZcV us fs u o n r=if Zpl us f u 1=false then 1 else if Zpl us f u r=false then 2 else 0:=by
 rw [ZcV,if_neg h,hf]
theorem Zqx (us:List DUser) (fs:List DFolder) (u o n:Str) (r:Int):ZcV us fs u o n r<3:=by
 unfold ZcV
 split
 ·omega
 ·split
  ·omega
  ·split
   ·omega
   ·split <;> omega
theorem Zqy {x:DHost} {u o n:Str} {k:Nat} (h:Z9 x=true) (hk:k<6):((ZcV x.users x.folders u o n (Zcg k):Nat):Int)=ZkJ x.users x.folders u (ZbR (inF o n) x.folders) (Zcg k):=by
 by_cases h0:ZbR (inF o n) x.folders<0
 ·rw [Zqw h0,Zjq (.inr h0)];rfl
 ·have hl:=Zhx (inF o n) x.folders
  obtain ⟨f,hf⟩:=ZuY (xs:=x.folders) (i:=ZbR (inF o n) x.folders) (by omega) (by omega)
  have hm:=List.mem_of_getElem? hf
  rw [Zjp h0 hf]
  have e1:Zpl x.users f u 1=(decide (0≤Zeu x.users u) && ZkL f u 1):=Zpk (k:=0) h hm (by omega)
  rw [e1,Zpk h hm hk]
  by_cases hu:Zeu x.users u<0
  ·rw [Zjq (.inl hu),decide_eq_false (by omega)];rfl
  ·rw [ZqA (by omega) hf,decide_eq_true (by omega)]
   cases ZkL f u 1 <;> cases ZkL f u (Zcg k) <;> rfl
theorem Zsv {x:DHost} {u o n:Str} (h:Z9 x=true):((ZcV x.users x.folders u o n 2:Nat):Int)=ZkJ x.users x.folders u (ZbR (inF o n) x.folders) 2:=Zqy (k:=1) h (by omega)
end Go.BL
namespace Go.BL
open Go
end Go.BL
namespace Go.BL
open Go
end Go.BL
namespace Go.BL
open Go
end Go.BL
namespace Go.BL
open Go
end Go.BL
namespace Go.BL
open Go
theorem Zv.perm {P:PJ} {f:FuncId} {args:List Value} {B:Kn} {Ls Ls':List Cells} {Post:Value→Kn→List Cells→Prop} (hp:Ls.flatten.Perm Ls'.flatten) (h:Zv P f args B Ls' Post):Zv P f args B Ls Post:=fun X kind c cs F hk hA=>by
 refine X.drop (r:=Ls'.flatten ++ F) (gl:=[]) ?_ (h X kind c cs F hk hA)
 rw [List.append_nil];exact hp.append_right F
theorem MLst.one {TL Tn:TypeId} {b bn:Nat} {m:DMail} {s:Cells} (hm:m.text.length≤2000000) (hp:s.Perm (ZK b [Go.BL.ptr ⟨bn,0,none⟩,Go.BL.ptr ⟨bn,0,none⟩,.int .i64 1] TL ++ ZK bn (Ze1 m (.pointer none)) Tn)):MLst TL Tn b [m] s:=
 .inr ⟨_,bn,m,[],hp.trans (by simp),Zjv.init hm⟩
theorem MLst.add {TL Tn:TypeId} {b bl bn:Nat} {v0:Value} {x m:DMail} {rest s:Cells} {xs:List DMail} {k:Int} (h:Zjv Tn v0 bl x rest xs) (hm:m.text.length≤2000000) (hk:k=xs.length+1)
  (hp:s.Perm (ZK b [v0,Go.BL.ptr ⟨bn,0,none⟩,.int .i64 k] TL ++ (ZK bn (Ze1 m (.pointer none)) Tn ++ (rest ++ ZK bl (Ze1 x (Go.BL.ptr ⟨bn,0,none⟩)) Tn)))):MLst TL Tn b (xs ++ [m]) s:=by
 refine .inr ⟨v0,bn,m,rest ++ ZK bl (Ze1 x (Go.BL.ptr ⟨bn,0,none⟩)) Tn,hp.trans ?_,h.step hm⟩
 rw [hk,List.length_append]
 simp
theorem Zzq {P:PJ} {S:Env} {B:Kn} {L:List Cells} {rs:List ResultVar} {Post:Value→Kn→List Cells→Prop} (e:Exit) (he:e = .ret∨e = .normal) (vs:List Value) (js:List Nat) {ss r:List Cells} (hp:Zaw L js=some (ss,r)) (hr:ZbE P S B L rs vs) (hq:Post (ZcA vs) B [ss.flatten]):ZfH P rs Post e S [] B L:=
 ⟨he,rfl,vs,[ss.flatten],hr,⟨r.flatten,by simpa using Zaf js L ss r hp⟩,hq⟩
structure MOf where
 p:Option Addr
 ys:List DMail
 xs:List DMail
 l:Cells
 q:Option Addr
 c:Nat
 cells:Cells
end Go.BL
namespace Go.BL
open Go
theorem ZzK {B:Kn} {L:List Cells} {b o:Nat} {row vs:List Value} {a:Addr} (hc :∀(m:Nat) (u:Value),row[m]? = some u→ZaU B L.flatten ⟨b,o+m,none⟩ u) (off:Nat) (ha:a=⟨b,o+off,none⟩) (hv:(row.drop off).take vs.length=vs):ZqQ B L a vs:=by
 intro i v hi
 subst ha
 rw [Addr.add_off _ _ rfl]
 have hlt:i<vs.length:=(List.getElem?_eq_some_iff.1 hi).1
 have:row[off+i]? = some v:=by
  have e:=congrArg (fun l=>l[i]?) hv
  simp only [List.getElem?_take,if_pos hlt,List.getElem?_drop] at e
  rw [e,hi]
 have:=hc _ v this
 rwa [show o+(off+i)=o+off+i from by omega] at this
theorem ZaP.cellA {α:Type} {l:Cells} {p:Option Addr} {c:Nat} {T:TypeId} {w:Nat} {R:Zgw α} {xs:List α} (h:ZaP l p c T w R xs) {i:Nat} {x:α} (hx:xs[i]? = some x) :
∃b row li lr,p=some ⟨b,0,none⟩∧R row x li∧row.length=w∧l.Perm (li ++ lr)∧(∀(B:Kn) (L:List Cells) (j:Nat),L[j]? = some l→∀(m:Nat) (u:Value),row[m]? = some u→ZaU B L.flatten ⟨b,i*w+m,none⟩ u)∧(∀(B:Kn) (L:List Cells) (j:Nat),L[j]? = some lr→∀(m:Nat) (u:Value),row[m]? = some u→ZaU B L.flatten ⟨b,i*w+m,none⟩ u)∧∀x' li',R row x' li'→ZaP (li' ++ lr) p c T w R (xs.set i x'):=by
 obtain ⟨b,arr,row,li,lr,e1,e2,e3,e4,e5,e6⟩:=h.open1 hx
 refine ⟨b,row,li,ZK b arr T ++ lr,e1,e2,e3,e4,fun B L j hj m u hm=>⟨rfl,arr.toArray,T,(0,0),.inr ?_,by simpa using e5 m u hm⟩,fun B L j hj m u hm=>⟨rfl,arr.toArray,T,(0,0),.inr ?_,by simpa using e5 m u hm⟩,e6⟩
 ·exact List.mem_flatten.2 ⟨l,List.mem_of_getElem? hj,e4.mem_iff.2 (List.mem_append_right _ (List.mem_append_left _ (List.mem_singleton.2 rfl)))⟩
 ·exact List.mem_flatten.2 ⟨_,List.mem_of_getElem? hj,List.mem_append_left _ (List.mem_singleton.2 rfl)⟩
theorem Zsw {x:DHost} {u o n:Str} {r:Int} (h:ZcV x.users x.folders u o n r=0):0≤ZbR (inF o n) x.folders:=by
 unfold ZcV at h
 split at h
 ·cases h
 ·omega
end Go.BL
namespace Go.BL
open Go
end Go.BL
namespace Go.BL
open Go
end Go.BL
namespace Go.BL
open Go
def usN (x:DHost) (u o n:Str) (r:Int) (k:Nat):Nat:=if ZcV x.users x.folders u o n 2=0 then (if ZcV x.users x.folders u o n r=0 then k else ZcV x.users x.folders u o n r) else ZcV x.users x.folders u o n 2
def usX {α:Type} (x:DHost) (u o n:Str) (r:Int) (A B:α):α:=if ZcV x.users x.folders u o n 2=0∧ZcV x.users x.folders u o n r=0 then A else B
theorem Zvq {x:DHost} {u o n:Str} {r:Int} {k:Nat} (hk:k<5):usN x u o n r k<5:=by
 unfold usN
 have h2:=Zqx x.users x.folders u o n 2
 have hr:=Zqx x.users x.folders u o n r
 split <;> (try split) <;> omega
theorem Zs2 {x:DHost} {u o n:Str} {r:Int} (h:ZcV x.users x.folders u o n 2≠0) (k:Nat):usN x u o n r k=ZcV x.users x.folders u o n 2∧∀{α:Type} (A B:α),usX x u o n r A B=B:=⟨by rw [usN,if_neg h],fun A B=>by rw [usX,if_neg (fun hh=>h hh.1)]⟩
theorem Zs1 {x:DHost} {u o n:Str} {r:Int} (h2:ZcV x.users x.folders u o n 2=0) (h:ZcV x.users x.folders u o n r≠0) (k:Nat):usN x u o n r k=ZcV x.users x.folders u o n r∧∀{α:Type} (A B:α),usX x u o n r A B=B:=⟨by rw [usN,if_pos h2,if_neg h],fun A B=>by rw [usX,if_neg (fun hh=>h hh.2)]⟩
theorem Zs0 {x:DHost} {u o n:Str} {r:Int} (h2:ZcV x.users x.folders u o n 2=0) (h:ZcV x.users x.folders u o n r=0) (k:Nat):usN x u o n r k=k∧∀{α:Type} (A B:α),usX x u o n r A B=A:=⟨by rw [usN,if_pos h2,if_pos h],fun A B=>by rw [usX,if_pos ⟨h2,h⟩]⟩
end Go.BL
namespace Go.BL
open Go
end Go.BL
namespace Go.BL
open Go
theorem Zqv {x:DHost} {u o n:Str} {r:Int} (h:ZcV x.users x.folders u o n r=0) :∃(k:Nat) (f:DFolder),ZbR (inF o n) x.folders=(k:Int)∧x.folders[k]? = some f:=by
 have h0:=Zsw h
 obtain ⟨k,hk⟩ :∃k:Nat,ZbR (inF o n) x.folders=(k:Int):=⟨_,(Int.toNat_of_nonneg h0).symm⟩
 have hl:=Zhx (inF o n) x.folders
 exact ⟨k,x.folders[k]'(by omega),hk,List.getElem?_eq_getElem (by omega)⟩
end Go.BL
namespace Go.BL
open Go
def Zee (k n:Nat):List Int:=(List.range n).map fun i=>((k+1*i:Nat):Int)
theorem ZeN (k n:Nat):(Zee k n).length=n:=by simp [Zee]
theorem ZnA {k n g:Nat} (h:g<n):(Zee k n)[g]? = some ((k+1*g:Nat):Int):=by simp [Zee,h]
theorem Zlv {ys:List Int} {i k:Nat} {z1:Int} (ht:ys.take i=Zee k i) (h1:ys[i]? = some z1):(ys.set i ((k+1*i:Nat):Int)).take (i+1)=Zee k (i+1):=by
 have hl:=(List.getElem?_eq_some_iff.1 h1).1
 rw [Zbs hl,ht,Zee,Zee,List.range_succ,List.map_append];rfl
end Go.BL
namespace Go.BL
open Go
theorem ZlG {ms:List DMail} {y:DMail} (h:Zjn y=true):Zbi (ms ++ [y])=Zbi ms:=by simp [Zbi,List.filter_append,h]
theorem Zkm {ms:List DMail} {y:DMail} (h:Zjn y=false):Zbi (ms ++ [y])=Zbi ms ++ [y]:=by simp [Zbi,List.filter_append,h]
theorem ZmP (ms:List DMail) (y:DMail):Zex (ms ++ [y])=ZbJ (Zex ms) y:=by rw [Zex,List.foldl_append];rfl
theorem Zkv {ms:List DMail} {y:DMail} (h:Zjn y=true):(Zex (ms ++ [y])).2=(Zex ms).2 ++ [(((Zbi ms).length+1:Nat):Int)]:=by rw [ZmP,ZbJ,if_pos h,Zkw]
theorem ZlW {ms:List DMail} {y:DMail} (h:Zjn y=false):(Zex (ms ++ [y])).2=(Zex ms).2:=by rw [ZmP,ZbJ,if_neg (by simp [h])]
theorem Zv4 {a:Int} (h:Zct a=true):((Zct a && Zct 8) && decide (Ztk a 8=8))=decide (Int.tmod (Int.tdiv a 8) 2=1):=by
 simp only [Zct,Bool.and_eq_true,decide_eq_true_eq] at h
 obtain ⟨n,rfl⟩ :∃n:Nat,a=(n:Int):=⟨a.toNat,by omega⟩
 have hn:n<32:=by omega
 have key :∀m:Fin 32,((Zct ((m:Nat):Int) && Zct 8) && decide (Ztk ((m:Nat):Int) 8=8))=decide (Int.tmod (Int.tdiv ((m:Nat):Int) 8) 2=1):=by decide
 exact key ⟨n,hn⟩
end Go.BL
namespace Go.BL
open Go
end Go.BL
namespace Go.BL
open Go
end Go.BL
namespace Go.BL
open Go
structure GX where
 b:Nat
 q1:Option Addr
 c1:Nat
 q2:Option Addr
 c2:Nat
 q3:Option Addr
 c3:Nat
 q4:Option Addr
 c4:Nat
 l1:Cells
 l2:Cells
 l3:Cells
 l4:Cells
theorem Zxo {y:DHost} (h:Z9 y=true):kH 1 y≤700000000000000∧y.users.length≤2000000∧y.folders.length≤2000000∧y.queue.items.length≤2000000:=by
 obtain ⟨⟨_,h2,h3⟩,⟨h4,_,h6⟩,_⟩:=ZcT.1 h
 have hu:y.users.length≤4:=by
  simp only [Zax,Bool.and_eq_true,decide_eq_true_eq] at h2;exact h2.2.2
 have hq:=(ZgH h3).2.2
 have hf:=Zub (st:=ZbB) (c:=41) (xs:=y.folders) (1+3*y.users.length) fun f hf=>by
  have e:=h4 f hf
  simp only [Z3,Bool.and_eq_true,decide_eq_true_eq] at e
  have e1:f.grants.length≤4:=ZqL e.1.2
  have e2:f.mail.length≤10:=(ZeX e.2).2.2
  simp only [ZbB];omega
 have hi:=Zub (st:=Zb1) (c:=6) (xs:=y.queue.items) (kL ZbB (1+3*y.users.length) y.folders) fun z hz=>by
  have e:=Zj0 h3 hz
  have e2:z.left.length≤3:=by
   simp only [Zes,Zcy,ZcJ,Bool.and_eq_true,decide_eq_true_eq] at e;exact e.1.1.2.2
  simp only [Zb1];omega
 have h8:y.folders.length*41≤8*41:=Nat.mul_le_mul_right _ h6
 have h9:y.queue.items.length*6≤6*6:=Nat.mul_le_mul_right _ hq
 refine ⟨?_,by omega,by omega,by omega⟩
 unfold kH;omega
theorem Zv0:kH 1 Zdn≤700000000000000∧Zdn.users.length≤2000000∧Zdn.folders.length≤2000000∧Zdn.queue.items.length≤2000000:=by
 refine ⟨?_,?_,?_,?_⟩ <;> simp [Zdn,kH,kL]
theorem ZvZ {x y:DHost} (h1:Z9 x=false→y=Zdn) (h2:Z9 x=true→y=Zdn∨Z9 y=true):kH 1 y≤700000000000000∧y.users.length≤2000000∧y.folders.length≤2000000∧y.queue.items.length≤2000000:=by
 cases hx:Z9 x with
 | false=>rw [h1 hx];exact Zv0
 | true=>
  rcases h2 hx with e | e
  ·rw [e];exact Zv0
  ·exact Zxo e
theorem ZlV {x:DHost} {s:DSess} (h:Z9 x=false):(Zl x s).1=Zdn:=by rw [Zl,if_pos h]
theorem Zsz (x:DHost) (s:DSess) (r:Int):(atF x s r).2=0∨(atF x s r).2=1∨(atF x s r).2=2:=by
 unfold atF
 split <;> exact Zqz ..
theorem Zuc {x:DHost} {s:DSess} : kH 1 (Zl x s).1≤700000000000000∧(Zl x s).1.users.length≤2000000∧(Zl x s).1.folders.length≤2000000∧(Zl x s).1.queue.items.length≤2000000:=
 ZvZ (x:=x) ZlV fun h=>by
  rcases ZlU (s:=s) h with e | e
  ·have:=Zsz x s 16
   unfold Zl at e
   rw [if_neg (by simp [h])] at e
   split at e
   ·exfalso;simp only at e;omega
   ·exfalso;simp only at e;omega
  ·exact .inr e
theorem Zuw {x:DHost} {s:DSess} : (Zl x s).2.1.length≤10:=by
 unfold Zl
 split
 ·simp
 ·rename_i h
  split
  ·simp
  ·have h1:=ZfC (Zgt x (atF x s 16).1.toNat)
   have h2:(Zgt x (atF x s 16).1.toNat).mail.length≤10:=by
    unfold Zgt
    split
    ·rename_i f hf
     exact (ZeX (ZeS (Zez (by simpa using h) hf))).2.2
    ·simp
   exact Nat.le_trans h1.2 h2
theorem Zzb {x:DHost} {u o n:Str} {r:Int} {k:Nat} (hr:r=Zcg k) (hk:k<6) (h:Z9 x=true):(atF x ⟨u,o,n⟩ r)=(ZbR (inF o n) x.folders,if ZcV x.users x.folders u o n 2≠0 then ((ZcV x.users x.folders u o n 2:Nat):Int) else ((ZcV x.users x.folders u o n r:Nat):Int)):=by
 have e:=Zsv (u:=u) (o:=o) (n:=n) h
 have e2:((ZcV x.users x.folders u o n r:Nat):Int)=ZkJ x.users x.folders u (ZbR (inF o n) x.folders) r:=by rw [hr];exact Zqy h hk
 unfold atF
 dsimp only at e ⊢
 by_cases h2:ZcV x.users x.folders u o n 2=0
 ·rw [if_neg (by omega),if_neg (by omega),e2]
 ·rw [if_pos (by omega),if_pos h2,e]
theorem ZtJ {x:DHost} {u o n:Str} {RX:DHost} {YS:List Int} (hR:RX=ZgG x (ZbR (inF o n) x.folders).toNat (expunge (Zgt x (ZbR (inF o n) x.folders).toNat)).1) (hYS:YS=(expunge (Zgt x (ZbR (inF o n) x.folders).toNat)).2) {Y:DHost} {d:Int} {YY:List Int}
  (h:(Y,d,YY)=if true=true∧Z9 x=true then (usX x u o n 16 RX x,((usN x u o n 16 0:Nat):Int),usX x u o n 16 YS []) else (Zdn,5,[])):Y=(Zl x ⟨u,o,n⟩).1∧d=(Zl x ⟨u,o,n⟩).2.2∧YY=(Zl x ⟨u,o,n⟩).2.1:=by
 cases hc:Z9 x with
 | true=>
  rw [if_pos ⟨rfl,hc⟩] at h
  simp only [Prod.mk.injEq] at h
  obtain ⟨rfl,rfl,rfl⟩:=h
  rw [Zl,if_neg (by simp [hc]),Zzb (r:=16) (k:=4) rfl (by omega) hc]
  by_cases h2:ZcV x.users x.folders u o n 2=0
  ·simp only [h2,ne_eq,not_true_eq_false,if_false]
   by_cases h16:ZcV x.users x.folders u o n 16=0
   ·obtain ⟨e1,e2⟩:=Zs0 h2 h16 0
    rw [e1,e2,e2,if_neg (by omega)]
    exact ⟨hR,rfl,hYS⟩
   ·obtain ⟨e1,e2⟩:=Zs1 h2 h16 0
    rw [e1,e2,e2,if_pos (by omega)]
    exact ⟨rfl,rfl,rfl⟩
  ·obtain ⟨e1,e2⟩:=Zs2 (r:=16) h2 0
   rw [e1,e2,e2]
   simp only [h2,ne_eq,not_false_eq_true,if_true]
   rw [if_pos (by omega)]
   exact ⟨rfl,rfl,rfl⟩
 | false=>
  rw [if_neg (by simp [hc])] at h
  simp only [Prod.mk.injEq] at h
  obtain ⟨rfl,rfl,rfl⟩:=h
  rw [Zl,if_pos hc]
  exact ⟨rfl,rfl,rfl⟩
end Go.BL
namespace Go.BL
section
variable {P:PJ} {n:Nat} {ops:Array Oper} {i:Nat} {K:Zab} {S:Env} {D:List Deferred} {B:Kn} {L:List Cells}
variable {dst:Option Tmp} {ty:TypeId} {pos:String} {after:Array Edge} {g:Option (Nat × Bool)}
end
end Go.BL
