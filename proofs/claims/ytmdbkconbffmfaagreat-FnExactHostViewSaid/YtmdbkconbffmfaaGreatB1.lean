/-
  THE WALK'S LOGIC: owned cells and known cells, goroutines started and awaited, calls, loops, data, and plain laws on lists: no program in sight.
-/
import Derived.Test.YtmdbkconbffmfaaGreatB0
set_option linter.unusedVariables false
set_option linter.unusedSimpArgs false
set_option linter.unusedSectionVars false
namespace Go.BL
open Go.ChangeShapes Go.WideShapes Go.ChangeAt Go.RowKit
set_option linter.unusedVariables false
theorem Zjp {α β:Type} {f:α→Option β} :∀{xs:List α} {ys:List β},xs.mapM f=some ys→ys.length=xs.length∧∀(i:Nat) (x:α),xs[i]? = some x→f x=ys[i]?
  | [],ys,h=>by
    simp only [List.mapM_nil,Option.pure_def,Option.some.injEq] at h
    subst h;simp
  | x :: xs,ys,h=>by
    simp only [List.mapM_cons,Option.bind_eq_bind,Option.pure_def,Option.bind_eq_some_iff,Option.some.injEq] at h
    obtain ⟨y,hy,zs,hz,rfl⟩:=h
    obtain ⟨h1,h2⟩:=Zjp hz
    refine ⟨by simp [h1],fun i z hi=>?_⟩
    cases i with
    | zero=>simp only [List.getElem?_cons_zero,Option.some.injEq] at hi;subst hi;simpa using hy
    | succ i=>simpa using h2 i z (by simpa using hi)
theorem Zom {w:World} {a:Addr} {n:Nat} {cs:List Value} (h:w.cells? 0 a n=some cs):cs.length=n∧∀i,i<n→w.cell? (a.add i)=cs[i]?:=by
  unfold World.cells? at h
  rw [if_pos (Nat.zero_le _)] at h
  obtain ⟨h1,h2⟩:=Zjp h
  exact ⟨by simpa using h1,fun i hi=>h2 i i (by simp [hi])⟩
section
variable {H:Type} (enc:TypeId × Value→H) (P:Program) (W:World)
def Zbv (t:TypeId) (p:List Value→Prop):Prop:=∀(fuel:Nat) (cs:List Value) (d:DataW H) (ps:List MemPlace),DataW.trod enc P W 0 (fun _=>true) true fuel t cs=some (d,ps)→(∀m,m∈d.weights P t→m≤reachBytes)→p cs
def Zac {α:Type} (t:TypeId) (R:Rel α):Prop:=Zbv enc P W t fun cs=>∃x,R (ZQ W) cs x
def Zap {α:Type} (w:Nat) (R:Rel α):Rel (List α):=fun B row xs=>∃q cp,row=[.slice q xs.length cp]∧SlB B q cp w R xs
def Parts:List (List Value→Prop)→List Value→Prop
  | [],cs=>cs=[]
  | p :: ps,cs=>∃a b,cs=a ++ b∧p a∧Parts ps b
def Zeu (P:Program):List Field→Nat→Nat→Bool
  | [],off,n=>off == n
  | f :: fs,off,n=>f.offset == off && Zeu P fs (off+P.cellsOf f.type) n
end
section
variable {H:Type} {enc:TypeId × Value→H} {P:Program} {W:World}
theorem Zbv.mono {t:TypeId} {p p':List Value→Prop} (h:Zbv enc P W t p) (hp :∀cs,p cs→p' cs):Zbv enc P W t p':=fun fuel cs d ps ht hw=>hp cs (h fuel cs d ps ht hw)
theorem ZgS {t:TypeId} (ht:P.underlying t=some (.int .i64)):Zac enc P W t ZbN:=fun fuel cs d ps h _=>by
  cases fuel with
  | zero=>simp [DataW.trod] at h
  | succ n=>
    unfold DataW.trod at h
    rw [ht] at h
    split at h <;> simp_all
    rename_i he
    subst he
    exact ⟨_,rfl⟩
theorem ZgR {t:TypeId} (ht:P.underlying t=some .string):Zac enc P W t ZcM:=fun fuel cs d ps h hw=>by
  cases fuel with
  | zero=>simp [DataW.trod] at h
  | succ n=>
    unfold DataW.trod at h
    rw [ht] at h
    split at h <;> simp_all
    rename_i s
    obtain ⟨_,rfl,_⟩:=h
    have h1:=hw s.data.toList.length (by simp [DataW.weights])
    refine ⟨s.data.toList,rfl,?_⟩
    unfold reachBytes at h1
    omega
theorem Zo5 {fs:List Field} {ps:List (List Value→Prop)} {n off:Nat} (hf:Zeu P fs off n=true) {cs:List Value} (hl:cs.length=n) (hlen:fs.length=ps.length)
    (h :∀(i:Nat) (f:Field) (p:List Value→Prop),fs[i]? = some f→ps[i]? = some p→p ((cs.drop f.offset).take (P.cellsOf f.type))):Parts ps (cs.drop off):=by
  induction fs generalizing ps off with
  | nil=>
    simp only [Zeu,beq_iff_eq] at hf
    cases ps with
    | nil=>show cs.drop off=[];rw [List.drop_eq_nil_iff];omega
    | cons p ps=>simp at hlen
  | cons f fs ih=>
    simp only [Zeu,Bool.and_eq_true,beq_iff_eq] at hf
    cases ps with
    | nil=>simp at hlen
    | cons p ps=>
      refine ⟨(cs.drop off).take (P.cellsOf f.type),(cs.drop off).drop (P.cellsOf f.type),(List.take_append_drop _ _).symm,?_,?_⟩
      · have:=h 0 f p rfl rfl
        rwa [hf.1] at this
      · rw [List.drop_drop]
        exact ih hf.2 (by simpa using hlen) fun i f' p' h1 h2=>h (i+1) f' p' (by simpa using h1) (by simpa using h2)
theorem Zcq :∀{ts:List TypeId} {ds:List (DataW H)} {i:Nat} {t:TypeId} {d:DataW H},ts[i]? = some t→ds[i]? = some d→∀m,m∈d.weights P t→m∈DataW.weightsEach P ts ds
  | t :: ts,d :: ds,0,t',d',h1,h2,m,hm=>by
    simp only [List.getElem?_cons_zero,Option.some.injEq] at h1 h2
    subst h1;subst h2
    simp only [DataW.weightsEach,List.mem_append];exact .inl hm
  | t :: ts,d :: ds,i+1,t',d',h1,h2,m,hm=>by
    simp only [DataW.weightsEach,List.mem_append];exact .inr (Zcq (by simpa using h1) (by simpa using h2) m hm)
  | [],_,_,_,_,h1,_,_,_=>by simp at h1
  | _ :: _,[],_,_,_,_,h2,_,_=>by simp at h2
theorem ZeD {e:TypeId} :∀{ds:List (DataW H)} {i:Nat} {d:DataW H},ds[i]? = some d→∀m,m∈d.weights P e→m∈DataW.weightsAll P e ds
  | d :: ds,0,d',h2,m,hm=>by
    simp only [List.getElem?_cons_zero,Option.some.injEq] at h2
    subst h2
    simp only [DataW.weightsAll,List.mem_append];exact .inl hm
  | d :: ds,i+1,d',h2,m,hm=>by
    simp only [DataW.weightsAll,List.mem_append];exact .inr (ZeD (by simpa using h2) m hm)
  | [],_,_,h2,_,_=>by simp at h2
theorem Zje {t:TypeId} {fs:Array Field} (ht:P.underlying t=some (.struct fs)) (ps:List (List Value→Prop)) (hf:Zeu P fs.toList 0 (P.cellsOf t)=true) (hlen:fs.toList.length=ps.length)
    (h :∀(i:Nat) (f:Field) (p:List Value→Prop),fs.toList[i]? = some f→ps[i]? = some p→Zbv enc P W f.type p):Zbv enc P W t (Parts ps):=fun fuel cs d pl htr hw=>by
  obtain ⟨xs,n,rfl,hx,hl,hxl,hel⟩:=DataW.trod_struct ht htr
  simp only [Prod.mk.injEq] at hx
  obtain ⟨rfl,_⟩:=hx
  have:=Zo5 (ps:=ps) hf hl hlen fun i f p h1 h2=>by
    have h3:=hel i f (by simpa using h1)
    have hi:i<xs.length:=by
      have:=(List.getElem?_eq_some_iff.1 h1).1
      simp only [Array.length_toList] at this
      omega
    rw [List.getElem?_eq_getElem hi] at h3
    rcases hxi:xs[i] with ⟨d,pl'⟩
    refine h i f p h1 h2 n _ d pl' (by rw [h3,hxi]) fun m hm=>hw m ?_
    simp only [DataW.weights,ht]
    exact Zcq (i:=i) (t:=f.type) (d:=d) (by simp [h1]) (by simp [List.getElem?_eq_getElem hi,hxi]) m hm
  simpa using this
theorem Z2 {α:Type} {t e:TypeId} {w:Nat} {R:Rel α} (ht:P.underlying t=some (.slice e)) (hc:P.cellsOf e=w) (hb:0<P.bytesOf e) (hw0:0<w) (h:Zac enc P W e R):Zac enc P W t (Zap w R):=fun fuel cs d pl htr hw=>by
  rcases DataW.trod_slice ht htr with ⟨rfl,_⟩ | ⟨a,len,cap,elems,rest,n,rfl,rfl,hx,_,hl,hm,hlen,hel,_,_⟩
  · exact ⟨[],none,0,rfl,⟨fun i x hi=>by simp at hi,Nat.le_refl _,Nat.zero_le _⟩⟩
  · simp only [Prod.mk.injEq] at hx
    obtain ⟨rfl,_⟩:=hx
    have hlen2:len≤140737488355328:=by
      have:=hw ((elems.length+rest.length)*P.bytesOf e) (by simp [DataW.weights,ht])
      have h2:elems.length+rest.length≤(elems.length+rest.length)*P.bytesOf e:=Nat.le_mul_of_pos_right _ hb
      unfold reachBytes at this
      omega
    have each :∀i,i<len→∃x row,R (ZQ W) row x∧row.length=w∧∀j,j<w→W.cell? ((a.add (i*w)).add j)=row[j]?:=fun i hi=>by
      have h1:=hel i hi
      have hi':i<elems.length:=by omega
      rw [List.getElem?_eq_getElem hi'] at h1
      obtain ⟨row,hr1,hr2⟩:=Option.bind_eq_some_iff.1 h1
      rw [hc] at hr1
      obtain ⟨hr3,hr4⟩:=Zom hr1
      rcases hxi:elems[i] with ⟨d,pl'⟩
      obtain ⟨x,hx⟩:=h n row d pl' (by rw [hr2,hxi]) fun m hm=>hw m (by
        simp only [DataW.weights,ht,List.mem_cons,List.mem_append]
        exact .inr (.inl (ZeD (i:=i) (d:=d) (by simp [List.getElem?_eq_getElem hi',hxi]) m hm)))
      exact ⟨x,row,hx,hr3,hr4⟩
    have hsp:0<len→a.spot=none:=fun h0=>by
      obtain ⟨x,row,_,hr,hj⟩:=each 0 h0
      have h1:=hj 0 hw0
      rw [List.getElem?_eq_getElem (by omega)] at h1
      have:=(ZjP h1).1
      simpa [Addr.add] using this
    refine ⟨(List.range len).attach.map fun i=>(each i.1 (List.mem_range.1 i.2)).choose,some a,cap,by simp,⟨fun i x hi=>?_,by simpa using hl,by simpa using hlen2⟩⟩
    have hi':i<len:=by
      have:=(List.getElem?_eq_some_iff.1 hi).1
      simpa using this
    have hxx:x=(each i hi').choose:=by
      simp [hi'] at hi
      exact hi.symm
    obtain ⟨row,hr1,hr2,hr3⟩:=(each i hi').choose_spec
    have hs:=hsp (by omega)
    refine ⟨a.block,a.off,row,?_,by rw [hxx];exact hr1,fun j u hj=>?_⟩
    · obtain ⟨b,o,s⟩:=a;simp only at hs;subst hs;rfl
    · have hjw:j<w:=by rw [← hr2];exact (List.getElem?_eq_some_iff.1 hj).1
      have h4:=hr3 j hjw
      rw [hj] at h4
      have:=ZjP h4
      have ea:(a.add (i*w)).add j=⟨a.block,a.off+i*w+j,none⟩:=by
        rw [Addr.add_off _ _ (by rw [Addr.add_off _ _ hs]),Addr.add_off _ _ hs]
      rwa [ea] at this
def ZpT (enc:TypeId × Value→H) (P:Program) (W:World):List Field→List (List Value→Prop)→Prop
  | [],[]=>True
  | f :: fs,p :: ps=>Zbv enc P W f.type p∧ZpT enc P W fs ps
  | _,_=>False
theorem Zjf :∀{fs:List Field} {ps:List (List Value→Prop)},ZpT enc P W fs ps→fs.length=ps.length
  | [],[],_=>rfl
  | _ :: _,_ :: _,h=>by simp only [List.length_cons,Zjf h.2]
  | [],_ :: _,h=>h.elim
  | _ :: _,[],h=>h.elim
theorem Zjg :∀{fs:List Field} {ps:List (List Value→Prop)},ZpT enc P W fs ps→∀(i:Nat) (f:Field) (p:List Value→Prop),fs[i]? = some f→ps[i]? = some p→Zbv enc P W f.type p
  | _ :: _,_ :: _,h,0,f,p,h1,h2=>by
    simp only [List.getElem?_cons_zero,Option.some.injEq] at h1 h2
    subst h1;subst h2;exact h.1
  | _ :: _,_ :: _,h,i+1,f,p,h1,h2=>Zjg h.2 i f p (by simpa using h1) (by simpa using h2)
  | [],_,_,i,f,p,h1,h2=>by simp at h1
  | _ :: _,[],h,_,_,_,_,_=>h.elim
theorem Z0 {t:TypeId} {fs:Array Field} (ht:P.underlying t=some (.struct fs)) (ps:List (List Value→Prop)) (hf:Zeu P fs.toList 0 (P.cellsOf t)=true) (h:ZpT enc P W fs.toList ps):Zbv enc P W t (Parts ps):=
  Zje ht ps hf (Zjf h) (Zjg h)
theorem ZdF {t:TypeId} {v:Value} {d:DataW H} {ps:List MemPlace} {p:List Value→Prop} (h:DataW.Trod enc P W 0 (fun _=>true) true t v d ps) (ho:Zbv enc P W t p) (hw :∀m,m∈d.weights P t→m≤reachBytes):p v.cells.toList:=by
  obtain ⟨n,hn⟩:=h;exact ho n _ _ _ hn hw
theorem weigh {ts:List TypeId} {ds:List (DataW H)} (h:(DataW.weightsEach P ts ds).all (·≤reachBytes)=true) {i:Nat} {t:TypeId} {d:DataW H} (h1:ts[i]? = some t) (h2:ds[i]? = some d) :∀m,m∈d.weights P t→m≤reachBytes:=fun m hm=>by
  have:=List.all_eq_true.1 h m (Zcq h1 h2 m hm)
  simpa using this
end
end Go.BL
namespace Go.BL
section
variable {P:PJ} {n:Nat} {ops:Array Oper} {i:Nat} {K:ZaG} {S:Env} {D:List Deferred} {B:Kn} {L:List Cells}
variable {dst:Option Tmp} {ty:TypeId} {pos:String} {after:Array Edge} {g:Option (Nat × Bool)}
theorem Zmi {P:Program} {B:Kn} {L:Cells} {q:Addr} {cp:Nat} {b:Int} (hs:ZbL B L (some q) [.int .u8 b]) {Q:Value→Kn→Cells→Prop} (h:Q (str [UInt8.ofNat b.toNat]) B L):hb P (Conv.bytesToString (.slice (some q) 1 cp)) Q B L:=by
  simp only [Conv.bytesToString,Zp,loadCells]
  refine Zbi [.int .u8 b] 0 #[] (fun j v hj=>by simpa using hs j v hj) ?_
  have e:Q (Value.string (ByteArray.empty.push (UInt8.ofNat b.toNat))) B L:=h
  simpa [Zr,Zp] using e
theorem ZmL {s d e:TypeId} {x:Operand} {q:Addr} {cp:Nat} {b:Int} (hg:Zm ops S g=some true) (hd:Zx n dst=true) (hs:P.underlying s=some (.slice e)) (hd':P.underlying d=some .string) (he:P.underlying e=some (.int .u8))
    (hx:ev S x=some (.slice (some q) 1 cp)) (hc:ZbL B L.flatten (some q) [.int .u8 b]) (h:K (str [UInt8.ofNat b.toNat]) D B L):opX P n ops i ⟨dst,.convert s d x,ty,pos,after,g⟩ K S D B L:=
  ZO hg hd (fun ρ hρ Q F q'=>by
    simp only [execOp,convert,hρ x _ hx,Zp,Zt hs,Zt hd',Zt he]
    exact Zmi hc.app q') h
end
end Go.BL
namespace Go.BL
set_option linter.unusedVariables false
theorem All3.at {α:Type} {R:Zgq α} {rows:List (List Value)} {xs:List α} {s:Cells} (h:All3 R rows xs s) :∀{i:Nat} {x:α},xs[i]? = some x→∃row li lr,rows[i]? = some row∧R row x li∧s.Perm (li ++ lr)∧∀x' li',R row x' li'→∃s',All3 R rows (xs.set i x') s'∧s'.Perm (li' ++ lr):=by
  induction h with
  | nil=>intro i x hx;simp at hx
  | @cons row0 x0 ins0 rest rows xs h1 h2 ih=>
    intro i x hx
    cases i with
    | zero=>
      simp only [List.getElem?_cons_zero,Option.some.injEq] at hx
      subst hx
      exact ⟨row0,ins0,rest,rfl,h1,.refl _,fun x' li' hr=>⟨li' ++ rest,.cons hr h2,.refl _⟩⟩
    | succ i=>
      obtain ⟨row,li,lr,e1,e2,e3,e4⟩:=ih (by simpa using hx)
      refine ⟨row,li,ins0 ++ lr,by simpa using e1,e2,?_,fun x' li' hr=>?_⟩
      · exact (List.Perm.append_left ins0 e3).trans (by rw [← List.append_assoc,← List.append_assoc];exact List.Perm.append_right lr List.perm_append_comm)
      · obtain ⟨s',f1,f2⟩:=e4 x' li' hr
        exact ⟨ins0 ++ s',.cons h1 f1,(List.Perm.append_left ins0 f2).trans (by rw [← List.append_assoc,← List.append_assoc];exact List.Perm.append_right lr List.perm_append_comm)⟩
theorem Zby.open1 {α:Type} {l:Cells} {p:Option Addr} {c:Nat} {T:TypeId} {w:Nat} {R:Zgq α} {xs:List α} (h:Zby l p c T w R xs) {i:Nat} {x:α} (hx:xs[i]? = some x) :
∃b arr row li lr,p=some ⟨b,0,none⟩∧R row x li∧row.length=w∧l.Perm (li ++ (ZaK b arr T ++ lr))∧(∀(j:Nat) (u:Value),row[j]? = some u→arr[i*w+j]? = some u)∧
∀x' li',R row x' li'→Zby (li' ++ (ZaK b arr T ++ lr)) p c T w R (xs.set i x'):=by
  obtain ⟨rows,blk,ins,h1,h2,h3,hvl⟩:=h
  have hlt:=(List.getElem?_eq_some_iff.1 hx).1
  obtain ⟨hl0,⟨_,h0,_,_⟩ | ⟨b,arr,rfl,ha,ht,rfl,hm⟩⟩:=hvl
  · omega
  · obtain ⟨row,li,lr,e1,e2,e3,e4⟩:=h1.at hx
    refine ⟨b,arr,row,li,lr,rfl,e2,h2 row (List.mem_of_getElem? e1),?_,fun j u hj=>?_,fun x' li' hr=>?_⟩
    · refine h3.trans ((List.Perm.append_left _ e3).trans ?_)
      rw [← List.append_assoc,← List.append_assoc];exact List.Perm.append_right lr List.perm_append_comm
    · have hu:=Ze9 h2 e1 hj
      rw [← ht,List.getElem?_take] at hu
      split at hu
      · exact hu
      · cases hu
    · obtain ⟨s',f1,f2⟩:=e4 x' li' hr
      refine ⟨rows,ZaK b arr T,s',f1,h2,?_,by rw [List.length_set];exact hl0,.inr ⟨b,arr,rfl,ha,by rw [List.length_set];exact ht,rfl,by rw [List.length_set];exact hm⟩⟩
      refine List.Perm.trans ?_ (List.Perm.append_left _ f2.symm)
      rw [← List.append_assoc,← List.append_assoc];exact List.Perm.append_right lr List.perm_append_comm
section
variable {P:PJ} {n:Nat} {Q:Exit→Zaj} {S:Env} {D:List Deferred} {B:Kn} {L:List Cells} {c:Code}
theorem ZpX {L':List Cells} (hp:L.flatten.Perm L'.flatten) (h:wpS P n c Q S D B L'):wpS P n c Q S D B L:=fun C k T hn hT hA=>by
  refine C.X.drop (r:=L'.flatten ++ C.F) (gl:=[]) ?_ (h C k T hn hT hA)
  rw [List.append_nil];exact hp.append_right C.F
theorem ZgD {a b:Cells} (j m:Nat) (hj:L[j]? = some a) (hm:L[m]? = some b) (hne:j≠m) (h:wpS P n c Q S D B ((L.set j (b ++ a)).set m [])):wpS P n c Q S D B L:=by
  refine ZpX ?_ h
  obtain ⟨r,h1,h2⟩:=Z1 [] (b ++ a) hj
  have hm':(L.set j (b ++ a))[m]? = some b:=by rw [List.getElem?_set_ne hne];exact hm
  obtain ⟨r2,h3,h4⟩:=Z1 [] [] hm'
  rw [List.append_nil] at h1 h2 h3 h4
  rw [List.nil_append] at h4
  have h5:(b ++ (a ++ r)).Perm (b ++ r2):=by rw [← List.append_assoc];exact h2.symm.trans h3
  exact h1.trans (((List.perm_append_left_iff b).1 h5).trans h4.symm)
end
end Go.BL
namespace Go.BL
set_option linter.unusedVariables false
theorem All3.row {α:Type} {R:Zgq α} {rows:List (List Value)} {xs:List α} {s:Cells} (h:All3 R rows xs s) {z x:α} (f:List Value→List Value) (hf :∀row li,R row x li→R (f row) z li) :∀{k:Nat},xs[k]? = some x→∃row,rows[k]? = some row∧All3 R (rows.set k (f row)) (xs.set k z) s:=by
  induction h with
  | nil=>intro k hx;simp at hx
  | @cons row0 x0 ins0 rest rows xs h1 h2 ih=>
    intro k hx
    cases k with
    | zero=>
      simp only [List.getElem?_cons_zero,Option.some.injEq] at hx
      subst hx
      exact ⟨row0,rfl,.cons (hf _ _ h1) h2⟩
    | succ k=>
      obtain ⟨row,e1,e2⟩:=ih (k:=k) (by simpa using hx)
      exact ⟨row,by simpa using e1,.cons h1 e2⟩
theorem Zby.cell {α:Type} {l:Cells} {p:Option Addr} {c:Nat} {T:TypeId} {w:Nat} {R:Zgq α} {xs:List α} (h:Zby l p c T w R xs) {i:Nat} {x:α} (hx:xs[i]? = some x) {B:Kn} {L:List Cells} (j:Nat) (hj:L[j]? = some l) :
∃b row li lr,p=some ⟨b,0,none⟩∧R row x li∧row.length=w∧l.Perm (li ++ lr)∧(∀(m:Nat) (u:Value),row[m]? = some u→ZaH B L.flatten ⟨b,i*w+m,none⟩ u)∧∀x' li',R row x' li'→Zby (li' ++ lr) p c T w R (xs.set i x'):=by
  obtain ⟨b,arr,row,li,lr,e1,e2,e3,e4,e5,e6⟩:=h.open1 hx
  refine ⟨b,row,li,ZaK b arr T ++ lr,e1,e2,e3,e4,fun m u hm=>⟨rfl,arr.toArray,T,(0,0),.inr ?_,by simpa using e5 m u hm⟩,e6⟩
  obtain ⟨r,h1,h2⟩:=Z1 [] [] hj
  rw [List.append_nil] at h1
  rw [h1.mem_iff]
  refine List.mem_append_left _ (e4.mem_iff.2 (List.mem_append_right _ (List.mem_append_left _ ?_)))
  exact List.mem_singleton.2 rfl
section
variable {P:PJ} {n:Nat} {ops:Array Oper} {i:Nat} {K:ZaG} {S:Env} {D:List Deferred} {B:Kn} {L:List Cells}
variable {dst:Option Tmp} {ty:TypeId} {pos:String} {after:Array Edge} {g:Option (Nat × Bool)}
theorem ZhK {α:Type} {R:Zgq α} {xs:List α} {x0:α} (z:α) {t T:TypeId} {x y:Operand} {v:Value} {us:List Value} {sz k c b:Nat} (off:Nat) {l:Cells} {p:Option Addr} (j:Nat) (hj:L[j]? = some l) (hv:Zby l p c T sz R xs) (hp:p=some ⟨b,0,Option.none⟩) (hx0:xs[k]? = some x0) (hg:Zm ops S g=some true) (hd:Zx n dst=true) (hsz:ZU P t=some us.length)
    (hx:ev S x=some (ptr ⟨b,k*sz+off,Option.none⟩)) (hy:ev S y=some v) (hvc:v.cells=us.toArray) (ho:us.all Zgc=true) (hoff:off+us.length≤sz) (hr :∀row li,R row x0 li→R (Zag row off us) z li)
    (h :∀l',Zby l' p c T sz R (xs.set k z)→K undef D B (L.set j l')):opX P n ops i ⟨dst,.store t x y,ty,pos,after,g⟩ K S D B L:=by
  subst hp
  obtain ⟨rows,blk,ins,h1,h2,h3,hl1,⟨hc,_⟩ | ⟨b',arr,e,ha,ht,rfl,hmc⟩⟩:=hv
  · cases hc
  · cases e
    have hk:=(List.getElem?_eq_some_iff.1 hx0).1
    obtain ⟨row,hrow,a1⟩:=h1.row (fun row=>Zag row off us) hr hx0
    have hw:row.length=sz:=h2 row (List.mem_of_getElem? hrow)
    have hsz1:(k+1)*sz≤xs.length*sz:=Nat.mul_le_mul_right sz hk
    have hcs:xs.length*sz≤c*sz:=Nat.mul_le_mul_right sz hmc
    rw [Nat.succ_mul] at hsz1
    have hb1:k*sz+off+us.length≤arr.length:=by omega
    refine Znj (L':=L.set j (ZaK b arr T ++ ins)) (K':=fun u D' B' L₁=>u=undef∧D'=D∧B'=B∧L₁=(L.set j (ZaK b arr T ++ ins)).set j (ZaK b (Zag arr (k*sz+off) us) T ++ ins)) ?_ ?_ ?_
    · obtain ⟨r,e1,e2⟩:=Z1 [] (ZaK b arr T ++ ins) hj
      rw [List.append_nil] at e1 e2
      exact e1.trans ((h3.append_right r).trans e2.symm)
    · have hj':(L.set j (ZaK b arr T ++ ins))[j]? = some (ZaK b arr T ++ ins):=by
        rw [List.getElem?_set_self (List.getElem?_eq_some_iff.1 hj).1]
      exact Zd0 us j (Zag arr (k*sz+off) us) hg hd hsz hx hy hvc ho (T:=T) (r:=ins) hj' rfl (by rw [Nat.ble_eq];exact hb1) rfl ⟨rfl,rfl,rfl,rfl⟩
    · rintro u D' B' L₁ hle ⟨rfl,rfl,rfl,rfl⟩
      have hnew:Zby (ZaK b (Zag arr (k*sz+off) us) T ++ ins) (some ⟨b,0,Option.none⟩) c T sz R (xs.set k z):=by
        have hsl:(Zag row off us).length=sz:=by rw [Z6];exact hw
        have hwide:wide sz (rows.set k (Zag row off us)):=fun r' hr'=>by
          rcases List.mem_or_eq_of_mem_set hr' with hr' | rfl
          · exact h2 r' hr'
          · exact hsl
        refine ⟨rows.set k (Zag row off us),_,ins,a1,hwide,.refl _,?_,.inr ⟨b,_,rfl,by rw [Z6];exact ha,?_,rfl,by rw [List.length_set];exact hmc⟩⟩
        · rw [Zda hwide,List.length_set,List.length_set,h1.len]
        · rw [List.length_set]
          have e:=Zdb (us:=us) (off:=off) h2 hrow hoff
          rw [ZdD _ _ _ _ (by omega) (by omega),ht,e]
      refine ⟨L.set j (ZaK b (Zag arr (k*sz+off) us) T ++ ins),[],?_,h _ hnew⟩
      rw [List.set_set,List.append_nil]
end
end Go.BL
namespace Go.BL
open Go.Conc (G)
set_option linter.unusedVariables false
section
variable {P:PJ} {n:Nat} {ops:Array Oper} {i:Nat} {K:ZaG} {S:Env} {D:List Deferred} {B:Kn} {L:List Cells}
variable {dst:Option Tmp} {ty:TypeId} {pos:String} {after:Array Edge} {g:Option (Nat × Bool)}
theorem Zj5 {α:Type} {R:Zgq α} {xs:List α} (z:α) {t u e:TypeId} {x y:Operand} {sz by_ m c c2:Nat} {p q:Option Addr} {row:List Value} {l:Cells} {inss r:List Cells} (j:Nat) (ks:List Nat) (hpk:ZaV L (j :: ks)=some (l :: inss,r)) (hnd:Zfr (j :: ks)=true) (hv:Zby l p c e sz R xs) (hm:m=xs.length) (hg:Zm ops S g=some true) (hd:Zx n dst=true)
    (he:ZcI P t e sz by_=true) (hu:(match P.underlying u with | some (.slice _)=>true | _=>false)=true) (hx:ev S x=some (.slice p m c)) (hy:ev S y=some (.slice q 1 c2)) (hs:ZbL B L.flatten q row) (hone:row.all Zgc=true) (hrl:row.length=sz) (ins0:Cells) (hi0:inss.flatten=ins0) (hr:R row z ins0) (hb1:(xs.length+1)*by_≤140737488355328)
    (h :∀l' p' c',Zby l' p' c' e sz R (xs ++ [z])→K (.slice p' (xs ++ [z]).length c') D B (ZcW r (j :: ks) (l' :: inss.map fun _=>[]))):opX P n ops i ⟨dst,.call ⟨.builtin .append,#[x,y],#[t,u]⟩,ty,pos,after,g⟩ K S D B L:=by
  subst hm
  subst hi0
  obtain ⟨rows,blk,inn,h1,h2,h3,h4⟩:=hv
  have hpp:=ZaN (j :: ks) L (l :: inss) r hpk
  have p1:L.flatten.Perm (blk ++ (inn ++ (inss.flatten ++ r.flatten))):=by
    refine hpp.trans ?_
    simp only [List.flatten_cons,List.append_assoc]
    refine (h3.append_right _).trans ?_
    rw [List.append_assoc]
  refine Zo8 (L':=[blk,inn ++ (inss.flatten ++ r.flatten)]) (K':=fun v D' B' L₁=>∃blk' p' c',L₁=[blk',inn ++ (inss.flatten ++ r.flatten)]∧v = .slice p' (xs.length+1) c'∧D'=D∧B'=B∧Zhy blk' p' (xs.length+1) c' e sz (rows.flatten ++ row)) ?_ ?_ ?_
  · simpa using p1
  · refine Zfb 0 rfl h4 hg hd he hu hx hy ?_ (by rw [hrl,Nat.one_mul]) hone hb1 fun l' p' c' hv'=>⟨l',p',c',rfl,rfl,rfl,rfl,hv'⟩
    cases q with
    | none=>exact hs
    | some a=>
      intro jj v hjj
      exact (hs jj v hjj).perm (by simpa using p1)
  · rintro v D' B' L₁ hle ⟨blk',p',c',rfl,rfl,rfl,rfl,hv'⟩
    have hnew:Zby (blk' ++ (inn ++ inss.flatten)) p' c' e sz R (xs ++ [z]):=⟨rows ++ [row],blk',inn ++ inss.flatten,h1.snoc hr,fun r' hr'=>by
      rcases List.mem_append.1 hr' with hr' | hr'
      · exact h2 r' hr'
      · rw [List.mem_singleton.1 hr'];exact hrl,.refl _,by rw [List.length_append,List.flatten_append];simpa using hv'⟩
    refine ⟨_,?_,by have:=h _ _ _ hnew;rwa [List.length_append] at this⟩
    have hq:=Zcz ((blk' ++ (inn ++ inss.flatten)) :: inss.map fun _=>[]) r (j :: ks) (ZcB hnd) (fun jj hj=>ZcA (j :: ks) L (l :: inss) r hpk jj (.inr hj))
    have hnil:((inss.map fun _=>([]:Cells))).flatten=[]:=by
      clear hpk hpp h hnew hs h3 p1 hq
      induction inss with
      | nil=>rfl
      | cons a as ih=>simp
    rw [List.flatten_cons,hnil,List.append_nil] at hq
    refine List.Perm.trans ?_ hq
    simp only [List.flatten_cons,List.flatten_nil,List.append_nil,List.append_assoc]
    exact .refl _
theorem Zaa.borrowL {f:FuncId} {args:List Value} {ls:List Cells} {v:Value} (h:(∀p,p∈ls.flatten→(B.add ls.flatten).mem p.1=some p.2)→Zaa P f args (B.add ls.flatten) v):ZJ P f args B ls (fun v' B' Ls=>v'=v∧B'=B∧Ls=ls):=by
  have:=(ZJ.borrowL (P:=P) (Ls:=[]) h).mono (Post':=fun v' B' Ls=>v'=v∧B'=B∧Ls=ls) fun v' B' Ls' _ ⟨B₂,Ls₂,a1,a2,_,_,a3,a4,a5,a6⟩=>by subst a5;subst a6;exact ⟨a4,a2.trans a3,by rw [a1,List.append_nil]⟩
  rwa [List.append_nil] at this
theorem Zcr {f:FuncId} {xs:List Operand} {vs:List Value} {ats:Array TypeId} {v:Value} {ls r:List Cells} (js:List Nat) (hp:ZaV L js=some (ls,r)) (hput:ZcW r js ls=L) (hn:Zfr js=true) (hg:Zm ops S g=some true) (hd:Zx n dst=true) (he:enters P f=true) (ha:evs S xs=some vs)
    (hc:ZJ P f vs B ls (fun v' B' Ls=>v'=v∧B'=B∧Ls=ls)) (h:K v D B L):opX P n ops i ⟨dst,.call ⟨.value (.func f),xs.toArray,ats⟩,ty,pos,after,g⟩ K S D B L:=
  Zat js hp hn hg hd he ha hc fun v' B' Ls' hle ⟨h1,h2,h3⟩=>by subst h1;subst h2;subst h3;rw [hput];exact h
end
theorem ZJ.borrowK {P:PJ} {B:Kn} {f:FuncId} {args:List Value} {Ls:List Cells} {Post:Value→Kn→List Cells→Prop} (k:Nat)
    (h:(∀p,p∈(Ls.take k).flatten→(B.add (Ls.take k).flatten).mem p.1=some p.2)→ZJ P f args (B.add (Ls.take k).flatten) (Ls.drop k) Post) :
    ZJ P f args B Ls (fun v B' Ls'=>∃B₂ Ls₂,Ls'=Ls.take k ++ Ls₂∧B'=B₂.minus (Ls.take k).flatten∧(B.add (Ls.take k).flatten).le B₂∧(∀p,p∈(Ls.take k).flatten→(B.add (Ls.take k).flatten).mem p.1=some p.2)∧(B.add (Ls.take k).flatten).minus (Ls.take k).flatten=B∧Post v B₂ Ls₂):=by
  have:=ZJ.borrowL (P:=P) (ls:=Ls.take k) (Ls:=Ls.drop k) h
  rwa [List.take_append_drop] at this
theorem Zqa {B:Kn} {ls:List Cells} {l:Cells} (hm :∀p,p∈ls.flatten→B.mem p.1=some p.2) (k:Nat) (hk:ls[k]? = some l) :∀q,q∈l→B.mem q.1=some q.2:=fun q hq=>hm q (List.mem_flatten.2 ⟨l,List.mem_of_getElem? hk,hq⟩)
theorem Z3.lendK {α:Type} {B BV:Kn} {l:Cells} {ls:List Cells} {p:Option Addr} {c:Nat} {T:TypeId} {w:Nat} {R:Rel α} {xs:List α} (h:Z3 BV l p c T w R xs) (hR:Zmz R) (k:Nat) (hk:ls[k]? = some l) (hm :∀q,q∈ls.flatten→(B.add ls.flatten).mem q.1=some q.2) (hl:xs.length≤2000000):SlK (B.add ls.flatten) p c w R xs:=⟨h.rowsF hR (Zqa hm k hk),h.cap,hl⟩
theorem Zby.lendK {α:Type} {B:Kn} {l:Cells} {ls:List Cells} {p:Option Addr} {c:Nat} {T:TypeId} {w:Nat} {R:Zgq α} {R':Rel α} {xs:List α} (h:Zby l p c T w R xs) (hR :∀{B:Kn} {row:List Value} {x:α} {ins:Cells},R row x ins→(∀q,q∈ins→B.mem q.1=some q.2)→R' B row x) (hM:Mono R') (k:Nat) (hk:ls[k]? = some l) (hm :∀q,q∈ls.flatten→(B.add ls.flatten).mem q.1=some q.2) (hl:xs.length≤2000000):SlK (B.add ls.flatten) p c w R' xs:=h.known (fun _ _ _ a b=>hR a b) hM (Zqa hm k hk) hl
theorem Zsf {l a lr:Cells} (h:l.Perm (a ++ lr)):l.Perm (lr ++ ([a]:List Cells).flatten):=by
  simpa using h.trans List.perm_append_comm
theorem Zo4 {l a b lr:Cells} (h:l.Perm (a ++ b ++ lr)):l.Perm (lr ++ ([a,b]:List Cells).flatten):=by
  simpa using h.trans List.perm_append_comm
theorem ZrY {P:PJ} {n:Nat} {Q:Exit→Zaj} {S:Env} {D:List Deferred} {B:Kn} {L:List Cells} {c:Code} (es:List Cells) (he:es.flatten=[]) (h:wpS P n c Q S D B (L ++ es)):wpS P n c Q S D B L:=
  ZpX (by rw [List.flatten_append,he,List.append_nil]) h
end Go.BL
namespace Go.BL
section
variable {P:PJ} {n:Nat} {ops:Array Oper} {i:Nat} {K:ZaG} {S:Env} {D:List Deferred} {B:Kn} {L:List Cells}
variable {dst:Option Tmp} {ty:TypeId} {pos:String} {after:Array Edge} {g:Option (Nat × Bool)}
end
end Go.BL
namespace Go.BL
section
variable {P:PJ} {n:Nat} {ops:Array Oper} {i:Nat} {K:ZaG} {S:Env} {D:List Deferred} {B:Kn} {L:List Cells}
variable {dst:Option Tmp} {ty:TypeId} {pos:String} {after:Array Edge} {g:Option (Nat × Bool)}
variable {α:Type} {R:Rel α} {xs:List α}
theorem ZbL.own {B:Kn} {L:List Cells} {l:Cells} {p:Option Addr} {m c sz:Nat} {T:TypeId} {vs:List Value} (h:Zhy l p m c T sz vs) (j:Nat) (hj:L[j]? = some l):ZbL B L.flatten p vs:=by
  obtain ⟨h1,⟨rfl,rfl,rfl,rfl⟩ | ⟨b,arr,rfl,h2,h3,rfl,h4⟩⟩:=h
  · exact List.eq_nil_of_length_eq_zero (by simpa using h1)
  · intro k v hk
    have hv':arr[k]? = some v:=by
      rw [← h3,List.getElem?_take] at hk
      split at hk
      · exact hk
      · cases hk
    exact ZbL.box (B:=B) j hj k v hv'
end
end Go.BL
namespace Go.BL
theorem ZH {P:PJ} {n:Nat} {Q:Exit→Zaj} {S:Env} {D:List Deferred} {B:Kn} {L:List Cells} {c:Code} (L':List Cells) (hl:L=L') (h:wpS P n c Q S D B L'):wpS P n c Q S D B L:=by subst hl;exact h
theorem sQ:(∀(p:Prop) [Decidable p],(decide p=true)=p)∧(∀(p:Prop) [Decidable p],(decide p=false) = ¬p)∧(∀b:Bool,((!b)=true)=(b=false))∧(∀b:Bool,((!b)=false)=(b=true))∧(∀(p:Prop) [Decidable p],(decide (¬p)) = !decide p)∧(∀(p:Prop) [Decidable p],(¬¬p)=p)∧(∀a b:Int,(¬a<b)=(b≤a))∧(∀a b:Int,(¬a≤b)=(b<a)):=
  ⟨fun p _=>by simp,fun p _=>by simp,by simp,by simp,fun p _=>by simp,fun p _=>by simp,by simp,by simp⟩
end Go.BL
namespace Go.BL
def orI (a b:Int):Int:=IntKind.i64.wrap (BitVec.ofInt 64 a ||| BitVec.ofInt 64 b).toNat
def ZsJ (a b:Int):Int:=IntKind.i64.wrap (BitVec.ofInt 64 a &&& BitVec.ofInt 64 b).toNat
section
variable {P:PJ} {n:Nat} {ops:Array Oper} {i:Nat} {K:ZaG} {S:Env} {D:List Deferred} {B:Kn} {L:List Cells}
variable {dst:Option Tmp} {ty:TypeId} {pos:String} {after:Array Edge} {g:Option (Nat × Bool)}
theorem Zk1 {t kt et:TypeId} {x y:Operand} {b:Nat} {l:Cells} {kvs:KV} {k:List UInt8} (j:Nat) (hj:L[j]? = some l) (hl:ZrA l b kvs) (hg:Zm ops S g=some true) (hd:Zx n dst=true) (hu:P.underlying t=some (.map kt et)) (hk:P.underlying kt=some .string)
    (hz:Zay P et=some (.int .i64 0)) (hx:ev S x=some (.map (some b))) (hy:ev S y=some (str k)) (h:K (.int .i64 ((mget kvs k).getD 0)) D B L):opX P n ops i ⟨dst,.lookup t x y false,ty,pos,after,g⟩ K S D B L:=
  Zd4 hg hd fun ρ hρ F=>by
    obtain ⟨es,clock,rfl,ok⟩:=hl
    have hin:(b,Obj.map es clock)∈L.flatten ++ F:=by
      rw [((Z1 F [] hj).choose_spec.1).mem_iff];simp
    simp only [execOp,Instr.lookup,hρ x _ hx,hρ y _ hy,Zp,Zt hu]
    refine ⟨_,.inr hin,rfl,rfl,?_⟩
    simp only [Zer,Zp,Zr]
    refine Zhg hk ?_
    rw [Zp]
    refine ZhY hk ok.ent ?_
    cases hm:mlook kvs k 0 with
    | none=>
      obtain ⟨_,_,_,m4⟩:=ZfS hm
      simp only [Zbs hz,Zr,Zp,ZnQ,Bool.false_eq_true,if_false]
      rw [m4] at h
      exact ⟨L,.of (List.Perm.refl _),h⟩
    | some p=>
      obtain ⟨jj,u⟩:=p
      obtain ⟨m,w,rfl,rfl,m3,m4,_,m6⟩:=ZfR hm
      simp only [Zr,Zp,Bool.false_eq_true,if_false]
      rw [m6] at h
      exact ⟨L,.of (List.Perm.refl _),h⟩
section
variable {t u:TypeId} {x y:Operand} {a b r:Int}
theorem Zs4 (hg:Zm ops S g=some true) (hd:Zx n dst=true) (hx:ev S x=some (.int .i64 a)) (hy:ev S y=some (.int .i64 b)) (h:K (.int .i64 (orI a b)) D B L):opX P n ops i ⟨dst,.binOp .or t x y u,ty,pos,after,g⟩ K S D B L:=
  ZO hg hd (fun ρ hρ Q F q=>by
    simp only [execOp,hρ x _ hx,hρ y _ hy,Zp,Zab,binOp,ne_eq,not_true_eq_false,if_false,Op.intBits,Zr];exact q) h
theorem Zr1 (hg:Zm ops S g=some true) (hd:Zx n dst=true) (hx:ev S x=some (.int .i64 a)) (hy:ev S y=some (.int .i64 b)) (h:K (.int .i64 (ZsJ a b)) D B L):opX P n ops i ⟨dst,.binOp .and t x y u,ty,pos,after,g⟩ K S D B L:=
  ZO hg hd (fun ρ hρ Q F q=>by
    simp only [execOp,hρ x _ hx,hρ y _ hy,Zp,Zab,binOp,ne_eq,not_true_eq_false,if_false,Op.intBits,Zr];exact q) h
end
end
end Go.BL
namespace Go.BL
theorem om {p:Prop} (h:p:=by first | omega | (simp;done) | (simp;omega)):p:=h
theorem om2 {p:Prop} (h:p:=by first | assumption | omega | (simp;done) | (simp;omega)):p:=h
theorem oz {p:Prop} (h:p:=by omega):p:=h
theorem kr {p:Prop} (h:p:=by kernel_rfl):p:=h
theorem so {p:Prop} (h:p:=by simp only [];omega):p:=h
theorem so2 {p:Prop} (h:p:=by first | omega | (simp only [];omega)):p:=h
theorem oa {p:Prop} (h:p:=by first | assumption | omega):p:=h
theorem oy {p:Prop} (h:p:=by assumption):p:=h
theorem om3 {p:Prop} (h:p:=by first | omega | decide | (simp;done) | (simp;omega)):p:=h
theorem t1 {α0:Sort _} {a0:α0} : a0=a0∧True:=⟨rfl,trivial⟩
theorem t2 {α0 α1:Sort _} {a0:α0} {a1:α1} : a0=a0∧a1=a1∧True:=⟨rfl,rfl,trivial⟩
theorem t3 {α0 α1 α2:Sort _} {a0:α0} {a1:α1} {a2:α2} : a0=a0∧a1=a1∧a2=a2∧True:=⟨rfl,rfl,rfl,trivial⟩
theorem t4 {α0 α1 α2 α3:Sort _} {a0:α0} {a1:α1} {a2:α2} {a3:α3} : a0=a0∧a1=a1∧a2=a2∧a3=a3∧True:=⟨rfl,rfl,rfl,rfl,trivial⟩
theorem t5 {α0 α1 α2 α3 α4:Sort _} {a0:α0} {a1:α1} {a2:α2} {a3:α3} {a4:α4} : a0=a0∧a1=a1∧a2=a2∧a3=a3∧a4=a4∧True:=⟨rfl,rfl,rfl,rfl,rfl,trivial⟩
theorem t6 {α0 α1 α2 α3 α4 α5:Sort _} {a0:α0} {a1:α1} {a2:α2} {a3:α3} {a4:α4} {a5:α5} : a0=a0∧a1=a1∧a2=a2∧a3=a3∧a4=a4∧a5=a5∧True:=⟨rfl,rfl,rfl,rfl,rfl,rfl,trivial⟩
theorem t7 {α0 α1 α2 α3 α4 α5 α6:Sort _} {a0:α0} {a1:α1} {a2:α2} {a3:α3} {a4:α4} {a5:α5} {a6:α6} : a0=a0∧a1=a1∧a2=a2∧a3=a3∧a4=a4∧a5=a5∧a6=a6∧True:=⟨rfl,rfl,rfl,rfl,rfl,rfl,rfl,trivial⟩
theorem t8 {α0 α1 α2 α3 α4 α5 α6 α7:Sort _} {a0:α0} {a1:α1} {a2:α2} {a3:α3} {a4:α4} {a5:α5} {a6:α6} {a7:α7} : a0=a0∧a1=a1∧a2=a2∧a3=a3∧a4=a4∧a5=a5∧a6=a6∧a7=a7∧True:=⟨rfl,rfl,rfl,rfl,rfl,rfl,rfl,rfl,trivial⟩
theorem t10 {α0 α1 α2 α3 α4 α5 α6 α7 α8 α9:Sort _} {a0:α0} {a1:α1} {a2:α2} {a3:α3} {a4:α4} {a5:α5} {a6:α6} {a7:α7} {a8:α8} {a9:α9} : a0=a0∧a1=a1∧a2=a2∧a3=a3∧a4=a4∧a5=a5∧a6=a6∧a7=a7∧a8=a8∧a9=a9∧True:=⟨rfl,rfl,rfl,rfl,rfl,rfl,rfl,rfl,rfl,rfl,trivial⟩
theorem t11 {α0 α1 α2 α3 α4 α5 α6 α7 α8 α9 α10:Sort _} {a0:α0} {a1:α1} {a2:α2} {a3:α3} {a4:α4} {a5:α5} {a6:α6} {a7:α7} {a8:α8} {a9:α9} {a10:α10} : a0=a0∧a1=a1∧a2=a2∧a3=a3∧a4=a4∧a5=a5∧a6=a6∧a7=a7∧a8=a8∧a9=a9∧a10=a10∧True:=⟨rfl,rfl,rfl,rfl,rfl,rfl,rfl,rfl,rfl,rfl,rfl,trivial⟩
section
variable {P:PJ} {n:Nat} {ops:Array Oper} {i:Nat} {K:Zaj} {S:Env} {D:List Deferred} {B:Kn} {L:List Cells}
variable {dst:Option Tmp} {ty:TypeId} {pos:String} {after:Array Edge} {g:Option (Nat × Bool)} {t u:TypeId} {x y:Operand}
theorem xM {x:Operand} {v:Value} (hg:Zm ops S g=some true:=by exact rfl) (hd:Zx n dst=true:=by exact rfl) (hx:ev S x=some v:=by exact rfl) (h:K (Zbh S dst v) D B L):opW P n ops i ⟨dst,.move x,ty,pos,after,g⟩ K S D B L:=Zo (Zp1 hg hd hx h)
theorem xA {x:Operand} {v:Value} (hg:Zm ops S g=some true:=by exact rfl) (hd:Zx n dst=true:=by exact rfl) (hx:ev S x=some v:=by exact rfl) (h:K (Zbh S dst v) D B L):opW P n ops i ⟨dst,.assign x,ty,pos,after,g⟩ K S D B L:=Zo (Zk2 hg hd hx h)
theorem xP  {dst:Option Tmp} {op:Op} {t:TypeId} {pos:String} {after:Array Edge} {g:Option (Nat × Bool)}   (hg:Zm ops S g=some false:=by exact rfl) (hd:Zx n dst=true:=by exact rfl) (h:K (Zbh S dst undef) D B L):opW P n ops i ⟨dst,op,t,pos,after,g⟩ K S D B L:=Zo (ZpY  hg hd h)
theorem xT  {c:Operand} {a:Operand} {b:Operand} {v:Value}   (hg:Zm ops S g=some true:=by exact rfl) (hd:Zx n dst=true:=by exact rfl) (hc:ev S c=some (.bool true):=by exact rfl) (hx:ev S a=some v:=by exact rfl) (h:K (Zbh S dst v) D B L):opW P n ops i ⟨dst,.pick c a b,ty,pos,after,g⟩ K S D B L:=Zo (ZmE  hg hd hc hx h)
theorem xF  {c:Operand} {a:Operand} {b:Operand} {v:Value}   (hg:Zm ops S g=some true:=by exact rfl) (hd:Zx n dst=true:=by exact rfl) (hc:ev S c=some (.bool false):=by exact rfl) (hx:ev S b=some v:=by exact rfl) (h:K (Zbh S dst v) D B L):opW P n ops i ⟨dst,.pick c a b,ty,pos,after,g⟩ K S D B L:=Zo (ZmF  hg hd hc hx h)
theorem xE  {x:Operand} {ix:Nat} {vs:List Value} {v:Value}   (hg:Zm ops S g=some true:=by exact rfl) (hd:Zx n dst=true:=by exact rfl) (hx:ev S x=some (.tuple vs.toArray):=by exact rfl) (hi:vs[ix]? = some v:=by exact rfl) (h:K (Zbh S dst v) D B L):opW P n ops i ⟨dst,.extract x ix,ty,pos,after,g⟩ K S D B L:=Zo (ZmJ  hg hd hx hi h)
theorem xN  {x:Operand} {b:Bool} {t:TypeId}   (hg:Zm ops S g=some true:=by exact rfl) (hd:Zx n dst=true:=by exact rfl) (hx:ev S x=some (.bool b):=by exact rfl) (h:K (Zbh S dst (.bool (!b))) D B L):opW P n ops i ⟨dst,.unOp .not t x,ty,pos,after,g⟩ K S D B L:=Zo (ZrO  hg hd hx h)
theorem xW  {s:TypeId} {x:Operand} {fi:Nat} {off:Nat} {a:Addr}  (hf:Zy P s fi=some off) (hg:Zm ops S g=some true:=by exact rfl) (hd:Zx n dst=true:=by exact rfl) (hx:ev S x=some (ptr a):=by exact rfl) (h:K (Zbh S dst (ptr (a.add off))) D B L):opW P n ops i ⟨dst,.fieldAddr s x fi,ty,pos,after,g⟩ K S D B L:=Zo (ZgC  hg hd hf hx h)
theorem xD  {k:IntKind} {a b r:Int}   (hg:Zm ops S g=some true:=by exact rfl) (hd:Zx n dst=true:=by exact rfl) (hx:ev S x=some (.int k a):=by exact rfl) (hy:ev S y=some (.int k b):=by exact rfl) (hr:k.wrap (a+b)=r:=by first | exact ZbR (by first | omega | (simp;done) | (simp;omega)) (by first | omega | (simp;done) | (simp;omega)) | exact rfl) (h:K (Zbh S dst (.int k r)) D B L):opW P n ops i ⟨dst,.binOp .add t x y u,ty,pos,after,g⟩ K S D B L:=Zo (Zgm  hg hd hx hy hr h)
theorem xU  {k:IntKind} {a b r:Int}   (hg:Zm ops S g=some true:=by exact rfl) (hd:Zx n dst=true:=by exact rfl) (hx:ev S x=some (.int k a):=by exact rfl) (hy:ev S y=some (.int k b):=by exact rfl) (hr:k.wrap (a - b)=r:=by first | exact ZbR (by first | omega | (simp;done) | (simp;omega)) (by first | omega | (simp;done) | (simp;omega)) | exact rfl) (h:K (Zbh S dst (.int k r)) D B L):opW P n ops i ⟨dst,.binOp .sub t x y u,ty,pos,after,g⟩ K S D B L:=Zo (Zia  hg hd hx hy hr h)
theorem ZF  {k:IntKind} {a b:Int}   (hg:Zm ops S g=some true:=by exact rfl) (hd:Zx n dst=true:=by exact rfl) (hx:ev S x=some (.int k a):=by exact rfl) (hy:ev S y=some (.int k b):=by exact rfl) (h:K (Zbh S dst (.bool (decide (a<b)))) D B L):opW P n ops i ⟨dst,.binOp .lss t x y u,ty,pos,after,g⟩ K S D B L:=Zo (ZrR  hg hd hx hy h)
theorem ZbQ  {k:IntKind} {a b:Int}   (hg:Zm ops S g=some true:=by exact rfl) (hd:Zx n dst=true:=by exact rfl) (hx:ev S x=some (.int k a):=by exact rfl) (hy:ev S y=some (.int k b):=by exact rfl) (h:K (Zbh S dst (.bool (decide (a≤b)))) D B L):opW P n ops i ⟨dst,.binOp .leq t x y u,ty,pos,after,g⟩ K S D B L:=Zo (ZrS  hg hd hx hy h)
theorem ZdV  {k:IntKind} {a b:Int}   (hg:Zm ops S g=some true:=by exact rfl) (hd:Zx n dst=true:=by exact rfl) (hx:ev S x=some (.int k a):=by exact rfl) (hy:ev S y=some (.int k b):=by exact rfl) (h:K (Zbh S dst (.bool (decide (b<a)))) D B L):opW P n ops i ⟨dst,.binOp .gtr t x y u,ty,pos,after,g⟩ K S D B L:=Zo (ZrV  hg hd hx hy h)
theorem ZdW  {k:IntKind} {a b:Int}   (hg:Zm ops S g=some true:=by exact rfl) (hd:Zx n dst=true:=by exact rfl) (hx:ev S x=some (.int k a):=by exact rfl) (hy:ev S y=some (.int k b):=by exact rfl) (h:K (Zbh S dst (.bool (decide (b≤a)))) D B L):opW P n ops i ⟨dst,.binOp .geq t x y u,ty,pos,after,g⟩ K S D B L:=Zo (ZrW  hg hd hx hy h)
theorem ZkZ  {k:IntKind} {a b:Int}   (hg:Zm ops S g=some true:=by exact rfl) (hd:Zx n dst=true:=by exact rfl) (hx:ev S x=some (.int k a):=by exact rfl) (hy:ev S y=some (.int k b):=by exact rfl) (h:K (Zbh S dst (.bool (decide (a=b)))) D B L):opW P n ops i ⟨dst,.binOp .eql t x y u,ty,pos,after,g⟩ K S D B L:=Zo (Zp6  hg hd hx hy h)
theorem ZaL  {k:IntKind} {a b:Int}   (hg:Zm ops S g=some true:=by exact rfl) (hd:Zx n dst=true:=by exact rfl) (hx:ev S x=some (.int k a):=by exact rfl) (hy:ev S y=some (.int k b):=by exact rfl) (h:K (Zbh S dst (.bool (decide (a≠b)))) D B L):opW P n ops i ⟨dst,.binOp .neq t x y u,ty,pos,after,g⟩ K S D B L:=Zo (Zp0  hg hd hx hy h)
theorem Zc9  {a b:List UInt8}   (hg:Zm ops S g=some true:=by exact rfl) (hd:Zx n dst=true:=by exact rfl) (hx:ev S x=some (str a):=by exact rfl) (hy:ev S y=some (str b):=by exact rfl) (h:K (Zbh S dst (.bool (decide (a=b)))) D B L):opW P n ops i ⟨dst,.binOp .eql t x y u,ty,pos,after,g⟩ K S D B L:=Zo (Zp5  hg hd hx hy h)
theorem ZeC  {a b:List UInt8}   (hg:Zm ops S g=some true:=by exact rfl) (hd:Zx n dst=true:=by exact rfl) (hx:ev S x=some (str a):=by exact rfl) (hy:ev S y=some (str b):=by exact rfl) (h:K (Zbh S dst (.bool (decide (a≠b)))) D B L):opW P n ops i ⟨dst,.binOp .neq t x y u,ty,pos,after,g⟩ K S D B L:=Zo (ZpZ  hg hd hx hy h)
theorem ZpV  {a b:List UInt8}   (hg:Zm ops S g=some true:=by exact rfl) (hd:Zx n dst=true:=by exact rfl) (hx:ev S x=some (str a):=by exact rfl) (hy:ev S y=some (str b):=by exact rfl) (h:K (Zbh S dst (.bool (Op.bytesLess a b))) D B L):opW P n ops i ⟨dst,.binOp .lss t x y u,ty,pos,after,g⟩ K S D B L:=Zo (ZrQ  hg hd hx hy h)
theorem xV  {x:Operand} {t:TypeId} {e:TypeId} {p:Option Addr} {len:Nat} {cap:Nat}  (hu:P.underlying t=some (.slice e)) (hg:Zm ops S g=some true:=by exact rfl) (hd:Zx n dst=true:=by exact rfl) (hx:ev S x=some (.slice p len cap):=by exact rfl) (h:K (Zbh S dst (.int .i64 len)) D B L):opW P n ops i ⟨dst,.call ⟨.builtin .len,#[x],#[t]⟩,ty,pos,after,g⟩ K S D B L:=Zo (ZrT  hg hd hu hx h)
theorem xVs  {x:Operand} {t:TypeId} {l:List UInt8}  (hu:P.underlying t=some .string) (hg:Zm ops S g=some true:=by exact rfl) (hd:Zx n dst=true:=by exact rfl) (hx:ev S x=some (str l):=by exact rfl) (h:K (Zbh S dst (.int .i64 l.length)) D B L):opW P n ops i ⟨dst,.call ⟨.builtin .len,#[x],#[t]⟩,ty,pos,after,g⟩ K S D B L:=Zo (Zp3  hg hd hu hx h)
theorem xNc  {x:Operand} {a:Addr}   (hg:Zm ops S g=some true:=by exact rfl) (hd:Zx n dst=true:=by exact rfl) (hx:ev S x=some (.pointer (some a)):=by exact rfl) (h:K (Zbh S dst (.pointer (some a))) D B L):opW P n ops i ⟨dst,.nilCheck x,ty,pos,after,g⟩ K S D B L:=Zo (ZhL  hg hd hx h)
theorem x1  {t:TypeId} {x:Operand} {a:Addr} {v:Value} {l:List Value} {T:TypeId} {fr:Nat × Nat} {r:Cells}  (hl:lk P t=some none) (j:Nat) (hg:Zm ops S g=some true:=by exact rfl) (hd:Zx n dst=true:=by exact rfl) (hx:ev S x=some (ptr a):=by exact rfl) (hj:L[j]? = some ((a.block,.cells l.toArray T fr) :: r):=by exact rfl) (hs:a.spot=none:=by exact rfl) (hv:l[a.off]? = some v:=by exact rfl) (h:K (Zbh S dst v) D B L):opW P n ops i ⟨dst,.load t x,ty,pos,after,g⟩ K S D B L:=Zo (Zs  hg hd hl hx (atL j hj hs hv) h)
theorem xL  {t:TypeId} {x:Operand} {a:Addr} {l:List Value} {T:TypeId} {fr:Nat × Nat} {r:Cells}  (vs:List Value) (hl:lk P t=some (some vs.length)) (j:Nat) (hg:Zm ops S g=some true:=by exact rfl) (hd:Zx n dst=true:=by exact rfl) (hx:ev S x=some (ptr a):=by exact rfl) (hj:L[j]? = some ((a.block,.cells l.toArray T fr) :: r):=by exact rfl) (hs:a.spot=none:=by exact rfl) (hv:(l.drop a.off).take vs.length=vs:=by exact rfl) (h:K (Zbh S dst (.agg vs.toArray)) D B L):opW P n ops i ⟨dst,.load t x,ty,pos,after,g⟩ K S D B L:=Zo (Z8  vs hg hd hl hx (ZcQ j hj hs hv) h)
theorem y1  {t:TypeId} {x:Operand} {a:Addr} {v:Value} {b o:Nat} {row:List Value}  (hl:lk P t=some none) (hc:ZaI B b o row) (off:Nat) (hg:Zm ops S g=some true:=by exact rfl) (hd:Zx n dst=true:=by exact rfl) (hx:ev S x=some (ptr a):=by exact rfl) (ha:a=⟨b,o+off,none⟩:=by exact rfl) (hv:row[off]? = some v:=by exact rfl) (h:K (Zbh S dst v) D B L):opW P n ops i ⟨dst,.load t x,ty,pos,after,g⟩ K S D B L:=Zo (Zs  hg hd hl hx (by subst ha;exact hc _ off _ hv) h)
theorem yL  {t:TypeId} {x:Operand} {a:Addr} {b o:Nat} {row:List Value}  (vs:List Value) (hl:lk P t=some (some vs.length)) (hc:ZaI B b o row) (off:Nat) (hg:Zm ops S g=some true:=by exact rfl) (hd:Zx n dst=true:=by exact rfl) (hx:ev S x=some (ptr a):=by exact rfl) (ha:a=⟨b,o+off,none⟩:=by exact rfl) (hv:(row.drop off).take vs.length=vs:=by exact rfl) (h:K (Zbh S dst (.agg vs.toArray)) D B L):opW P n ops i ⟨dst,.load t x,ty,pos,after,g⟩ K S D B L:=Zo (Z8  vs hg hd hl hx (Zlg hc off ha hv) h)
theorem xS  {t:TypeId} {x:Operand} {y:Operand} {a:Addr} {v:Value} {l:List Value} {T:TypeId} {r:Cells}  (vs:List Value) (j:Nat) (l':List Value) (hsz:ZU P t=some vs.length) (hg:Zm ops S g=some true:=by exact rfl) (hd:Zx n dst=true:=by exact rfl) (hx:ev S x=some (ptr a):=by exact rfl) (hy:ev S y=some v:=by exact rfl) (hv:v.cells=vs.toArray:=by exact rfl) (ho:vs.all Zgc=true:=by exact rfl) (hj:L[j]? = some ((a.block,.cells l.toArray T (0,0)) :: r):=by exact rfl) (hs:a.spot=none:=by exact rfl) (hlen:Nat.ble (a.off+vs.length) l.length=true:=by exact rfl) (hl':Zag l a.off vs=l':=by exact rfl) (h:K (Zbh S dst undef) D B (L.set j ((a.block,.cells l'.toArray T (0,0)) :: r))):opW P n ops i ⟨dst,.store t x y,ty,pos,after,g⟩ K S D B L:=Zo (Zd0  vs j l' hg hd hsz hx hy hv ho hj hs hlen hl' h)
theorem xB  {t:TypeId} {z:Value} {pl:List (Nat × Nat)} {vs:List Value} (parts:List (Nat × Operand)) (zl l':List Value) (hpl:ZcX P t=some pl) (hz:Zay P t=some z) (hg:Zm ops S g=some true:=by exact rfl) (hd:Zx n dst=true:=by exact rfl) (hzl:z.cells.toList=zl:=by exact rfl) (ha:evs S (parts.map (·.2))=some vs:=by exact rfl) (hf:ZhE (fun i=>pl[i]?) zl ((parts.map (·.1)).zip vs)=some l':=by exact rfl) (h:K (Zbh S dst (.agg l'.toArray)) D B L):opW P n ops i ⟨dst,.build t parts.toArray,ty,pos,after,g⟩ K S D B L:=Zo (Zc2 (parts:=parts) zl l' hg hd hpl hz hzl ha hf h)
theorem xAl  {t:TypeId} {z:Value} (l:List Value) (hz:Zay P t=some z) (hg:Zm ops S g=some true:=by exact rfl) (hd:Zx n dst=true:=by exact rfl) (hl:z.cells=l.toArray:=by exact rfl) (h :∀b,K (Zbh S dst (ptr ⟨b,0,none⟩)) D B (L ++ [ZaK b l t])):opW P n ops i ⟨dst,.alloc t,ty,pos,after,g⟩ K S D B L:=Zo (ZqA (l:=l) hg hd hz hl h)
theorem xBx  {t:TypeId} {x:Operand} {v:Value} (l:List Value)  (hg:Zm ops S g=some true:=by exact rfl) (hd:Zx n dst=true:=by exact rfl) (hx:ev S x=some v:=by exact rfl) (hl:v.cells=l.toArray:=by exact rfl) (h :∀b,K (Zbh S dst (ptr ⟨b,0,none⟩)) D B (L ++ [ZaK b l t])):opW P n ops i ⟨dst,.box t x,ty,pos,after,g⟩ K S D B L:=Zo (Zs8 (l:=l) hg hd hx hl h)
theorem xIx  {t:TypeId} {e:TypeId} {x:Operand} {y:Operand} {k:IntKind} {b:Nat} {o:Nat} {len:Nat} {cap:Nat} {sz:Nat} {ix:Int}  (hu:P.underlying t=some (.slice e)) (hsz:ZU P e=some sz) (hg:Zm ops S g=some true:=by exact rfl) (hd:Zx n dst=true:=by exact rfl) (hx:ev S x=some (.slice (some ⟨b,o,none⟩) len cap):=by exact rfl) (hy:ev S y=some (.int k ix):=by exact rfl) (h0:0≤ix:=by first | omega | (simp;done) | (simp;omega)) (h1:ix<len:=by first | omega | (simp;done) | (simp;omega)) (h:K (Zbh S dst (ptr ⟨b,o+ix.toNat*sz,none⟩)) D B L):opW P n ops i ⟨dst,.indexAddr t x y,ty,pos,after,g⟩ K S D B L:=Zo (ZrU  hg hd hu hsz hx hy h0 h1 h)
theorem xIp  {t:TypeId} {e:TypeId} {x:Operand} {y:Operand} {k:IntKind} {p:Option Addr} {b:Nat} {len:Nat} {cap:Nat} {sz:Nat} {ix:Int}  (hp:p=some ⟨b,0,none⟩) (hu:P.underlying t=some (.slice e)) (hsz:ZU P e=some sz) (hg:Zm ops S g=some true:=by exact rfl) (hd:Zx n dst=true:=by exact rfl) (hx:ev S x=some (.slice p len cap):=by exact rfl) (hy:ev S y=some (.int k ix):=by exact rfl) (h0:0≤ix:=by first | omega | (simp;done) | (simp;omega)) (h1:ix<len:=by first | omega | (simp;done) | (simp;omega)) (h:K (Zbh S dst (ptr ⟨b,ix.toNat*sz,none⟩)) D B L):opW P n ops i ⟨dst,.indexAddr t x y,ty,pos,after,g⟩ K S D B L:=Zo (ZmI  hp hg hd hu hsz hx hy h0 h1 h)
theorem xR  {f:FuncId} {xs:List Operand} {vs:List Value} {ats:Array TypeId} {v:Value}  (he:enters P f=true) (ha:evs S xs=some vs) (hc:Zaa P f vs B v) (hg:Zm ops S g=some true:=by exact rfl) (hd:Zx n dst=true:=by exact rfl) (h:K (Zbh S dst v) D B L):opW P n ops i ⟨dst,.call ⟨.value (.func f),xs.toArray,ats⟩,ty,pos,after,g⟩ K S D B L:=Zo (Zam  hg hd he ha hc h)
theorem xBs  {t:TypeId} {e:TypeId} {len:Nat} {sz:Nat} {z:Value} {vs:List Value} (parts:List (Nat × Operand)) (l':List Value) (hu:P.underlying t=some (.slice e)) (hsz:ZU P e=some sz) (hz:Zay P e=some z) (hg:Zm ops S g=some true:=by exact rfl) (hd:Zx n dst=true:=by exact rfl) (hbig:Nat.ble (len*sz) 1024=true:=by exact rfl) (hidx:parts.map (·.1)=List.range len:=by exact rfl) (ha:evs S (parts.map (·.2))=some vs:=by exact rfl) (hall:vs.all (fun v=>Nat.beq v.cells.toList.length sz)=true:=by exact rfl) (hl':(vs.map fun v=>v.cells.toList).flatten=l':=by exact rfl) (h :∀b,K (Zbh S dst (.slice (some ⟨b,0,none⟩) len len)) D B (L ++ [ZaK b l' e])):opW P n ops i ⟨dst,.buildSlice t len parts.toArray,ty,pos,after,g⟩ K S D B L:=Zo (ZZ (parts:=parts) l' hg hd hu hsz hz hbig hidx ha hall hl' h)
end
section
variable {P:PJ} {n:Nat} {ops:Array Oper} {K:Zaj} {S:Env} {D:List Deferred} {B:Kn} {L:List Cells}
variable {dst:Option Tmp} {ty:TypeId} {pos:String} {after:Array Edge} {g:Option (Nat × Bool)} {t u:TypeId} {x y:Operand}
theorem aT {C:Cx P} {k':List Item} {I:Kn→List Cells→Prop} {ℓ:List Nat} (i:Nat) {o:Oper} {v:Value} (hi:ops[i]? = some o) (hq:quiet P n ops I i o v (sel (o.looksAt ops) S)) (hr:(ZaD ops ℓ).contains i=true:=by kernel_rfl) (hd:Zx n o.dst=true:=by exact rfl) (hp:ZhX o=false:=by rfl) (h:Za5 C k' n ops I (i :: ℓ) K (Zbh S o.dst v) D B L):Za5 C k' n ops I ℓ K S D B L:=ZpL i hi hr hd hq h hp
theorem r4 {α β γ δ:Type} {a:α} {b:β} {c:γ} {d:δ} : a=a∧b=b∧c=c∧d=d:=⟨rfl,rfl,rfl,rfl⟩
variable {C:Cx P} {k':List Item} {I:Kn→List Cells→Prop} {ℓ:List Nat}
theorem aM  {x:Operand} {v:Value} (i:Nat) (hii:ops[i]? = some ⟨dst,.move x,ty,pos,after,g⟩)  (hrr:(ZaD ops ℓ).contains i=true:=by kernel_rfl) (hdd:Zx n dst=true:=by exact rfl) (hg:Zm ops (sel ((⟨dst,.move x,ty,pos,after,g⟩:Oper).looksAt ops) S) g=some true:=by exact rfl) (hd:Zx n dst=true:=by exact rfl) (hx:ev (sel ((⟨dst,.move x,ty,pos,after,g⟩:Oper).looksAt ops) S) x=some v:=by exact rfl) (h:Za5 C k' n ops I (i :: ℓ) K (Zbh S dst v) D B L):Za5 C k' n ops I ℓ K S D B L:=Zai i hii hrr hdd (fun _ _ _=>Zp1 hg hd hx ⟨rfl,rfl,rfl,rfl⟩) h
theorem aA  {x:Operand} {v:Value} (i:Nat) (hii:ops[i]? = some ⟨dst,.assign x,ty,pos,after,g⟩)  (hrr:(ZaD ops ℓ).contains i=true:=by kernel_rfl) (hdd:Zx n dst=true:=by exact rfl) (hg:Zm ops (sel ((⟨dst,.assign x,ty,pos,after,g⟩:Oper).looksAt ops) S) g=some true:=by exact rfl) (hd:Zx n dst=true:=by exact rfl) (hx:ev (sel ((⟨dst,.assign x,ty,pos,after,g⟩:Oper).looksAt ops) S) x=some v:=by exact rfl) (h:Za5 C k' n ops I (i :: ℓ) K (Zbh S dst v) D B L):Za5 C k' n ops I ℓ K S D B L:=Zai i hii hrr hdd (fun _ _ _=>Zk2 hg hd hx ⟨rfl,rfl,rfl,rfl⟩) h
theorem aZ  {dst:Option Tmp} {op:Op} {t:TypeId} {pos:String} {after:Array Edge} {g:Option (Nat × Bool)} (i:Nat) (hii:ops[i]? = some ⟨dst,op,t,pos,after,g⟩)  (hrr:(ZaD ops ℓ).contains i=true:=by kernel_rfl) (hdd:Zx n dst=true:=by exact rfl) (hg:Zm ops (sel ((⟨dst,op,t,pos,after,g⟩:Oper).looksAt ops) S) g=some false:=by exact rfl) (hd:Zx n dst=true:=by exact rfl) (h:Za5 C k' n ops I (i :: ℓ) K (Zbh S dst undef) D B L):Za5 C k' n ops I ℓ K S D B L:=Zai i hii hrr hdd (fun _ _ _=>ZpY hg hd ⟨rfl,rfl,rfl,rfl⟩) h
theorem aPT  {c:Operand} {a:Operand} {b:Operand} {v:Value} (i:Nat) (hii:ops[i]? = some ⟨dst,.pick c a b,ty,pos,after,g⟩)  (hrr:(ZaD ops ℓ).contains i=true:=by kernel_rfl) (hdd:Zx n dst=true:=by exact rfl) (hg:Zm ops (sel ((⟨dst,.pick c a b,ty,pos,after,g⟩:Oper).looksAt ops) S) g=some true:=by exact rfl) (hd:Zx n dst=true:=by exact rfl) (hc:ev (sel ((⟨dst,.pick c a b,ty,pos,after,g⟩:Oper).looksAt ops) S) c=some (.bool true):=by exact rfl) (hx:ev (sel ((⟨dst,.pick c a b,ty,pos,after,g⟩:Oper).looksAt ops) S) a=some v:=by exact rfl) (h:Za5 C k' n ops I (i :: ℓ) K (Zbh S dst v) D B L):Za5 C k' n ops I ℓ K S D B L:=Zai i hii hrr hdd (fun _ _ _=>ZmE hg hd hc hx ⟨rfl,rfl,rfl,rfl⟩) h
theorem aPF  {c:Operand} {a:Operand} {b:Operand} {v:Value} (i:Nat) (hii:ops[i]? = some ⟨dst,.pick c a b,ty,pos,after,g⟩)  (hrr:(ZaD ops ℓ).contains i=true:=by kernel_rfl) (hdd:Zx n dst=true:=by exact rfl) (hg:Zm ops (sel ((⟨dst,.pick c a b,ty,pos,after,g⟩:Oper).looksAt ops) S) g=some true:=by exact rfl) (hd:Zx n dst=true:=by exact rfl) (hc:ev (sel ((⟨dst,.pick c a b,ty,pos,after,g⟩:Oper).looksAt ops) S) c=some (.bool false):=by exact rfl) (hx:ev (sel ((⟨dst,.pick c a b,ty,pos,after,g⟩:Oper).looksAt ops) S) b=some v:=by exact rfl) (h:Za5 C k' n ops I (i :: ℓ) K (Zbh S dst v) D B L):Za5 C k' n ops I ℓ K S D B L:=Zai i hii hrr hdd (fun _ _ _=>ZmF hg hd hc hx ⟨rfl,rfl,rfl,rfl⟩) h
theorem aW  {s:TypeId} {x:Operand} {fi:Nat} {off:Nat} {a:Addr} (i:Nat) (hii:ops[i]? = some ⟨dst,.fieldAddr s x fi,ty,pos,after,g⟩) (hf:Zy P s fi=some off) (hrr:(ZaD ops ℓ).contains i=true:=by kernel_rfl) (hdd:Zx n dst=true:=by exact rfl) (hg:Zm ops (sel ((⟨dst,.fieldAddr s x fi,ty,pos,after,g⟩:Oper).looksAt ops) S) g=some true:=by exact rfl) (hd:Zx n dst=true:=by exact rfl) (hx:ev (sel ((⟨dst,.fieldAddr s x fi,ty,pos,after,g⟩:Oper).looksAt ops) S) x=some (ptr a):=by exact rfl) (h:Za5 C k' n ops I (i :: ℓ) K (Zbh S dst (ptr (a.add off))) D B L):Za5 C k' n ops I ℓ K S D B L:=Zai i hii hrr hdd (fun _ _ _=>ZgC hg hd hf hx ⟨rfl,rfl,rfl,rfl⟩) h
theorem aN  {x:Operand} {b:Bool} {t:TypeId} (i:Nat) (hii:ops[i]? = some ⟨dst,.unOp .not t x,ty,pos,after,g⟩)  (hrr:(ZaD ops ℓ).contains i=true:=by kernel_rfl) (hdd:Zx n dst=true:=by exact rfl) (hg:Zm ops (sel ((⟨dst,.unOp .not t x,ty,pos,after,g⟩:Oper).looksAt ops) S) g=some true:=by exact rfl) (hd:Zx n dst=true:=by exact rfl) (hx:ev (sel ((⟨dst,.unOp .not t x,ty,pos,after,g⟩:Oper).looksAt ops) S) x=some (.bool b):=by exact rfl) (h:Za5 C k' n ops I (i :: ℓ) K (Zbh S dst (.bool (!b))) D B L):Za5 C k' n ops I ℓ K S D B L:=Zai i hii hrr hdd (fun _ _ _=>ZrO hg hd hx ⟨rfl,rfl,rfl,rfl⟩) h
theorem aNc  {x:Operand} {a:Addr} (i:Nat) (hii:ops[i]? = some ⟨dst,.nilCheck x,ty,pos,after,g⟩)  (hrr:(ZaD ops ℓ).contains i=true:=by kernel_rfl) (hdd:Zx n dst=true:=by exact rfl) (hg:Zm ops (sel ((⟨dst,.nilCheck x,ty,pos,after,g⟩:Oper).looksAt ops) S) g=some true:=by exact rfl) (hd:Zx n dst=true:=by exact rfl) (hx:ev (sel ((⟨dst,.nilCheck x,ty,pos,after,g⟩:Oper).looksAt ops) S) x=some (.pointer (some a)):=by exact rfl) (h:Za5 C k' n ops I (i :: ℓ) K (Zbh S dst (.pointer (some a))) D B L):Za5 C k' n ops I ℓ K S D B L:=Zai i hii hrr hdd (fun _ _ _=>ZhL hg hd hx ⟨rfl,rfl,rfl,rfl⟩) h
theorem ZpQ  {k:IntKind} {a b:Int} (i:Nat) (hii:ops[i]? = some ⟨dst,.binOp .lss t x y u,ty,pos,after,g⟩)  (hrr:(ZaD ops ℓ).contains i=true:=by kernel_rfl) (hdd:Zx n dst=true:=by exact rfl) (hg:Zm ops (sel ((⟨dst,.binOp .lss t x y u,ty,pos,after,g⟩:Oper).looksAt ops) S) g=some true:=by exact rfl) (hd:Zx n dst=true:=by exact rfl) (hx:ev (sel ((⟨dst,.binOp .lss t x y u,ty,pos,after,g⟩:Oper).looksAt ops) S) x=some (.int k a):=by exact rfl) (hy:ev (sel ((⟨dst,.binOp .lss t x y u,ty,pos,after,g⟩:Oper).looksAt ops) S) y=some (.int k b):=by exact rfl) (h:Za5 C k' n ops I (i :: ℓ) K (Zbh S dst (.bool (decide (a<b)))) D B L):Za5 C k' n ops I ℓ K S D B L:=Zai i hii hrr hdd (fun _ _ _=>ZrR hg hd hx hy ⟨rfl,rfl,rfl,rfl⟩) h
theorem Zrz  {k:IntKind} {a b:Int} (i:Nat) (hii:ops[i]? = some ⟨dst,.binOp .leq t x y u,ty,pos,after,g⟩)  (hrr:(ZaD ops ℓ).contains i=true:=by kernel_rfl) (hdd:Zx n dst=true:=by exact rfl) (hg:Zm ops (sel ((⟨dst,.binOp .leq t x y u,ty,pos,after,g⟩:Oper).looksAt ops) S) g=some true:=by exact rfl) (hd:Zx n dst=true:=by exact rfl) (hx:ev (sel ((⟨dst,.binOp .leq t x y u,ty,pos,after,g⟩:Oper).looksAt ops) S) x=some (.int k a):=by exact rfl) (hy:ev (sel ((⟨dst,.binOp .leq t x y u,ty,pos,after,g⟩:Oper).looksAt ops) S) y=some (.int k b):=by exact rfl) (h:Za5 C k' n ops I (i :: ℓ) K (Zbh S dst (.bool (decide (a≤b)))) D B L):Za5 C k' n ops I ℓ K S D B L:=Zai i hii hrr hdd (fun _ _ _=>ZrS hg hd hx hy ⟨rfl,rfl,rfl,rfl⟩) h
theorem Zow  {k:IntKind} {a b:Int} (i:Nat) (hii:ops[i]? = some ⟨dst,.binOp .gtr t x y u,ty,pos,after,g⟩)  (hrr:(ZaD ops ℓ).contains i=true:=by kernel_rfl) (hdd:Zx n dst=true:=by exact rfl) (hg:Zm ops (sel ((⟨dst,.binOp .gtr t x y u,ty,pos,after,g⟩:Oper).looksAt ops) S) g=some true:=by exact rfl) (hd:Zx n dst=true:=by exact rfl) (hx:ev (sel ((⟨dst,.binOp .gtr t x y u,ty,pos,after,g⟩:Oper).looksAt ops) S) x=some (.int k a):=by exact rfl) (hy:ev (sel ((⟨dst,.binOp .gtr t x y u,ty,pos,after,g⟩:Oper).looksAt ops) S) y=some (.int k b):=by exact rfl) (h:Za5 C k' n ops I (i :: ℓ) K (Zbh S dst (.bool (decide (b<a)))) D B L):Za5 C k' n ops I ℓ K S D B L:=Zai i hii hrr hdd (fun _ _ _=>ZrV hg hd hx hy ⟨rfl,rfl,rfl,rfl⟩) h
theorem Zuk  {k:IntKind} {a b:Int} (i:Nat) (hii:ops[i]? = some ⟨dst,.binOp .geq t x y u,ty,pos,after,g⟩)  (hrr:(ZaD ops ℓ).contains i=true:=by kernel_rfl) (hdd:Zx n dst=true:=by exact rfl) (hg:Zm ops (sel ((⟨dst,.binOp .geq t x y u,ty,pos,after,g⟩:Oper).looksAt ops) S) g=some true:=by exact rfl) (hd:Zx n dst=true:=by exact rfl) (hx:ev (sel ((⟨dst,.binOp .geq t x y u,ty,pos,after,g⟩:Oper).looksAt ops) S) x=some (.int k a):=by exact rfl) (hy:ev (sel ((⟨dst,.binOp .geq t x y u,ty,pos,after,g⟩:Oper).looksAt ops) S) y=some (.int k b):=by exact rfl) (h:Za5 C k' n ops I (i :: ℓ) K (Zbh S dst (.bool (decide (b≤a)))) D B L):Za5 C k' n ops I ℓ K S D B L:=Zai i hii hrr hdd (fun _ _ _=>ZrW hg hd hx hy ⟨rfl,rfl,rfl,rfl⟩) h
theorem Zoy  {k:IntKind} {a b:Int} (i:Nat) (hii:ops[i]? = some ⟨dst,.binOp .eql t x y u,ty,pos,after,g⟩)  (hrr:(ZaD ops ℓ).contains i=true:=by kernel_rfl) (hdd:Zx n dst=true:=by exact rfl) (hg:Zm ops (sel ((⟨dst,.binOp .eql t x y u,ty,pos,after,g⟩:Oper).looksAt ops) S) g=some true:=by exact rfl) (hd:Zx n dst=true:=by exact rfl) (hx:ev (sel ((⟨dst,.binOp .eql t x y u,ty,pos,after,g⟩:Oper).looksAt ops) S) x=some (.int k a):=by exact rfl) (hy:ev (sel ((⟨dst,.binOp .eql t x y u,ty,pos,after,g⟩:Oper).looksAt ops) S) y=some (.int k b):=by exact rfl) (h:Za5 C k' n ops I (i :: ℓ) K (Zbh S dst (.bool (decide (a=b)))) D B L):Za5 C k' n ops I ℓ K S D B L:=Zai i hii hrr hdd (fun _ _ _=>Zp6 hg hd hx hy ⟨rfl,rfl,rfl,rfl⟩) h
theorem ZsO  {k:IntKind} {a b:Int} (i:Nat) (hii:ops[i]? = some ⟨dst,.binOp .neq t x y u,ty,pos,after,g⟩)  (hrr:(ZaD ops ℓ).contains i=true:=by kernel_rfl) (hdd:Zx n dst=true:=by exact rfl) (hg:Zm ops (sel ((⟨dst,.binOp .neq t x y u,ty,pos,after,g⟩:Oper).looksAt ops) S) g=some true:=by exact rfl) (hd:Zx n dst=true:=by exact rfl) (hx:ev (sel ((⟨dst,.binOp .neq t x y u,ty,pos,after,g⟩:Oper).looksAt ops) S) x=some (.int k a):=by exact rfl) (hy:ev (sel ((⟨dst,.binOp .neq t x y u,ty,pos,after,g⟩:Oper).looksAt ops) S) y=some (.int k b):=by exact rfl) (h:Za5 C k' n ops I (i :: ℓ) K (Zbh S dst (.bool (decide (a≠b)))) D B L):Za5 C k' n ops I ℓ K S D B L:=Zai i hii hrr hdd (fun _ _ _=>Zp0 hg hd hx hy ⟨rfl,rfl,rfl,rfl⟩) h
theorem Zox  {a b:List UInt8} (i:Nat) (hii:ops[i]? = some ⟨dst,.binOp .eql t x y u,ty,pos,after,g⟩)  (hrr:(ZaD ops ℓ).contains i=true:=by kernel_rfl) (hdd:Zx n dst=true:=by exact rfl) (hg:Zm ops (sel ((⟨dst,.binOp .eql t x y u,ty,pos,after,g⟩:Oper).looksAt ops) S) g=some true:=by exact rfl) (hd:Zx n dst=true:=by exact rfl) (hx:ev (sel ((⟨dst,.binOp .eql t x y u,ty,pos,after,g⟩:Oper).looksAt ops) S) x=some (str a):=by exact rfl) (hy:ev (sel ((⟨dst,.binOp .eql t x y u,ty,pos,after,g⟩:Oper).looksAt ops) S) y=some (str b):=by exact rfl) (h:Za5 C k' n ops I (i :: ℓ) K (Zbh S dst (.bool (decide (a=b)))) D B L):Za5 C k' n ops I ℓ K S D B L:=Zai i hii hrr hdd (fun _ _ _=>Zp5 hg hd hx hy ⟨rfl,rfl,rfl,rfl⟩) h
theorem ZjY  {a b:List UInt8} (i:Nat) (hii:ops[i]? = some ⟨dst,.binOp .neq t x y u,ty,pos,after,g⟩)  (hrr:(ZaD ops ℓ).contains i=true:=by kernel_rfl) (hdd:Zx n dst=true:=by exact rfl) (hg:Zm ops (sel ((⟨dst,.binOp .neq t x y u,ty,pos,after,g⟩:Oper).looksAt ops) S) g=some true:=by exact rfl) (hd:Zx n dst=true:=by exact rfl) (hx:ev (sel ((⟨dst,.binOp .neq t x y u,ty,pos,after,g⟩:Oper).looksAt ops) S) x=some (str a):=by exact rfl) (hy:ev (sel ((⟨dst,.binOp .neq t x y u,ty,pos,after,g⟩:Oper).looksAt ops) S) y=some (str b):=by exact rfl) (h:Za5 C k' n ops I (i :: ℓ) K (Zbh S dst (.bool (decide (a≠b)))) D B L):Za5 C k' n ops I ℓ K S D B L:=Zai i hii hrr hdd (fun _ _ _=>ZpZ hg hd hx hy ⟨rfl,rfl,rfl,rfl⟩) h
theorem aD  {k:IntKind} {a b r:Int} (i:Nat) (hii:ops[i]? = some ⟨dst,.binOp .add t x y u,ty,pos,after,g⟩)  (hrr:(ZaD ops ℓ).contains i=true:=by kernel_rfl) (hdd:Zx n dst=true:=by exact rfl) (hg:Zm ops (sel ((⟨dst,.binOp .add t x y u,ty,pos,after,g⟩:Oper).looksAt ops) S) g=some true:=by exact rfl) (hd:Zx n dst=true:=by exact rfl) (hx:ev (sel ((⟨dst,.binOp .add t x y u,ty,pos,after,g⟩:Oper).looksAt ops) S) x=some (.int k a):=by exact rfl) (hy:ev (sel ((⟨dst,.binOp .add t x y u,ty,pos,after,g⟩:Oper).looksAt ops) S) y=some (.int k b):=by exact rfl) (hr:k.wrap (a+b)=r:=by first | exact ZbR (by first | omega | (simp;done) | (simp;omega)) (by first | omega | (simp;done) | (simp;omega)) | exact rfl) (h:Za5 C k' n ops I (i :: ℓ) K (Zbh S dst (.int k r)) D B L):Za5 C k' n ops I ℓ K S D B L:=Zai i hii hrr hdd (fun _ _ _=>Zgm hg hd hx hy hr ⟨rfl,rfl,rfl,rfl⟩) h
theorem aU  {k:IntKind} {a b r:Int} (i:Nat) (hii:ops[i]? = some ⟨dst,.binOp .sub t x y u,ty,pos,after,g⟩)  (hrr:(ZaD ops ℓ).contains i=true:=by kernel_rfl) (hdd:Zx n dst=true:=by exact rfl) (hg:Zm ops (sel ((⟨dst,.binOp .sub t x y u,ty,pos,after,g⟩:Oper).looksAt ops) S) g=some true:=by exact rfl) (hd:Zx n dst=true:=by exact rfl) (hx:ev (sel ((⟨dst,.binOp .sub t x y u,ty,pos,after,g⟩:Oper).looksAt ops) S) x=some (.int k a):=by exact rfl) (hy:ev (sel ((⟨dst,.binOp .sub t x y u,ty,pos,after,g⟩:Oper).looksAt ops) S) y=some (.int k b):=by exact rfl) (hr:k.wrap (a - b)=r:=by first | exact ZbR (by first | omega | (simp;done) | (simp;omega)) (by first | omega | (simp;done) | (simp;omega)) | exact rfl) (h:Za5 C k' n ops I (i :: ℓ) K (Zbh S dst (.int k r)) D B L):Za5 C k' n ops I ℓ K S D B L:=Zai i hii hrr hdd (fun _ _ _=>Zia hg hd hx hy hr ⟨rfl,rfl,rfl,rfl⟩) h
theorem aIx  {t:TypeId} {e:TypeId} {x:Operand} {y:Operand} {k:IntKind} {b:Nat} {o:Nat} {len:Nat} {cap:Nat} {sz:Nat} {ix:Int} (i:Nat) (hii:ops[i]? = some ⟨dst,.indexAddr t x y,ty,pos,after,g⟩) (hu:P.underlying t=some (.slice e)) (hsz:ZU P e=some sz) (hrr:(ZaD ops ℓ).contains i=true:=by kernel_rfl) (hdd:Zx n dst=true:=by exact rfl) (hg:Zm ops (sel ((⟨dst,.indexAddr t x y,ty,pos,after,g⟩:Oper).looksAt ops) S) g=some true:=by exact rfl) (hd:Zx n dst=true:=by exact rfl) (hx:ev (sel ((⟨dst,.indexAddr t x y,ty,pos,after,g⟩:Oper).looksAt ops) S) x=some (.slice (some ⟨b,o,none⟩) len cap):=by exact rfl) (hy:ev (sel ((⟨dst,.indexAddr t x y,ty,pos,after,g⟩:Oper).looksAt ops) S) y=some (.int k ix):=by exact rfl) (h0:0≤ix:=by first | omega | (simp;done) | (simp;omega)) (h1:ix<len:=by first | omega | (simp;done) | (simp;omega)) (h:Za5 C k' n ops I (i :: ℓ) K (Zbh S dst (ptr ⟨b,o+ix.toNat*sz,none⟩)) D B L):Za5 C k' n ops I ℓ K S D B L:=Zai i hii hrr hdd (fun _ _ _=>ZrU hg hd hu hsz hx hy h0 h1 ⟨rfl,rfl,rfl,rfl⟩) h
end
end Go.BL
namespace Go.BL
open Go
set_option linter.unusedVariables false
set_option linter.unusedSimpArgs false
def ZaW (c:UInt8):Bool:=(decide (97≤c.toNat) && decide (c.toNat≤122)) || (decide (48≤c.toNat) && decide (c.toNat≤57))
def Zak (l:List UInt8):Bool:=l.all ZaW && decide (1≤l.length) && decide (l.length≤8)
theorem ZpM {l:List UInt8} {k:Nat} {c:UInt8} (hc:l[k]? = some c) (h:ZaW c=false):l.all ZaW=false:=by
  rw [Bool.eq_false_iff];intro ha
  have:=List.all_eq_true.1 ha c (List.mem_of_getElem? hc)
  rw [h] at this;cases this
theorem ZlH {l:List UInt8} {k:Nat} {c:UInt8} (hc:l[k]? = some c) (h:ZaW c=true) (ha:(l.take k).all ZaW=true):(l.take (k+1)).all ZaW=true:=by
  rw [List.take_add_one,hc];simp only [Option.toList_some,List.all_append,ha,List.all_cons,h,List.all_nil];rfl
def word (l:List UInt8) (i:Nat):List UInt8:=(l.drop i).takeWhile ZaW
def ZcT (w:List UInt8):Bool:=decide (1≤w.length) && decide (w.length≤8)
theorem Zm9 {o:Option UInt8} {f:UInt8→Bool} (h:(match o with | some c=>f c | none=>false)=true) :∃c,o=some c∧f c=true:=by
  cases o with
  | none=>cases h
  | some c=>exact ⟨c,rfl,h⟩
theorem Zbe {α:Type} {l:List α} {k:Nat} {c:α} (h:l[k]? = some c):k<l.length:=(List.getElem?_eq_some_iff.1 h).1
theorem Zfd {p:UInt8→Bool} :∀{m:List UInt8} {k:Nat},(m.take k).all p=true→(∀c,m[k]? = some c→p c=false)→m.takeWhile p=m.take k
  | [],k,_,_=>by simp
  | c :: m,0,_,h=>by simp [List.takeWhile,h c rfl]
  | c :: m,k+1,ha,h=>by
    simp only [List.take_succ_cons,List.all_cons,Bool.and_eq_true] at ha
    simp only [List.takeWhile,ha.1,List.take_succ_cons]
    rw [Zfd ha.2 (fun c hc=>h c (by simpa using hc))]
theorem ZoC {l:List UInt8} {i k:Nat} (ha:((l.drop i).take k).all ZaW=true) (h :∀c,l[i+k]? = some c→ZaW c=false):word l i=(l.drop i).take k:=
  Zfd ha (fun c hc=>h c (by simpa using hc))
theorem ZeI {l:List UInt8} {i k:Nat} : (l.take (i+k)).drop i=(l.drop i).take k:=by
  rw [List.drop_take,Nat.add_sub_cancel_left]
theorem ZhO {a b c d:Value} (h:a=c) (h':b=d):Value.tuple #[a,b]=Value.tuple #[c,d]:=by rw [h,h']
def more:Nat→List UInt8→Nat→Bool × Nat
  | 0,_,i=>(true,i)
  | n+1,l,i=>if l[i]? = some 46 then (if ZcT (word l (i+1))=true then more n l (i+1+(word l (i+1)).length) else (false,i+1+(word l (i+1)).length)) else (true,i)
def dom (l:List UInt8) (i:Nat):Bool × Nat:=if ZcT (word l i)=true then more 2 l (i+(word l i).length) else (false,i+(word l i).length)
def Zhq (l:List UInt8) (i:Nat):List UInt8:=if (dom l i).1=true then (l.take (dom l i).2).drop i else []
def ZkK (l:List UInt8) (i:Nat):Bool:=(dom l i).1 && decide ((dom l i).2 - i≤20)
theorem ZkJ {l:List UInt8} {i:Nat} (h:ZcT (word l i)=false):dom l i=(false,i+(word l i).length):=by simp [dom,h]
theorem ZpD {l:List UInt8} {i:Nat} (h:ZcT (word l i)=true):dom l i=more 2 l (i+(word l i).length):=by simp [dom,h]
theorem Zgz {l:List UInt8} {i:Nat} (h:i≤l.length):i+(word l i).length≤l.length:=by
  have:=List.IsPrefix.length_le (List.takeWhile_prefix ZaW (l:=l.drop i))
  rw [List.length_drop] at this
  unfold word;omega
theorem Zg1 {l:List UInt8} {n j:Nat} (h : ¬ l[j]? = some 46):more n l j=(true,j):=by
  cases n with
  | zero=>rfl
  | succ n=>rw [more,if_neg h]
theorem Zpc {l:List UInt8} {n j:Nat} (hn:1≤n) (h:l[j]? = some 46) (hw:ZcT (word l (j+1))=false):more n l j=(false,j+1+(word l (j+1)).length):=by
  cases n with
  | zero=>omega
  | succ n=>rw [more,if_pos h,if_neg (by simp [hw])]
theorem Znu {l:List UInt8} {n j:Nat} (hn:1≤n) (h:l[j]? = some 46) (hw:ZcT (word l (j+1))=true):more n l j=more (n - 1) l (j+1+(word l (j+1)).length):=by
  cases n with
  | zero=>omega
  | succ n=>rw [more,if_pos h,if_pos hw];rfl
theorem Zdy {p:UInt8→Bool} :∀l:List UInt8,(l.takeWhile p).length=l.length↔l.all p=true
  | []=>by simp
  | c :: l=>by
    have h:=Zdy (p:=p) l
    cases hc:p c with
    | true=>simp [List.takeWhile,hc] at h ⊢;exact h
    | false=>simp [List.takeWhile,hc]
theorem ZcD {l:List UInt8} : Zak l=(ZcT (word l 0) && decide ((word l 0).length=l.length)):=by
  have h:=Zdy (p:=ZaW) l
  have e:word l 0=l.takeWhile ZaW:=by simp [word]
  rw [Bool.eq_iff_iff]
  simp only [Zak,ZcT,e,Bool.and_eq_true,decide_eq_true_eq]
  constructor
  · rintro ⟨⟨h1,h2⟩,h3⟩
    have:=h.2 h1
    omega
  · rintro ⟨⟨h1,h2⟩,h3⟩
    exact ⟨⟨h.1 h3,by omega⟩,by omega⟩
theorem Znt {l:List UInt8} :∀(n j:Nat),j≤l.length→(more n l j).2≤l.length
  | 0,j,h=>h
  | n+1,j,h=>by
    rw [more]
    split
    · rename_i e
      have:=Zbe e
      have h2:=Zgz (l:=l) (i:=j+1) (by omega)
      split
      · exact Znt n _ h2
      · exact h2
    · exact h
theorem ZsC {l:List UInt8} {i:Nat} (h:i≤l.length):(dom l i).2≤l.length:=by
  unfold dom
  have h2:=Zgz h
  split
  · exact Znt 2 _ h2
  · exact h2
def glue (a:List UInt8):List (List UInt8)→List (List UInt8)
  | []=>[a]
  | p :: ps=>(a ++ p) :: ps
def cut (x:UInt8):List UInt8→List (List UInt8)
  | []=>[[]]
  | c :: r=>if c=x then [] :: cut x r else glue [c] (cut x r)
theorem ZlF (x:UInt8) :∀l,cut x l≠[]
  | []=>by simp [cut]
  | c :: r=>by
    rw [cut]
    split
    · simp
    · cases cut x r <;> simp [glue]
theorem Zlv {m:List (List UInt8)} (h:m≠[]):glue [] m=m:=by
  cases m with
  | nil=>exact absurd rfl h
  | cons p ps=>rfl
theorem ZnT (a b:List UInt8) (m:List (List UInt8)):glue a (glue b m)=glue (a ++ b) m:=by
  cases m <;> simp [glue]
structure CutSt where
  i:Nat
  f:Nat
  m:Nat
  ps:List (List UInt8)
  q:Option Addr
  cp:Nat
  s:Cells
theorem Zta {a b:UInt8} (h:(a.toNat:Int)=b.toNat):a=b:=UInt8.toNat_inj.1 (by exact_mod_cast h)
theorem Zrw {l:List UInt8} {x c:UInt8} {i:Nat} (h:l[i]? = some c) (e:c=x):cut x (l.drop i)=[] :: cut x (l.drop (i+1)):=by
  obtain ⟨hlt,he⟩:=List.getElem?_eq_some_iff.1 h
  rw [List.drop_eq_getElem_cons hlt,he,cut,if_pos e]
theorem ZpF {l:List UInt8} {x c:UInt8} {i:Nat} (h:l[i]? = some c) (e:c≠x):cut x (l.drop i)=glue [c] (cut x (l.drop (i+1))):=by
  obtain ⟨hlt,he⟩:=List.getElem?_eq_some_iff.1 h
  rw [List.drop_eq_getElem_cons hlt,he,cut,if_neg e]
theorem Zs9 {a b:UInt8} (h : ¬ (a.toNat:Int)=b.toNat):a≠b:=fun e=>h (by rw [e])
theorem ZmV {l:List UInt8} {c:UInt8} {i f:Nat} (h:l[i]? = some c) (hf:f≤i):(l.take i).drop f ++ [c]=(l.take (i+1)).drop f:=by
  have hlt:=Zbe h
  rw [List.take_add_one,h]
  simp only [Option.toList_some]
  rw [List.drop_append_of_le_length (by rw [List.length_take];omega)]
theorem Zpv (a:List UInt8) (m:List (List UInt8)):glue a ([] :: m)=a :: m:=by simp [glue]
def Zb8 (l:List UInt8):Bool:=(cut 46 l).all Zak && decide ((cut 46 l).length≤3) && decide (l.length≤20)
theorem Zpu {a:List UInt8} {m:List (List UInt8)} {n:Nat} (h :∀p,p∈m→p.length≤n) :∀p,p∈glue a m→p.length≤a.length+n:=by
  cases m with
  | nil=>intro p hp;simp [glue] at hp;subst hp;omega
  | cons q qs=>
    intro p hp
    simp only [glue,List.mem_cons] at hp
    rcases hp with rfl | hp
    · rw [List.length_append];have:=h q (List.mem_cons_self ..);omega
    · have:=h p (List.mem_cons_of_mem _ hp);omega
theorem ZkL (x:UInt8) :∀(l p:List UInt8),p∈cut x l→p.length≤l.length
  | [],p,h=>by simp [cut] at h;subst h;simp
  | c :: r,p,h=>by
    rw [cut] at h
    split at h
    · rcases List.mem_cons.1 h with rfl | h
      · simp
      · have:=ZkL x r p h;simp;omega
    · have:=Zpu (ZkL x r) p h;simp at this ⊢;omega
theorem ZjV {l:List (List UInt8)} {k:Nat} {c:List UInt8} (hc:l[k]? = some c) (h:Zak c=false):l.all Zak=false:=by
  rw [Bool.eq_false_iff];intro ha
  have:=List.all_eq_true.1 ha c (List.mem_of_getElem? hc)
  rw [h] at this;cases this
theorem Zhx {l:List (List UInt8)} {k:Nat} {c:List UInt8} (hc:l[k]? = some c) (h:Zak c=true) (ha:(l.take k).all Zak=true):(l.take (k+1)).all Zak=true:=by
  rw [List.take_add_one,hc];simp only [Option.toList_some,List.all_append,ha,List.all_cons,h,List.all_nil];rfl
theorem ZjN (x:UInt8) :∀l:List UInt8,(cut x l).length≤l.length+1
  | []=>by simp [cut]
  | c :: r=>by
    have h:=ZjN x r
    rw [cut]
    split
    · simp;omega
    · cases hq:cut x r with
      | nil=>exact absurd hq (ZlF x r)
      | cons p ps=>rw [hq] at h;simp [glue] at h ⊢;omega
end Go.BL
namespace Go.BL
open Go
set_option linter.unusedVariables false
set_option linter.unusedSimpArgs false
theorem ZiG {x:UInt8} :∀{l:List UInt8},x ∉ l→cut x l=[l]
  | [],_=>rfl
  | c :: r,h=>by
    rw [cut,if_neg (fun e=>h (by rw [e];exact List.mem_cons_self ..)),ZiG (fun hm=>h (List.mem_cons_of_mem _ hm))]
    rfl
theorem Zhr {x:UInt8} {b:List UInt8} :∀{a:List UInt8},x ∉ a→cut x (a ++ x :: b)=a :: cut x b
  | [],_=>by simp [cut]
  | c :: r,h=>by
    rw [List.cons_append,cut,if_neg (fun e=>h (by rw [e];exact List.mem_cons_self ..)),Zhr (fun hm=>h (List.mem_cons_of_mem _ hm))]
    rfl
theorem ZeU {x:UInt8} :∀{l:List UInt8},x∈l→∃a b,l=a ++ x :: b∧x ∉ a
  | c :: r,h=>by
    by_cases e:c=x
    · exact ⟨[],r,by simp [e],by simp⟩
    · have hr:x∈r:=(List.mem_cons.1 h).resolve_left (Ne.symm e)
      obtain ⟨a,b,h1,h2⟩:=ZeU hr
      exact ⟨c :: a,b,by simp [h1],by simp [Ne.symm e,h2]⟩
theorem ZhI (l:List UInt8) (i j:Nat):word l (i+j)=word (l.drop i) j:=by
  unfold word;rw [List.drop_drop]
theorem ZhV (l:List UInt8) (i:Nat) :∀n j,more n l (i+j)=((more n (l.drop i) j).1,i+(more n (l.drop i) j).2)
  | 0,j=>rfl
  | n+1,j=>by
    simp only [more,List.getElem?_drop]
    rw [show i+j+1=i+(j+1) from by omega,ZhI]
    split
    · split
      · rw [show i+(j+1)+(word (l.drop i) (j+1)).length=i+(j+1+(word (l.drop i) (j+1)).length) from by omega,ZhV l i n]
      · simp only [Prod.mk.injEq,true_and];omega
    · rfl
theorem ZoD {l:List UInt8} (h:l.all ZaW=true):word l 0=l:=by
  have:=(Zdy (p:=ZaW) l).2 h
  have h2:=List.takeWhile_prefix ZaW (l:=l)
  simp only [word,List.drop_zero]
  exact List.IsPrefix.eq_of_length h2 this
theorem Zf8 {a b:List UInt8} {x:UInt8} (hx:ZaW x=false) (h:a.all ZaW=true):word (a ++ x :: b) 0=a:=by
  simp only [word,List.drop_zero]
  induction a with
  | nil=>simp [List.takeWhile,hx]
  | cons c a ih=>
    simp only [List.all_cons,Bool.and_eq_true] at h
    simp only [List.cons_append,List.takeWhile,h.1,ih h.2]
theorem Zf7 {a:List UInt8} (b:List UInt8) (h:a.all ZaW=false):(word (a ++ b) 0).length<a.length∧word (a ++ b) 0=word a 0:=by
  simp only [word,List.drop_zero]
  induction a with
  | nil=>simp at h
  | cons c a ih=>
    cases hc:ZaW c with
    | false=>simp [List.takeWhile,hc]
    | true=>
      have h':a.all ZaW=false:=by simpa [hc] using h
      have:=ih h'
      simp only [List.cons_append,List.takeWhile,hc,List.length_cons]
      exact ⟨by omega,by rw [this.2]⟩
theorem Zrd {a:List UInt8} (b:List UInt8) {k:Nat} (h:k<a.length):(a ++ b)[k]? = a[k]?:=List.getElem?_append_left h
theorem Zhh {x:UInt8} {a:List UInt8} (h:x ∉ a) (k:Nat):a[k]?≠some x:=fun e=>h (List.mem_of_getElem? e)
theorem Zno :∀(n:Nat) (b:List UInt8),(ZcT (word b 0)=true∧more n b (word b 0).length=(true,b.length))↔((cut 46 b).all Zak=true∧(cut 46 b).length≤n+1):=by
  intro n
  induction n with
  | zero=>
    intro b
    by_cases hd:(46:UInt8)∈b
    · obtain ⟨a,r,rfl,ha⟩:=ZeU hd
      rw [Zhr ha]
      have hlen:(word (a ++ 46 :: r) 0).length≤a.length:=by
        cases hna:a.all ZaW with
        | true=>rw [Zf8 (by decide) hna];exact Nat.le_refl _
        | false=>exact Nat.le_of_lt (Zf7 _ hna).1
      constructor
      · rintro ⟨_,h2⟩
        simp only [more,Prod.mk.injEq,true_and] at h2
        rw [List.length_append,List.length_cons] at h2
        omega
      · rintro ⟨_,h2⟩
        have:=ZlF 46 r
        simp only [List.length_cons] at h2
        exact absurd (List.eq_nil_of_length_eq_zero (by omega)) this
    · rw [ZiG hd]
      simp only [more,List.all_cons,List.all_nil,Bool.and_true,List.length_cons,List.length_nil,Nat.zero_add,Nat.le_refl,and_true,Prod.mk.injEq,true_and,ZcD,Bool.and_eq_true,decide_eq_true_eq]
  | succ n ih=>
    intro b
    by_cases hd:(46:UInt8)∈b
    · obtain ⟨a,r,rfl,ha⟩:=ZeU hd
      rw [Zhr ha]
      cases hna:a.all ZaW with
      | true=>
        rw [Zf8 (by decide) hna]
        have hg:(a ++ 46 :: r)[a.length]? = some 46:=by simp
        have hdr:(a ++ 46 :: r).drop (a.length+1)=r:=by rw [List.drop_append];simp
        have hw:word (a ++ 46 :: r) (a.length+1)=word r 0:=by
          have:=ZhI (a ++ 46 :: r) (a.length+1) 0
          rw [Nat.add_zero,hdr] at this;exact this
        have hm:more n (a ++ 46 :: r) (a.length+1+(word r 0).length)=((more n r (word r 0).length).1,a.length+1+(more n r (word r 0).length).2):=by
          rw [ZhV,hdr]
        simp only [more,hg,if_true,hw,hm,List.all_cons,Bool.and_eq_true,List.length_cons]
        have hna':Zak a=ZcT a:=by rw [ZcD,ZoD hna];simp
        have hi:=ih r
        constructor
        · rintro ⟨h1,h2⟩
          split at h2
          · rename_i h3
            simp only [Prod.mk.injEq,List.length_append,List.length_cons] at h2
            have:=hi.1 ⟨h3,by ext1;exact h2.1;simp only [];omega⟩
            exact ⟨⟨by rw [hna'];exact h1,this.1⟩,by omega⟩
          · simp at h2
        · rintro ⟨⟨h1,h2⟩,h3⟩
          obtain ⟨h4,h5⟩:=hi.2 ⟨h2,by omega⟩
          refine ⟨by rw [← hna'];exact h1,?_⟩
          rw [if_pos h4,h5]
          simp;omega
      | false=>
        obtain ⟨h1,h2⟩:=Zf7 (46 :: r) hna
        have hne:Zak a=false:=by simp [Zak,hna]
        constructor
        · rintro ⟨_,h3⟩
          rw [Zg1 (by rw [Zrd _ h1];exact Zhh ha _)] at h3
          simp only [Prod.mk.injEq,true_and,List.length_append,List.length_cons] at h3
          omega
        · rintro ⟨h3,_⟩
          simp [hne] at h3
    · rw [ZiG hd]
      rw [Zg1 (Zhh hd _)]
      simp only [List.all_cons,List.all_nil,Bool.and_true,List.length_cons,List.length_nil,Prod.mk.injEq,true_and,ZcD,Bool.and_eq_true,decide_eq_true_eq]
      constructor
      · rintro ⟨h1,h2⟩;exact ⟨⟨h1,h2⟩,by omega⟩
      · rintro ⟨⟨h1,h2⟩,_⟩;exact ⟨h1,h2⟩
theorem ZjK (b:List UInt8):((dom b 0).1=true∧(dom b 0).2≤20∧(dom b 0).2=b.length)↔Zb8 b=true:=by
  have h:=Zno 2 b
  simp only [Zb8,Bool.and_eq_true,decide_eq_true_eq]
  constructor
  · rintro ⟨h1,h2,h3⟩
    cases hw:ZcT (word b 0) with
    | false=>simp [dom,hw] at h1
    | true=>
      simp only [dom,hw,if_true,Nat.zero_add] at h1 h2 h3
      have:=h.1 ⟨hw,by ext1;exact h1;exact h3⟩
      exact ⟨⟨this.1,this.2⟩,by omega⟩
  · rintro ⟨⟨h1,h2⟩,h3⟩
    obtain ⟨h4,h5⟩:=h.2 ⟨h1,h2⟩
    simp only [dom,h4,if_true,Nat.zero_add,h5]
    exact ⟨trivial,h3,trivial⟩
end Go.BL
namespace Go.BL
open Go
set_option linter.unusedVariables false
set_option linter.unusedSimpArgs false
theorem Za1 {α:Type} {p:α→Prop} {l:List α} {k:Nat} {x:α} (hx:l[k]? = some x) (h :∀y,y∈l.take k→p y) (hp:p x) :∀y,y∈l.take (k+1)→p y:=by
  intro y hy
  rw [List.take_add_one,hx] at hy
  simp only [Option.toList_some,List.mem_append,List.mem_singleton] at hy
  rcases hy with hy | rfl
  · exact h y hy
  · exact hp
def ZeB (us:List DUser) (u:Str):Int:=match us.findIdx? (fun x=>decide (x.name=u)) with | some i=>i | none=>-1
theorem Zpl {us:List DUser} {u:Str} {k:Nat} {x:DUser} (hx:us[k]? = some x) (he:x.name=u) (h :∀y,y∈us.take k→y.name≠u):ZeB us u=k:=by
  have:us.findIdx? (fun x=>decide (x.name=u))=some k:=by
    rw [List.findIdx?_eq_some_iff_getElem]
    obtain ⟨hk,rfl⟩:=List.getElem?_eq_some_iff.1 hx
    refine ⟨hk,by simpa using he,fun j hj=>?_⟩
    have:=h us[j] (by rw [List.mem_take_iff_getElem];exact ⟨j,by omega,rfl⟩)
    simpa using this
  rw [ZeB,this]
theorem ZnK {us:List DUser} {u:Str} (h :∀y,y∈us→y.name≠u):ZeB us u = -1:=by
  have:us.findIdx? (fun x=>decide (x.name=u))=none:=by
    rw [List.findIdx?_eq_none_iff]
    intro x hx
    simpa using h x hx
  rw [ZeB,this]
theorem Zbo {α:Type} {as bs:List α} {k:Nat} {x y:α} (hx:as[k]? = some x) (hy:bs[k]? = some y) (e:x=y) (h:as.take k=bs.take k):as.take (k+1)=bs.take (k+1):=by
  rw [List.take_add_one,List.take_add_one,hx,hy,e,h]
theorem Zf3 {α:Type} {as bs:List α} {inst:Decidable (as=bs)} (h : ¬ (as.length:Int)=bs.length):false=decide (as=bs):=by
  symm;rw [decide_eq_false_iff_not];intro e;exact h (by rw [e])
theorem Zew {α:Type} {as bs:List α} {inst:Decidable (as=bs)} {k:Nat} {x y:α} (hx:as[k]? = some x) (hy:bs[k]? = some y) (e : ¬ x=y):false=decide (as=bs):=by
  symm;rw [decide_eq_false_iff_not];intro h;rw [h,hy] at hx;exact e (Option.some.inj hx).symm
theorem eqT {α:Type} {as bs:List α} {inst:Decidable (as=bs)} {k:Nat} (hl:as.length=bs.length) (hk:k=as.length) (h:as.take k=bs.take k):true=decide (as=bs):=by
  symm;rw [decide_eq_true_eq]
  rw [List.take_of_length_le (by omega),List.take_of_length_le (by omega)] at h;exact h
theorem ZuW {α:Type} {as:List α} {x:α} {inst:Decidable (x∈as)} (h :∀y,y∈as→y≠x):false=decide (x∈as):=by
  symm;rw [decide_eq_false_iff_not];intro hx;exact h x hx rfl
theorem ZuV {α:Type} {as:List α} {x y:α} {inst:Decidable (x∈as)} {k:Nat} (hy:as[k]? = some y) (e:y=x):true=decide (x∈as):=by
  symm;rw [decide_eq_true_eq];subst e;exact List.mem_of_getElem? hy
theorem Za6 {α:Type} {p:α→Prop} {l:List α} {k:Nat} (hk : ¬ (k:Int)<l.length) (h :∀y,y∈l.take k→p y) :∀y,y∈l→p y:=by
  rwa [List.take_of_length_le (by omega)] at h
theorem ZiE {α:Type} {l:List α} {k:Nat} {x:α} (h:l[k]? = some x):l.drop k=x :: l.drop (k+1):=by
  obtain ⟨hlt,he⟩:=List.getElem?_eq_some_iff.1 h
  rw [List.drop_eq_getElem_cons hlt,he]
theorem Zof {α:Type} {l:List α} {k:Nat} (h : ¬ (k:Int)<l.length):l.drop k=[]:=List.drop_eq_nil_of_le (by omega)
def ZcC (l:List Str):Bool:=l.all Zak && decide l.Nodup && decide (l.length≤3)
def Zci (x:DLetter):Bool:=Zak x.fr && ZcC x.to_ && decide (0<x.to_.length) && decide (x.text.length≤20)
def Zfu (x:DItem):Bool:=Zci ⟨x.fr,x.left,x.text⟩
def Zdc:Int→List DItem→Option Int
  | last,[]=>some last
  | last,x :: r=>if (last+1≤x.id∧x.id≤99)∧Zfu x=true then Zdc x.id r else none
def ZaO (q:DQueue):Bool:=match Zdc 0 q.items with
  | some last=>decide (last+1≤q.next) && decide (q.next≤100) && decide (q.items.length≤6)
  | none=>false
theorem Znn {α:Type} {l:List α} {k:Nat} {x:α} (hx:l[k]? = some x) (h:(l.take k).Nodup) (hn : ¬ x∈l.take k):(l.take (k+1)).Nodup:=by
  rw [List.take_add_one,hx]
  simp only [Option.toList_some]
  rw [List.nodup_append]
  exact ⟨h,by simp,fun a ha b hb=>by rw [List.mem_singleton.1 hb];exact fun e=>hn (e ▸ ha)⟩
theorem ZqS {α:Type} {l:List α} {k:Nat} {x:α} (hx:l[k]? = some x) (h:x∈l.take k) : ¬ l.Nodup:=by
  intro hn
  have e:l=l.take k ++ l.drop k:=(List.take_append_drop k l).symm
  rw [e,ZiE hx,List.nodup_append] at hn
  exact hn.2.2 x h x (List.mem_cons_self ..) rfl
theorem Zge {l:List Str} {k:Nat} {x:Str} (hx:l[k]? = some x) (h:Zak x=false):false=ZcC l:=by
  simp [ZcC,ZjV hx h]
theorem Zgd {l:List Str} {k:Nat} {x:Str} (hx:l[k]? = some x) (h:x∈l.take k):false=ZcC l:=by
  simp [ZcC,ZqS hx h]
theorem Zg0 {l:List Str} {k:Nat} (hk : ¬ (k:Int)<l.length) (ha:(l.take k).all Zak=true) (hn:(l.take k).Nodup):decide ((l.length:Int)≤3)=ZcC l:=by
  rw [List.take_of_length_le (by omega)] at ha hn
  rw [Bool.eq_iff_iff];simp only [ZcC,ha,decide_eq_true hn,Bool.true_and,decide_eq_true_eq];omega
def ZeG {α:Type} (p:α→Bool) (xs:List α):Int:=match xs.findIdx? p with | some i=>i | none=>-1
theorem Zgv {α:Type} {p:α→Bool} {xs:List α} {k:Nat} {x:α} (hx:xs[k]? = some x) (he:p x=true) (h :∀y,y∈xs.take k→p y=false):ZeG p xs=k:=by
  have:xs.findIdx? p=some k:=by
    rw [List.findIdx?_eq_some_iff_getElem]
    obtain ⟨hk,rfl⟩:=List.getElem?_eq_some_iff.1 hx
    refine ⟨hk,he,fun j hj=>?_⟩
    have:=h xs[j] (by rw [List.mem_take_iff_getElem];exact ⟨j,by omega,rfl⟩)
    simpa using this
  rw [ZeG,this]
theorem Zeb {α:Type} {p:α→Bool} {xs:List α} (h :∀y,y∈xs→p y=false):ZeG p xs = -1:=by
  have:xs.findIdx? p=none:=by
    rw [List.findIdx?_eq_none_iff]
    intro x hx
    simpa using h x hx
  rw [ZeG,this]
theorem Zls {α:Type} {p:α→Bool} {xs:List α} : (0≤ZeG p xs)↔∃x,x∈xs∧p x=true:=by
  cases h:xs.findIdx? p with
  | none=>
    rw [List.findIdx?_eq_none_iff] at h
    simp only [ZeG,List.findIdx?_eq_none_iff.2 h]
    refine ⟨fun e=>absurd e (by omega),fun ⟨x,hx,hp⟩=>?_⟩
    rw [h x hx] at hp;cases hp
  | some i=>
    simp only [ZeG,h]
    rw [List.findIdx?_eq_some_iff_getElem] at h
    obtain ⟨hi,hp,_⟩:=h
    exact ⟨fun _=>⟨_,List.getElem_mem hi,hp⟩,fun _=>by omega⟩
def Ztn (xs:List Str) (v:Str):Int:=ZeG (fun x=>decide (x=v)) xs
theorem Zpm {xs:List Str} {v:Str} : (0≤Ztn xs v)↔v∈xs:=by
  rw [Ztn,Zls];simp
theorem Zlj {q:DQueue} (h:Zdc 0 q.items=none):false=ZaO q:=by simp [ZaO,h]
theorem Zli {q:DQueue} {last:Int} (h:Zdc 0 q.items=some last):(decide (last+1≤q.next) && decide (q.next≤100) && decide (q.items.length≤6))=ZaO q:=by simp [ZaO,h]
theorem Znb {q:DQueue} {k:Nat} {last:Int} {x:DItem} (hs:Zdc 0 q.items=Zdc last (q.items.drop k)) (hx:q.items[k]? = some x):Zdc 0 q.items=if (last+1≤x.id∧x.id≤99)∧Zfu x=true then Zdc x.id (q.items.drop (k+1)) else none:=by
  rw [hs,ZiE hx,Zdc]
theorem Zd8 (x:DLetter):Zci x=(Zak x.fr && (decide (1≤x.to_.length) && ZcC x.to_) && decide ((x.text.length:Int)≤20)):=by
  rw [Bool.eq_iff_iff];simp only [Zci,Bool.and_eq_true,decide_eq_true_eq]
  constructor
  · rintro ⟨⟨⟨a,b⟩,c⟩,d⟩;exact ⟨⟨a,by omega,b⟩,by omega⟩
  · rintro ⟨⟨a,c,b⟩,d⟩;exact ⟨⟨⟨a,b⟩,by omega⟩,by omega⟩
theorem Zc8.mono {B B':Kn} {q:Option Addr} {m:Nat} (h:Zc8 B q m) (hle:B.le B'):Zc8 B' q m:=fun j hj=>by
  obtain ⟨a,c,h1,h2,h3⟩:=h j hj
  exact ⟨a,c,h1,h2,h3.mono hle⟩
structure Gh (α:Type) where
  k:Nat
  p:Nat
  l:Cells
  a:Option Addr
  c:Nat
  xs:List α
theorem Zct {α:Type} {l:List α} {k:Nat} {x:α} (hx:l[k]? = some x):l.take (k+1)=l.take k ++ [x]:=by
  rw [List.take_add_one,hx];rfl
theorem Znc :∀{xs:List DItem} {l r:Int},Zdc l xs=some r→l≤r
  | [],l,r,h=>by simp only [Zdc,Option.some.injEq] at h;omega
  | x :: xs,l,r,h=>by
    rw [Zdc] at h
    split at h
    · rename_i e;have:=Znc h;omega
    · cases h
theorem Zja {q:DQueue} (h:ZaO q=true):1≤q.next∧q.next≤100∧q.items.length≤6:=by
  unfold ZaO at h
  split at h
  · rename_i last e
    have:=Znc e
    simp only [Bool.and_eq_true,decide_eq_true_eq] at h
    omega
  · cases h
structure Gh2 (α β:Type) where
  k:Nat
  p:Nat
  l:Cells
  a:Option Addr
  c:Nat
  xs:List α
  e:β
structure GQ where
  k:Nat
  p:Nat
  l:Cells
  a:Option Addr
  c:Nat
  q:DQueue
structure GM where
  b:Nat
  p:Nat
  l:Cells
  a:Option Addr
  c:Nat
  q:DQueue
  f:Bool
structure QOf where
  p:Option Addr
  ys:List DItem
  xs:List DItem
  l:Cells
  q:Option Addr
  c:Nat
  cells:Cells
theorem Z3.slice0 {α:Type} {B:Kn} {l:Cells} {p:Option Addr} {c:Nat} {T:TypeId} {w sz:Nat} {R:Rel α} {xs:List α} (h:Z3 B l p c T w R xs):(if c=0 then p else p.map (fun a=>a.add (0*sz)))=p:=by
  obtain ⟨rows,_,_,_,⟨rfl,_,rfl,_⟩ | ⟨b,arr,rfl,_,_,_,_⟩⟩:=h
  · rfl
  · split
    · rfl
    · rw [Nat.zero_mul];simp [Addr.add_off]
theorem ZfQ {q:DQueue} (h : ¬ (q.items.length≤6∧1≤q.next∧q.next≤100)):false=ZaO q:=by
  symm;rw [Bool.eq_false_iff];intro hq
  have:=Zja hq
  omega
end Go.BL
namespace Go.BL
open Go
set_option linter.unusedVariables false
set_option linter.unusedSimpArgs false
def hat (xs:List Int) (k:Nat):Int:=xs.getD k 0
def swp (xs:List Int) (i j:Nat):List Int:=(xs.set i (hat xs j)).set j (hat xs i)
def ZcP (xs:List Int):Prop:=∀k,0<k→k<xs.length→hat xs ((k - 1) / 2)≤hat xs k
def Ze6 (xs:List Int) (j:Nat):Prop:=(∀k,0<k→k<xs.length→k≠j→hat xs ((k - 1) / 2)≤hat xs k)∧(∀k,0<k→k<xs.length→(k - 1) / 2=j→0<j→hat xs ((j - 1) / 2)≤hat xs k)
theorem Zrb {xs:List Int} {k:Nat} {a:Int} (h:xs[k]? = some a):hat xs k=a:=by simp [hat,List.getD,h]
theorem ZaC {xs:List Int} {k:Nat} (h:k<xs.length):xs[k]? = some (hat xs k):=by simp [hat,List.getD,List.getElem?_eq_getElem h]
theorem Zcw (xs:List Int) (i j:Nat):(swp xs i j).length=xs.length:=by simp [swp]
theorem Zec {xs:List Int} {i j:Nat} (hi:i<xs.length) (hj:j<xs.length) (k:Nat):hat (swp xs i j) k=if k=j then hat xs i else if k=i then hat xs j else hat xs k:=by
  simp only [hat,swp,List.getD,List.getElem?_set]
  by_cases h1:k=j
  · subst h1;simp [hj]
  · have h1' : ¬j=k:=fun h=>h1 h.symm
    by_cases h2:k=i
    · subst h2;simp [hi,h1,h1']
    · have h2' : ¬i=k:=fun h=>h2 h.symm
      simp [h1,h1',h2,h2']
theorem Zfe {xs:List Int} {i j:Nat} (hi:i<xs.length) (hj:j<xs.length):(swp xs i j).Perm xs:=by
  rw [List.perm_iff_count]
  intro a
  unfold swp
  rw [List.count_set (by simpa using hj),List.count_set hi]
  have e1:(xs.set i (hat xs j))[j]'(by simpa using hj)=hat xs j:=by
    rw [List.getElem_set];split
    · rfl
    · simp [hat,List.getD,List.getElem?_eq_getElem hj]
  have e2:xs[i]=hat xs i:=by simp [hat,List.getD,List.getElem?_eq_getElem hi]
  rw [e1,e2]
  have hp :∀v,(v == a)=true→v∈xs→0<List.count a xs:=fun v hv hm=>by
    rw [beq_iff_eq] at hv;subst hv;exact List.count_pos_iff.2 hm
  have hm1:hat xs i∈xs:=by rw [← e2];exact List.getElem_mem _
  by_cases h1:(hat xs i == a)=true <;> by_cases h2:(hat xs j == a)=true <;> simp [h1,h2] <;> (try have:=hp _ h1 hm1;omega)
theorem ZqD {xs:List Int} (h:Ze6 xs 0):ZcP xs:=fun k h0 hk=>h.1 k h0 hk (by omega)
theorem ZqF {xs:List Int} {j:Nat} (h:Ze6 xs j) (hj:hat xs ((j - 1) / 2)≤hat xs j):ZcP xs:=fun k h0 hk=>by
  by_cases e:k=j
  · subst e;exact hj
  · exact h.1 k h0 hk e
theorem ZqE {xs:List Int} {j:Nat} (h0:0<j) (hj:j<xs.length) (h:Ze6 xs j) (hlt:hat xs j<hat xs ((j - 1) / 2)):Ze6 (swp xs ((j - 1) / 2) j) ((j - 1) / 2):=by
  have hi:(j - 1) / 2<xs.length:=by omega
  have H:=fun k=>Zec hi hj k
  generalize hii:(j - 1) / 2=i at *
  refine ⟨fun k hk0 hk hne=>?_,fun k hk0 hk hpar hi0=>?_⟩
  · rw [Zcw] at hk
    rw [H,H]
    by_cases e1:k=j
    · subst e1
      rw [hii];rw [if_neg (by omega),if_pos rfl,if_pos rfl];omega
    · rw [if_neg e1,if_neg hne]
      by_cases e2:(k - 1) / 2=j
      · rw [if_pos e2];have:=h.2 k hk0 hk e2 h0;rw [hii] at this;exact this
      · rw [if_neg e2]
        by_cases e3:(k - 1) / 2=i
        · rw [if_pos e3];have:=h.1 k hk0 hk e1;rw [e3] at this;omega
        · rw [if_neg e3];exact h.1 k hk0 hk e1
  · rw [Zcw] at hk
    rw [H,H]
    have hpi:(i - 1) / 2≠i:=by omega
    have hpj:(i - 1) / 2≠j:=by omega
    rw [if_neg hpj,if_neg hpi]
    have hii2:=h.1 i hi0 hi (by omega)
    by_cases e1:k=j
    · rw [if_pos e1];exact hii2
    · rw [if_neg e1,if_neg (by omega)]
      have:=h.1 k hk0 hk e1;rw [hpar] at this;omega
theorem Zpp {xs:List Int} (h:ZcP xs) :∀k,k<xs.length→hat xs 0≤hat xs k:=fun k=>by
  induction k using Nat.strongRecOn with
  | ind k ih=>
    intro hk
    by_cases h0:k=0
    · subst h0;exact Int.le_refl _
    · have h1:=ih ((k - 1) / 2) (by omega) (by omega)
      have h2:=h k (by omega) hk
      omega
def ZpU (xs:List Int) (n:Nat):Prop:=∀k,0<k→k<n→hat xs ((k - 1) / 2)≤hat xs k
def Zel (xs:List Int) (n i:Nat):Prop:=(∀k,0<k→k<n→(k - 1) / 2≠i→hat xs ((k - 1) / 2)≤hat xs k)∧(∀k,0<k→k<n→(k - 1) / 2=i→0<i→hat xs ((i - 1) / 2)≤hat xs k)
theorem Zog {xs:List Int} {n i:Nat} (h:Zel xs n i) (hl:n≤2*i+1):ZpU xs n:=fun k h0 hk=>h.1 k h0 hk (by omega)
theorem Zhp {xs:List Int} {n i:Nat} (h:Zel xs n i) (hc :∀k,0<k→k<n→(k - 1) / 2=i→hat xs i≤hat xs k):ZpU xs n:=fun k h0 hk=>by
  by_cases e:(k - 1) / 2=i
  · rw [e];exact hc k h0 hk e
  · exact h.1 k h0 hk e
theorem Zho {xs:List Int} {n i j:Nat} (hn:n≤xs.length) (hj0:0<j) (hj:j<n) (hpj:(j - 1) / 2=i) (h:Zel xs n i) (hmin :∀k,0<k→k<n→(k - 1) / 2=i→hat xs j≤hat xs k) (hlt:hat xs j<hat xs i):Zel (swp xs i j) n j:=by
  have hi:i<xs.length:=by omega
  have hij:i≠j:=by omega
  have H:=fun k=>Zec hi (show j<xs.length by omega) k
  refine ⟨fun k hk0 hk hne=>?_,fun k hk0 hk hpar _=>?_⟩
  · rw [H,H,if_neg hne]
    by_cases e1:k=j
    · subst e1;rw [if_pos hpj,if_pos rfl];omega
    · rw [if_neg e1]
      by_cases e2:(k - 1) / 2=i
      · rw [if_pos e2,if_neg (by omega)];exact hmin k hk0 hk e2
      · rw [if_neg e2]
        by_cases e3:k=i
        · rw [if_pos e3];subst e3;exact h.2 j hj0 hj hpj hk0
        · rw [if_neg e3];exact h.1 k hk0 hk e2
  · rw [H,H,hpj,if_neg hij,if_pos rfl,if_neg (by omega),if_neg (by omega)]
    have:=h.1 k hk0 hk (by omega)
    rwa [hpar] at this
theorem Ztb (k:Nat):Int.tdiv ((k:Int) - 1) 2=(((k - 1) / 2:Nat):Int):=by
  cases k with
  | zero=>rfl
  | succ k=>rw [show ((k+1:Nat):Int) - 1=(k:Int) from by omega,Int.tdiv_eq_ediv_of_nonneg (by omega)];simp
theorem ZnS {xs:List Int} {z:Int} {k:Nat} (h:k<xs.length):hat (xs ++ [z]) k=hat xs k:=by
  simp [hat,List.getD,List.getElem?_append_left h]
theorem ZoZ {xs:List Int} {z:Int} (h:ZcP xs):Ze6 (xs ++ [z]) xs.length:=by
  refine ⟨fun k h0 hk hne=>?_,fun k h0 hk hp _=>?_⟩
  · rw [List.length_append,List.length_singleton] at hk
    rw [ZnS (by omega),ZnS (by omega)]
    exact h k h0 (by omega)
  · rw [List.length_append,List.length_singleton] at hk
    omega
theorem ZqM {xs:List Int} (h:ZcP xs) (h0:0<xs.length):Zel (swp xs 0 (xs.length - 1)) (xs.length - 1) 0:=by
  refine ⟨fun k hk0 hk hne=>?_,fun k hk0 hk hpar hh=>absurd hh (by omega)⟩
  rw [Zec h0 (by omega),Zec h0 (by omega),if_neg (by omega),if_neg (by omega),if_neg (by omega),if_neg (by omega)]
  exact h k hk0 (by omega)
theorem ZoS {xs:List Int} (h0:0<xs.length):hat (swp xs 0 (xs.length - 1)) (xs.length - 1)=hat xs 0:=by rw [Zec h0 (by omega),if_pos rfl]
theorem Zlu {xs:List Int} {n k:Nat} (h:k<n):hat (xs.take n) k=hat xs k:=by simp [hat,List.getD,List.getElem?_take,h]
theorem Zmf {ys:List Int} {n:Nat} (h:ZpU ys n) (hn:n≤ys.length):ZcP (ys.take n):=fun k h0 hk=>by
  rw [List.length_take] at hk
  rw [Zlu (by omega),Zlu (by omega)]
  exact h k h0 (by omega)
theorem Zo2 {xs ys:List Int} (h0:0<ys.length) (hp:ys.Perm xs) {z:Int} (hz:hat ys (ys.length - 1)=z):(z :: ys.take (ys.length - 1)).Perm xs:=by
  refine List.Perm.trans ?_ hp
  have e:ys=ys.take (ys.length - 1) ++ [z]:=by
    have h1:=Zct (ZaC (xs:=ys) (k:=ys.length - 1) (by omega))
    rw [show ys.length - 1+1=ys.length from by omega,List.take_length] at h1
    rw [hz] at h1;exact h1
  have h2:(z :: ys.take (ys.length - 1)).Perm (ys.take (ys.length - 1) ++ [z]):=(List.perm_append_singleton z _).symm
  rwa [← e] at h2
theorem Zpo:ZcP []:=fun k h0 hk=>by simp at hk
def asc:Int→Int→List Int→Bool
  | _,_,[]=>true
  | b,l,x :: r=>decide (b<x) && decide (x≤l) && asc x l r
theorem Zot :∀{r:List Int} {b l z:Int},asc b l r=true→z∈r→b<z
  | [],_,_,_,_,hz=>by cases hz
  | x :: r,b,l,z,h,hz=>by
    simp only [asc,Bool.and_eq_true,decide_eq_true_eq] at h
    rcases List.mem_cons.1 hz with rfl | hz
    · exact h.1.1
    · have:=Zot h.2 hz;omega
theorem Zra {xs:List Int} {k:Nat} (h:k<xs.length):hat xs k∈xs:=List.mem_of_getElem? (ZaC h)
theorem ZpK {b l x:Int} {r ys:List Int} (hp:ys.Perm (x :: r)) (hh:ZcP ys) (hne:hat ys 0≠x):false=asc b l (x :: r):=by
  symm;rw [Bool.eq_false_iff]
  intro h
  have h0:0<ys.length:=by rw [hp.length_eq];simp
  have hm:=hp.mem_iff.1 (Zra h0)
  simp only [asc,Bool.and_eq_true,decide_eq_true_eq] at h
  rcases List.mem_cons.1 hm with e | hm
  · exact hne e
  · have h1:=Zot h.2 hm
    obtain ⟨k,hk⟩:=List.mem_iff_getElem?.1 (hp.mem_iff.2 (List.mem_cons_self (a:=x) (l:=r)))
    have h2:=Zpp hh k (List.getElem?_eq_some_iff.1 hk).1
    rw [Zrb hk] at h2
    omega
theorem ZpJ {b l x:Int} {r:List Int} (h:x≤b):false=asc b l (x :: r):=by simp [asc,show ¬ b<x from by omega]
theorem ZpI {b l x:Int} {r:List Int} (h:l<x):false=asc b l (x :: r):=by simp [asc,show ¬ x≤l from by omega]
theorem ZsI {b l x:Int} {r:List Int} (h : ¬ x≤b) (h2 : ¬ l<x):asc b l (x :: r)=asc x l r:=by simp [asc,show b<x from by omega,show x≤l from by omega]
theorem Zld :∀{xs:List DItem} {b:Int} {l:Int},l≤99→(match Zdc b xs with | some r=>decide (r≤l) | none=>false)=(decide (b≤l) && xs.all Zfu && asc b l (xs.map (·.id)))
  | [],b,l,_=>by simp [Zdc,asc]
  | x :: xs,b,l,hl=>by
    have ih:=Zld (xs:=xs) (b:=x.id) hl
    rw [Zdc,List.map_cons,List.all_cons,asc]
    by_cases h1:b+1≤x.id
    · by_cases h2:Zfu x=true
      · by_cases h3:x.id≤99
        · rw [if_pos ⟨⟨h1,h3⟩,h2⟩,ih,h2]
          by_cases h4:x.id≤l
          · simp [h4,show b≤l from by omega,show b<x.id from by omega]
          · simp [h4]
        · rw [if_neg (fun h=>h3 h.1.2)]
          simp [show ¬ x.id≤l from by omega]
      · rw [if_neg (fun h=>h2 h.2)]
        simp [h2]
    · rw [if_neg (fun h=>h1 h.1.1)]
      simp [show ¬ b<x.id from by omega]
theorem ZgO (q:DQueue):ZaO q=(decide (q.items.length≤6) && decide (1≤q.next) && decide (q.next≤100) && q.items.all Zfu && asc 0 (q.next - 1) (q.items.map (·.id))):=by
  by_cases h:q.next≤100
  · have:=Zld (xs:=q.items) (b:=0) (l:=q.next - 1) (by omega)
    unfold ZaO
    cases hs:Zdc 0 q.items with
    | none=>
      rw [hs] at this
      simp only at this
      rw [Bool.eq_iff_iff]
      simp only [Bool.and_eq_true,decide_eq_true_eq,Bool.false_eq_true,false_iff]
      rintro ⟨⟨⟨⟨_,h1⟩,_⟩,h2⟩,h3⟩
      rw [h2,h3] at this
      simp at this;omega
    | some r=>
      rw [hs] at this
      simp only at this
      rw [Bool.eq_iff_iff] at this ⊢
      simp only [Bool.and_eq_true,decide_eq_true_eq] at this ⊢
      constructor
      · rintro ⟨⟨h1,h2⟩,h3⟩
        obtain ⟨⟨a,b⟩,c⟩:=this.1 (by omega)
        exact ⟨⟨⟨⟨h3,by omega⟩,h⟩,b⟩,c⟩
      · rintro ⟨⟨⟨⟨h1,h2⟩,h3⟩,h4⟩,h5⟩
        have:=this.2 ⟨⟨by omega,h4⟩,h5⟩
        omega
  · unfold ZaO
    cases Zdc 0 q.items <;> simp [h]
theorem ZsL {α:Type} {p:α→Bool} {l:List α} {k:Nat} {x:α} (hx:l[k]? = some x) (h:p x=false):l.all p=false:=by
  rw [Bool.eq_false_iff];intro hp
  rw [List.all_eq_true] at hp
  have:=hp x (List.mem_of_getElem? hx)
  rw [h] at this;cases this
theorem ZsK {α:Type} {p:α→Bool} {l:List α} {k:Nat} {x:α} (hx:l[k]? = some x) (h:p x=true) (ha:(l.take k).all p=true):(l.take (k+1)).all p=true:=by
  rw [Zct hx,List.all_append,ha];simp [h]
theorem Zkn {q:DQueue} {k:Nat} {x:DItem} (hx:q.items[k]? = some x) (h:Zfu x=false):false=ZaO q:=by
  rw [ZgO,ZsL hx h];simp
theorem Zkm {q:DQueue} {k:Nat} (hk : ¬ (k:Int)<q.items.length) (ha:(q.items.take k).all Zfu=true) (h6:q.items.length≤6) (h1:1≤q.next) (h2:q.next≤100):asc 0 (q.next - 1) (q.items.map (·.id))=ZaO q:=by
  rw [List.take_of_length_le (by omega)] at ha
  rw [ZgO,ha];simp [h6,h1,h2]
structure QLf where
  p:Option Addr
  ys:List DItem
  xs:List DItem
  cells:Cells
structure QN where
  k:Nat
  a:Option Addr
  c:Nat
end Go.BL
namespace Go.BL
open Go
set_option linter.unusedVariables false
set_option linter.unusedSimpArgs false
def Zcc (m:DMail):Bool:=(decide (1≤m.uid) && decide (m.uid≤99)) && (decide (0≤m.flags) && decide (m.flags≤31)) && decide (m.text.length≤20)
def scn {α β:Type} (p:β→α→Bool) (nx:β→α→β) (b0:β) (xs:List α):Bool × β:=xs.foldl (fun s x=>(s.1 && p s.2 x,nx s.2 x)) (true,b0)
theorem ZeW {α β:Type} {p:β→α→Bool} {nx:β→α→β} {b0:β} {xs:List α} : scn p nx b0 (xs.take 0)=(true,b0):=by simp [scn]
theorem Zlb {α β:Type} {p:β→α→Bool} {nx:β→α→β} {b0:β} {xs:List α} {k:Nat} {x:α} (hx:xs[k]? = some x):scn p nx b0 (xs.take (k+1))=((scn p nx b0 (xs.take k)).1 && p (scn p nx b0 (xs.take k)).2 x,nx (scn p nx b0 (xs.take k)).2 x):=by
  have:xs.take (k+1)=xs.take k ++ [x]:=by rw [List.take_add_one,hx];rfl
  rw [this,scn,List.foldl_append];rfl
theorem Zcx {α β:Type} {p:β→α→Bool} {nx:β→α→β} :∀(xs:List α) (b:β),(xs.foldl (fun (s:Bool × β) x=>(s.1 && p s.2 x,nx s.2 x)) (false,b)).1=false
  | [],_=>rfl
  | x :: xs,b=>by simp only [List.foldl_cons,Bool.false_and];exact Zcx xs _
theorem ZqJ {α β:Type} {p:β→α→Bool} {nx:β→α→β} {b0:β} {xs:List α} {k:Nat} (h:(scn p nx b0 (xs.take k)).1=false):(scn p nx b0 xs).1=false:=by
  have e:xs=xs.take k ++ xs.drop k:=(List.take_append_drop k xs).symm
  have:scn p nx b0 xs=(xs.drop k).foldl (fun s x=>(s.1 && p s.2 x,nx s.2 x)) (scn p nx b0 (xs.take k)):=by
    conv=>lhs;rw [e,scn,List.foldl_append]
    rfl
  rw [this]
  rcases hs:scn p nx b0 (xs.take k) with ⟨b,c⟩
  rw [hs] at h
  simp only at h
  subst h
  exact Zcx _ _
theorem ZeX {α β:Type} {p:β→α→Bool} {nx:β→α→β} {b0:β} {xs:List α} {k:Nat} {x:α} (hx:xs[k]? = some x) (h:p (scn p nx b0 (xs.take k)).2 x=false):(scn p nx b0 xs).1=false:=
  ZqJ (k:=k+1) (by rw [Zlb hx,h,Bool.and_false])
theorem Zb4 {α β:Type} {p:β→α→Bool} {nx:β→α→β} {b0 b:β} {xs:List α} {k:Nat} {x:α} (hx:xs[k]? = some x) (hs:scn p nx b0 (xs.take k)=(true,b)) (h:p b x=true):scn p nx b0 (xs.take (k+1))=(true,nx b x):=by
  rw [Zlb hx,hs];simp [h]
theorem ZdE {α β:Type} {p:β→α→Bool} {nx:β→α→β} {b0 b:β} {xs:List α} {k:Nat} (hs:scn p nx b0 (xs.take k)=(true,b)) (hk:xs.length≤k):scn p nx b0 xs=(true,b):=by
  rwa [List.take_of_length_le hk] at hs
def Ze0 (b:Int) (m:DMail):Bool:=Zcc m && decide (b<m.uid)
def ZdI (ms:List DMail):Bool × Int:=scn Ze0 (fun _ m=>m.uid) 0 ms
def Zf4 (b:DBox):Bool:=(ZdI b.mail).1 && (decide ((ZdI b.mail).2+1≤b.next) && decide (b.next≤100)) && decide (b.mail.length≤10)
def Zbc (ms:List DMail):Nat:=(ms.map (·.text.length)).sum
theorem ZgK {ms:List DMail} {k:Nat} {x:DMail} (hx:ms[k]? = some x):Zbc (ms.take (k+1))=Zbc (ms.take k)+x.text.length:=by
  have:ms.take (k+1)=ms.take k ++ [x]:=by rw [List.take_add_one,hx];rfl
  simp [Zbc,this]
theorem ZfE {b:DBox} (h:(ZdI b.mail).1=false):Zf4 b=false:=by simp [Zf4,h]
theorem ZfD {b:DBox} {l:Int} (h:ZdI b.mail=(true,l)):Zf4 b=((decide (l+1≤b.next) && decide (b.next≤100)) && decide (b.mail.length≤10)):=by simp [Zf4,h]
theorem ZhW {m:DMail} (h:Zcc m=true):0≤m.uid∧m.uid≤99:=by
  simp only [Zcc,Bool.and_eq_true,decide_eq_true_eq] at h;omega
theorem ZhQ {ms:List DMail} {k n:Nat} (h:n=Zbc (ms.take k)) (hk:ms.length≤k):n=Zbc ms:=by rwa [List.take_of_length_le hk] at h
def Zc7 (b:DBox):Int:=if Zf4 b then (Zbc b.mail:Int) else -1
def anyone:Str:=[97,110,121,111,110,101]
def Zcb (u:DUser):Bool:=Zak u.name && decide (u.name≠anyone) && Zak u.pass && (decide (0≤u.quota) && decide (u.quota≤200))
theorem Za7 :∀(a b:Str),Op.bytesLess a b = !(Op.bytesLess b a || decide (b=a))
  | [],[]=>by simp [Op.bytesLess]
  | [],_ :: _=>by simp [Op.bytesLess]
  | _ :: _,[]=>by simp [Op.bytesLess]
  | a :: x,b :: y=>by
    have ih:=Za7 x y
    simp only [Op.bytesLess,ih]
    rcases UInt8.lt_or_lt_of_ne (a:=a) (b:=b) with h
    by_cases e:a=b
    · subst e
      have : ¬ a<a:=UInt8.lt_irrefl a
      simp [this,ih]
    · rcases h e with h | h
      · have h2 : ¬ b<a:=UInt8.lt_asymm h
        simp [h,h2,e,Ne.symm e]
      · have h2 : ¬ a<b:=UInt8.lt_asymm h
        simp [h,h2,e]
def ZdX (b:Str) (u:DUser):Bool:=Zcb u && Op.bytesLess b u.name
def Zdx (us:List DUser):Bool × Str:=scn ZdX (fun _ u=>u.name) [] us
def Zau (us:List DUser):Bool:=(Zdx us).1 && (decide (1≤us.length) && decide (us.length≤4))
theorem ZeQ {us:List DUser} (h:(Zdx us).1=false):Zau us=false:=by simp [Zau,h]
theorem ZgG {us:List DUser} {b:Str} (h:Zdx us=(true,b)):Zau us=(decide (1≤us.length) && decide (us.length≤4)):=by simp [Zau,h]
def Znm:DUser:=⟨[],[],0⟩
def Zgo (t:DUser→Bool) (us:List DUser):DUser × Bool:=match us.find? t with | some x=>(x,true) | none=>(Znm,false)
theorem ZjF {α:Type} {t:α→Bool} {xs:List α} (h :∀y,y∈xs→t y=false):xs.find? t=none:=List.find?_eq_none.2 fun y hy=>by simp [h y hy]
theorem Zpw {α:Type} {t:α→Bool} {xs:List α} {k:Nat} {x:α} (hx:xs[k]? = some x) (ht:t x=true) (h :∀y,y∈xs.take k→t y=false):xs.find? t=some x:=by
  have hlt:=(List.getElem?_eq_some_iff.1 hx).1
  have e:xs=xs.take k ++ (x :: xs.drop (k+1)):=by
    rw [← (List.getElem?_eq_some_iff.1 hx).2,← List.drop_eq_getElem_cons hlt,List.take_append_drop]
  rw [e,List.find?_append,ZjF h];simp [ht]
theorem Zn4 {t:DUser→Bool} {us:List DUser} {k:Nat} {x:DUser} (hx:us[k]? = some x) (ht:t x=true) (h :∀y,y∈us.take k→t y=false):Zgo t us=(x,true):=by simp [Zgo,Zpw hx ht h]
theorem Zmk {t:DUser→Bool} {us:List DUser} (h :∀y,y∈us→t y=false):Zgo t us=(Znm,false):=by simp [Zgo,ZjF h]
theorem Zig {B:Kn} {b:Nat} {T:TypeId} {vs:List Value} (h :∀p,p∈ZaK b vs T→B.mem p.1=some p.2):ZaI B b 0 vs:=fun L j u hu=>
  ⟨rfl,vs.toArray,T,(0,0),.inl (h (b,.cells vs.toArray T) (List.mem_singleton.2 rfl)),by simpa using hu⟩
def Zaw (us:List DUser) (n:Str):DUser × Bool:=if Zau us then Zgo (fun y=>decide (y.name=n)) us else (Znm,false)
def inF (o n:Str) (f:DFolder):Bool:=decide (f.owner=o) && decide (f.name=n)
def Zcj (us:List DUser) (x:DItem):Bool:=(Zaw us x.fr).2 && x.left.all fun n=>(Zaw us n).2
theorem Zc1 {α:Type} {p:α→Bool} {xs:List α} {k:Nat} {x:α} (hx:xs[k]? = some x) (h:p x=false):xs.all p=false:=by
  rw [List.all_eq_false];exact ⟨x,List.mem_of_getElem? hx,by simp [h]⟩
theorem Zey {α:Type} {p:α→Bool} {xs:List α} (h :∀y,y∈xs→p y=true):xs.all p=true:=List.all_eq_true.2 h
def Zfs (a b:DFolder):Bool:=Op.bytesLess a.owner b.owner || (decide (a.owner=b.owner) && Op.bytesLess a.name b.name)
theorem ZcZ (a:Str):Op.bytesLess a a=false:=by
  have:=Za7 a a
  cases h:Op.bytesLess a a with
  | false=>rfl
  | true=>rw [h] at this;simp at this
end Go.BL
namespace Go.BL
open Go
set_option linter.unusedVariables false
set_option linter.unusedSimpArgs false
inductive Prev {α β:Type} (f:α→β) (z:β) (xs:List α):Nat→β→Prop
  | zero:Prev f z xs 0 z
  | succ {k:Nat} {x:α} : xs[k]? = some x→Prev f z xs (k+1) (f x)
theorem Prev.at {α β:Type} {f:α→β} {z:β} {xs:List α} {k:Nat} {b:β} {y:α} (h:Prev f z xs k b) (hy:xs[((k:Int) - 1).toNat]? = some y) (hk:0<(k:Int)):b=f y:=by
  cases h with
  | zero=>omega
  | succ hx=>
    rename_i k x
    rw [show (((k+1:Nat):Int) - 1).toNat=k from by omega,hx] at hy
    cases hy;rfl
theorem Prev.at0 {α β:Type} {f:α→β} {z:β} {xs:List α} {k:Nat} {b:β} (h:Prev f z xs k b) (hk:(k:Int)≤0):b=z:=by
  cases h with
  | zero=>rfl
  | succ hx=>omega
theorem Zie {α β:Type} {p:β→α→Bool} {nx:β→α→β} {b0 b:β} {xs:List α} {k:Nat} {x:α} (hx:xs[k]? = some x) (hs:scn p nx b0 (xs.take k)=(true,b)) (h:p b x=false):(scn p nx b0 xs).1=false:=
  ZeX hx (by rw [congrArg Prod.snd hs];exact h)
theorem Zcs {us:List DUser} {k:Nat} {x:DUser} {nm:Str} (hx:us[k]? = some x) (hs:Zdx (us.take k)=(true,nm)) (h:ZdX nm x=false):Zau us=false:=
  ZeQ (Zie hx hs h)
theorem Zln {s:Str} (h:0<s.length):Op.bytesLess [] s=true:=by
  cases s with
  | nil=>cases h
  | cons a s=>rfl
theorem ZhU {s:Str} (h:Zak s=true):0<s.length:=by
  cases s with
  | nil=>simp [Zak] at h
  | cons a s=>simp
def Zbt (b:Str) (g:DGrant):Bool:=Zak g.user && (decide (1≤g.rights) && decide (g.rights≤63)) && Op.bytesLess b g.user
def Zb7 (gs:List DGrant):Bool × Str:=scn Zbt (fun _ g=>g.user) [] gs
def ZcS (gs:List DGrant):Bool:=(Zb7 gs).1 && decide (gs.length≤4)
theorem ZcL {gs:List DGrant} {k:Nat} {x:DGrant} {nm:Str} (hx:gs[k]? = some x) (hs:Zb7 (gs.take k)=(true,nm)) (h:Zbt nm x=false):ZcS gs=false:=by
  rw [ZcS,show (Zb7 gs).1=false from Zie hx hs h,Bool.false_and]
theorem ZjW {gs:List DGrant} {b:Str} (h:Zb7 gs=(true,b)):ZcS gs=decide (gs.length≤4):=by rw [ZcS,h,Bool.true_and]
def DFolder.box (f:DFolder):DBox:=⟨f.next,f.mail⟩
def inbox:Str:=[105,110,98,111,120]
def Zaf (us:List DUser) (f:DFolder):Bool:=decide (0≤ZeB us f.owner) && Zak f.name && ZcS f.grants && Zf4 f.box
def Za4 (us:List DUser) (b:Option DFolder) (f:DFolder):Bool:=Zaf us f && (match b with | none=>true | some y=>Zfs y f)
def Zcp (us:List DUser) (fs:List DFolder):Bool × Option DFolder:=scn (Za4 us) (fun _ f=>some f) none fs
def ZbH (us:List DUser) (fs:List DFolder):Bool:=(Zcp us fs).1 && decide (fs.length≤8)
theorem ZbG {us:List DUser} {fs:List DFolder} {k:Nat} {x:DFolder} {b:Option DFolder} (hx:fs[k]? = some x) (hs:Zcp us (fs.take k)=(true,b)) (h:Za4 us b x=false):ZbH us fs=false:=by
  rw [ZbH,show (Zcp us fs).1=false from Zie hx hs h,Bool.false_and]
theorem ZiC {us:List DUser} {fs:List DFolder} {b:Option DFolder} (h:Zcp us fs=(true,b)):ZbH us fs=decide (fs.length≤8):=by rw [ZbH,h,Bool.true_and]
def Zfc (fs:List DFolder) (u:Str):Nat:=(fs.map fun f=>if f.owner=u then Zbc f.mail else 0).sum
theorem ZhN {fs:List DFolder} {u:Str} {k:Nat} {x:DFolder} (hx:fs[k]? = some x):Zfc (fs.take (k+1)) u=Zfc (fs.take k) u+if x.owner=u then Zbc x.mail else 0:=by
  have:fs.take (k+1)=fs.take k ++ [x]:=by rw [List.take_add_one,hx];rfl
  simp [Zfc,this]
theorem ZmO {fs:List DFolder} {u:Str} {k n:Nat} (h:n=Zfc (fs.take k) u) (hk:fs.length≤k):n=Zfc fs u:=by rwa [List.take_of_length_le hk] at h
def Zjt (us:List DUser) (ns:List Str):Bool:=ns.all fun n=>decide (0≤ZeB us n)
def ZaY (fs:List DFolder) (u:DUser):Bool:=decide (0≤ZeG (inF u.name inbox) fs) && decide ((Zfc fs u.name:Int)≤u.quota)
def ZaE (us:List DUser) (x:DItem):Bool:=decide (0≤ZeB us x.fr) && Zjt us x.left
def Z9 (h:DHost):Bool:=Zb8 h.domain && Zau h.users && ZaO h.queue && ZbH h.users h.folders && h.users.all (ZaY h.folders) && h.queue.items.all (ZaE h.users)
theorem Z5 {B:Kn} {q:Option Addr} {cp:Nat} {ms:List DMail} (h:SlK B q cp 3 ZK ms):Zbc ms≤4000000000000:=by
  have h1 :∀m,m∈ms→m.text.length≤2000000:=fun m hm=>by
    obtain ⟨i,hi⟩:=List.mem_iff_getElem?.1 hm
    obtain ⟨b,o,row,_,h2,_⟩:=h.rows i m hi
    exact h2.2
  have h2 :∀l:List DMail,(∀m,m∈l→m.text.length≤2000000)→Zbc l≤l.length*2000000:=by
    intro l
    induction l with
    | nil=>intro _;simp [Zbc]
    | cons m l ih=>
      intro hl
      have:=ih fun y hy=>hl y (List.mem_cons_of_mem _ hy)
      have:=hl m (List.mem_cons_self ..)
      simp only [Zbc,List.map_cons,List.sum_cons,List.length_cons] at *
      omega
  have:=h2 ms h1
  have:=h.len
  omega
theorem Zhb {h:DHost} {k:Nat} {u:DUser} (hu:h.users[k]? = some u) (hf:ZaY h.folders u=false):Z9 h=false:=by
  rw [Z9,Zc1 hu hf,Bool.and_false,Bool.false_and]
theorem Zhc {h:DHost} {k:Nat} {y:DItem} (hy:h.queue.items[k]? = some y) (hf:ZaE h.users y=false):Z9 h=false:=by
  rw [Z9,Zc1 hy hf,Bool.and_false]
theorem Zmc {h:DHost} (h1:Zb8 h.domain=true) (h2:Zau h.users=true) (h3:ZaO h.queue=true) (h4:ZbH h.users h.folders=true) (h5:h.users.all (ZaY h.folders)=true) (h6:h.queue.items.all (ZaE h.users)=true):Z9 h=true:=by
  rw [Z9,h1,h2,h3,h4,h5,h6];rfl
theorem Zi1 {fs:List DFolder} {u:DUser} (h:ZeG (inF u.name inbox) fs<0):ZaY fs u=false:=by
  rw [ZaY,decide_eq_false (by omega),Bool.false_and]
theorem Zi0 {fs:List DFolder} {u:DUser} (h:u.quota<Zfc fs u.name):ZaY fs u=false:=by
  rw [ZaY,decide_eq_false (p:=(Zfc fs u.name:Int)≤u.quota) (by omega),Bool.and_false]
theorem ZiZ {fs:List DFolder} {u:DUser} (h:0≤ZeG (inF u.name inbox) fs) (h':(Zfc fs u.name:Int)≤u.quota):ZaY fs u=true:=by
  rw [ZaY,decide_eq_true h,decide_eq_true h'];rfl
theorem Ziy {us:List DUser} {x:DItem} (h:ZeB us x.fr<0):ZaE us x=false:=by rw [ZaE,decide_eq_false (by omega),Bool.false_and]
theorem Zix {us:List DUser} {x:DItem} (h:Zjt us x.left=false):ZaE us x=false:=by rw [ZaE,h,Bool.and_false]
theorem Ziw {us:List DUser} {x:DItem} (h:0≤ZeB us x.fr) (h':Zjt us x.left=true):ZaE us x=true:=by rw [ZaE,decide_eq_true h,h'];rfl
theorem Zeo :∀{a b c:Str},Op.bytesLess a b=true→Op.bytesLess b c=true→Op.bytesLess a c=true
  | [],[],_,h,_=>by simp [Op.bytesLess] at h
  | _ :: _,[],_,h,_=>by simp [Op.bytesLess] at h
  | _,_ :: _,[],_,h=>by simp [Op.bytesLess] at h
  | [],_ :: _,_ :: _,_,_=>by simp [Op.bytesLess]
  | a :: x,b :: y,c :: z,h,h'=>by
    simp only [Op.bytesLess,Bool.or_eq_true,decide_eq_true_eq,Bool.and_eq_true,beq_iff_eq] at h h' ⊢
    rcases h with h | ⟨rfl,h⟩
    · rcases h' with h' | ⟨rfl,h'⟩
      · exact .inl (UInt8.lt_trans h h')
      · exact .inl h
    · rcases h' with h' | ⟨rfl,h'⟩
      · exact .inl h'
      · exact .inr ⟨rfl,Zeo h h'⟩
def Zd9 (gs:List DGrant):List (Str × Int):=gs.map fun g=>(g.user,g.rights)
theorem Zgj :∀(xs:List DGrant) (b0 b:Str),xs.foldl (fun s x=>(s.1 && Zbt s.2 x,x.user)) (true,b0)=(true,b)→(∀y,y∈xs→y.user=b∨Op.bytesLess y.user b=true)∧(b=b0∨Op.bytesLess b0 b=true)
  | [],b0,b,h=>by
    cases h;exact ⟨by simp,.inl rfl⟩
  | x :: xs,b0,b,h=>by
    simp only [List.foldl_cons,Bool.true_and] at h
    cases hp:Zbt b0 x with
    | false=>
      rw [hp] at h
      have:=Zcx (p:=Zbt) (nx:=fun _ g=>g.user) xs x.user
      rw [h] at this;cases this
    | true=>
      rw [hp] at h
      obtain ⟨h1,h2⟩:=Zgj xs x.user b h
      have hl:Op.bytesLess b0 x.user=true:=by
        simp only [Zbt,Bool.and_eq_true] at hp;exact hp.2
      refine ⟨fun y hy=>?_,.inr ?_⟩
      · rcases List.mem_cons.1 hy with rfl | hy
        · rcases h2 with h2 | h2
          · exact .inl h2.symm
          · exact .inr h2
        · exact h1 y hy
      · rcases h2 with rfl | h2
        · exact hl
        · exact Zeo hl h2
theorem Zpb {kvs:List (Str × Int)} {k:Str} {v:Int} (h:k ∉ kvs.map (·.1)):mput kvs k v=kvs ++ [(k,v)]:=by
  induction kvs with
  | nil=>rfl
  | cons p r ih=>
    simp only [List.map_cons,List.mem_cons,not_or] at h
    simp only [mput,if_neg h.1,ih h.2,List.cons_append]
theorem Zq2 {gs:List DGrant} {k:Nat} {m:DGrant} {nm:Str} (hm:gs[k]? = some m) (hs:Zb7 (gs.take k)=(true,nm)) (hl:Op.bytesLess nm m.user=true):mput (Zd9 (gs.take k)) m.user m.rights=Zd9 (gs.take (k+1)):=by
  have h1:=(Zgj _ _ _ hs).1
  rw [Zpb]
  · rw [Zd9,Zd9,List.take_add_one,hm];simp
  · intro hc
    simp only [Zd9,List.map_map,List.mem_map,Function.comp] at hc
    obtain ⟨y,hy,e⟩:=hc
    rcases h1 y hy with h | h
    · rw [← e,h,ZcZ] at hl;cases hl
    · rw [e] at h
      have:=Zeo hl h
      rw [ZcZ] at this;cases this
def ZkV (gs:List DGrant) (B:Kn):Value→Kn→List Cells→Prop:=fun v B' Ls=>∃m l,v = .tuple #[.map m,.bool (ZcS gs)]∧Ls=[l]∧B'=B∧(ZcS gs=true→∃b,m=some b∧ZrA l b (Zd9 gs))
theorem Zhn {P:PJ} {S:Env} {B:Kn} {L:List Cells} {rs:List ResultVar} {gs:List DGrant} (e:Exit) (he:e = .ret∨e = .normal) (vs:List Value) (hr:ZdQ P S B L rs vs) (h:ZcS gs=false) (hv:Zdd vs = .tuple #[.map none,.bool false]:=by rfl):Zgp P rs (ZkV gs B) e S [] B L:=
  Zu0 e he vs hr ⟨none,[],by rw [hv,h],rfl,rfl,fun hc=>by rw [h] at hc;cases hc⟩
theorem Zro {P:PJ} {S:Env} {B:Kn} {L:List Cells} {rs:List ResultVar} {gs:List DGrant} (e:Exit) (he:e = .ret∨e = .normal) (vs:List Value) {b:Nat} {l:Cells} {r:List Cells} (hp:ZaV L [0]=some ([l],r)) (hr:ZdQ P S B L rs vs) (h:ZcS gs=true) (hm:ZrA l b (Zd9 gs)) (hv:Zdd vs = .tuple #[.map (some b),.bool true]:=by rfl):Zgp P rs (ZkV gs B) e S [] B L:=
  Zbx e he vs [0] hp hr ⟨some b,l,by rw [hv,h],rfl,rfl,fun _=>⟨b,rfl,hm⟩⟩
def ZsD (f:DFolder) (ow nm:Str):Int:=if Lib.compareBytes f.owner ow≠0 then Lib.compareBytes f.owner ow else Lib.compareBytes f.name nm
theorem ZjO (f g:DFolder):0≤ZsD f g.owner g.name↔Zfs f g=false:=by
  have h1:=ZkN f.owner g.owner
  have h2:=ZkN f.name g.name
  unfold ZsD Zfs
  by_cases e:f.owner=g.owner
  · have e0:=h1.2.2 e
    have e1:Op.bytesLess f.owner g.owner=false:=by rw [e];exact ZcZ _
    rw [if_neg (fun h=>h e0),e1,decide_eq_true e,Bool.true_and,Bool.false_or,Bool.eq_false_iff,ne_eq,← h2.1];omega
  · have e0:Lib.compareBytes f.owner g.owner≠0:=fun h=>e (h1.2.1 h)
    rw [if_pos e0,decide_eq_false e,Bool.false_and,Bool.or_false,Bool.eq_false_iff,ne_eq,← h1.1];omega
def ZeR (fs:List DFolder) (u:Str):Int:=(fs.map fun f=>if f.owner=u then Zc7 ⟨f.next,f.mail⟩ else 0).sum
theorem ZhM {fs:List DFolder} {u:Str} {k:Nat} {x:DFolder} (hx:fs[k]? = some x):ZeR (fs.take (k+1)) u=ZeR (fs.take k) u+if x.owner=u then Zc7 ⟨x.next,x.mail⟩ else 0:=by
  have:fs.take (k+1)=fs.take k ++ [x]:=by rw [List.take_add_one,hx];rfl
  simp [ZeR,this]
theorem ZmN {fs:List DFolder} {u:Str} {k:Nat} {n:Int} (h:n=ZeR (fs.take k) u) (hk:fs.length≤k):n=ZeR fs u:=by rwa [List.take_of_length_le hk] at h
theorem Zlq :∀(xs:List DMail) (b0 b:Int),xs.foldl (fun s x=>(s.1 && Ze0 s.2 x,x.uid)) (true,b0)=(true,b)→∀y,y∈xs→Zcc y=true
  | [],_,_,_,_,h=>by cases h
  | x :: xs,b0,b,h,y,hy=>by
    simp only [List.foldl_cons,Bool.true_and] at h
    cases hp:Ze0 b0 x with
    | false=>
      rw [hp] at h
      have:=Zcx (p:=Ze0) (nx:=fun _ m=>m.uid) xs x.uid
      rw [h] at this;cases this
    | true=>
      rw [hp] at h
      rcases List.mem_cons.1 hy with rfl | hy
      · simp only [Ze0,Bool.and_eq_true] at hp;exact hp.1
      · exact Zlq xs x.uid b h y hy
theorem ZkP {b:DBox} (h:Zf4 b=true):(∀y,y∈b.mail→Zcc y=true)∧b.mail.length≤10:=by
  simp only [Zf4,Bool.and_eq_true,decide_eq_true_eq] at h
  exact ⟨Zlq b.mail 0 (ZdI b.mail).2 (Prod.ext h.1.1 rfl),h.2⟩
theorem ZgL :∀l:List DMail,(∀m,m∈l→Zcc m=true)→Zbc l≤l.length*20
  | [],_=>by simp [Zbc]
  | m :: l,h=>by
    have h1:=ZgL l fun y hy=>h y (List.mem_cons_of_mem _ hy)
    have h2:=h m (List.mem_cons_self ..)
    simp only [Zcc,Bool.and_eq_true,decide_eq_true_eq] at h2
    simp only [Zbc,List.map_cons,List.sum_cons,List.length_cons] at *
    omega
theorem Zh7 (b:DBox) : -1≤Zc7 b∧Zc7 b≤200:=by
  unfold Zc7
  split
  · rename_i h
    obtain ⟨h1,h2⟩:=ZkP h
    have:=ZgL _ h1
    omega
  · omega
theorem ZoJ (fs:List DFolder) (u:Str) : -1*fs.length≤ZeR fs u∧ZeR fs u≤fs.length*200:=by
  induction fs with
  | nil=>simp [ZeR]
  | cons f fs ih=>
    have:=Zh7 ⟨f.next,f.mail⟩
    simp only [ZeR,List.map_cons,List.sum_cons,List.length_cons] at *
    split <;> omega
def ZdO (x:DHost) (u:Str) (more:Int):Bool:=!(Zaw x.users u).2 || decide ((Zaw x.users u).1.quota<ZeR x.folders u+more)
def Zb3 (x:DHost) (w:DUser):Bool:=decide (0≤ZeG (inF w.name inbox) x.folders) && !ZdO x w.name 0
theorem Zi4 {x:DHost} {w:DUser} (h:ZeG (inF w.name inbox) x.folders<0):Zb3 x w=false:=by rw [Zb3,decide_eq_false (by omega),Bool.false_and]
theorem Zi3 {x:DHost} {w:DUser} (h:ZdO x w.name 0=true):Zb3 x w=false:=by rw [Zb3,h];simp
theorem Zi2 {x:DHost} {w:DUser} (h:0≤ZeG (inF w.name inbox) x.folders) (h':ZdO x w.name 0=false):Zb3 x w=true:=by rw [Zb3,h',decide_eq_true h];rfl
def ZgH (x:DHost):Bool:=x.users.all (Zb3 x)
def ZkW:Rel Bool:=fun _ row x=>row=[.bool x]
theorem ZkW.mono:Mono ZkW:=fun _ _ _ h=>h
theorem ZkW.one {B:Kn} :∀row y,ZkW B row y→row.all Zgc=true∧row.length=1:=by rintro _ y rfl;exact ⟨rfl,rfl⟩
def Zax (us:List DUser) (f:DFolder):Bool:=(Zaw us f.owner).2 && Zak f.name && ZcS f.grants && Zf4 f.box
theorem Zgt (C i:Nat):(some (ptr (Addr.add ⟨C,0,none⟩ ((i:Int).toNat*1))):Option Value)=some (ptr ⟨C,i,none⟩):=by
  rw [Addr.add_off _ _ rfl];simp
def Zoz (x:DHost) (i:Nat):Value:=.bool (match x.folders[i]? with | some m=>Zax x.users m | none=>false)
theorem Zk5 {x:DHost} {i:Nat} {m:DFolder} (h:x.folders[i]? = some m):Zoz x i = .bool (Zax x.users m):=by simp [Zoz,h]
theorem ZmM {B:Kn} {x:DHost} {C:Nat} {T:TypeId} (hm :∀p,p∈[(C,Obj.cells ((List.range x.folders.length).map (Zoz x)).toArray T (0,0))]→B.mem p.1=some p.2) (hl:x.folders.length≤2000000):SlK B (some ⟨C,0,none⟩) (x.folders.map (Zax x.users)).length 1 ZkW (x.folders.map (Zax x.users)):=by
  refine ⟨fun i y hy=>⟨C,0,[.bool y],rfl,rfl,fun j u hu=>?_⟩,by simp,by simpa using hl⟩
  have hj:j=0:=by
    cases j with
    | zero=>rfl
    | succ j=>simp at hu
  subst hj
  simp only [List.getElem?_cons_zero,Option.some.injEq] at hu
  subst hu
  rw [List.getElem?_map] at hy
  obtain ⟨m,hm',rfl⟩:=Option.map_eq_some_iff.1 hy
  have hi:i<x.folders.length:=(List.getElem?_eq_some_iff.1 hm').1
  refine ⟨rfl,_,T,(0,0),.inl (hm _ (List.mem_singleton.2 rfl)),?_⟩
  simp only [Nat.mul_one,Nat.zero_add,Nat.add_zero,List.getElem?_toArray,List.getElem?_map,List.getElem?_range hi,Option.map_some,Zk5 hm']
theorem ZiI {us:List DUser} {fs:List DFolder} : (!decide (0≤ZeG (fun y=>decide (false=y)) (fs.map (Zax us))))=fs.all (Zax us):=by
  by_cases h :∀f,f∈fs→Zax us f=true
  · rw [List.all_eq_true.2 h,Zeb (fun y hy=>by
      obtain ⟨f,hf,rfl⟩:=List.mem_map.1 hy
      simp [h f hf])]
    rfl
  · have h2:fs.all (Zax us)=false:=by
      rw [Bool.eq_false_iff,ne_eq,List.all_eq_true];exact h
    rw [h2]
    have h3 :∃k,(fs.map (Zax us)).findIdx? (fun y=>decide (false=y))=some k:=by
      cases hk:(fs.map (Zax us)).findIdx? (fun y=>decide (false=y)) with
      | some k=>exact ⟨k,rfl⟩
      | none=>
        exfalso;apply h
        intro f hf
        have:=List.findIdx?_eq_none_iff.1 hk (Zax us f) (List.mem_map_of_mem hf)
        cases hq:Zax us f with
        | true=>rfl
        | false=>rw [hq] at this;simp at this
    obtain ⟨k,hk⟩:=h3
    have e:ZeG (fun y=>decide (false=y)) (fs.map (Zax us))=(k:Int):=by unfold ZeG;rw [hk]
    rw [e];simp
def Zll:List DFolder→Bool
  | []=>true
  | [_]=>true
  | a :: b :: r=>Zfs a b && Zll (b :: r)
def ZcE (x:DHost):Bool:=Zb8 x.domain && Zau x.users && ZaO x.queue && decide (x.folders.length≤8) && Zll x.folders && (x.folders.all (Zax x.users) && ZgH x && x.queue.items.all (Zcj x.users))
def ZpS (fs:List DFolder) (k:Nat):Prop:=∀i a b,i<k→fs[i]? = some a→fs[i+1]? = some b→Zfs a b=true
theorem ZlZ {fs:List DFolder} : ZpS fs 0:=fun i a b h=>by omega
theorem Zl0 {fs:List DFolder} {k:Nat} {x y:DFolder} (h:ZpS fs k) (hx:fs[k]? = some x) (hy:fs[k+1]? = some y) (hl:Zfs x y=true):ZpS fs (k+1):=fun i a b hi ha hb=>by
  rcases Nat.lt_or_ge i k with h' | h'
  · exact h i a b h' ha hb
  · obtain rfl:i=k:=by omega
    rw [hx] at ha;rw [hy] at hb
    cases ha;cases hb;exact hl
theorem Zih :∀(fs:List DFolder),Zll fs=true↔∀i a b,fs[i]? = some a→fs[i+1]? = some b→Zfs a b=true
  | []=>by simp [Zll]
  | [_]=>by simp [Zll]
  | x :: y :: r=>by
    rw [Zll,Bool.and_eq_true,Zih (y :: r)]
    constructor
    · rintro ⟨h1,h2⟩ i a b ha hb
      cases i with
      | zero=>simp at ha hb;rw [← ha,← hb];exact h1
      | succ i=>exact h2 i a b (by simpa using ha) (by simpa using hb)
    · intro h
      exact ⟨h 0 x y rfl rfl,fun i a b ha hb=>h (i+1) a b (by simpa using ha) (by simpa using hb)⟩
theorem Zo7 {fs:List DFolder} {k:Nat} {x y:DFolder} (hx:fs[k]? = some x) (hy:fs[k+1]? = some y) (hl:Zfs x y=false):Zll fs=false:=by
  rw [Bool.eq_false_iff,ne_eq,Zih]
  intro h
  have:=h k x y hx hy
  rw [hl] at this;cases this
theorem Zo6 {fs:List DFolder} (h :∀i a b,i<fs.length - 1→fs[i]? = some a→fs[i+1]? = some b→Zfs a b=true):Zll fs=true:=
  (Zih fs).2 fun i a b ha hb=>h i a b (by have:=(List.getElem?_eq_some_iff.1 hb).1;omega) ha hb
theorem ZeY {α:Type} {p:Str→α→Bool} {f:α→Str} (hp :∀b x,p b x=true→Op.bytesLess b (f x)=true) :∀(xs:List α) (b0 b:Str),xs.foldl (fun s x=>(s.1 && p s.2 x,f x)) (true,b0)=(true,b)→(∀y,y∈xs→Op.bytesLess b0 (f y)=true)∧xs.Pairwise (fun x y=>Op.bytesLess (f x) (f y)=true)
  | [],_,_,_=>⟨by simp,.nil⟩
  | x :: xs,b0,b,h=>by
    simp only [List.foldl_cons,Bool.true_and] at h
    cases hq:p b0 x with
    | false=>
      rw [hq] at h
      have:=Zcx (p:=p) (nx:=fun _ g=>f g) xs (f x)
      rw [h] at this;cases this
    | true=>
      rw [hq] at h
      obtain ⟨h1,h2⟩:=ZeY hp xs (f x) b h
      refine ⟨fun y hy=>?_,.cons h1 h2⟩
      rcases List.mem_cons.1 hy with rfl | hy
      · exact hp _ _ hq
      · exact Zeo (hp _ _ hq) (h1 y hy)
theorem ZhA {us:List DUser} (h:Zau us=true):us.Pairwise fun x y=>Op.bytesLess x.name y.name=true:=by
  simp only [Zau,Bool.and_eq_true] at h
  exact (ZeY (p:=ZdX) (f:=fun u=>u.name) (fun b x hq=>by simp only [ZdX,Bool.and_eq_true] at hq;exact hq.2) us [] (Zdx us).2 (Prod.ext h.1 rfl)).2
theorem Zha {us:List DUser} {u:Str} : 0≤ZeB us u↔∃x,x∈us∧x.name=u:=by
  unfold ZeB
  cases h:us.findIdx? (fun x=>decide (x.name=u)) with
  | none=>
    have:=List.findIdx?_eq_none_iff.1 h
    simp only [decide_eq_false_iff_not] at this
    exact ⟨fun hc=>absurd hc (by simp only [];omega),fun ⟨x,hx,e⟩=>absurd e (this x hx)⟩
  | some i=>
    rw [List.findIdx?_eq_some_iff_getElem] at h
    obtain ⟨hi,h1,_⟩:=h
    exact ⟨fun _=>⟨us[i],List.getElem_mem hi,by simpa using h1⟩,fun _=>by simp only [];omega⟩
theorem Zn3 {us:List DUser} {t:DUser→Bool} : (Zgo t us).2=true↔∃x,x∈us∧t x=true:=by
  unfold Zgo
  cases h:us.find? t with
  | none=>simp only [Bool.false_eq_true,false_iff];rintro ⟨x,hx,e⟩;have:=List.find?_eq_none.1 h x hx;exact this e
  | some x=>simp only [true_iff];exact ⟨x,List.mem_of_find?_eq_some h,List.find?_some h⟩
theorem ZcU {us:List DUser} (h:Zau us=true) (n:Str):(Zaw us n).2=decide (0≤ZeB us n):=by
  rw [Zaw,if_pos h,Bool.eq_iff_iff,Zn3,decide_eq_true_eq,Zha];simp
theorem Zhk :∀{us:List DUser},us.Pairwise (fun x y=>Op.bytesLess x.name y.name=true)→∀w,w∈us→us.find? (fun y=>decide (y.name=w.name))=some w
  | [],_,w,h=>by cases h
  | x :: us,hp,w,h=>by
    cases hp with
    | cons h1 h2=>
      rw [List.find?_cons]
      rcases List.mem_cons.1 h with rfl | h
      · simp
      · have hne:x.name≠w.name:=fun e=>by
          have:=h1 w h
          rw [e,ZcZ] at this;cases this
        simp only [hne,decide_false]
        exact Zhk h2 w h
theorem Zic {us:List DUser} (h:Zau us=true) {w:DUser} (hw:w∈us):Zaw us w.name=(w,true):=by
  rw [Zaw,if_pos h,Zgo,Zhk (ZhA h) w hw]
theorem Zmj {us:List DUser} (h:Zau us=true) (f:DFolder):Zax us f=Zaf us f:=by
  rw [Zax,Zaf,ZcU h]
theorem ZdU {us:List DUser} :∀(fs:List DFolder) (b0:Option DFolder),(fs.foldl (fun s x=>(s.1 && Za4 us s.2 x,some x)) (true,b0)).1=(fs.all (Zaf us) && Zll ((match b0 with | none=>[] | some y=>[y]) ++ fs))
  | [],none=>rfl
  | [],some y=>rfl
  | x :: fs,b0=>by
    simp only [List.foldl_cons,Bool.true_and]
    have hstep:(fs.foldl (fun (s:Bool × Option DFolder) x=>(s.1 && Za4 us s.2 x,some x)) (Za4 us b0 x,some x)).1=(Za4 us b0 x && (fs.all (Zaf us) && Zll (x :: fs))):=by
      cases hq:Za4 us b0 x with
      | false=>rw [Bool.false_and];exact Zcx (p:=Za4 us) (nx:=fun _ f=>some f) fs (some x)
      | true=>rw [Bool.true_and];exact ZdU fs (some x)
    rw [hstep]
    cases b0 with
    | none=>
      simp only [Za4,Bool.and_true,List.all_cons,List.nil_append]
      cases Zaf us x <;> simp
    | some y=>
      simp only [Za4,List.all_cons,List.cons_append,List.nil_append,Zll]
      cases Zaf us x <;> cases Zfs y x <;> simp
theorem Zed {us:List DUser} {fs:List DFolder} : ZbH us fs=(fs.all (Zaf us) && Zll fs && decide (fs.length≤8)):=by
  rw [ZbH,show (Zcp us fs).1=_ from ZdU fs none];rfl
theorem Zk6 {us:List DUser} {u:Str} :∀{fs:List DFolder},fs.all (Zaf us)=true→ZeR fs u=(Zfc fs u:Int)
  | [],_=>rfl
  | f :: fs,h=>by
    simp only [List.all_cons,Bool.and_eq_true] at h
    have ih:=Zk6 (u:=u) h.2
    have hb:Zf4 ⟨f.next,f.mail⟩=true:=by
      have:=h.1;simp only [Zaf,Bool.and_eq_true] at this;exact this.2
    simp only [ZeR,Zfc,List.map_cons,List.sum_cons] at ih ⊢
    rw [ih]
    by_cases he:f.owner=u
    · simp [he,Zc7,hb]
    · simp [he]
theorem Zj7 {x:DHost} (hu:Zau x.users=true) (hf:x.folders.all (Zaf x.users)=true) {w:DUser} (hw:w∈x.users):Zb3 x w=ZaY x.folders w:=by
  rw [Zb3,ZaY,ZdO,Zic hu hw,Zk6 hf]
  simp only [Bool.not_true,Bool.false_or,Int.add_zero]
  congr 1
  rw [Bool.eq_iff_iff];simp
theorem ZkA {us:List DUser} (h:Zau us=true) (y:DItem):Zcj us y=ZaE us y:=by
  rw [Zcj,ZaE,ZcU h,Zjt]
  simp only [ZcU h]
theorem Zov {α:Type} {p q:α→Bool} {xs:List α} (h :∀x,x∈xs→p x=q x):xs.all p=xs.all q:=by
  rw [Bool.eq_iff_iff,List.all_eq_true,List.all_eq_true]
  exact ⟨fun a x hx=>h x hx ▸ a x hx,fun a x hx=>(h x hx).symm ▸ a x hx⟩
theorem Zmd (x:DHost):ZcE x=Z9 x:=by
  cases hu:Zau x.users with
  | false=>simp [ZcE,Z9,hu]
  | true=>
    have e1:x.folders.all (Zax x.users)=x.folders.all (Zaf x.users):=Zov fun f _=>Zmj hu f
    have e2:x.queue.items.all (Zcj x.users)=x.queue.items.all (ZaE x.users):=Zov fun y _=>ZkA hu y
    rw [ZcE,Z9,hu,e1,e2,Zed]
    cases hf:x.folders.all (Zaf x.users) with
    | false=>simp
    | true=>
      have e3:ZgH x=x.users.all (ZaY x.folders):=Zov fun w hw=>Zj7 hu hf hw
      rw [e3]
      cases Zb8 x.domain <;> cases ZaO x.queue <;> cases Zll x.folders <;> cases decide (x.folders.length≤8) <;> simp
end Go.BL
namespace Go.BL
open Go
set_option linter.unusedVariables false
set_option linter.unusedSimpArgs false
theorem Zgg {x:DHost} (h:Z9 x=true):Zau x.users=true:=by
  simp only [Z9,Bool.and_eq_true] at h;exact h.1.1.1.1.2
theorem ZkF {x:DHost} (h:Z9 x=true) (n:Str):(Zaw x.users n).2=decide (0≤ZeB x.users n):=ZcU (Zgg h) n
structure DSess where
  user:Str
  owner:Str
  name:Str
deriving DecidableEq
theorem ZnL (us:List DUser) (n:Str):ZeB us n<us.length∧ZeB us n ≥ -1:=by
  unfold ZeB
  cases hf:us.findIdx? (fun x=>decide (x.name=n)) with
  | none=>simp only [];omega
  | some i=>
    rw [List.findIdx?_eq_some_iff_getElem] at hf
    obtain ⟨hi,_⟩:=hf
    simp only [];omega
end Go.BL
namespace Go.BL
open Go
set_option linter.unusedVariables false
set_option linter.unusedSimpArgs false
theorem Zki {α β:Type} {p:β→α→Bool} {nx:β→α→β} :∀(xs:List α) (b:β),(xs.foldl (fun (s:Bool × β) x=>(s.1 && p s.2 x,nx s.2 x)) (true,b)).1=true→∀x,x∈xs→∃b',p b' x=true
  | [],_,_,x,hx=>by cases hx
  | x :: xs,b,h,y,hy=>by
    simp only [List.foldl_cons,Bool.true_and] at h
    cases hq:p b x with
    | false=>
      rw [hq] at h
      have:=Zcx (p:=p) (nx:=nx) xs (nx b x)
      rw [this] at h;cases h
    | true=>
      rw [hq] at h
      rcases List.mem_cons.1 hy with rfl | hy
      · exact ⟨b,hq⟩
      · exact Zki xs _ h y hy
theorem ZiW {us:List DUser} (h:Zau us=true) {u:DUser} (hu:u∈us):Zcb u=true:=by
  simp only [Zau,Bool.and_eq_true] at h
  obtain ⟨b,hb⟩:=Zki (p:=ZdX) (nx:=fun _ u=>u.name) us [] h.1 u hu
  simp only [ZdX,Bool.and_eq_true] at hb;exact hb.1
def ZcY:DFolder:=⟨[],[],[],0,[]⟩
def ZA (x:DHost) (o n:Str):DFolder × Bool:=if Z9 x=true then (match x.folders.find? (inF o n) with | some f=>(f,true) | none=>(ZcY,false)) else (ZcY,false)
theorem Zc5 {x:DHost} {o n:Str} (h:Z9 x=false):ZA x o n=(ZcY,false):=by simp [ZA,h]
theorem ZcG {x:DHost} {o n:Str} (h:ZeG (inF o n) x.folders<0):ZA x o n=(ZcY,false):=by
  have:x.folders.find? (inF o n)=none:=List.find?_eq_none.2 fun y hy hp=>by have:=Zls.2 ⟨y,hy,hp⟩;omega
  rw [ZA,this];split <;> rfl
theorem ZcF {x:DHost} {o n:Str} (hx:Z9 x=true) (h:0≤ZeG (inF o n) x.folders) {f:DFolder} (hf:x.folders[(ZeG (inF o n) x.folders).toNat]? = some f):ZA x o n=(f,true):=by
  unfold ZeG at h hf
  cases hq:x.folders.findIdx? (inF o n) with
  | none=>rw [hq] at h;simp at h
  | some i=>
    rw [hq] at hf
    simp only [Int.toNat_natCast] at hf
    rw [List.findIdx?_eq_some_iff_getElem] at hq
    obtain ⟨hi,h1,h2⟩:=hq
    rw [List.getElem?_eq_getElem hi] at hf
    cases hf
    have:x.folders.find? (inF o n)=some x.folders[i]:=by
      rw [List.find?_eq_some_iff_getElem]
      exact ⟨h1,i,hi,rfl,fun j hj=>by simpa using h2 j hj⟩
    rw [ZA,if_pos hx,this]
theorem ZkD {α:Type} (p:α→Bool) (xs:List α):ZeG p xs<xs.length∧ZeG p xs ≥ -1:=by
  unfold ZeG
  cases hf:xs.findIdx? p with
  | none=>simp only [];omega
  | some i=>
    rw [List.findIdx?_eq_some_iff_getElem] at hf
    obtain ⟨hi,_⟩:=hf
    simp only [];omega
end Go.BL
namespace Go.BL
open Go
set_option linter.unusedVariables false
set_option linter.unusedSimpArgs false
def dig (k:Nat):Str:=[UInt8.ofNat (IntKind.u8.wrap (48+((k % 10:Nat):Int))).toNat]
def digs (k:Nat):Str:=if h:k=0 then [] else digs (k / 10) ++ dig k
termination_by k
decreasing_by omega
theorem ZjL:digs 0=[]:=by unfold digs;rfl
theorem ZlD {k:Nat} (h:0<k):digs k=digs (k / 10) ++ dig k:=by
  conv=>lhs;unfold digs
  rw [dif_neg (by omega)]
theorem ZiF :∀(n k:Nat),k<10 ^ n→(digs k).length≤n
  | n,0,_=>by rw [ZjL];simp
  | 0,k+1,h=>by simp at h
  | n+1,k+1,h=>by
    rw [ZlD (by omega),List.length_append]
    have h1:(k+1) / 10<10 ^ n:=by rw [Nat.pow_succ] at h;omega
    have:=ZiF n _ h1
    simp only [dig,List.length_cons,List.length_nil];omega
def ZT (k:Nat):Str:=if k=0 then [109,48] else 109 :: digs k
theorem ZbE {k:Nat} (h:k≤1000000000000000):(ZT k).length≤20:=by
  unfold ZT
  split
  · simp
  · have:=ZiF 16 k (by omega)
    simp only [List.length_cons];omega
theorem Zoh {k0 k:Nat} {t:Str} (h:digs k0=digs k ++ t) (hk:0<k):digs k0=digs (k / 10) ++ (dig k ++ t):=by
  rw [h,ZlD hk,List.append_assoc]
theorem Zrt {k0 k:Nat} {t:Str} (h0:k0≤1000000000000000) (h:digs k0=digs k ++ t):t.length≤16:=by
  have h1:=ZiF 16 k0 (by omega)
  rw [h,List.length_append] at h1;omega
theorem ZbC {α:Type} {ys:List α} {i:Nat} {c:α} (h:i<ys.length):(ys.set i c).take (i+1)=ys.take i ++ [c]:=by
  rw [List.take_add_one,List.getElem?_set_self h,List.take_set_of_le (Nat.le_refl _)];rfl
def ZaP (k n:Nat):List DMail:=(List.range n).map fun i=>⟨((k+3*i:Nat):Int),((k+3*i+1:Nat):Int),ZT (k+3*i+1+1)⟩
theorem Zad (k n:Nat):(ZaP k n).length=n:=by simp [ZaP]
theorem Zjk {ys:List DMail} {i k:Nat} {z1 z2 z3:DMail} (ht:ys.take i=ZaP k i) (h1:ys[i]? = some z1) (h2:(ys.set i ⟨((k+3*i:Nat):Int),z1.flags,z1.text⟩)[i]? = some z2)
    (h3:((ys.set i ⟨((k+3*i:Nat):Int),z1.flags,z1.text⟩).set i ⟨z2.uid,((k+3*i+1:Nat):Int),z2.text⟩)[i]? = some z3) :
    (((ys.set i ⟨((k+3*i:Nat):Int),z1.flags,z1.text⟩).set i ⟨z2.uid,((k+3*i+1:Nat):Int),z2.text⟩).set i ⟨z3.uid,z3.flags,ZT (k+3*i+1+1)⟩).take (i+1)=ZaP k (i+1):=by
  have hl:=(List.getElem?_eq_some_iff.1 h1).1
  rw [List.getElem?_set_self hl] at h2;cases h2
  rw [List.set_set,List.getElem?_set_self hl] at h3;cases h3
  rw [List.set_set,List.set_set,ZbC hl,ht,ZaP,ZaP,List.range_succ,List.map_append];rfl
def Zal (k n:Nat):List DGrant:=(List.range n).map fun i=>⟨ZT (k+2*i),((k+2*i+1:Nat):Int)⟩
theorem Z7 (k n:Nat):(Zal k n).length=n:=by simp [Zal]
theorem Zil {ys:List DGrant} {i k:Nat} {z1 z2:DGrant} (ht:ys.take i=Zal k i) (h1:ys[i]? = some z1) (h2:(ys.set i ⟨ZT (k+2*i),z1.rights⟩)[i]? = some z2) :
    ((ys.set i ⟨ZT (k+2*i),z1.rights⟩).set i ⟨z2.user,((k+2*i+1:Nat):Int)⟩).take (i+1)=Zal k (i+1):=by
  have hl:=(List.getElem?_eq_some_iff.1 h1).1
  rw [List.getElem?_set_self hl] at h2;cases h2
  rw [List.set_set,ZbC hl,ht,Zal,Zal,List.range_succ,List.map_append];rfl
def ZdG (k n:Nat):List DUser:=(List.range n).map fun i=>⟨ZT (k+3*i),ZT (k+3*i+1),((k+3*i+1+1:Nat):Int)⟩
theorem Za3 (k n:Nat):(ZdG k n).length=n:=by simp [ZdG]
theorem Zjj {ys:List DUser} {i k:Nat} {z1 z2 z3:DUser} (ht:ys.take i=ZdG k i) (h1:ys[i]? = some z1) (h2:(ys.set i ⟨ZT (k+3*i),z1.pass,z1.quota⟩)[i]? = some z2)
    (h3:((ys.set i ⟨ZT (k+3*i),z1.pass,z1.quota⟩).set i ⟨z2.name,ZT (k+3*i+1),z2.quota⟩)[i]? = some z3) :
    (((ys.set i ⟨ZT (k+3*i),z1.pass,z1.quota⟩).set i ⟨z2.name,ZT (k+3*i+1),z2.quota⟩).set i ⟨z3.name,z3.pass,((k+3*i+1+1:Nat):Int)⟩).take (i+1)=ZdG k (i+1):=by
  have hl:=(List.getElem?_eq_some_iff.1 h1).1
  rw [List.getElem?_set_self hl] at h2;cases h2
  rw [List.set_set,List.getElem?_set_self hl] at h3;cases h3
  rw [List.set_set,List.set_set,ZbC hl,ht,ZdG,ZdG,List.range_succ,List.map_append];rfl
def ZdT (k n:Nat):List Str:=(List.range n).map fun i=>ZT (k+1*i)
theorem ZaU (k n:Nat):(ZdT k n).length=n:=by simp [ZdT]
theorem Zkp {ys:List Str} {i k:Nat} {z1:Str} (ht:ys.take i=ZdT k i) (h1:ys[i]? = some z1):(ys.set i (ZT (k+1*i))).take (i+1)=ZdT k (i+1):=by
  have hl:=(List.getElem?_eq_some_iff.1 h1).1
  rw [ZbC hl,ht,ZdT,ZdT,List.range_succ,List.map_append];rfl
theorem Zlo {α:Type} {ys zs:List α} {i:Nat} (h:ys.take i=zs) (hi:ys.length≤i):ys=zs:=by rwa [List.take_of_length_le hi] at h
end Go.BL
namespace Go.BL
open Go
set_option linter.unusedVariables false
set_option linter.unusedSimpArgs false
def ZbM (k:Nat):Int:=([1,2,4,8,16,32]:List Int).getD k 0
theorem Zoq {k:Nat} (h:k<6):(k=0∧ZbM k=1)∨(k=1∧ZbM k=2)∨(k=2∧ZbM k=4)∨(k=3∧ZbM k=8)∨(k=4∧ZbM k=16)∨(k=5∧ZbM k=32):=by
  have:k=0∨k=1∨k=2∨k=3∨k=4∨k=5:=by omega
  rcases this with rfl | rfl | rfl | rfl | rfl | rfl <;> simp [ZbM]
theorem Zop {k:Nat} (h:k<6):0<ZbM k∧ZbM k≤32:=by rcases Zoq h with h | h | h | h | h | h <;> omega
theorem Zgy {α:Type} {p:α→Bool} {xs:List α} {k:Nat} {x:α} (hx:xs[k]? = some x):(xs.take (k+1)).any p=((xs.take k).any p || p x):=by
  rw [Zct hx,List.any_append];simp
theorem Zrx {α:Type} {p:α→Bool} {xs:List α} {k:Nat} {b:Bool} (h:b=(xs.take k).any p) (hk:xs.length≤k):b=xs.any p:=by rwa [List.take_of_length_le hk] at h
def onB (u:Str) (b:Int) (g:DGrant):Bool:=(decide (g.user=u) || decide (g.user=anyone)) && decide (Int.tmod (Int.tdiv g.rights b) 2=1)
def ZeJ (gs:List DGrant) (u:Str):Nat→Int
  | 0=>0
  | k+1=>if gs.any (onB u (ZbM k))=true then ZeJ gs u k+ZbM k else ZeJ gs u k
theorem Zhu (gs:List DGrant) (u:Str) :∀k,k≤6→0≤ZeJ gs u k∧ZeJ gs u k≤100*k
  | 0,_=>by simp [ZeJ]
  | k+1,h=>by
    have:=Zhu gs u k (by omega)
    have:=Zop (k:=k) (by omega)
    simp only [ZeJ]
    split <;> omega
def ZaZ (gs:List DGrant) (u:Str):Int:=ZeJ gs u 6
def ZjR (f:DFolder) (u:Str) (r:Int):Bool:=decide (u=f.owner) || decide (Int.tmod (Int.tdiv (ZaZ f.grants u) r) 2=1)
def ZrI (us:List DUser) (fs:List DFolder) (u:Str) (k:Int) (r:Int):Int:=
  if ZeB us u<0∨k<0 then 1 else match fs[k.toNat]? with
    | none=>1
    | some f=>if ZjR f u 1=false then 1 else if ZjR f u r=false then 2 else 0
theorem Zok {us:List DUser} {fs:List DFolder} {u:Str} {k r:Int} (h:ZeB us u<0∨k<0):ZrI us fs u k r=1:=by rw [ZrI,if_pos h]
theorem Zol {us:List DUser} {fs:List DFolder} {u:Str} {k r:Int} {f:DFolder} (h : ¬ (ZeB us u<0∨k<0)) (hf:fs[k.toNat]? = some f):ZrI us fs u k r=if ZjR f u 1=false then 1 else if ZjR f u r=false then 2 else 0:=by
  rw [ZrI,if_neg h,hf]
structure DEvent where
  kind:Int
  by_:Str
  owner:Str
  name:Str
  to_:Str
  text:Str
  a:Int
  b:Int
deriving DecidableEq
end Go.BL
namespace Go.BL
open Go
set_option linter.unusedVariables false
set_option linter.unusedSimpArgs false
theorem ZfX {x:DHost} : Z9 x=true↔(Zb8 x.domain=true∧Zau x.users=true∧ZaO x.queue=true)∧((∀f,f∈x.folders→Zaf x.users f=true)∧Zll x.folders=true∧x.folders.length≤8)∧(∀u,u∈x.users→ZaY x.folders u=true)∧(∀y,y∈x.queue.items→ZaE x.users y=true):=by
  simp only [Z9,Zed,Bool.and_eq_true,decide_eq_true_eq,List.all_eq_true]
  constructor
  · rintro ⟨⟨⟨⟨⟨h1,h2⟩,h3⟩,⟨h4,h5⟩,h6⟩,h7⟩,h8⟩
    exact ⟨⟨h1,h2,h3⟩,⟨h4,h5,h6⟩,h7,h8⟩
  · rintro ⟨⟨h1,h2,h3⟩,⟨h4,h5,h6⟩,h7,h8⟩
    exact ⟨⟨⟨⟨⟨h1,h2⟩,h3⟩,⟨h4,h5⟩,h6⟩,h7⟩,h8⟩
theorem Zrc {α:Type} {fs:List α} {k i:Nat} {y g:α} (h:(fs.set k y)[i]? = some g):(i=k∧g=y∧k<fs.length)∨(i≠k∧fs[i]? = some g):=by
  have hi:=(List.getElem?_eq_some_iff.1 h).1
  rw [List.length_set] at hi
  rw [List.getElem?_set] at h
  split at h
  · rename_i e
    subst e
    simp [hi] at h
    exact .inl ⟨rfl,h.symm,hi⟩
  · rename_i e
    exact .inr ⟨fun e'=>e e'.symm,h⟩
def Like (ms ms':List DMail):Prop:=ms'.length=ms.length∧∀(i:Nat) (a b:DMail),ms[i]? = some a→ms'[i]? = some b→b.uid=a.uid∧b.text=a.text∧(b.flags=a.flags∨(0≤b.flags∧b.flags≤31))
theorem Like.refl (ms:List DMail):Like ms ms:=⟨rfl,fun i a b h1 h2=>by rw [h1] at h2;cases h2;exact ⟨rfl,rfl,.inl rfl⟩⟩
theorem Like.set {ms acc:List DMail} {k:Nat} {a:DMail} {fl:Int} (h:Like ms acc) (ha:acc[k]? = some a) (hf:0≤fl∧fl≤31):Like ms (acc.set k ⟨a.uid,fl,a.text⟩):=by
  refine ⟨by rw [List.length_set];exact h.1,fun i c d hc hd=>?_⟩
  rcases Zrc hd with ⟨rfl,rfl,_⟩ | ⟨_,hd⟩
  · have:=h.2 _ _ _ hc ha
    exact ⟨this.1,this.2.1,.inr hf⟩
  · exact h.2 _ _ _ hc hd
end Go.BL
namespace Go.BL
open Go
set_option linter.unusedVariables false
set_option linter.unusedSimpArgs false
theorem Zo1 {k:Nat} {e:Int} (h:([1,2,4,8,16,32]:List Int)[k]? = some e):e=ZbM k:=by rw [ZbM,List.getD_eq_getElem?_getD,h];rfl
theorem Znh {a b:Int} (h0:0≤a) (h1:a≤1000000) (hb:0<b):IntKind.i64.wrap (Int.tdiv a b)=Int.tdiv a b:=
  ZbR (Int.le_trans (by decide) (Int.tdiv_nonneg h0 (by omega))) (Int.le_trans (Int.tdiv_le_self _ h0) (by omega))
theorem Zej {gs:List DGrant} (h:ZcS gs=true) :∀y,y∈gs→0≤y.rights∧y.rights≤63:=by
  intro y hy
  simp only [ZcS,Bool.and_eq_true] at h
  obtain ⟨b,hb⟩:=Zki (p:=Zbt) (nx:=fun _ g=>g.user) gs [] h.1 y hy
  simp only [Zbt,Bool.and_eq_true,decide_eq_true_eq] at hb;omega
def ZiL (fs:List DFolder):Prop:=∀f,f∈fs→∀y,y∈f.grants→0≤y.rights∧y.rights≤63
theorem Zfx {x:DHost} (h:Z9 x=true):ZiL x.folders:=fun f hf=>by
  have:=(ZfX.1 h).2.1.1 f hf
  simp only [Zaf,Bool.and_eq_true] at this
  exact Zej this.1.2
theorem Zkk (gs:List DGrant) (u:Str):0≤ZaZ gs u∧ZaZ gs u≤600:=Zhu gs u 6 (Nat.le_refl _)
structure GHC where
  q1:Option Addr
  c1:Nat
  q3:Option Addr
  c3:Nat
  b:Nat
structure GEx where
  k:Nat
  m:Gh DMail
  n:Gh Int
structure GCp where
  k:Nat
  x:DHost
  c:Int
  q1:Option Addr
  c1:Nat
  q2:Option Addr
  c2:Nat
  q3:Option Addr
  c3:Nat
structure GHo where
  k:Nat
  p:Nat
  x:DHost
  q1:Option Addr
  c1:Nat
  q2:Option Addr
  c2:Nat
  q3:Option Addr
  c3:Nat
structure GBo where
  k:Nat
  p:Nat
  l:Cells
  a:Option Addr
  c:Nat
  x:DBox
structure GAc where
  k:Nat
  p:Nat
  l:Cells
  a:Option Addr
  c:Nat
  xs:List DGrant
end Go.BL
namespace Go.BL
open Go
set_option linter.unusedVariables false
set_option linter.unusedSimpArgs false
def ZiK (gs:List DGrant) (o u:Str):Int:=
  if ¬ (ZcS gs=true∧Zak o=true∧Zak u=true) then -1 else if u=o then 63 else orI ((mget (Zd9 gs) u).getD 0) ((mget (Zd9 gs) anyone).getD 0)
theorem ZiJ {gs:List DGrant} {o u:Str} (h : ¬ (ZcS gs=true∧Zak o=true∧Zak u=true)):ZiK gs o u = -1:=by rw [ZiK,if_pos h]
theorem ZpO {gs:List DGrant} {o u:Str} (h1:ZcS gs=true) (h2:Zak o=true) (h3:Zak u=true):ZiK gs o u=if u=o then 63 else orI ((mget (Zd9 gs) u).getD 0) ((mget (Zd9 gs) anyone).getD 0):=by rw [ZiK,if_neg (fun h=>h ⟨h1,h2,h3⟩)]
def Zkt (us:List DUser) (f:DFolder) (u:Str) (r:Int):Bool:=(Zaw us u).2 && (decide (0≤ZiK f.grants f.owner u) && !decide (ZsJ (ZiK f.grants f.owner u) r=0))
theorem Zmt {gs:List DGrant} (h:ZcS gs=true):gs.Pairwise fun x y=>Op.bytesLess x.user y.user=true:=by
  simp only [ZcS,Bool.and_eq_true] at h
  exact (ZeY (p:=Zbt) (f:=fun u=>u.user) (fun b x hq=>by simp only [Zbt,Bool.and_eq_true] at hq;exact hq.2) gs [] (Zb7 gs).2 (Prod.ext h.1 rfl)).2
def Zhv (r b:Int):Bool:=decide (Int.tmod (Int.tdiv r b) 2=1)
theorem Zim (u:Str) (b:Int) (h0:Zhv 0 b=false) :∀{gs:List DGrant},gs.Pairwise (fun x y=>Op.bytesLess x.user y.user=true)→(gs.any fun g=>decide (g.user=u) && Zhv g.rights b)=Zhv ((mget (Zd9 gs) u).getD 0) b
  | [],_=>by simp [Zd9,mget,h0]
  | g :: gs,hp=>by
    obtain ⟨h1,h2⟩:=List.pairwise_cons.1 hp
    have ih:=Zim u b h0 h2
    simp only [Zd9,List.map_cons,mget,List.any_cons] at ih ⊢
    by_cases hu:u=g.user
    · subst hu
      have hn:(gs.any fun x=>decide (x.user=g.user) && Zhv x.rights b)=false:=by
        rw [List.any_eq_false]
        intro x hx hc
        simp only [Bool.and_eq_true,decide_eq_true_eq] at hc
        have:=h1 x hx
        rw [hc.1,ZcZ] at this;cases this
      simp [hn]
    · rw [if_neg hu,decide_eq_false (Ne.symm hu),← ih];simp
theorem Zkr (u:Str) :∀{gs:List DGrant},(∀y,y∈gs→0≤y.rights∧y.rights≤63)→0≤(mget (Zd9 gs) u).getD 0∧(mget (Zd9 gs) u).getD 0≤63
  | [],_=>by simp [Zd9,mget]
  | g :: gs,h=>by
    have ih:=Zkr u (gs:=gs) fun y hy=>h y (List.mem_cons_of_mem _ hy)
    simp only [Zd9,List.map_cons,mget] at ih ⊢
    by_cases hu:u=g.user
    · rw [if_pos hu];exact h g (List.mem_cons_self ..)
    · rw [if_neg hu];exact ih
theorem Zsg :∀a,a<64→∀b,b<64→0≤orI (a:Nat) (b:Nat)∧orI (a:Nat) (b:Nat)≤63∧(∀k,k<6→(!decide (ZsJ (orI (a:Nat) (b:Nat)) (ZbM k)=0))=(Zhv (a:Nat) (ZbM k) || Zhv (b:Nat) (ZbM k)))∧(!decide (Int.tmod (orI (a:Nat) (b:Nat)) 2=0))=(Zhv (a:Nat) 1 || Zhv (b:Nat) 1)∧(!decide (Int.tmod (Int.tdiv (orI (a:Nat) (b:Nat)) 2) 2=0))=(Zhv (a:Nat) 2 || Zhv (b:Nat) 2):=by
  decide +kernel
theorem ZqQ :∀k,k<6→(!decide (ZsJ 63 (ZbM k)=0))=true:=by decide +kernel
def ZuO (b0 b1 b2 b3 b4 b5:Bool):Int:=
  let s0:Int:=if b0=true then 0+ZbM 0 else 0
  let s1:=if b1=true then s0+ZbM 1 else s0
  let s2:=if b2=true then s1+ZbM 2 else s1
  let s3:=if b3=true then s2+ZbM 3 else s2
  let s4:=if b4=true then s3+ZbM 4 else s3
  if b5=true then s4+ZbM 5 else s4
theorem ZpH :∀b0 b1 b2 b3 b4 b5:Bool,∀k,k<6→Zhv (ZuO b0 b1 b2 b3 b4 b5) (ZbM k)=[b0,b1,b2,b3,b4,b5].getD k false:=by decide +kernel
theorem ZlW {gs:List DGrant} {u:Str} {k:Nat} (hk:k<6):Zhv (ZaZ gs u) (ZbM k)=gs.any (onB u (ZbM k)):=by
  have e:ZaZ gs u=ZuO (gs.any (onB u (ZbM 0))) (gs.any (onB u (ZbM 1))) (gs.any (onB u (ZbM 2))) (gs.any (onB u (ZbM 3))) (gs.any (onB u (ZbM 4))) (gs.any (onB u (ZbM 5))):=rfl
  rw [e,ZpH _ _ _ _ _ _ k hk]
  have:k=0∨k=1∨k=2∨k=3∨k=4∨k=5:=by omega
  rcases this with rfl | rfl | rfl | rfl | rfl | rfl <;> rfl
theorem ZqR {gs:List DGrant} {u:Str} {b:Int} : gs.any (onB u b)=((gs.any fun g=>decide (g.user=u) && Zhv g.rights b) || (gs.any fun g=>decide (g.user=anyone) && Zhv g.rights b)):=by
  induction gs with
  | nil=>rfl
  | cons g gs ih=>
    simp only [List.any_cons,ih,onB,Zhv]
    cases decide (g.user=u) <;> cases decide (g.user=anyone) <;> cases decide (Int.tmod (Int.tdiv g.rights b) 2=1) <;> simp
theorem ZkY {k:Nat} (hk:k<6):Zhv 0 (ZbM k)=false:=by
  have:k=0∨k=1∨k=2∨k=3∨k=4∨k=5:=by omega
  rcases this with rfl | rfl | rfl | rfl | rfl | rfl <;> rfl
theorem Zne {gs:List DGrant} {u:Str} (h:ZcS gs=true) {k:Nat} (hk:k<6):(!decide (ZsJ (orI ((mget (Zd9 gs) u).getD 0) ((mget (Zd9 gs) anyone).getD 0)) (ZbM k)=0))=Zhv (ZaZ gs u) (ZbM k)∧0≤orI ((mget (Zd9 gs) u).getD 0) ((mget (Zd9 gs) anyone).getD 0)∧orI ((mget (Zd9 gs) u).getD 0) ((mget (Zd9 gs) anyone).getD 0)≤63∧(!decide (Int.tmod (orI ((mget (Zd9 gs) u).getD 0) ((mget (Zd9 gs) anyone).getD 0)) 2=0))=Zhv (ZaZ gs u) 1∧(!decide (Int.tmod (Int.tdiv (orI ((mget (Zd9 gs) u).getD 0) ((mget (Zd9 gs) anyone).getD 0)) 2) 2=0))=Zhv (ZaZ gs u) 2:=by
  obtain ⟨a0,a1⟩:=Zkr u (Zej h)
  obtain ⟨b0,b1⟩:=Zkr anyone (Zej h)
  have hs:=Zmt h
  have e1 :∀k,k<6→Zhv (ZaZ gs u) (ZbM k)=(Zhv ((mget (Zd9 gs) u).getD 0) (ZbM k) || Zhv ((mget (Zd9 gs) anyone).getD 0) (ZbM k)):=fun k hk=>by
    rw [ZlW hk,ZqR,Zim u _ (ZkY hk) hs,Zim anyone _ (ZkY hk) hs]
  generalize (mget (Zd9 gs) u).getD 0=a at *
  generalize (mget (Zd9 gs) anyone).getD 0=b at *
  obtain ⟨n,rfl⟩:=Int.eq_ofNat_of_zero_le a0
  obtain ⟨m,rfl⟩:=Int.eq_ofNat_of_zero_le b0
  obtain ⟨t1,t2,t3,t4,t5⟩:=Zsg n (by omega) m (by omega)
  have h0:=e1 0 (by omega)
  exact ⟨by rw [t3 k hk,e1 k hk],t1,t2,by rw [t4];exact h0.symm,by rw [t5];exact (e1 1 (by omega)).symm⟩
theorem ZiY {x:DHost} {u:Str} (h:Z9 x=true) (hu:0≤ZeB x.users u):Zak u=true:=by
  obtain ⟨w,hw,rfl⟩:=Zha.1 hu
  have:=ZiW (Zgg h) hw
  simp only [Zcb,Bool.and_eq_true] at this
  exact this.1.1.1
theorem ZpN {x:DHost} {f:DFolder} {u:Str} (h:Z9 x=true) (hf:f∈x.folders) (hu:0≤ZeB x.users u):ZiK f.grants f.owner u=if u=f.owner then 63 else orI ((mget (Zd9 f.grants) u).getD 0) ((mget (Zd9 f.grants) anyone).getD 0):=by
  have hi:=(ZfX.1 h).2.1.1 f hf
  simp only [Zaf,Bool.and_eq_true,decide_eq_true_eq] at hi
  rw [ZiK,if_neg (fun hc=>hc ⟨hi.1.2,ZiY h hi.1.1.1,ZiY h hu⟩)]
theorem ZsN {x:DHost} {f:DFolder} (h:Z9 x=true) (hf:f∈x.folders):ZcS f.grants=true:=by
  have hi:=(ZfX.1 h).2.1.1 f hf
  simp only [Zaf,Bool.and_eq_true] at hi
  exact hi.1.2
theorem Zg3 {x:DHost} {f:DFolder} {u:Str} {k:Nat} (h:Z9 x=true) (hf:f∈x.folders) (hk:k<6):Zkt x.users f u (ZbM k)=(decide (0≤ZeB x.users u) && ZjR f u (ZbM k)):=by
  rw [Zkt,ZkF h]
  by_cases hu:0≤ZeB x.users u
  · rw [ZpN h hf hu,ZjR]
    obtain ⟨r1,r2,r3,r4,r5⟩:=Zne (gs:=f.grants) (u:=u) (ZsN h hf) hk
    by_cases ho:u=f.owner
    · rw [if_pos ho,decide_eq_true ho,ZqQ k hk];simp
    · rw [if_neg ho,decide_eq_false ho,r1,decide_eq_true r2];simp [Zhv]
  · simp [hu]
def ZjT (f:DFolder):DFolder:=⟨f.owner,f.name,[],0,[]⟩
def ZiU (f:DFolder):DFolder:=⟨f.owner,f.name,[],f.next,f.mail⟩
def ZdY (x:DHost) (u:Str):List DFolder:=if Z9 x=true then (x.folders.filter fun f=>Zkt x.users f u 1).map ZjT else []
def Zdw (x:DHost) (u:Str):List DFolder:=if Z9 x=true then (x.folders.filter fun f=>Zkt x.users f u 1 && Zkt x.users f u 2).map ZiU else []
def Zl5 (x:DHost) (u:Str):List DFolder:=if Z9 x=true∧0≤ZeB x.users u then (x.folders.filter fun f=>ZjR f u 1).map ZjT else []
def ZlK (x:DHost) (u:Str):List DFolder:=if Z9 x=true∧0≤ZeB x.users u then (x.folders.filter fun f=>ZjR f u 1 && ZjR f u 2).map ZiU else []
theorem Zjc {α β:Type} {p:α→Bool} {g:α→β} {xs:List α} {k:Nat} {x:α} (hx:xs[k]? = some x):((xs.take (k+1)).filter p).map g=((xs.take k).filter p).map g ++ (if p x=true then [g x] else []):=by
  rw [Zct hx,List.filter_append,List.map_append]
  congr 1
  by_cases hp:p x=true
  · simp [hp]
  · simp [hp]
theorem Zlr {x:DHost} {u:Str} (h:Z9 x=false):ZdY x u=[]:=by simp [ZdY,h]
theorem Zk4 {x:DHost} {u:Str} (h:Z9 x=false):Zdw x u=[]:=by simp [Zdw,h]
theorem Zio (x:DHost) (u:Str):ZdY x u=Zl5 x u:=by
  unfold ZdY Zl5
  by_cases h:Z9 x=true
  · rw [if_pos h]
    by_cases hu:0≤ZeB x.users u
    · rw [if_pos ⟨h,hu⟩]
      congr 1
      refine List.filter_congr fun f hf=>?_
      have:=Zg3 (u:=u) (k:=0) h hf (by omega)
      rw [show ZbM 0=1 from rfl] at this
      rw [this,decide_eq_true hu,Bool.true_and]
    · rw [if_neg (fun hc=>hu hc.2)]
      have:(x.folders.filter fun f=>Zkt x.users f u 1)=[]:=by
        rw [List.filter_eq_nil_iff]
        intro f hf hc
        have:=Zg3 (u:=u) (k:=0) h hf (by omega)
        rw [show ZbM 0=1 from rfl] at this
        rw [this,decide_eq_false hu] at hc;cases hc
      rw [this];rfl
  · rw [if_neg h,if_neg (fun hc=>h hc.1)]
theorem Zib (x:DHost) (u:Str):Zdw x u=ZlK x u:=by
  unfold Zdw ZlK
  by_cases h:Z9 x=true
  · rw [if_pos h]
    by_cases hu:0≤ZeB x.users u
    · rw [if_pos ⟨h,hu⟩]
      congr 1
      refine List.filter_congr fun f hf=>?_
      have h1:=Zg3 (u:=u) (k:=0) h hf (by omega)
      have h2:=Zg3 (u:=u) (k:=1) h hf (by omega)
      rw [show ZbM 0=1 from rfl] at h1
      rw [show ZbM 1=2 from rfl] at h2
      rw [h1,h2,decide_eq_true hu,Bool.true_and,Bool.true_and]
    · rw [if_neg (fun hc=>hu hc.2)]
      have:(x.folders.filter fun f=>Zkt x.users f u 1 && Zkt x.users f u 2)=[]:=by
        rw [List.filter_eq_nil_iff]
        intro f hf hc
        have:=Zg3 (u:=u) (k:=0) h hf (by omega)
        rw [show ZbM 0=1 from rfl] at this
        rw [this,decide_eq_false hu] at hc;cases hc
      rw [this];rfl
  · rw [if_neg h,if_neg (fun hc=>h hc.1)]
def ZcR {α β:Type} (b:Bool) (p:α→Bool) (g:α→β) (xs:List α) (k:Nat):List β:=if b=true then ((xs.take k).filter p).map g else []
theorem Zco {α β:Type} {b:Bool} {p:α→Bool} {g:α→β} {xs:List α} : []=ZcR b p g xs 0:=by simp [ZcR]
theorem ZbD {α β:Type} {b:Bool} {p:α→Bool} {g:α→β} {xs:List α} {k:Nat} {x:α} {ys:List β} (hy:ys=ZcR b p g xs k) (hb:b=true) (hx:xs[k]? = some x) (hp:p x=true):ys ++ [g x]=ZcR b p g xs (k+1):=by
  rw [hy,ZcR,ZcR,if_pos hb,if_pos hb,Zjc hx,if_pos hp]
theorem Zbp {α β:Type} {b:Bool} {p:α→Bool} {g:α→β} {xs:List α} {k:Nat} {x:α} {ys:List β} (hy:ys=ZcR b p g xs k) (hb:b=true) (hx:xs[k]? = some x) (hp:p x=false):ys=ZcR b p g xs (k+1):=by
  rw [hy,ZcR,ZcR,if_pos hb,if_pos hb,Zjc hx,if_neg (by rw [hp];exact Bool.false_ne_true),List.append_nil]
theorem Zfk {α β:Type} {b:Bool} {p:α→Bool} {g:α→β} {xs:List α} {k:Nat} {ys:List β} (hy:ys=ZcR b p g xs k) (h:xs.length≤k∨b=false):ys=if b=true then (xs.filter p).map g else []:=by
  rw [hy,ZcR]
  rcases h with h | h
  · rw [List.take_of_length_le h]
  · rw [h];rfl
def okU (x:DHost) (u:Str):Bool:=Z9 x && decide (0≤ZeB x.users u)
def Zsb (x:DHost) (u:Str) (f:DFolder):Bool:=Zkt x.users f u 1
def ZgN (x:DHost) (u:Str) (f:DFolder):Bool:=Zkt x.users f u 1 && Zkt x.users f u 2
def Ztg (u:Str) (f:DFolder):Bool:=ZjR f u 1
def ZoX (u:Str) (f:DFolder):Bool:=ZjR f u 1 && ZjR f u 2
theorem Zjr {x:DHost} {u:Str} {k:Nat} {ys:List DFolder} (hy:ys=ZcR (Z9 x) (Zsb x u) ZjT x.folders k) (h:x.folders.length≤k):ys=ZdY x u:=Zfk hy (.inl h)
theorem ZiT {x:DHost} {u:Str} {k:Nat} {ys:List DFolder} (hy:ys=ZcR (Z9 x) (ZgN x u) ZiU x.folders k) (h:x.folders.length≤k):ys=Zdw x u:=Zfk hy (.inl h)
theorem Zg5 {x:DHost} {u:Str} {k:Nat} {ys:List DFolder} (hy:ys=ZcR (okU x u) (Ztg u) ZjT x.folders k) (h:x.folders.length≤k∨okU x u=false):ys=Zl5 x u:=by
  rw [Zfk hy h,Zl5,okU];simp only [Bool.and_eq_true,decide_eq_true_eq];rfl
theorem ZgF {x:DHost} {u:Str} {k:Nat} {ys:List DFolder} (hy:ys=ZcR (okU x u) (ZoX u) ZiU x.folders k) (h:x.folders.length≤k∨okU x u=false):ys=ZlK x u:=by
  rw [Zfk hy h,ZlK,okU];simp only [Bool.and_eq_true,decide_eq_true_eq];rfl
theorem Znl {x:DHost} {u:Str} (h:Z9 x=false):okU x u=false:=by simp [okU,h]
theorem Znk {x:DHost} {u:Str} (h : ¬ 0≤ZeB x.users u):okU x u=false:=by simp [okU,h]
theorem ZgY {x:DHost} {u:Str} (h:Z9 x=true) (h2:0≤ZeB x.users u):okU x u=true:=by simp [okU,h,h2]
theorem ZlG {x:DHost} {u:Str} {k:Nat} {f:DFolder} (hu:0≤ZeB x.users u) (hf:x.folders[k]? = some f):decide (ZrI x.users x.folders u k 2=0)=ZoX u f:=by
  rw [Zol (f:=f) (by omega) (by simpa using hf),ZoX]
  cases ZjR f u 1 <;> cases ZjR f u 2 <;> simp
end Go.BL
namespace Go.BL
open Go
set_option linter.unusedVariables false
set_option linter.unusedSimpArgs false
def Zbw (f:DFolder):Nat:=3+2*f.grants.length+3*f.mail.length
def mkF (k:Nat) (f:DFolder):DFolder:=⟨ZT k,ZT (k+1),Zal (k+1+1) f.grants.length,((k+1+1+2*f.grants.length:Nat):Int),ZaP (k+1+1+2*f.grants.length+1) f.mail.length⟩
def ZeT (x:DItem):Nat:=3+x.left.length
def mkI (k:Nat) (x:DItem):DItem:=⟨((k:Nat):Int),ZT (k+1),ZT (k+1+1),ZdT (k+1+1+1) x.left.length⟩
def kL {α:Type} (st:α→Nat) (k:Nat) (xs:List α):Nat:=k+(xs.map st).sum
def mkL {α:Type} (st:α→Nat) (mk:Nat→α→α):Nat→List α→List α
  | _,[]=>[]
  | k,x :: xs=>mk k x :: mkL st mk (k+st x) xs
theorem ZnG {α:Type} {st:α→Nat} {k:Nat} : kL st k []=k:=by simp [kL]
theorem Ziv {α:Type} {st:α→Nat} {k:Nat} {x:α} {xs:List α} : kL st k (x :: xs)=kL st (k+st x) xs:=by simp [kL];omega
theorem Ziu {α:Type} {st:α→Nat} {k i:Nat} {xs:List α} {x:α} (hx:xs[i]? = some x):kL st k (xs.take (i+1))=kL st k (xs.take i)+st x:=by
  rw [Zct hx,kL,kL,List.map_append,List.sum_append];simp;omega
theorem Zq4 {α:Type} {st:α→Nat} {c:Nat} :∀{xs:List α} (k:Nat),(∀x,x∈xs→st x≤c)→kL st k xs≤k+xs.length*c
  | [],k,_=>by simp [kL]
  | x :: xs,k,h=>by
    have h1:=Zq4 (st:=st) (c:=c) (xs:=xs) (k+st x) fun y hy=>h y (List.mem_cons_of_mem _ hy)
    have h2:=h x (List.mem_cons_self ..)
    rw [Ziv,List.length_cons,Nat.succ_mul];omega
theorem Zlp {α:Type} {st:α→Nat} {mk:Nat→α→α} {x:α} :∀{xs:List α} (k:Nat),mkL st mk k (xs ++ [x])=mkL st mk k xs ++ [mk (kL st k xs) x]
  | [],k=>by simp [mkL,kL]
  | y :: xs,k=>by
    rw [List.cons_append,mkL,Zlp (xs:=xs) (k+st y),mkL,Ziv,List.cons_append]
theorem Zc4 {α:Type} {st:α→Nat} {mk:Nat→α→α} :∀{xs:List α} (k:Nat),(mkL st mk k xs).length=xs.length
  | [],k=>rfl
  | y :: xs,k=>by rw [mkL,List.length_cons,Zc4 (k+st y),List.length_cons]
theorem Zpd {α:Type} {st:α→Nat} {mk:Nat→α→α} {xs ys:List α} {i k:Nat} {x:α} (ht:ys.take i=mkL st mk k (xs.take i)) (hx:xs[i]? = some x) (hl:ys.length=xs.length):(ys.set i (mk (kL st k (xs.take i)) x)).take (i+1)=mkL st mk k (xs.take (i+1)):=by
  have hi:=(List.getElem?_eq_some_iff.1 hx).1
  rw [ZbC (by omega),Zct hx,Zlp,ht]
theorem Znw {α:Type} {st:α→Nat} {mk:Nat→α→α} {xs ys:List α} {i k:Nat} (ht:ys.take i=mkL st mk k (xs.take i)) (hl:ys.length=xs.length) (hi:xs.length≤i):ys=mkL st mk k xs:=by
  rwa [List.take_of_length_le (by omega),List.take_of_length_le hi] at ht
theorem Znv {α:Type} {st:α→Nat} {mk:Nat→α→α} :∀{xs:List α} {i:Nat} {x:α} (k:Nat),xs[i]? = some x→(mkL st mk k xs)[i]? = some (mk (kL st k (xs.take i)) x)
  | [],i,x,k,h=>by simp at h
  | y :: xs,0,x,k,h=>by
    simp only [List.getElem?_cons_zero,Option.some.injEq] at h
    subst h;simp [mkL,kL]
  | y :: xs,i+1,x,k,h=>by
    rw [mkL,List.getElem?_cons_succ,Znv (k+st y) (by simpa using h),List.take_succ_cons,Ziv]
theorem ZlA {α:Type} {xs ys:List α} {i:Nat} {z:α} (hd:ys.drop i=xs.drop i):(ys.set i z).drop (i+1)=xs.drop (i+1):=by
  rw [List.drop_set_of_lt (by omega),← List.drop_drop,← List.drop_drop,hd]
theorem ZlB {α:Type} {xs ys:List α} {i:Nat} (hd:ys.drop i=xs.drop i):ys[i]? = xs[i]?:=by
  have:=congrArg (fun l=>l[0]?) hd
  simpa using this
theorem Zkq {k n g:Nat} (h:g<n):(ZaP k n)[g]? = some ⟨((k+3*g:Nat):Int),((k+3*g+1:Nat):Int),ZT (k+3*g+1+1)⟩:=by simp [ZaP,h]
theorem Zjm {k n g:Nat} (h:g<n):(Zal k n)[g]? = some ⟨ZT (k+2*g),((k+2*g+1:Nat):Int)⟩:=by simp [Zal,h]
theorem ZdC {α:Type} {xs:List α} {k:Nat} {x z:α} (h:xs[k]? = some x):(xs.set k z)[k]? = some z:=List.getElem?_set_self (List.getElem?_eq_some_iff.1 h).1
theorem Zq5 {α:Type} {st:α→Nat} {k i:Nat} {xs:List α} {x:α} (hx:xs[i]? = some x):kL st k (xs.take i)+st x≤kL st k xs:=by
  have e:xs=xs.take (i+1) ++ xs.drop (i+1):=(List.take_append_drop _ _).symm
  have h1:=Ziu (st:=st) (k:=k) hx
  have h2:kL st k xs=kL st k (xs.take (i+1))+((xs.drop (i+1)).map st).sum:=by
    conv=>lhs;rw [e]
    simp only [kL,List.map_append,List.sum_append];omega
  omega
theorem ZnH {α:Type} {st:α→Nat} {k i:Nat} {xs:List α} (h:xs.length≤i):kL st k (xs.take i)=kL st k xs:=by rw [List.take_of_length_le h]
theorem Zso {α:Type} {st:α→Nat} {k:Nat} {xs:List α} : k≤kL st k xs:=by simp [kL]
theorem Zk7 {α:Type} {xs ys:List α} {i:Nat} {z:α} (h:ys.length=xs.length):(ys.set i z).length=xs.length:=by rw [List.length_set,h]
theorem Zsn {α:Type} {st sz:α→Nat} {xs:List α} (k:Nat) (h :∀x,x∈xs→st x≤3+3*sz x):kL st k xs≤k+3*(xs.length+(xs.map sz).sum):=by
  induction xs generalizing k with
  | nil=>simp [kL]
  | cons x xs ih=>
    rw [Ziv]
    have h1:=ih (k+st x) fun y hy=>h y (List.mem_cons_of_mem _ hy)
    have h2:=h x (List.mem_cons_self ..)
    simp only [List.length_cons,List.map_cons,List.sum_cons];omega
theorem Zjl {α:Type} {st:α→Nat} {mk:Nat→α→α} {xs ys:List α} {i k m:Nat} {x:α} (ht:ys.take i=mkL st mk k (xs.take i)) (hx:xs[i]? = some x) (hl:ys.length=xs.length) (hs:m=kL st k (xs.take i)):(ys.set i (mk m x)).take (i+1)=mkL st mk k (xs.take (i+1)):=by
  subst hs;exact Zpd ht hx hl
end Go.BL
namespace Go.BL
open Go
set_option linter.unusedVariables false
set_option linter.unusedSimpArgs false
theorem Ztm {k:Nat} {fs:List DFolder} : kL Zbw k fs≤k+3*szL Zas fs:=Zsn k fun x _=>by simp only [Zbw,Zas,szL];omega
theorem Ztl {k:Nat} {xs:List DItem} : kL ZeT k xs≤k+3*szL Zbb xs:=Zsn k fun x _=>by simp only [ZeT,Zbb,ZeE,szL];omega
def kH (k:Nat) (x:DHost):Nat:=kL ZeT (kL Zbw (k+3*x.users.length) x.folders) x.queue.items
theorem Zq6 {x:DHost} (h:ZbA x≤1048576):kH 1 x≤10000000:=by
  have h1:=@Ztl (kL Zbw (1+3*x.users.length) x.folders) x.queue.items
  have h2:=@Ztm (1+3*x.users.length) x.folders
  unfold ZbA at h
  have h3:x.users.length≤szL Zcu x.users:=by simp only [szL];omega
  unfold kH;omega
theorem Zpi {x:DHost} {u:Str} (h:ZbA x≤1048576):kL Zbw 1 (ZdY x u)≤100000000000000:=by
  have h0:=(ZaA (ZfW h).2.2.1).1
  have h1:(ZdY x u).length≤x.folders.length:=by
    unfold ZdY
    split
    · rw [List.length_map];exact List.length_filter_le ..
    · simp
  have h2:=Zq4 (st:=Zbw) (c:=3) (xs:=ZdY x u) 1 fun f hf=>by
    unfold ZdY at hf
    split at hf
    · obtain ⟨g,_,rfl⟩:=List.mem_map.1 hf
      simp [Zbw,ZjT]
    · simp at hf
  omega
theorem Zph {x:DHost} {u:Str} (h:ZbA x≤1048576):kL Zbw 1 (Zdw x u)≤100000000000000:=by
  have h0:=ZaA (ZfW h).2.2.1
  have h1:(Zdw x u).length≤x.folders.length:=by
    unfold Zdw
    split
    · rw [List.length_map];exact List.length_filter_le ..
    · simp
  have h2:=Zq4 (st:=Zbw) (c:=3+3*1048576) (xs:=Zdw x u) 1 fun f hf=>by
    unfold Zdw at hf
    split at hf
    · obtain ⟨g,hg,rfl⟩:=List.mem_map.1 hf
      have:=(ZaA (ZjC (h0.2 g (List.mem_filter.1 hg).1)).2).1
      simp only [Zbw,ZiU,List.length_nil];omega
    · simp at hf
  have h3:(Zdw x u).length*(3+3*1048576)≤1048576*(3+3*1048576):=Nat.mul_le_mul_right _ (by omega)
  omega
end Go.BL
namespace Go.BL
section
variable {P:PJ} {n:Nat} {ops:Array Oper} {i:Nat} {K:Zaj} {S:Env} {D:List Deferred} {B:Kn} {L:List Cells}
variable {dst:Option Tmp} {ty:TypeId} {pos:String} {after:Array Edge} {g:Option (Nat × Bool)}
end
end Go.BL
