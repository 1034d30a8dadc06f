/-
  THE WALK'S LOGIC: owned cells and known cells, goroutines started and awaited, calls, loops, data, and plain laws on lists: no program in sight.
-/
import Derived.Test.YtpgdailphhongaaGreatDoorB0
set_option linter.unusedVariables false
set_option linter.unusedSimpArgs false
set_option linter.unusedSectionVars false
namespace Go.BL
open Go.Conc (G)
set_option linter.unusedVariables false
def zrow (z:List Value) (c:Nat):List Value:=(List.replicate c z).flatten
theorem Zcq {z:List Value} {c:Nat} : (zrow z c).length=c*z.length:=by
  induction c with
  | zero=>simp [zrow]
  | succ c ih=>
    simp only [zrow,List.replicate_succ,List.flatten_cons,List.length_append] at ih ⊢
    rw [ih,Nat.succ_mul,Nat.add_comm]
theorem Zna {z:List Value} :∀{c i:Nat},i<c*z.length→(zrow z c)[i]? = z[i % z.length]?
  | 0,i,h=>by simp at h
  | c+1,i,h=>by
    have e:zrow z (c+1)=z ++ zrow z c:=by simp [zrow,List.replicate_succ]
    rw [e]
    by_cases hi:i<z.length
    · rw [List.getElem?_append_left hi,Nat.mod_eq_of_lt hi]
    · have hz:0<z.length:=by
        rcases Nat.eq_zero_or_pos z.length with h0 | h0
        · rw [h0] at h;simp at h
        · exact h0
      rw [List.getElem?_append_right (by omega),Zna (by rw [Nat.succ_mul] at h;omega)]
      congr 1
      conv=>rhs;rw [show i=(i - z.length)+z.length from by omega,Nat.add_mod_right]
theorem Zo4 {z:List Value} {c:Nat} : (Array.range (c*z.length)).map (fun i=>z.toArray[i % z.toArray.size]!)=(zrow z c).toArray:=by
  apply Array.ext'
  apply List.ext_getElem?
  intro i
  simp only [Array.toList_map,Array.toList_range,List.getElem?_map,List.size_toArray]
  by_cases hi:i<c*z.length
  · have hz:0<z.length:=by
      rcases Nat.eq_zero_or_pos z.length with h0 | h0
      · rw [h0] at hi;simp at hi
      · exact h0
    rw [List.getElem?_range hi,Zna hi,Option.map_some]
    have hm:i % z.length<z.length:=Nat.mod_lt _ hz
    rw [getElem!_pos z.toArray _ (by simpa using hm)]
    simp [List.getElem?_eq_getElem hm]
  · have h1:(List.range (c*z.length))[i]? = none:=by simp;omega
    have h2:(zrow z c)[i]? = none:=by rw [List.getElem?_eq_none_iff,Zcq];omega
    rw [h1,h2];rfl
section
variable {P:PJ} {n:Nat} {ops:Array Oper} {i:Nat} {K:Zbj} {S:Env} {D:List Deferred} {B:Kn} {L:List Cells}
variable {dst:Option Tmp} {ty:TypeId} {pos:String} {after:Array Edge} {g:Option (Nat × Bool)}
theorem ZlD {P:Program} {B:Kn} {L:Cells} {Q:Addr→Kn→Cells→Prop} {e:TypeId} {cs:Array Value} (h :∀b,Q ⟨b,0,none⟩ B ((b,.cells cs e) :: L)):hb P (newRow e cs) Q B L:=by
  simp only [newRow,Zq,Zw]
  exact ⟨rfl,fun b _ _=>h b⟩
theorem ZhS {t e:TypeId} {x y:Operand} {m c sz by_:Nat} {z:Value} (zs:List Value) (hg:Zr ops S g=some true) (hd:ZD n dst=true) (he:ZcA P t e sz by_=true) (hz:ZaF P e=some z) (hzs:z.cells=zs.toArray) (hzl:zs.length=sz)
    (hx :∃k,∃q:Int,ev S x=some (.int k q)∧q=m) (hy :∃k,∃q:Int,ev S y=some (.int k q)∧q=c) (hmc:m≤c) (hfit:c*by_≤140737488355328)
    (h :∀b,K (.slice (some ⟨b,0,none⟩) m c) D B (L ++ [ZaE b (zrow zs c) e])):opX P n ops i ⟨dst,.makeSlice t x y,ty,pos,after,g⟩ K S D B L:=
  ZeL hg hd fun ρ hρ F=>by
    unfold ZcA at he
    split at he
    · rename_i e' inf hut hie
      simp only [Bool.and_eq_true,beq_iff_eq] at he
      obtain ⟨⟨⟨⟨rfl,hsz⟩,hby⟩,hpos⟩,hzz⟩:=he
      have hby0:0<by_:=by simpa using hpos
      have hsi:Zae P e'=some sz:=by simp [Zae,hie,hsz]
      obtain ⟨k1,q1,h1,rfl⟩:=hx
      obtain ⟨k2,q2,h2,rfl⟩:=hy
      have hc0:c≤140737488355328:=Nat.le_trans (Nat.le_mul_of_pos_right c hby0) hfit
      have wr :∀q:Nat,q≤140737488355328→IntKind.wrap .i64 (q:Int)=q:=fun q hq=>ZaX (by omega) (by omega)
      have t1:(decide ((c:Int)<0) || decide ((by_:Int)*(c:Int) > 2 ^ 48))=false:=by
        have:(by_:Int)*(c:Int)≤140737488355328:=by
          rw [← Int.natCast_mul]
          have:by_*c≤140737488355328:=by rw [Nat.mul_comm];exact hfit
          omega
        simp only [Bool.or_eq_false_iff,decide_eq_false_iff_not]
        refine ⟨by omega,by omega⟩
      have t2:(decide ((m:Int)<0) || decide ((m:Int) > (c:Int)))=false:=by
        simp only [Bool.or_eq_false_iff,decide_eq_false_iff_not]
        omega
      simp only [execOp,Instr.makeSlice,Zq,Zy hut,asInt,asIntOf,hρ x _ h1,hρ y _ h2,Zw,ZbT hie,hby,wr c hc0,wr m (by omega),t1,t2,Bool.false_or,Bool.or_eq_true,Bool.false_eq_true,if_false]
      rw [if_neg (by
        simp only [Bool.or_eq_false_iff] at t1 t2
        rw [t1.1,t1.2,t2.1,t2.2];simp)]
      simp only [Int.toNat_natCast,Zq]
      refine ZjL ?_
      simp only [ZaY hsi,Zq]
      by_cases h0:c*sz=0
      · rw [if_pos h0]
        simp only [Zq,Zw,h0]
        refine ZlD fun b=>?_
        have hzr:zrow zs c=[]:=List.eq_nil_of_length_eq_zero (by rw [Zcq,hzl];exact h0)
        refine ⟨L ++ [ZaE b (zrow zs c) e'],?_,h b⟩
        rw [hzr]
        have e0:Array.map (fun x=>(#[]:Array Value)[x % (#[]:Array Value).size]!) (Array.range 0)=([]:List Value).toArray:=by simp
        rw [e0]
        exact .of (Zem L (ZaE b [] e') F)
      · rw [if_neg h0]
        simp only [Zq,Zcm hz,Zw,hzs]
        rw [← hzl,Zo4]
        refine ZlD fun b=>?_
        exact ⟨L ++ [ZaE b (zrow zs c) e'],.of (Zem L (ZaE b (zrow zs c) e') F),h b⟩
    · cases he
end
theorem Z2.zeros {α:Type} {B:Kn} {b:Nat} {T:TypeId} {R:Rel α} {zs:List Value} {d:α} {m c w:Nat} (hw:zs.length=w) (hR:R B zs d) (hmc:m≤c):Z2 B (ZaE b (zrow zs c) T) (some ⟨b,0,none⟩) c T w R (List.replicate m d):=by
  refine ⟨List.replicate m zs,?_,fun r hr=>by rw [(List.mem_replicate.1 hr).2];exact hw,?_,.inr ⟨b,_,rfl,by rw [Zcq,hw],?_,rfl,by rw [List.length_replicate];exact hmc⟩⟩
  · induction m with
    | zero=>exact .nil
    | succ m ih=>rw [List.replicate_succ,List.replicate_succ];exact .cons hR (ih (by omega))
  · rw [List.length_replicate]
    exact (Zcq (z:=zs) (c:=m)).trans (by rw [hw])
  · rw [List.length_replicate]
    have e:zrow zs c=zrow zs m ++ zrow zs (c - m):=by
      simp only [zrow,← List.flatten_append,List.replicate_append_replicate]
      rw [show m+(c - m)=c from by omega]
    rw [e,List.take_append_of_le_length (by rw [Zcq,hw];exact Nat.le_refl _),List.take_of_length_le (by rw [Zcq,hw];exact Nat.le_refl _)]
    rfl
section
variable {P:PJ} {C:Cx P} {n:Nat} {k:List Item} {T:Array Value} {S:Env} {D:List Deferred} {B:Kn} {L:List Cells}
theorem Zfa {x y:Code} (h:C.X.R (G (fat C.b T D (.code x :: .code y :: k)) C.cs) B (L.flatten ++ C.F)):C.X.R (G (fat C.b T D (.code (.seq x y) :: k)) C.cs) B (L.flatten ++ C.F):=
  C.X.ctl rfl (fun w=>Zk6) h
theorem ZnS {id:Nat} {c:Code} (h:C.X.R (G (fat C.b T D (.code c :: .inBlock id :: k)) C.cs) B (L.flatten ++ C.F)):C.X.R (G (fat C.b T D (.code (.block id c) :: k)) C.cs) B (L.flatten ++ C.F):=
  C.X.ctl rfl (fun w=>Zj6) h
theorem ZoR {id:Nat} (h:C.X.R (G (fat C.b T D k) C.cs) B (L.flatten ++ C.F)):C.X.R (G (fat C.b T D (.inBlock id :: k)) C.cs) B (L.flatten ++ C.F):=
  C.X.ctl rfl (fun w=>ZgF) h
theorem Zul (h:C.X.R (G (fat C.b T D k) C.cs) B (L.flatten ++ C.F)):C.X.R (G (fat C.b T D (.code .skip :: k)) C.cs) B (L.flatten ++ C.F):=
  C.X.ctl rfl (fun w=>Zpx) h
theorem Zum {id:Nat} {k':List Item} (hk:exitTo id k=some k') (h:C.X.R (G (fat C.b T D k') C.cs) B (L.flatten ++ C.F)):C.X.R (G (fat C.b T D (.code (.exit id) :: k)) C.cs) B (L.flatten ++ C.F):=
  C.X.ctl rfl (fun w=>Zpy hk) h
theorem ZqM {t:Bool} {c:Operand} {x y:Code} (hc:ev S c=some (.bool t)) (hT:Ag T S) (h:C.X.R (G (fat C.b T D (.code (if t then x else y) :: k)) C.cs) B (L.flatten ++ C.F)):C.X.R (G (fat C.b T D (.code (.cond c x y) :: k)) C.cs) B (L.flatten ++ C.F):=
  C.X.ctl rfl (fun w=>Zpz (Ze9 hT hc)) h
theorem Zgv {id:Nat} {ops:Array Oper} (h:C.X.R (G (fat C.b T D (.inRegion ops (List.range ops.size) :: k)) C.cs) B (L.flatten ++ C.F)):C.X.R (G (fat C.b T D (.code (.region id ops false) :: k)) C.cs) B (L.flatten ++ C.F):=
  C.X.ctl rfl (fun w=>Zgc) h
theorem Zdd {ops:Array Oper} (h:C.X.R (G (fat C.b T D k) C.cs) B (L.flatten ++ C.F)):C.X.R (G (fat C.b T D (.inRegion ops [] :: k)) C.cs) B (L.flatten ++ C.F):=
  C.X.ctl rfl (fun w=>Zcr) h
end
theorem Zc9 {P:Program} {t:TypeId} {k:Nat} (h:Zae P t=some k) (w:World) (es:Array Event):(sizeOf t).events P w es=es:=by
  obtain ⟨i,hi,_⟩:=Option.map_eq_some_iff.1 h
  simp [sizeOf,typeInfo,Go.program,hi,Sem.events,Sem.runT,Bind.bind,Sem.bind,Pure.pure]
section
variable {P:PJ} {C:Cx P} {n:Nat} {k:List Item} {T:Array Value} {S:Env} {D:List Deferred} {B:Kn} {L:List Cells}
theorem ZjX {id:Nat} {l:List Oper} (hn:T.size=n) (hT:Ag T S) (h:Zo1 P n l.toArray 0 l (fun S' D' B' L'=>∀T',T'.size=n→Ag T' S'→C.X.R (G (fat C.b T' D' k) C.cs) B' (L'.flatten ++ C.F)) S D B L):C.X.R (G (fat C.b T D (.code (.region id l.toArray false) :: k)) C.cs) B (L.flatten ++ C.F):=by
  refine C.X.ctl rfl (fun w=>Zgc) ?_
  rw [List.size_toArray,List.range_eq_range']
  exact ZgG l 0 (fun j=>by simp) h C k T hn hT fun S' D' B' L' T' hle hq hn' hT'=>C.X.ctl rfl (fun w=>Zcr) (hq T' hn' hT')
theorem ZlQ {g:Goroutine} (hs:g=G g.frame g.callers) (i:Nat) {l:Cells} (hi:L[i]? = some l) (h :∀B',B.le B'→(∀p,p∈l→B'.mem p.1=some p.2)→C.X.R g B' ((L.set i []).flatten ++ C.F)):C.X.R g B (L.flatten ++ C.F):=by
  obtain ⟨r,h1,h2⟩:=Zal C.F [] hi
  exact C.X.publish hs h1 fun B' hle hm=>C.X.perm (by simpa using h2.symm) (h B' hle hm)
theorem ZxC {ops:Array Oper} {i:Nat} {todo:List Nat} {o:Oper} (ho:ops[i]? = some o) (hn:T.size=n) (hT:Ag T S) (h:opW P n ops i o (fun S' D' B' L'=>∀T',T'.size=n→Ag T' S'→C.X.R (G (fat C.b T' D' (.inRegion ops todo :: k)) C.cs) B' (L'.flatten ++ C.F)) S D B L):C.X.R (G (fat C.b T D (.inRegion ops (i :: todo) :: k)) C.cs) B (L.flatten ++ C.F):=
  h C todo k T ho hn hT fun S' D' B' L' T' _ hq hn' hT'=>hq T' hn' hT'
theorem Ag.sub' {T:Array Value} {S S':Env} (h:Ag T S) (hs:Sub S' S):Ag T S':=h.sub hs
end
end Go.BL
namespace Go.BL
set_option linter.unusedVariables false
structure SlB {α:Type} (B:Kn) (q:Option Addr) (cp w:Nat) (R:Rel α) (xs:List α):Prop where
  rows:ZdG B q w R xs
  cap:xs.length≤cp
  len:xs.length≤140737488355328
theorem SlB.mono {α:Type} {B B':Kn} {q:Option Addr} {cp w:Nat} {R:Rel α} {xs:List α} (h:SlB B q cp w R xs) (hR:Mono R) (hle:B.le B'):SlB B' q cp w R xs:=⟨h.rows.mono hR hle,h.cap,h.len⟩
theorem SlB.base {α:Type} {B:Kn} {q:Option Addr} {cp w:Nat} {R:Rel α} {xs:List α} (h:SlB B q cp w R xs) {i:Nat} {z:α} (hz:xs[i]? = some z) :∃b o,q=some ⟨b,o,none⟩:=h.rows.base hz
theorem SlB.elem {α:Type} {B:Kn} {b o cp w:Nat} {R:Rel α} {xs:List α} (h:SlB B (some ⟨b,o,none⟩) cp w R xs) {i:Nat} {z:α} (hz:xs[i]? = some z) :∃row,R B row z∧Za7 B b (o+i*w) row:=h.rows.elem hz
def Zv6:Rel Str:=fun _ row x=>row=[str x]∧x.length≤140737488355328
theorem Zv6.mono:Mono Zv6:=fun _ _ _ h=>h
def ZvR:Rel DUser:=fun _ row x=>row=[str x.name,str x.pass,.int .i64 x.quota]∧x.name.length≤140737488355328∧x.pass.length≤140737488355328
theorem ZvR.mono:Mono ZvR:=fun _ _ _ h=>h
def ZnW:Rel DGrant:=fun _ row x=>row=[str x.user,.int .i64 x.rights]∧x.user.length≤140737488355328
theorem ZnW.mono:Mono ZnW:=fun _ _ _ h=>h
def ZsD:Rel DMail:=fun _ row x=>row=[.int .i64 x.uid,.int .i64 x.flags,str x.text]∧x.text.length≤140737488355328
theorem ZsD.mono:Mono ZsD:=fun _ _ _ h=>h
def ZvT:Rel DItem:=fun B row x=>∃q cp,row=[.int .i64 x.id,str x.fr,str x.text,.slice q x.left.length cp]∧SlB B q cp 1 Zv6 x.left∧x.fr.length≤140737488355328∧x.text.length≤140737488355328
theorem ZvT.mono:Mono ZvT:=by rintro B B' hle row x ⟨q,cp,h1,h2,h3,h4⟩;exact ⟨q,cp,h1,h2.mono Zv6.mono hle,h3,h4⟩
def Zq6:Rel DFolder:=fun B row x=>∃q cp q' cp',row=[str x.owner,str x.name,.slice q x.grants.length cp,.int .i64 x.next,.slice q' x.mail.length cp']∧SlB B q cp 2 ZnW x.grants∧SlB B q' cp' 3 ZsD x.mail∧x.owner.length≤140737488355328∧x.name.length≤140737488355328
theorem Zq6.mono:Mono Zq6:=by rintro B B' hle row x ⟨q,cp,q',cp',h1,h2,h3,h4⟩;exact ⟨q,cp,q',cp',h1,h2.mono ZnW.mono hle,h3.mono ZsD.mono hle,h4⟩
end Go.BL
namespace Go.BL
open Go.Conc (G)
set_option linter.unusedVariables false
def Zbn (Tg Tm:TypeId):Zi8 DFolder:=fun row x ins=>∃q c q' c' i1 i2,row=[str x.owner,str x.name,.slice q x.grants.length c,.int .i64 x.next,.slice q' x.mail.length c']∧ins=i1 ++ i2∧Z2 Kn.none i1 q c Tg 2 ZL x.grants∧Z2 Kn.none i2 q' c' Tm 3 ZM x.mail∧
  x.owner.length≤2000000∧x.name.length≤2000000∧x.grants.length≤2000000∧x.mail.length≤2000000
theorem Zbn.known {Tg Tm:TypeId} {B:Kn} {row:List Value} {x:DFolder} {ins:Cells} (h:Zbn Tg Tm row x ins) (hm :∀q,q∈ins→B.mem q.1=some q.2):Zb B row x:=by
  obtain ⟨q,c,q',c',i1,i2,h1,rfl,h2,h3,h4,h5,h6,h7⟩:=h
  exact ⟨q,c,q',c',h1,⟨h2.rowsF ZL.any fun p hp=>hm p (List.mem_append.2 (.inl hp)),h2.cap,h6⟩,⟨h3.rowsF ZM.any fun p hp=>hm p (List.mem_append.2 (.inr hp)),h3.cap,h7⟩,h4,h5⟩
theorem All3.set {α:Type} {R:Zi8 α} {rows:List (List Value)} {xs:List α} {s:Cells} (h:All3 R rows xs s) {row:List Value} {z:α} {ins:Cells} (hz:R row z ins) :∀k,k<xs.length→∃s' gl,All3 R (rows.set k row) (xs.set k z) s'∧(s ++ ins).Perm (s' ++ gl):=by
  induction h with
  | nil=>intro k hk;simp at hk
  | @cons row0 x ins0 rest rows xs h1 h2 ih=>
    intro k hk
    cases k with
    | zero=>
      refine ⟨ins ++ rest,ins0,.cons hz h2,?_⟩
      exact Ztv fun f g h0 ha hc=>by simp only [ha];omega
    | succ k=>
      obtain ⟨s',gl,h3,h4⟩:=ih k (by simpa using hk)
      refine ⟨ins0 ++ s',gl,.cons h1 h3,?_⟩
      rw [List.append_assoc,List.append_assoc]
      exact List.Perm.append_left _ h4
theorem All3.zeros {α:Type} {R:Zi8 α} {row:List Value} {d:α} (h:R row d []) :∀m,All3 R (List.replicate m row) (List.replicate m d) []
  | 0=>.nil
  | m+1=>by rw [List.replicate_succ,List.replicate_succ];exact All3.cons (ins:=[]) h (All3.zeros h m)
theorem Zc1.zeros {α:Type} {b:Nat} {T:TypeId} {R:Zi8 α} {zs:List Value} {d:α} {m c w:Nat} (hw:zs.length=w) (hR:R zs d []) (hmc:m≤c):Zc1 (ZaE b (zrow zs c) T) (some ⟨b,0,Option.none⟩) c T w R (List.replicate m d):=by
  refine ⟨List.replicate m zs,_,[],All3.zeros hR m,fun r hr=>by rw [(List.mem_replicate.1 hr).2];exact hw,by rw [List.append_nil],?_,.inr ⟨b,_,rfl,by rw [Zcq,hw],?_,rfl,by rw [List.length_replicate];exact hmc⟩⟩
  · rw [List.length_replicate]
    exact (Zcq (z:=zs) (c:=m)).trans (by rw [hw])
  · rw [List.length_replicate]
    have e:zrow zs c=zrow zs m ++ zrow zs (c - m):=by
      simp only [zrow,← List.flatten_append,List.replicate_append_replicate]
      rw [show m+(c - m)=c from by omega]
    rw [e,List.take_append_of_le_length (by rw [Zcq,hw];exact Nat.le_refl _),List.take_of_length_le (by rw [Zcq,hw];exact Nat.le_refl _)]
    rfl
theorem Zc1.ptr {α:Type} {l:Cells} {p:Option Addr} {c:Nat} {T:TypeId} {w:Nat} {R:Zi8 α} {xs:List α} (h:Zc1 l p c T w R xs) (hx:0<xs.length) :∃b,p=some ⟨b,0,Option.none⟩:=by
  obtain ⟨rows,blk,ins,_,_,_,_,⟨_,h0,_,_⟩ | ⟨b,arr,rfl,_⟩⟩:=h
  · omega
  · exact ⟨b,rfl⟩
section
variable {P:PJ} {n:Nat} {ops:Array Oper} {i:Nat} {K:Zbj} {S:Env} {D:List Deferred} {B:Kn} {L:List Cells} {Q:Exit→Zay}
variable {dst:Option Tmp} {ty:TypeId} {pos:String} {after:Array Edge} {g:Option (Nat × Bool)}
end
section
variable {P:PJ} {n:Nat} {ops:Array Oper} {i:Nat} {K:Zbj} {S:Env} {D:List Deferred} {B BV:Kn} {L:List Cells}
variable {dst:Option Tmp} {ty:TypeId} {pos:String} {after:Array Edge} {g:Option (Nat × Bool)}
end
theorem Z2.ptr {α:Type} {B:Kn} {l:Cells} {p:Option Addr} {c:Nat} {T:TypeId} {w:Nat} {R:Rel α} {xs:List α} (h:Z2 B l p c T w R xs) (hx:0<xs.length) :∃b,p=some ⟨b,0,none⟩:=by
  obtain ⟨rows,_,_,_,⟨_,h0,_,_⟩ | ⟨b,arr,rfl,_⟩⟩:=h
  · omega
  · exact ⟨b,rfl⟩
def fill {α:Type} (xs:List α) (d:α) (k:Nat):List α:=xs.take k ++ List.replicate (xs.length - k) d
theorem ZA.borrowL {P:PJ} {f:FuncId} {args:List Value} {B:Kn} {ls Ls:List Cells} {Post:Value→Kn→List Cells→Prop}
    (h:(∀p,p∈ls.flatten→(B.add ls.flatten).mem p.1=some p.2)→ZA P f args (B.add ls.flatten) Ls Post) :
    ZA P f args B (ls ++ Ls) (fun v B' Ls'=>∃B₂ Ls₂,Ls'=ls ++ Ls₂∧B'=B₂.minus ls.flatten∧(B.add ls.flatten).le B₂∧(∀p,p∈ls.flatten→(B.add ls.flatten).mem p.1=some p.2)∧(B.add ls.flatten).minus ls.flatten=B∧Post v B₂ Ls₂):=fun X kind c cs F hk hA=>by
  have key:=ZA.borrow (l:=ls.flatten) (Ls:=Ls) h X kind c cs F hk fun v B' Ls' hle ⟨B₂,Ls₂,h1,h2,h3,h4,h5,h6⟩=>by
    have:=hA v B' (ls ++ Ls₂) hle ⟨B₂,Ls₂,rfl,h2,h3,h4,h5,h6⟩
    subst h1
    rw [List.flatten_cons]
    rwa [List.flatten_append] at this
  rw [List.flatten_cons] at key
  rwa [List.flatten_append]
section
variable {P:PJ} {C:Cx P} {k:List Item} {n:Nat} {ops:Array Oper} {i:Nat} {S:Env} {D:List Deferred} {B BV:Kn} {L:List Cells} {Q:Exit→Zay}
variable {α:Type} {xs:List α} {l:Cells} {p:Option Addr} {cp:Nat} {T:TypeId} {w:Nat}
end
end Go.BL
namespace Go.BL
open Go.ChangeShapes Go.WideShapes Go.ChangeAt Go.RowKit
set_option linter.unusedVariables false
section
variable {H:Type} (enc:TypeId × Value→H) (P:Program) (W:World)
def Zq4 (t:TypeId) (p:List Value→Prop):Prop:=∀(fuel:Nat) (cs:List Value) (d:DataW H) (ps:List MemPlace),DataW.trod enc P W 0 (fun _=>true) true fuel t cs=some (d,ps)→(∀m,m∈d.weights P t→m≤reachBytes)→p cs
end
section
variable {H:Type} {enc:TypeId × Value→H} {P:Program} {W:World}
theorem Zq4.mono {t:TypeId} {p p':List Value→Prop} (h:Zq4 enc P W t p) (hp :∀cs,p cs→p' cs):Zq4 enc P W t p':=fun fuel cs d ps ht hw=>hp cs (h fuel cs d ps ht hw)
end
end Go.BL
namespace Go.BL
section
variable {P:PJ} {n:Nat} {ops:Array Oper} {i:Nat} {K:Zbj} {S:Env} {D:List Deferred} {B:Kn} {L:List Cells}
variable {dst:Option Tmp} {ty:TypeId} {pos:String} {after:Array Edge} {g:Option (Nat × Bool)}
end
end Go.BL
namespace Go.BL
set_option linter.unusedVariables false
theorem All3.at {α:Type} {R:Zi8 α} {rows:List (List Value)} {xs:List α} {s:Cells} (h:All3 R rows xs s) :∀{i:Nat} {x:α},xs[i]? = some x→∃row li lr,rows[i]? = some row∧R row x li∧s.Perm (li ++ lr)∧∀x' li',R row x' li'→∃s',All3 R rows (xs.set i x') s'∧s'.Perm (li' ++ lr):=by
  induction h with
  | nil=>intro i x hx;simp at hx
  | @cons row0 x0 ins0 rest rows xs h1 h2 ih=>
    intro i x hx
    cases i with
    | zero=>
      simp only [List.getElem?_cons_zero,Option.some.injEq] at hx
      subst hx
      exact ⟨row0,ins0,rest,rfl,h1,.refl _,fun x' li' hr=>⟨li' ++ rest,.cons hr h2,.refl _⟩⟩
    | succ i=>
      obtain ⟨row,li,lr,e1,e2,e3,e4⟩:=ih (by simpa using hx)
      refine ⟨row,li,ins0 ++ lr,by simpa using e1,e2,?_,fun x' li' hr=>?_⟩
      · exact (List.Perm.append_left ins0 e3).trans (by rw [← List.append_assoc,← List.append_assoc];exact List.Perm.append_right lr List.perm_append_comm)
      · obtain ⟨s',f1,f2⟩:=e4 x' li' hr
        exact ⟨ins0 ++ s',.cons h1 f1,(List.Perm.append_left ins0 f2).trans (by rw [← List.append_assoc,← List.append_assoc];exact List.Perm.append_right lr List.perm_append_comm)⟩
theorem Zc1.open1 {α:Type} {l:Cells} {p:Option Addr} {c:Nat} {T:TypeId} {w:Nat} {R:Zi8 α} {xs:List α} (h:Zc1 l p c T w R xs) {i:Nat} {x:α} (hx:xs[i]? = some x) :
∃b arr row li lr,p=some ⟨b,0,none⟩∧R row x li∧row.length=w∧l.Perm (li ++ (ZaE b arr T ++ lr))∧(∀(j:Nat) (u:Value),row[j]? = some u→arr[i*w+j]? = some u)∧
∀x' li',R row x' li'→Zc1 (li' ++ (ZaE b arr T ++ lr)) p c T w R (xs.set i x'):=by
  obtain ⟨rows,blk,ins,h1,h2,h3,hvl⟩:=h
  have hlt:=(List.getElem?_eq_some_iff.1 hx).1
  obtain ⟨hl0,⟨_,h0,_,_⟩ | ⟨b,arr,rfl,ha,ht,rfl,hm⟩⟩:=hvl
  · omega
  · obtain ⟨row,li,lr,e1,e2,e3,e4⟩:=h1.at hx
    refine ⟨b,arr,row,li,lr,rfl,e2,h2 row (List.mem_of_getElem? e1),?_,fun j u hj=>?_,fun x' li' hr=>?_⟩
    · refine h3.trans ((List.Perm.append_left _ e3).trans ?_)
      rw [← List.append_assoc,← List.append_assoc];exact List.Perm.append_right lr List.perm_append_comm
    · have hu:=Zf5 h2 e1 hj
      rw [← ht,List.getElem?_take] at hu
      split at hu
      · exact hu
      · cases hu
    · obtain ⟨s',f1,f2⟩:=e4 x' li' hr
      refine ⟨rows,ZaE b arr T,s',f1,h2,?_,by rw [List.length_set];exact hl0,.inr ⟨b,arr,rfl,ha,by rw [List.length_set];exact ht,rfl,by rw [List.length_set];exact hm⟩⟩
      refine List.Perm.trans ?_ (List.Perm.append_left _ f2.symm)
      rw [← List.append_assoc,← List.append_assoc];exact List.Perm.append_right lr List.perm_append_comm
section
variable {P:PJ} {n:Nat} {Q:Exit→Zay} {S:Env} {D:List Deferred} {B:Kn} {L:List Cells} {c:Code}
theorem ZuG {L':List Cells} (hp:L.flatten.Perm L'.flatten) (h:wpS P n c Q S D B L'):wpS P n c Q S D B L:=fun C k T hn hT hA=>by
  refine C.X.drop (r:=L'.flatten ++ C.F) (gl:=[]) ?_ (h C k T hn hT hA)
  rw [List.append_nil];exact hp.append_right C.F
end
end Go.BL
namespace Go.BL
set_option linter.unusedVariables false
theorem All3.row {α:Type} {R:Zi8 α} {rows:List (List Value)} {xs:List α} {s:Cells} (h:All3 R rows xs s) {z x:α} (f:List Value→List Value) (hf :∀row li,R row x li→R (f row) z li) :∀{k:Nat},xs[k]? = some x→∃row,rows[k]? = some row∧All3 R (rows.set k (f row)) (xs.set k z) s:=by
  induction h with
  | nil=>intro k hx;simp at hx
  | @cons row0 x0 ins0 rest rows xs h1 h2 ih=>
    intro k hx
    cases k with
    | zero=>
      simp only [List.getElem?_cons_zero,Option.some.injEq] at hx
      subst hx
      exact ⟨row0,rfl,.cons (hf _ _ h1) h2⟩
    | succ k=>
      obtain ⟨row,e1,e2⟩:=ih (k:=k) (by simpa using hx)
      exact ⟨row,by simpa using e1,.cons h1 e2⟩
theorem Zc1.cell {α:Type} {l:Cells} {p:Option Addr} {c:Nat} {T:TypeId} {w:Nat} {R:Zi8 α} {xs:List α} (h:Zc1 l p c T w R xs) {i:Nat} {x:α} (hx:xs[i]? = some x) {B:Kn} {L:List Cells} (j:Nat) (hj:L[j]? = some l) :
∃b row li lr,p=some ⟨b,0,none⟩∧R row x li∧row.length=w∧l.Perm (li ++ lr)∧(∀(m:Nat) (u:Value),row[m]? = some u→Zbp B L.flatten ⟨b,i*w+m,none⟩ u)∧∀x' li',R row x' li'→Zc1 (li' ++ lr) p c T w R (xs.set i x'):=by
  obtain ⟨b,arr,row,li,lr,e1,e2,e3,e4,e5,e6⟩:=h.open1 hx
  refine ⟨b,row,li,ZaE b arr T ++ lr,e1,e2,e3,e4,fun m u hm=>⟨rfl,arr.toArray,T,(0,0),.inr ?_,by simpa using e5 m u hm⟩,e6⟩
  obtain ⟨r,h1,h2⟩:=Zal [] [] hj
  rw [List.append_nil] at h1
  rw [h1.mem_iff]
  refine List.mem_append_left _ (e4.mem_iff.2 (List.mem_append_right _ (List.mem_append_left _ ?_)))
  exact List.mem_singleton.2 rfl
section
variable {P:PJ} {n:Nat} {ops:Array Oper} {i:Nat} {K:Zbj} {S:Env} {D:List Deferred} {B:Kn} {L:List Cells}
variable {dst:Option Tmp} {ty:TypeId} {pos:String} {after:Array Edge} {g:Option (Nat × Bool)}
end
end Go.BL
namespace Go.BL
open Go.Conc (G)
set_option linter.unusedVariables false
section
variable {P:PJ} {n:Nat} {ops:Array Oper} {i:Nat} {K:Zbj} {S:Env} {D:List Deferred} {B:Kn} {L:List Cells}
variable {dst:Option Tmp} {ty:TypeId} {pos:String} {after:Array Edge} {g:Option (Nat × Bool)}
theorem Zte {α:Type} {R:Zi8 α} {xs:List α} (z:α) {t u e:TypeId} {x y:Operand} {sz by_ m c c2:Nat} {p q:Option Addr} {row:List Value} {l:Cells} {inss r:List Cells} (j:Nat) (ks:List Nat) (hpk:Zbk L (j :: ks)=some (l :: inss,r)) (hnd:Zgl (j :: ks)=true) (hv:Zc1 l p c e sz R xs) (hm:m=xs.length) (hg:Zr ops S g=some true) (hd:ZD n dst=true)
    (he:ZcA P t e sz by_=true) (hu:(match P.underlying u with | some (.slice _)=>true | _=>false)=true) (hx:ev S x=some (.slice p m c)) (hy:ev S y=some (.slice q 1 c2)) (hs:ZaM B L.flatten q row) (hone:row.all ZgI=true) (hrl:row.length=sz) (ins0:Cells) (hi0:inss.flatten=ins0) (hr:R row z ins0) (hb1:(xs.length+1)*by_≤140737488355328)
    (h :∀l' p' c',Zc1 l' p' c' e sz R (xs ++ [z])→K (.slice p' (xs ++ [z]).length c') D B (Zdr r (j :: ks) (l' :: inss.map fun _=>[]))):opX P n ops i ⟨dst,.call ⟨.builtin .append,#[x,y],#[t,u]⟩,ty,pos,after,g⟩ K S D B L:=by
  subst hm
  subst hi0
  obtain ⟨rows,blk,inn,h1,h2,h3,h4⟩:=hv
  have hpp:=Za2 (j :: ks) L (l :: inss) r hpk
  have p1:L.flatten.Perm (blk ++ (inn ++ (inss.flatten ++ r.flatten))):=by
    refine hpp.trans ?_
    simp only [List.flatten_cons,List.append_assoc]
    refine (h3.append_right _).trans ?_
    rw [List.append_assoc]
  refine Znz (L':=[blk,inn ++ (inss.flatten ++ r.flatten)]) (K':=fun v D' B' L₁=>∃blk' p' c',L₁=[blk',inn ++ (inss.flatten ++ r.flatten)]∧v = .slice p' (xs.length+1) c'∧D'=D∧B'=B∧ZhL blk' p' (xs.length+1) c' e sz (rows.flatten ++ row)) ?_ ?_ ?_
  · simpa using p1
  · refine Zev 0 rfl h4 hg hd he hu hx hy ?_ (by rw [hrl,Nat.one_mul]) hone hb1 fun l' p' c' hv'=>⟨l',p',c',rfl,rfl,rfl,rfl,hv'⟩
    cases q with
    | none=>exact hs
    | some a=>
      intro jj v hjj
      exact (hs jj v hjj).perm (by simpa using p1)
  · rintro v D' B' L₁ hle ⟨blk',p',c',rfl,rfl,rfl,rfl,hv'⟩
    have hnew:Zc1 (blk' ++ (inn ++ inss.flatten)) p' c' e sz R (xs ++ [z]):=⟨rows ++ [row],blk',inn ++ inss.flatten,h1.snoc hr,fun r' hr'=>by
      rcases List.mem_append.1 hr' with hr' | hr'
      · exact h2 r' hr'
      · rw [List.mem_singleton.1 hr'];exact hrl,.refl _,by rw [List.length_append,List.flatten_append];simpa using hv'⟩
    refine ⟨_,?_,by have:=h _ _ _ hnew;rwa [List.length_append] at this⟩
    have hq:=Zdq ((blk' ++ (inn ++ inss.flatten)) :: inss.map fun _=>[]) r (j :: ks) (Zdt hnd) (fun jj hj=>Zds (j :: ks) L (l :: inss) r hpk jj (.inr hj))
    have hnil:((inss.map fun _=>([]:Cells))).flatten=[]:=by
      clear hpk hpp h hnew hs h3 p1 hq
      induction inss with
      | nil=>rfl
      | cons a as ih=>simp
    rw [List.flatten_cons,hnil,List.append_nil] at hq
    refine List.Perm.trans ?_ hq
    simp only [List.flatten_cons,List.flatten_nil,List.append_nil,List.append_assoc]
    exact .refl _
theorem ZaL.borrowL {f:FuncId} {args:List Value} {ls:List Cells} {v:Value} (h:(∀p,p∈ls.flatten→(B.add ls.flatten).mem p.1=some p.2)→ZaL P f args (B.add ls.flatten) v):ZA P f args B ls (fun v' B' Ls=>v'=v∧B'=B∧Ls=ls):=by
  have:=(ZA.borrowL (P:=P) (Ls:=[]) h).mono (Post':=fun v' B' Ls=>v'=v∧B'=B∧Ls=ls) fun v' B' Ls' _ ⟨B₂,Ls₂,a1,a2,_,_,a3,a4,a5,a6⟩=>by subst a5;subst a6;exact ⟨a4,a2.trans a3,by rw [a1,List.append_nil]⟩
  rwa [List.append_nil] at this
theorem Zf7 {f:FuncId} {xs:List Operand} {vs:List Value} {ats:Array TypeId} {v:Value} {ls r:List Cells} (js:List Nat) (hp:Zbk L js=some (ls,r)) (hput:Zdr r js ls=L) (hn:Zgl js=true) (hg:Zr ops S g=some true) (hd:ZD n dst=true) (he:enters P f=true) (ha:evs S xs=some vs)
    (hc:ZA P f vs B ls (fun v' B' Ls=>v'=v∧B'=B∧Ls=ls)) (h:K v D B L):opX P n ops i ⟨dst,.call ⟨.value (.func f),xs.toArray,ats⟩,ty,pos,after,g⟩ K S D B L:=
  Z4 js hp hn hg hd he ha hc fun v' B' Ls' hle ⟨h1,h2,h3⟩=>by subst h1;subst h2;subst h3;rw [hput];exact h
end
theorem ZA.borrowK {P:PJ} {B:Kn} {f:FuncId} {args:List Value} {Ls:List Cells} {Post:Value→Kn→List Cells→Prop} (k:Nat)
    (h:(∀p,p∈(Ls.take k).flatten→(B.add (Ls.take k).flatten).mem p.1=some p.2)→ZA P f args (B.add (Ls.take k).flatten) (Ls.drop k) Post) :
    ZA P f args B Ls (fun v B' Ls'=>∃B₂ Ls₂,Ls'=Ls.take k ++ Ls₂∧B'=B₂.minus (Ls.take k).flatten∧(B.add (Ls.take k).flatten).le B₂∧(∀p,p∈(Ls.take k).flatten→(B.add (Ls.take k).flatten).mem p.1=some p.2)∧(B.add (Ls.take k).flatten).minus (Ls.take k).flatten=B∧Post v B₂ Ls₂):=by
  have:=ZA.borrowL (P:=P) (ls:=Ls.take k) (Ls:=Ls.drop k) h
  rwa [List.take_append_drop] at this
theorem Zp3 {B:Kn} {ls:List Cells} {l:Cells} (hm :∀p,p∈ls.flatten→B.mem p.1=some p.2) (k:Nat) (hk:ls[k]? = some l) :∀q,q∈l→B.mem q.1=some q.2:=fun q hq=>hm q (List.mem_flatten.2 ⟨l,List.mem_of_getElem? hk,hq⟩)
theorem Z2.lendK {α:Type} {B BV:Kn} {l:Cells} {ls:List Cells} {p:Option Addr} {c:Nat} {T:TypeId} {w:Nat} {R:Rel α} {xs:List α} (h:Z2 BV l p c T w R xs) (hR:Zq7 R) (k:Nat) (hk:ls[k]? = some l) (hm :∀q,q∈ls.flatten→(B.add ls.flatten).mem q.1=some q.2) (hl:xs.length≤2000000):SlK (B.add ls.flatten) p c w R xs:=⟨h.rowsF hR (Zp3 hm k hk),h.cap,hl⟩
theorem Zc1.lendK {α:Type} {B:Kn} {l:Cells} {ls:List Cells} {p:Option Addr} {c:Nat} {T:TypeId} {w:Nat} {R:Zi8 α} {R':Rel α} {xs:List α} (h:Zc1 l p c T w R xs) (hR :∀{B:Kn} {row:List Value} {x:α} {ins:Cells},R row x ins→(∀q,q∈ins→B.mem q.1=some q.2)→R' B row x) (hM:Mono R') (k:Nat) (hk:ls[k]? = some l) (hm :∀q,q∈ls.flatten→(B.add ls.flatten).mem q.1=some q.2) (hl:xs.length≤2000000):SlK (B.add ls.flatten) p c w R' xs:=h.known (fun _ _ _ a b=>hR a b) hM (Zp3 hm k hk) hl
theorem ZuS {P:PJ} {n:Nat} {Q:Exit→Zay} {S:Env} {D:List Deferred} {B:Kn} {L:List Cells} {c:Code} (es:List Cells) (he:es.flatten=[]) (h:wpS P n c Q S D B (L ++ es)):wpS P n c Q S D B L:=
  ZuG (by rw [List.flatten_append,he,List.append_nil]) h
end Go.BL
namespace Go.BL
open Go.Conc (G)
set_option linter.unusedVariables false
def errv (tE:TypeId) (a:Nat→Addr):Nat→Value
  | 0=>.nilIface
  | k+1=>.iface tE (.pointer (some (a k)))
structure ErrsB (tE:TypeId) (gs:List Nat) (B:Kn) (a:Nat→Addr):Prop where
  row :∀k,k<4→Za7 B (gs.getD k 0) 0 [.iface tE (.pointer (some (a k)))]
  cell :∀k,k<4→∃cs T,B.mem (a k).block=some (.cells cs T (0,0))
  ne :∀i j,i<4→j<4→i≠j→a i≠a j
theorem ErrsB.mono {tE:TypeId} {gs:List Nat} {B B':Kn} {a:Nat→Addr} (h:ErrsB tE gs B a) (hle:B.le B'):ErrsB tE gs B' a:=
  ⟨fun k hk=>(h.row k hk).mono hle,fun k hk=>let ⟨cs,T,e⟩:=h.cell k hk;⟨cs,T,hle _ _ e⟩,h.ne⟩
theorem ErrsB.perm {tE:TypeId} {gs:List Nat} {B:Kn} {a:Nat→Addr} (h:ErrsB tE gs B a) (p0 p1 p2 p3:Nat) (hp:(p0<4∧p1<4∧p2<4∧p3<4)∧p0≠p1∧p0≠p2∧p0≠p3∧p1≠p2∧p1≠p3∧p2≠p3) :
    ErrsB tE [gs.getD p0 0,gs.getD p1 0,gs.getD p2 0,gs.getD p3 0] B (fun k=>a (if k=0 then p0 else if k=1 then p1 else if k=2 then p2 else p3)):=by
  obtain ⟨⟨h0,h1,h2,h3⟩,e⟩:=hp
  refine ⟨fun k hk=>?_,fun k hk=>?_,fun i j hi hj hne=>?_⟩
  · match k,hk with
    | 0,_=>exact h.row p0 h0
    | 1,_=>exact h.row p1 h1
    | 2,_=>exact h.row p2 h2
    | 3,_=>exact h.row p3 h3
  · match k,hk with
    | 0,_=>exact h.cell p0 h0
    | 1,_=>exact h.cell p1 h1
    | 2,_=>exact h.cell p2 h2
    | 3,_=>exact h.cell p3 h3
  · refine h.ne _ _ ?_ ?_ ?_
    · split
      · omega
      · split
        · omega
        · split <;> omega
    · split
      · omega
      · split
        · omega
        · split <;> omega
    · intro he
      match i,j,hi,hj with
      | 0,0,_,_=>exact hne rfl
      | 0,1,_,_=>exact e.1 he
      | 0,2,_,_=>exact e.2.1 he
      | 0,3,_,_=>exact e.2.2.1 he
      | 1,0,_,_=>exact e.1 he.symm
      | 1,1,_,_=>exact hne rfl
      | 1,2,_,_=>exact e.2.2.2.1 he
      | 1,3,_,_=>exact e.2.2.2.2.1 he
      | 2,0,_,_=>exact e.2.1 he.symm
      | 2,1,_,_=>exact e.2.2.2.1 he.symm
      | 2,2,_,_=>exact hne rfl
      | 2,3,_,_=>exact e.2.2.2.2.2 he
      | 3,0,_,_=>exact e.2.2.1 he.symm
      | 3,1,_,_=>exact e.2.2.2.2.1 he.symm
      | 3,2,_,_=>exact e.2.2.2.2.2 he.symm
      | 3,3,_,_=>exact hne rfl
section
variable {P:Program}
theorem Zr5 {a:Addr} {B:Kn} {L:Cells} {Q:Bool→Kn→Cells→Prop} (q:Q true B L):hb P (sameAddr a a) Q B L:=by
  have e:sameAddr a a=pure true:=by simp [sameAddr]
  rw [e];exact q
theorem Zhg {x:Addr} {cx:Array Value} {tx:TypeId} {B:Kn} {L:Cells} {Q:Bool→Kn→Cells→Prop} (hx:Zj3 B L x.block (.cells cx tx (0,0))) (q:Q false B L):hb P (stringish x) Q B L:=by
  unfold stringish
  rw [Zq]
  refine ⟨_,hx,?_⟩
  simp only [ZbZ,Zw,ZbK,Nat.not_lt_zero,decide_false,Bool.and_false,Bool.false_eq_true,if_false]
  rw [Zq]
  refine ⟨_,hx,?_⟩
  simp only [Zj8,Zw,ZbK]
  refine ⟨_,hx,?_⟩
  simp only [ZbZ,Nat.not_lt_zero,decide_false,Bool.and_false]
  exact q
theorem ZlC {x:Addr} {cx:Array Value} {tx:TypeId} {B:Kn} {L:Cells} {Q:Unit→Kn→Cells→Prop} (hx:Zj3 B L x.block (.cells cx tx (0,0))) (q:Q () B L):hb P (noView x) Q B L:=by
  unfold noView viewAt
  simp only [Zq]
  refine ⟨_,hx,?_⟩
  simp only [Zj8,Option.isSome_some,if_true,Zw,ZbK]
  exact q
theorem Zr6 {a b:Addr} {ca cb:Array Value} {ta tb:TypeId} {B:Kn} {L:Cells} {Q:Bool→Kn→Cells→Prop} (hne:a≠b) (ha:Zj3 B L a.block (.cells ca ta (0,0))) (hb':Zj3 B L b.block (.cells cb tb (0,0))) (q:Q false B L):hb P (sameAddr a b) Q B L:=by
  unfold sameAddr
  by_cases h:a.block=b.block
  · have e1:(a.block == b.block)=true:=by simpa using h
    have e2:(a == b)=false:=by simpa using hne
    simp only [e1,if_true,e2];exact q
  · have e1:(a.block == b.block)=false:=by simpa using h
    simp only [e1,Bool.false_eq_true,if_false,Zq]
    refine ⟨_,ha,?_⟩
    have f1:ZbZ a.off (.cells ca ta (0,0))=false:=by simp [ZbZ]
    simp only [f1,Zw,ZbK,Bool.false_eq_true,if_false,Bool.false_and,Zq]
    refine ⟨_,hb',?_⟩
    simp only [Zw,ZbK,Zq]
    refine ZlC ha ?_
    rw [Zq]
    refine ZlC hb' ?_
    unfold mayBeOne
    simp only [Zq]
    refine Zhg ha ?_
    rw [Zq]
    refine Zhg hb' ?_
    simp only [Zq]
    refine ⟨_,ha,?_⟩
    simp only [Zw,ZbK,Zq]
    refine ⟨_,hb',?_⟩
    simp only [Bool.false_and,Bool.or_false,Bool.false_eq_true,if_false,Zw,ZbK]
    exact q
theorem Zve {tI tE te:TypeId} {ms:Array (String × TypeId)} {i:TypeInfo} {d:Nat} {x y:Addr} {B:Kn} {L:Cells} {Q:Bool→Kn→Cells→Prop} (hi:P.underlying tI=some (.interface ms)) (hp:P.underlying tE=some (.pointer te)) (hinfo:P.info? tE=some i) (hc:i.comparable=true) (hs:Zae P te=some (d+1))
    (h:hb P (sameAddr x y) Q B L):hb P (Op.equal tI (.iface tE (.pointer (some x))) (.iface tE (.pointer (some y)))) Q B L:=by
  show hb P (Op.equalIn (9999+1) tI _ _) Q B L
  rw [Op.equalIn,Zq,Zy hi]
  simp only [ne_eq,not_true_eq_false,if_false,Zq,ZbT hinfo,hc,Bool.not_true,Bool.false_eq_true]
  show hb P (Op.equalIn (9998+1) tE _ _) Q B L
  rw [Op.equalIn,Zq,Zy hp]
  simp only [Zq,ZaY hs,ne_eq,Nat.add_eq_zero_iff,Nat.one_ne_zero,and_false,not_false_eq_true,if_true]
  exact h
theorem Zqz {tE:TypeId} {gs:List Nat} {B:Kn} {a:Nat→Addr} (h:ErrsB tE gs B a) {k:Nat} (hk:k<4) (L:Cells) :∃cs T,Zj3 B L (a k).block (.cells cs T (0,0)):=
  let ⟨cs,T,e⟩:=h.cell k hk;⟨cs,T,.inl e⟩
theorem Zvf {tI tE te:TypeId} {ms:Array (String × TypeId)} {i:TypeInfo} {d:Nat} {c k:Nat} {gs:List Nat} {a:Nat→Addr} {B:Kn} {L:Cells} {Q:Bool→Kn→Cells→Prop} (hE:ErrsB tE gs B a) (hcb:c<5) (hkb:k<4) (hi:P.underlying tI=some (.interface ms)) (hp:P.underlying tE=some (.pointer te)) (hinfo:P.info? tE=some i) (hc:i.comparable=true) (hs:Zae P te=some (d+1))
    (h:Q (decide (c=k+1)) B L):hb P (Op.equal tI (errv tE a c) (errv tE a (k+1))) Q B L:=by
  cases c with
  | zero=>
    show hb P (Op.equalIn (9999+1) tI .nilIface _) Q B L
    rw [Op.equalIn,Zq,Zy hi]
    simp only [errv,Zw]
    simpa using h
  | succ c=>
    refine Zve hi hp hinfo hc hs ?_
    by_cases e:c=k
    · subst e
      exact Zr5 (by simpa using h)
    · obtain ⟨cs,T,h1⟩:=Zqz hE (k:=c) (by omega) L
      obtain ⟨cs',T',h2⟩:=Zqz hE hkb L
      exact Zr6 (hE.ne c k (by omega) hkb e) h1 h2 (by simpa [e] using h)
end
section
variable {P:PJ} {n:Nat} {ops:Array Oper} {i:Nat} {K:Zbj} {S:Env} {D:List Deferred} {B:Kn} {L:List Cells}
variable {dst:Option Tmp} {ty:TypeId} {pos:String} {after:Array Edge} {g:Option (Nat × Bool)}
theorem Znc {t u:TypeId} {x:Operand} {tE:TypeId} {a:Nat→Addr} {c:Nat} {ms:Array (String × TypeId)} (hg:Zr ops S g=some true) (hd:ZD n dst=true) (hu:P.underlying t=some (.interface ms)) (hx:ev S x=some (errv tE a c)) (h:K (.bool (decide (c=0))) D B L):opX P n ops i ⟨dst,.binOp .eql t x (.const .nilIface) u,ty,pos,after,g⟩ K S D B L:=
  ZX hg hd (fun ρ hρ Q F q=>by
    have e0:ρ (.const .nilIface) = .nilIface:=hρ (.const .nilIface) _ rfl
    simp only [execOp,hρ x _ hx,e0,Zq]
    cases c with
    | zero=>
      simp only [errv,eqGuard,binOp,Bool.not_true,Bool.false_eq_true,if_false,Bool.or_true,if_true,Zw,Zq]
      show hb P (Op.equalIn (9999+1) t .nilIface .nilIface) _ B _
      rw [Op.equalIn,Zq,Zy hu]
      simp only [Zw]
      simpa using q
    | succ c=>
      simp only [errv,eqGuard,binOp,Bool.not_true,Bool.false_eq_true,if_false,Bool.or_true,if_true,Zw,Zq]
      show hb P (Op.equalIn (9999+1) t (.iface tE _) .nilIface) _ B _
      rw [Op.equalIn,Zq,Zy hu]
      simp only [Zw]
      simpa using q) h
theorem Zpg {t u:TypeId} {x y:Operand} {tE te:TypeId} {gs:List Nat} {a:Nat→Addr} {c k:Nat} {ms:Array (String × TypeId)} (hE:ErrsB tE gs B a) (hcb:c<5) (hkb:k<4) (hg:Zr ops S g=some true) (hd:ZD n dst=true) (hu:P.underlying t=some (.interface ms)) (hp:P.underlying tE=some (.pointer te)) (hinf:(P.info? tE).map (·.comparable)=some true) (hs:Zae P te=some 1)
    (hx:ev S x=some (errv tE a c)) (hy:ev S y=some (errv tE a (k+1))) (h:K (.bool (decide (c=k+1))) D B L):opX P n ops i ⟨dst,.binOp .eql t x y u,ty,pos,after,g⟩ K S D B L:=
  ZX hg hd (fun ρ hρ Q F q=>by
    obtain ⟨inf,hinfo,hc⟩:=Option.map_eq_some_iff.1 hinf
    have hpl:ZgS (errv tE a c) (errv tE a (k+1))=true:=by cases c <;> rfl
    simp only [execOp,hρ x _ hx,hρ y _ hy,Zq,ZfS hpl,ZlY (.inl hpl)]
    exact Zvf hE hcb hkb hu hp hinfo hc hs q) h
theorem ZhU {x:Operand} {xt t asserted:TypeId} {v:Value} {want:Array (String × TypeId)} (hg:Zr ops S g=some true) (hd:ZD n dst=true) (hu:P.underlying asserted=some (.interface want)) (hl:(P.info? t).map (fun i=>(lacking want i.methods).isEmpty)=some false) (hz:ZaF P asserted=some .nilIface)
    (hx:ev S x=some (.iface t v)) (h:K (.tuple #[.nilIface,.bool false]) D B L):opX P n ops i ⟨dst,.typeAssert x xt asserted true,ty,pos,after,g⟩ K S D B L:=
  ZX hg hd (fun ρ hρ Q F q=>by
    obtain ⟨j,hj,hm⟩:=Option.map_eq_some_iff.1 hl
    obtain ⟨m,hm⟩:=missingMethod_some (want:=want) (got:=j.methods) (fun e=>by rw [e] at hm;cases hm)
    simp only [execOp,Instr.typeAssert,hρ x _ hx,Zq,Zy hu,ZbT hj,hm,if_true,Zcm hz,Zw]
    exact q) h
theorem ZuQ {f:FuncId} {fn:Func} {ext:Array Value→Sem Value} {x:Operand} {ats:Array TypeId} {v r:Value} (hg:Zr ops S g=some true) (hd:ZD n dst=true) (hf:P.funcs[f]? = some fn) (hname:(fn.name == "runtime.NumGoroutine")=false) (hb0:fn.body.isNone=true) (hn:Extern.findNext fn=none) (he:Extern.find fn=some ext)
    (hx:ev S x=some v) (hr :∀(Q:Value→Kn→Cells→Prop) B L,hb P (ext #[v]) Q B L=Q r B L) (h:K r D B L):opX P n ops i ⟨dst,.call ⟨.value (.func f),#[x],ats⟩,ty,pos,after,g⟩ K S D B L:=
  ZeL hg hd fun ρ hρ F=>by
    have e0:ρ (.func f) = .func (.func f) #[] #[]:=hρ (.func f) _ rfl
    simp only [execOp,resolve,e0,Deferred.ofValue,Zq,Zw,invoke,List.map_toArray,List.map_cons,List.map_nil,hρ x _ hx]
    have e:(#[] ++ #[v]:Array Value) ++ #[] = #[v]:=by simp
    rw [e]
    simp only [callFunc,Zq,ZbG,hf,hname,Bool.false_eq_true,if_false,hb0,if_true,hn,he]
    refine ⟨rfl,?_⟩
    simp only [ZbK,Zw,Zq,hr]
    exact ⟨L,.of (.refl _),h⟩
theorem ZuN {f:FuncId} {fn:Func} {ext:Array Value→Sem Value} {x:Operand} {t:TypeId} {name:String} {ats:Array TypeId} {v u r:Value} (hg:Zr ops S g=some true) (hd:ZD n dst=true) (hf:P.funcs[f]? = some fn) (hname:(fn.name == "runtime.NumGoroutine")=false) (hb0:fn.body.isNone=true) (hn:Extern.findNext fn=none) (he:Extern.find fn=some ext)
    (hx:ev S x=some (.iface t v)) (hm :∀(k:Nat) (Q:FuncId × Value→Kn→Cells→Prop) B L,hb P (method (k+1) t v name) Q B L=Q (f,u) B L) (hr :∀(Q:Value→Kn→Cells→Prop) B L,hb P (ext #[u]) Q B L=Q r B L) (h:K r D B L):opX P n ops i ⟨dst,.call ⟨.invoke x name,#[],ats⟩,ty,pos,after,g⟩ K S D B L:=
  ZeL hg hd fun ρ hρ F=>by
    have e1:(#[Value.iface t v] ++ #[])[0]? = some (.iface t v):=by simp
    have e2:(#[Value.iface t v] ++ #[]).extract 1 (#[Value.iface t v] ++ #[]).size = #[]:=by apply Array.ext';simp
    have e3 : #[u] ++ #[] = #[u]:=by simp
    simp only [execOp,resolve,hρ x _ hx,Zq,Zw,invoke,List.map_toArray,List.map_nil,e1,e2,callMethod,ZbG]
    have hpos:0<Made.depth:=by decide
    obtain ⟨d,hd'⟩ :∃d,P.types.size+Made.depth=d+1:=⟨P.types.size+Made.depth - 1,by omega⟩
    rw [hd',hm]
    simp only [e3,callFunc,Zq,ZbG,hf,hname,Bool.false_eq_true,if_false,hb0,if_true,hn,he]
    refine ⟨rfl,?_⟩
    simp only [ZbK,Zw,Zq,hr]
    exact ⟨L,.of (.refl _),h⟩
end
end Go.BL
namespace Go.BL
open Go.ChangeShapes Go.WideShapes Go.ChangeAt Go.RowKit Go.Conc
set_option linter.unusedVariables false
section
variable {H:Type} {enc:TypeId × Value→H} {P:Program}
theorem Zn0 {t:TypeId} {ms:Array (String × TypeId)} (hu:P.underlying t=some (.interface ms)) {W W':World} {sp sp':Nat→Bool} {fuel:Nat} {cs:List Value} : DataW.trod enc P W 0 sp true fuel t cs=DataW.trod enc P W' 0 sp' true fuel t cs:=by
  cases fuel with
  | zero=>simp [DataW.trod]
  | succ n=>
    cases cs with
    | nil=>simp [DataW.trod,hu]
    | cons x xs=>
      cases xs with
      | nil=>cases x <;> simp [DataW.trod,hu]
      | cons y ys=>cases x <;> simp [DataW.trod,hu]
theorem Zrl {W W':World} (hk:Kept W W') {n:String} {g:Nat} {cs:Array Value} (hg:P.globalNamed n=some g) (hlt:g<W.heap.size) (h:W.var? P n=some cs):W'.var? P n=some cs:=by
  simp only [World.var?,hg,Option.bind_some] at h ⊢
  rw [hk.1 g hlt];exact h
theorem Zlc {W W':World} (hk:Kept W W') {sp sp':Nat→Bool} :∀{ns:List String} {gs:List (DataW H)} {ps:List MemPlace},(∀n,n∈ns→∀g t,P.globalNamed n=some g→(P.globals[g]?).map (·.type)=some t→∃ms,P.underlying t=some (.interface ms))→
    DataW.TrodVars enc P W sp ns gs ps→(∀n,n∈ns→∀g,P.globalNamed n=some g→g<W.heap.size)→DataW.TrodVars enc P W' sp' ns gs ps
  | [],[],_,_,h,_=>h
  | n :: ns,d :: ds,ps,ht,⟨g,t,cs,fuel,p,q,hg,hty,hv,hd,hr,e⟩,hlt=>by
    obtain ⟨ms,hu⟩:=ht n (List.mem_cons_self ..) g t hg hty
    exact ⟨g,t,cs,fuel,p,q,hg,hty,Zrl hk hg (hlt n (List.mem_cons_self ..) g hg) hv,(Zn0 hu).trans hd,
      Zlc hk (fun n hn=>ht n (List.mem_cons_of_mem _ hn)) hr (fun n hn=>hlt n (List.mem_cons_of_mem _ hn)),e⟩
  | [],_ :: _,_,_,h,_=>h.elim
  | _ :: _,[],_,_,h,_=>h.elim
theorem Zpi {W:World} {sp:Nat→Bool} :∀{ns:List String} {gs:List (DataW H)} {ps:List MemPlace},DataW.TrodVars enc P W sp ns gs ps→∀n,n∈ns→∀g,P.globalNamed n=some g→g<W.heap.size
  | [],_,_,_,n,hn,_,_=>by cases hn
  | m :: ns,d :: ds,ps,⟨g,t,cs,fuel,p,q,hg,hty,hv,hd,hr,e⟩,n,hn,g',hg'=>by
    rcases List.mem_cons.1 hn with rfl | hn
    · obtain rfl:=Option.some.inj (hg.symm.trans hg')
      simp only [World.var?,hg,Option.bind_some] at hv
      rcases Nat.lt_or_ge g W.heap.size with h | h
      · exact h
      · rw [Array.getElem?_eq_none h] at hv;cases hv
    · exact Zpi hr n hn g' hg'
  | _ :: _,[],_,h,_,_,_,_=>h.elim
theorem Znf {W:World} {sp:Nat→Bool} :∀{ns:List String} {gs:List (DataW H)} {ps:List MemPlace},DataW.TrodVars enc P W sp ns gs ps→gs.length=ns.length
  | [],[],_,_=>rfl
  | n :: ns,d :: ds,ps,⟨g,t,cs,fuel,p,q,hg,hty,hv,hd,hr,e⟩=>by rw [List.length_cons,List.length_cons,Znf hr]
  | [],_ :: _,_,h=>h.elim
  | _ :: _,[],_,h=>h.elim
theorem Zlq {f:Func} {s:ChangeSpec} {apart fresh handsOn again:Bool} {W W':World} {args:Array Value} {ds gs:List (DataW H)} {before:List MemPlace} {tb:TypeId}
    (hl:laidOutB P=true) (hts:(f.params.toList.all fun t=>P.readableRec t && decide (t<P.types.size))=true) (hres:f.resultTypes.toList=[tb]) (hb:P.underlying tb=some .bool)
    (hvars :∀n,n∈s.vars→∀g t,P.globalNamed n=some g→(P.globals[g]?).map (·.type)=some t→∃ms,P.underlying t=some (.interface ms))
    (hW:DataW.Whole enc P f.params.toList s.vars apart W args.toList ds gs before) (hfn :∀ds' gs',gs'.length=s.vars.length→ds'.length=f.params.toList.length→s.fn H (ds' ++ gs') = { results:=[.lit (.bool true)],args:=ds',vars:=gs' })
    (hk:Kept W W'):s.post enc P f apart fresh handsOn again W args (.bool true) W':=by
  have hlt:=hW.lt
  have hW':=hW
  obtain ⟨p,q,hA0,hV,rfl,hfz,hnd⟩:=hW
  have hlen:=(trodAll_length hA0).2
  have hvl:gs.length=s.vars.length:=Znf hV
  have hf2:=hfn ds gs hvl hlen
  have hr2:f.resultTypes = #[tb]:=by apply Array.ext';rw [hres]
  refine post_of_same (pa:=p) (pv:=q) hW' (fun b sp hd=>?_) (fun sp hsp=>?_) (fun sp hsp=>?_) rfl (hk.2.frame _) hk.2.2.1 ?_
  · rw [hf2,hr2]
    exact trodAll_cons_mk (shut_bool hb _) trodAll_mk0
  · rw [hf2]
    exact Zns hl hk hts hA0 (fun x hx=>hlt x (List.mem_append_left _ hx)) (fun x hx=>hsp x (List.mem_append_left _ hx))
  · rw [hf2]
    exact Zlc hk hvars hV (Zpi hV)
  · intro j t r h1 h2
    rw [hr2] at h1 h2
    cases j with
    | zero=>
      simp only [List.getElem?_toArray,List.getElem?_cons_zero,Option.some.injEq] at h1
      simp [Value.resultList] at h2
      subst h1;subst h2
      exact okWide_bool_mk hb _
    | succ j=>simp at h1
theorem ZhV {ns:List String} (h:(ns.all fun n=>match P.globalNamed n with | some g=>(match (P.globals[g]?).map (·.type) with | some t=>(match P.underlying t with | some (.interface _)=>true | _=>false) | none=>true) | none=>true)=true) :
∀n,n∈ns→∀g t,P.globalNamed n=some g→(P.globals[g]?).map (·.type)=some t→∃ms,P.underlying t=some (.interface ms):=fun n hn g t hg ht=>by
  have h1:=List.all_eq_true.1 h n hn
  simp only [hg,ht] at h1
  split at h1
  · exact ⟨_,by assumption⟩
  · cases h1
theorem Znm {ts:Array TypeId} (h:(ts.toList.all fun t=>!P.wantsStandIn t)=true) {j:Nat} {t:TypeId} (ht:ts[j]? = some t):P.wantsStandIn t=false:=by
  have:=List.all_eq_true.1 h t (by
    rw [← Array.getElem?_toList] at ht
    exact List.mem_of_getElem? ht)
  simpa using this
theorem Zg9 {a:Assume} {C:Checked} {os:Os} {f:FuncId} {fn:Func} {s:ChangeSpec} {conds:List PathCond} {apart fresh handsOn again:Bool} {laid:List (String × DataW Unit)}
    (own:ownKnob C.prog.godebug=none) (started:os.Started) (hfn:C.prog.funcs[f]? = some fn)
    (witness :∃(w:World) (tape:Tape) (i:Input),w.os=os∧(w.forCall tape i).Shaped C.prog∧i.vars=[]∧Input.okWide C.prog (w.forCall tape i) .any w.heap.size f i∧
      ((s.pre enc C.prog fn conds apart (w.forCall tape i).memory i.args∧laidMetH C.prog laid (w.forCall tape i).memory)∧sizedMet enc C.prog fn (OpenSpec.ofChange s) apart (w.forCall tape i).memory i.args)∧a.holds C.prog (lone (Frame.enter C.prog f i.args .normal) [] (w.forCall tape i)))
    (runs :∀(W:World) (base:Nat) (args:Array Value) (ds gs:List (DataW H)) (before:List MemPlace),
      (∀(j:Nat) t v,fn.params[j]? = some t→args[j]? = some v→Value.okWide C.prog W .any base t v)→
      DataW.Whole enc C.prog fn.params.toList s.vars apart W args.toList ds gs before→
      (DataW.weightsEach C.prog (fn.params.toList ++ s.plain.varTypes C.prog) (ds ++ gs)).all (·≤reachBytes)=true→
      laidMetH C.prog laid W→
∃M last o w' t',runNT C.prog (M+1) (solo (G (Frame.enter C.prog f args .normal) []) W) #[]=(.ended o w',t')∧runN C.prog M (solo (G (Frame.enter C.prog f args .normal) []) W) = .next last∧
        step C.prog last = .ended o w'∧Conc.Good C.prog (fun v W'=>s.post enc C.prog fn apart fresh handsOn again W args v W') last o w' t') :
    ReturnsInLeavingWide a C os f .any (fun w args=>(s.pre enc C.prog fn conds apart w args∧laidMetH C.prog laid w)∧sizedMet enc C.prog fn (OpenSpec.ofChange s) apart w args) (s.post enc C.prog fn apart fresh handsOn again):=by
  refine returnsInLeavingWide_of_good own started witness ?_
  intro w tape i _ _ _ hok hpre hholds
  obtain ⟨_,_,_,fn',hfn',_,_,_,_,hval⟩:=hok
  have e:fn'=fn:=Option.some.inj (hfn'.symm.trans hfn)
  subst e
  obtain ⟨⟨⟨ds,gs,before,hw,hc⟩,hL⟩,hz⟩:=hpre
  have hw':=DataW.Whole.of_heap (w':=w.forCall tape i) (by rfl) hw
  have hL':=hL.of_heap (w':=w.forCall tape i) (by rfl)
  obtain ⟨M,last,o,w',t',h1,h2,h3,h4⟩:=runs (w.forCall tape i) w.heap.size i.args ds gs before hval hw' (hz.weights hw) hL'
  exact ⟨M,last,o,w',t',h1,h2,h3,h4.mono fun v hp=>ChangeSpec.post_blind hp⟩
theorem ZlO {n0 n1 n2 n3 nm:String} {x0 x1 x2 x3:List UInt8} {r:List (String × DataW Unit)} {W:World} {k0 k1 k2 k3:Nat} {ti tp te ts:TypeId} {ms:Array (String × TypeId)} {f:Field}
    (h:laidMet P ((n0,.iface nm (.ptr (.agg [.lit (.string x0)]))) :: (n1,.iface nm (.ptr (.agg [.lit (.string x1)]))) :: (n2,.iface nm (.ptr (.agg [.lit (.string x2)]))) :: (n3,.iface nm (.ptr (.agg [.lit (.string x3)]))) :: r) W)
    (hg0:P.globalNamed n0=some k0) (hg1:P.globalNamed n1=some k1) (hg2:P.globalNamed n2=some k2) (hg3:P.globalNamed n3=some k3) (hy0:(P.globals[k0]?).map (·.type)=some ti) (hy1:(P.globals[k1]?).map (·.type)=some ti) (hy2:(P.globals[k2]?).map (·.type)=some ti) (hy3:(P.globals[k3]?).map (·.type)=some ti)
    (hi:P.underlying ti=some (.interface ms)) (hrow :∀u,P.typeName? 3 u=some nm→u=tp)
    (hp:P.underlying tp=some (.pointer te)) (he:P.underlying te=some (.struct #[f])) (hft:f.type=ts) (hfo:f.offset=0) (hs:P.underlying ts=some .string) (hc:P.cellsOf te=1) (hcs:P.cellsOf ts=1) :
∃a:Nat→Addr,ErrsB tp [k0,k1,k2,k3] (ZkI W) a:=by
  obtain ⟨ps,⟨g0,t0,cs0,f0,p0,q0,hg0',ht0',hv0,hd0,⟨g1,t1,cs1,f1,p1,q1,hg1',ht1',hv1,hd1,⟨g2,t2,cs2,f2,p2,q2,hg2',ht2',hv2,hd2,⟨g3,t3,cs3,f3,p3,q3,hg3',ht3',hv3,hd3,_,e3⟩,e2⟩,e1⟩,e0⟩,hnd,hrows⟩:=h
  obtain rfl:=Option.some.inj (hg0.symm.trans hg0')
  obtain rfl:=Option.some.inj (hg1.symm.trans hg1')
  obtain rfl:=Option.some.inj (hg2.symm.trans hg2')
  obtain rfl:=Option.some.inj (hg3.symm.trans hg3')
  obtain rfl:=Option.some.inj (hy0.symm.trans ht0')
  obtain rfl:=Option.some.inj (hy1.symm.trans ht1')
  obtain rfl:=Option.some.inj (hy2.symm.trans ht2')
  obtain rfl:=Option.some.inj (hy3.symm.trans ht3')
  subst e3
  subst e2
  subst e1
  subst e0
  obtain ⟨l0⟩:=cs0
  obtain ⟨l1⟩:=cs1
  obtain ⟨l2⟩:=cs2
  obtain ⟨l3⟩:=cs3
  have ok0 :∀u v,l0=[.iface u v]→Value.okWide P W .any 0 u v:=fun u v e=>by
    subst e
    exact (hrows k0 0 (by simp [MemPlace.row])).2 u v (by simpa using World.var?_cell hg0' hv0 0)
  have ok1 :∀u v,l1=[.iface u v]→Value.okWide P W .any 0 u v:=fun u v e=>by
    subst e
    exact (hrows k1 0 (by simp [MemPlace.row])).2 u v (by simpa using World.var?_cell hg1' hv1 0)
  have ok2 :∀u v,l2=[.iface u v]→Value.okWide P W .any 0 u v:=fun u v e=>by
    subst e
    exact (hrows k2 0 (by simp [MemPlace.row])).2 u v (by simpa using World.var?_cell hg2' hv2 0)
  have ok3 :∀u v,l3=[.iface u v]→Value.okWide P W .any 0 u v:=fun u v e=>by
    subst e
    exact (hrows k3 0 (by simp [MemPlace.row])).2 u v (by simpa using World.var?_cell hg3' hv3 0)
  obtain ⟨a0,s0,rfl,hc0,hs0,hz0,rfl⟩:=errorString_of_trod hi hrow hp he hft hfo hs hc hcs hd0 ok0
  obtain ⟨a1,s1,rfl,hc1,hs1,hz1,rfl⟩:=errorString_of_trod hi hrow hp he hft hfo hs hc hcs hd1 ok1
  obtain ⟨a2,s2,rfl,hc2,hs2,hz2,rfl⟩:=errorString_of_trod hi hrow hp he hft hfo hs hc hcs hd2 ok2
  obtain ⟨a3,s3,rfl,hc3,hs3,hz3,rfl⟩:=errorString_of_trod hi hrow hp he hft hfo hs hc hcs hd3 ok3
  have b0:=(hrows a0.block a0.off (by simp [MemPlace.row])).1
  have b1:=(hrows a1.block a1.off (by simp [MemPlace.row])).1
  have b2:=(hrows a2.block a2.off (by simp [MemPlace.row])).1
  have b3:=(hrows a3.block a3.off (by simp [MemPlace.row])).1
  have row :∀(g:Nat) (v:Value) (n:String),P.globalNamed n=some g→W.var? P n=some #[v]→Za7 (ZkI W) g 0 [v]:=fun g v n hg hv L j u hj=>by
    cases j with
    | zero=>
      simp only [List.getElem?_cons_zero,Option.some.injEq] at hj
      subst hj
      have:=Zi1 (by simpa using World.var?_cell hg hv 0:W.cell? ⟨g,0,none⟩=some v)
      obtain ⟨h1,cs,T,fr,h2,h3⟩:=this
      exact ⟨h1,cs,T,fr,h2.elim .inl (fun h=>by cases h),h3⟩
    | succ j=>simp at hj
  refine ⟨fun k=>if k=0 then a0 else if k=1 then a1 else if k=2 then a2 else a3,fun k hk=>?_,fun k hk=>?_,fun i j hi' hj' hne=>?_⟩
  · match k,hk with
    | 0,_=>exact row k0 _ _ hg0 hv0
    | 1,_=>exact row k1 _ _ hg1 hv1
    | 2,_=>exact row k2 _ _ hg2 hv2
    | 3,_=>exact row k3 _ _ hg3 hv3
  · match k,hk with
    | 0,_=>exact b0
    | 1,_=>exact b1
    | 2,_=>exact b2
    | 3,_=>exact b3
  · have h01:a0≠a1:=by rintro rfl;simp [MemPlace.row] at hnd
    have h02:a0≠a2:=by rintro rfl;simp [MemPlace.row] at hnd
    have h03:a0≠a3:=by rintro rfl;simp [MemPlace.row] at hnd
    have h12:a1≠a2:=by rintro rfl;simp [MemPlace.row] at hnd
    have h13:a1≠a3:=by rintro rfl;simp [MemPlace.row] at hnd
    have h23:a2≠a3:=by rintro rfl;simp [MemPlace.row] at hnd
    match i,j,hi',hj',hne with
    | 0,1,_,_,_=>exact h01
    | 0,2,_,_,_=>exact h02
    | 0,3,_,_,_=>exact h03
    | 1,0,_,_,_=>exact h01.symm
    | 1,2,_,_,_=>exact h12
    | 1,3,_,_,_=>exact h13
    | 2,0,_,_,_=>exact h02.symm
    | 2,1,_,_,_=>exact h12.symm
    | 2,3,_,_,_=>exact h23
    | 3,0,_,_,_=>exact h03.symm
    | 3,1,_,_,_=>exact h13.symm
    | 3,2,_,_,_=>exact h23.symm
    | 0,0,_,_,h=>exact (h rfl).elim
    | 1,1,_,_,h=>exact (h rfl).elim
    | 2,2,_,_,h=>exact (h rfl).elim
    | 3,3,_,_,h=>exact (h rfl).elim
end
theorem ZlT (Lk:Looks) {p:Pinned} {s:OpenSpec} {c:OpenClaim} (kinds:List LaidKind) (tests:Bool) (har:Bool × String) (lk:Bool)
    (hc:c.holds p s) (hw:c.wfByText s=true) (htie:c.laidByTextAt Lk p kinds tests)
    (hst:c.start = .entering) (hnb:c.noBlocks=false∧c.again=false) (hm:p.checked.prog.mainIs=some (har.1,har.2.toList)) (hn:(!har.1 && har.2.isEmpty && !lk)=false)
    (hl :∀f fn,p.checked.prog.funcNamed c.func=some f→p.checked.prog.funcs[f]? = some fn→lk=p.checked.prog.looks []∧∀(j:Nat) t,fn.params[j]? = some t→p.checked.prog.wantsStandIn t=false)
    (hg:true=c.goesBy p.checked.prog) :
    Claim7.holds p (.plain s) { stood:={ row:=c,standIns:=[],harness:=har,looks:=lk },kinds:=[],alts:=[],goes:=true,laidByText:=true,laidKinds:=kinds,laidTests:=tests,laidLooks:=Lk }:=by
  have h6 :∀r:OpenClaim,Claim7.isSixth { stood:={ row:=r,standIns:=[],harness:=har,looks:=lk },kinds:=[] } = false:=fun r=>by simpa [Claim7.isSixth] using hn
  refine ⟨Claim7.tied_new_at Lk kinds tests (Claim7.new_of_sixth hc har lk hst hnb hm (h6 c) hl) hw,(fun D hD=>by cases hD),htie,(fun h=>by cases h),hg⟩
end Go.BL
namespace Go.BL
open Go.Conc (G)
set_option linter.unusedVariables false
section
variable {P:PJ} {n:Nat} {ops:Array Oper} {i:Nat} {K:Zbj} {S:Env} {D:List Deferred} {B:Kn} {L:List Cells}
variable {dst:Option Tmp} {ty:TypeId} {pos:String} {after:Array Edge} {g:Option (Nat × Bool)}
theorem Ztd {f:FuncId} {x:Operand} {cap:Array Value} {xs:List Operand} {vs:List Value} {ats:Array TypeId} {Post:Value→Kn→List Cells→Prop} (js:List Nat) {ss r:List Cells} (hp:Zbk L js=some (ss,r)) (hn:Zgl js=true) (hg:Zr ops S g=some true) (hd:ZD n dst=true) (he:enters P f=true) (hx:ev S x=some (.func (.func f) #[] cap)) (ha:evs S xs=some vs) (hc:ZA P f (vs ++ cap.toList) B ss Post)
    (h :∀v B' Ls',B.le B'→Post v B' Ls'→K v D B' (Zdr r js Ls')):opX P n ops i ⟨dst,.call ⟨.value x,xs.toArray,ats⟩,ty,pos,after,g⟩ K S D B L:=
  Zec (o:=⟨dst,.call ⟨.value x,xs.toArray,ats⟩,ty,pos,after,g⟩) (vs:=vs ++ cap.toList) hg (fun ρ hρ Q F q=>by
      have:=ZeF (P:=P) (B:=B) (L:=L) (dst:=dst) (ty:=ty) (pos:=pos) (after:=after) (g:=g) (x:=x) (first:=#[]) (cap:=cap) (ats:=ats) he hx ha ρ hρ Q F
      exact this (by simpa using q)) hd (Ls:=ss) (Lk:=r) (Za2 js L ss r hp) hc
    fun v' B' Ls' hle hq=>⟨Zdr r js Ls',Zdq Ls' r js (Zdt hn) (fun j hj=>Zds js L ss r hp j (.inr hj)),h v' B' Ls' hle hq⟩
theorem All3.turn {α:Type} {R:Zi8 α} {rows:List (List Value)} {xs:List α} {s:Cells} (h:All3 R rows xs s) {z x:α} {ex:Cells} (f:List Value→List Value) (hf :∀row li,R row x li→∃li' gl,R (f row) z li'∧(li ++ ex).Perm (li' ++ gl)) :∀{k:Nat},xs[k]? = some x→∃row s' gl,rows[k]? = some row∧All3 R (rows.set k (f row)) (xs.set k z) s'∧(s ++ ex).Perm (s' ++ gl):=by
  induction h with
  | nil=>intro k hx;simp at hx
  | @cons row0 x0 ins0 rest rows xs h1 h2 ih=>
    intro k hx
    cases k with
    | zero=>
      simp only [List.getElem?_cons_zero,Option.some.injEq] at hx
      subst hx
      obtain ⟨li',gl,e1,e2⟩:=hf _ _ h1
      refine ⟨row0,li' ++ rest,gl,rfl,.cons e1 h2,?_⟩
      have e3:(ins0 ++ rest ++ ex).Perm ((ins0 ++ ex) ++ rest):=by
        rw [List.append_assoc,List.append_assoc];exact List.Perm.append_left _ List.perm_append_comm
      refine e3.trans ((e2.append_right rest).trans ?_)
      rw [List.append_assoc,List.append_assoc];exact List.Perm.append_left _ List.perm_append_comm
    | succ k=>
      obtain ⟨row,s',gl,e1,e2,e3⟩:=ih (k:=k) (by simpa using hx)
      refine ⟨row,ins0 ++ s',gl,by simpa using e1,.cons h1 e2,?_⟩
      rw [List.append_assoc,List.append_assoc]
      exact List.Perm.append_left ins0 e3
end
theorem ZyN {B:Kn} {ls:List Cells} {b:Nat} {row:List Value} {T:TypeId} (k:Nat) (hk:ls[k]? = some (ZaE b row T)) (hm :∀q,q∈ls.flatten→(B.add ls.flatten).mem q.1=some q.2):Za7 (B.add ls.flatten) b 0 row:=ZcV (Zp3 hm k hk)
end Go.BL
namespace Go.BL
open Go.Conc (G)
set_option linter.unusedVariables false
@[reducible] def Zii (x:DMail) (v:Value):List Value:=[.int .i64 x.uid,.int .i64 x.flags,str x.text,v]
def Zji (Tn:TypeId):Value→List DMail→Cells→Prop
  | v,[],s=>v = .pointer none∧s=[]
  | v,x :: xs,s=>∃b nx rest,v=ptr ⟨b,0,none⟩∧s.Perm (ZaE b (Zii x nx) Tn ++ rest)∧x.text.length≤2000000∧Zji Tn nx xs rest
theorem Zji.ptr {Tn:TypeId} {v:Value} {xs:List DMail} {s:Cells} (h:Zji Tn v xs s) :∃p,v = .pointer p:=by
  cases xs with
  | nil=>exact ⟨none,h.1⟩
  | cons x xs=>obtain ⟨b,nx,rest,rfl,_⟩:=h;exact ⟨_,rfl⟩
theorem Zji.more {Tn:TypeId} {p:Option Addr} {xs:List DMail} {s:Cells} (h:Zji Tn (.pointer p) xs s) (hp:p.isNone=false) :∃y ys b np rest,p=some ⟨b,0,none⟩∧xs=y :: ys∧s.Perm (ZaE b (Zii y (.pointer np)) Tn ++ [rest].flatten)∧y.text.length≤2000000∧Zji Tn (.pointer np) ys rest:=by
  cases xs with
  | nil=>obtain ⟨h1,_⟩:=h;cases h1;cases hp
  | cons x xs=>
    obtain ⟨b,nx,rest,h1,h2,h3,h4⟩:=h
    obtain ⟨np,rfl⟩:=h4.ptr
    cases h1
    exact ⟨x,xs,b,np,rest,rfl,rfl,by simpa using h2,h3,h4⟩
theorem Zji.done {Tn:TypeId} {p:Option Addr} {xs:List DMail} {s:Cells} (h:Zji Tn (.pointer p) xs s) (hp:p.isNone=true):xs=[]:=by
  cases xs with
  | nil=>rfl
  | cons x xs=>obtain ⟨b,nx,rest,h1,_⟩:=h;cases h1;cases hp
def Zjj (Tn:TypeId) (v0:Value) (bl:Nat) (x:DMail) (rest:Cells) (pre:List DMail):Prop:=
∀v xs s,Zji Tn v xs s→∃s0,Zji Tn v0 (pre ++ xs) s0∧(ZaE bl (Zii x v) Tn ++ (rest ++ s)).Perm s0
theorem Zjj.init {Tn:TypeId} {b:Nat} {x:DMail} (hx:x.text.length≤2000000):Zjj Tn (Go.BL.ptr ⟨b,0,none⟩) b x [] [x]:=fun v xs s h=>
  ⟨ZaE b (Zii x v) Tn ++ s,⟨b,v,s,rfl,.refl _,hx,h⟩,by simp⟩
theorem Zjj.step {Tn:TypeId} {v0:Value} {bl b:Nat} {x y:DMail} {rest:Cells} {pre:List DMail} (h:Zjj Tn v0 bl x rest pre) (hy:y.text.length≤2000000) :
    Zjj Tn v0 b y (rest ++ ZaE bl (Zii x (Go.BL.ptr ⟨b,0,none⟩)) Tn) (pre ++ [y]):=fun v xs s hs=>by
  obtain ⟨s0,h1,h2⟩:=h (Go.BL.ptr ⟨b,0,none⟩) (y :: xs) (ZaE b (Zii y v) Tn ++ s) ⟨b,v,s,rfl,.refl _,hy,hs⟩
  refine ⟨s0,by simpa using h1,?_⟩
  refine List.Perm.trans ?_ h2
  exact Ztv fun f g h0 ha hc=>by simp only [ha];omega
def MLst (TL Tn:TypeId) (b:Nat) (xs:List DMail) (s:Cells):Prop:=
  (xs=[]∧s.Perm (ZaE b [.pointer none,.pointer none,.int .i64 0] TL))∨
∃v0 bl x rest,s.Perm (ZaE b [v0,ptr ⟨bl,0,none⟩,.int .i64 xs.length] TL ++ [ZaE bl (Zii x (.pointer none)) Tn,rest].flatten)∧Zjj Tn v0 bl x rest xs
theorem MLst.nil {TL Tn:TypeId} {b:Nat} : MLst TL Tn b [] (ZaE b [.pointer none,.pointer none,.int .i64 0] TL):=.inl ⟨rfl,.refl _⟩
end Go.BL
namespace Go.BL
section
variable {P:PJ} {n:Nat} {ops:Array Oper} {i:Nat} {K:Zbj} {S:Env} {D:List Deferred} {B:Kn} {L:List Cells}
variable {dst:Option Tmp} {ty:TypeId} {pos:String} {after:Array Edge} {g:Option (Nat × Bool)}
theorem Znb {x y:Operand} {ats:Array TypeId} {a b:Int} {k k':IntKind} (hg:Zr ops S g=some true) (hd:ZD n dst=true) (hx:ev S x=some (.int k a)) (hy:ev S y=some (.int k' b)) (h:K (.int k (max a b)) D B L):opX P n ops i ⟨dst,.call ⟨.builtin .max,#[x,y],ats⟩,ty,pos,after,g⟩ K S D B L:=
  ZX hg hd (fun ρ hρ Q F q=>by
    have e:(if b > a then b else a)=max a b:=by rw [Int.max_def];split <;> split <;> omega
    simp only [execOp,resolve,Zq,Zw,invoke,builtin,Builtin.max_,List.map_toArray,List.map_cons,List.map_nil,hρ x _ hx,hρ y _ hy,List.foldlM_cons,List.foldlM_nil,Builtin.max2,e]
    exact q) h
theorem Zjo {x y:Operand} {ats:Array TypeId} {a b:Int} {k k':IntKind} (hg:Zr ops S g=some true) (hd:ZD n dst=true) (hx:ev S x=some (.int k a)) (hy:ev S y=some (.int k' b)) (h:K (.int k (min a b)) D B L):opX P n ops i ⟨dst,.call ⟨.builtin .min,#[x,y],ats⟩,ty,pos,after,g⟩ K S D B L:=
  ZX hg hd (fun ρ hρ Q F q=>by
    have e:(if b<a then b else a)=min a b:=by rw [Int.min_def];split <;> split <;> omega
    simp only [execOp,resolve,Zq,Zw,invoke,builtin,Builtin.min_,List.map_toArray,List.map_cons,List.map_nil,hρ x _ hx,hρ y _ hy,List.foldlM_cons,List.foldlM_nil,Builtin.min2,e]
    exact q) h
end
end Go.BL
namespace Go.BL
section
variable {P:PJ} {n:Nat} {ops:Array Oper} {i:Nat} {K:Zbj} {S:Env} {D:List Deferred} {B:Kn} {L:List Cells}
variable {dst:Option Tmp} {ty:TypeId} {pos:String} {after:Array Edge} {g:Option (Nat × Bool)}
variable {α:Type} {R:Rel α} {xs:List α}
theorem ZaM.own {B:Kn} {L:List Cells} {l:Cells} {p:Option Addr} {m c sz:Nat} {T:TypeId} {vs:List Value} (h:ZhL l p m c T sz vs) (j:Nat) (hj:L[j]? = some l):ZaM B L.flatten p vs:=by
  obtain ⟨h1,⟨rfl,rfl,rfl,rfl⟩ | ⟨b,arr,rfl,h2,h3,rfl,h4⟩⟩:=h
  · exact List.eq_nil_of_length_eq_zero (by simpa using h1)
  · intro k v hk
    have hv':arr[k]? = some v:=by
      rw [← h3,List.getElem?_take] at hk
      split at hk
      · exact hk
      · cases hk
    exact ZaM.box (B:=B) j hj k v hv'
theorem ZuU {t u e:TypeId} {x y:Operand} {sz by_ m c:Nat} {p:Option Addr} {l:Cells} (j:Nat) (hj:L[j]? = some l) (hv:Z2 B l p c e sz R xs) (hm:m=xs.length) (hg:Zr ops S g=some true) (hd:ZD n dst=true)
    (he:ZcA P t e sz by_=true) (hu:(match P.underlying u with | some (.slice _)=>true | _=>false)=true) (hx:ev S x=some (.slice p m c)) (hy:ev S y=some (.slice p m c)) (hone :∀row y,R B row y→row.all ZgI=true∧row.length=sz) (hb1:(xs.length+xs.length)*by_≤140737488355328)
    (h :∀l' p' c',Z2 B l' p' c' e sz R (xs ++ xs)→K (.slice p' (xs ++ xs).length c') D B (L.set j l')):opX P n ops i ⟨dst,.call ⟨.builtin .append,#[x,y],#[t,u]⟩,ty,pos,after,g⟩ K S D B L:=by
  obtain ⟨rows,h1,h2,h3⟩:=id hv
  have ho:rows.flatten.all ZgI=true:=by
    clear h2 h3 hb1 h hv hm
    induction h1 with
    | nil=>rfl
    | cons a b ih=>rw [List.flatten_cons,List.all_append,(hone _ _ a).1,ih];rfl
  exact Zne j hj hv hm hg hd he hu hx hy hm (ZaM.own h3 j hj) ho h2 h1 hb1 h
end
end Go.BL
namespace Go.BL
theorem Zv {P:PJ} {n:Nat} {Q:Exit→Zay} {S:Env} {D:List Deferred} {B:Kn} {L:List Cells} {c:Code} (L':List Cells) (hl:L=L') (h:wpS P n c Q S D B L'):wpS P n c Q S D B L:=by subst hl;exact h
theorem sQ:(∀(p:Prop) [Decidable p],(decide p=true)=p)∧(∀(p:Prop) [Decidable p],(decide p=false) = ¬p)∧(∀b:Bool,((!b)=true)=(b=false))∧(∀b:Bool,((!b)=false)=(b=true))∧(∀(p:Prop) [Decidable p],(decide (¬p)) = !decide p)∧(∀(p:Prop) [Decidable p],(¬¬p)=p)∧(∀a b:Int,(¬a<b)=(b≤a))∧(∀a b:Int,(¬a≤b)=(b<a)):=
  ⟨fun p _=>by simp,fun p _=>by simp,by simp,by simp,fun p _=>by simp,fun p _=>by simp,by simp,by simp⟩
end Go.BL
namespace Go.BL
section
variable {P:PJ} {n:Nat} {ops:Array Oper} {i:Nat} {K:Zbj} {S:Env} {D:List Deferred} {B:Kn} {L:List Cells}
variable {dst:Option Tmp} {ty:TypeId} {pos:String} {after:Array Edge} {g:Option (Nat × Bool)}
section
variable {t u:TypeId} {x y:Operand} {a b r:Int}
end
end
end Go.BL
namespace Go.BL
theorem om {p:Prop} (h:p:=by first | omega | (simp;done) | (simp;omega)):p:=h
theorem om2 {p:Prop} (h:p:=by first | assumption | omega | (simp;done) | (simp;omega)):p:=h
theorem oz {p:Prop} (h:p:=by omega):p:=h
theorem kr {p:Prop} (h:p:=by kernel_rfl):p:=h
theorem so {p:Prop} (h:p:=by simp only [];omega):p:=h
theorem so2 {p:Prop} (h:p:=by first | omega | (simp only [];omega)):p:=h
theorem oa {p:Prop} (h:p:=by first | assumption | omega):p:=h
theorem oy {p:Prop} (h:p:=by assumption):p:=h
theorem om3 {p:Prop} (h:p:=by first | omega | decide | (simp;done) | (simp;omega)):p:=h
theorem ob {p:Prop} (h:p:=by first | assumption | omega | (simp only [];omega) | (simp only [];assumption) | (simp;done) | (simp;omega)):p:=h
theorem ol {p:Prop} (h:p:=by first | rfl | (simp only [List.length_set];rfl)):p:=h
theorem t1 {α0:Sort _} {a0:α0} : a0=a0∧True:=⟨rfl,trivial⟩
theorem t2 {α0 α1:Sort _} {a0:α0} {a1:α1} : a0=a0∧a1=a1∧True:=⟨rfl,rfl,trivial⟩
theorem t3 {α0 α1 α2:Sort _} {a0:α0} {a1:α1} {a2:α2} : a0=a0∧a1=a1∧a2=a2∧True:=⟨rfl,rfl,rfl,trivial⟩
theorem t4 {α0 α1 α2 α3:Sort _} {a0:α0} {a1:α1} {a2:α2} {a3:α3} : a0=a0∧a1=a1∧a2=a2∧a3=a3∧True:=⟨rfl,rfl,rfl,rfl,trivial⟩
theorem t5 {α0 α1 α2 α3 α4:Sort _} {a0:α0} {a1:α1} {a2:α2} {a3:α3} {a4:α4} : a0=a0∧a1=a1∧a2=a2∧a3=a3∧a4=a4∧True:=⟨rfl,rfl,rfl,rfl,rfl,trivial⟩
theorem t6 {α0 α1 α2 α3 α4 α5:Sort _} {a0:α0} {a1:α1} {a2:α2} {a3:α3} {a4:α4} {a5:α5} : a0=a0∧a1=a1∧a2=a2∧a3=a3∧a4=a4∧a5=a5∧True:=⟨rfl,rfl,rfl,rfl,rfl,rfl,trivial⟩
theorem t7 {α0 α1 α2 α3 α4 α5 α6:Sort _} {a0:α0} {a1:α1} {a2:α2} {a3:α3} {a4:α4} {a5:α5} {a6:α6} : a0=a0∧a1=a1∧a2=a2∧a3=a3∧a4=a4∧a5=a5∧a6=a6∧True:=⟨rfl,rfl,rfl,rfl,rfl,rfl,rfl,trivial⟩
theorem t8 {α0 α1 α2 α3 α4 α5 α6 α7:Sort _} {a0:α0} {a1:α1} {a2:α2} {a3:α3} {a4:α4} {a5:α5} {a6:α6} {a7:α7} : a0=a0∧a1=a1∧a2=a2∧a3=a3∧a4=a4∧a5=a5∧a6=a6∧a7=a7∧True:=⟨rfl,rfl,rfl,rfl,rfl,rfl,rfl,rfl,trivial⟩
theorem t9 {α0 α1 α2 α3 α4 α5 α6 α7 α8:Sort _} {a0:α0} {a1:α1} {a2:α2} {a3:α3} {a4:α4} {a5:α5} {a6:α6} {a7:α7} {a8:α8} : a0=a0∧a1=a1∧a2=a2∧a3=a3∧a4=a4∧a5=a5∧a6=a6∧a7=a7∧a8=a8∧True:=⟨rfl,rfl,rfl,rfl,rfl,rfl,rfl,rfl,rfl,trivial⟩
theorem t10 {α0 α1 α2 α3 α4 α5 α6 α7 α8 α9:Sort _} {a0:α0} {a1:α1} {a2:α2} {a3:α3} {a4:α4} {a5:α5} {a6:α6} {a7:α7} {a8:α8} {a9:α9} : a0=a0∧a1=a1∧a2=a2∧a3=a3∧a4=a4∧a5=a5∧a6=a6∧a7=a7∧a8=a8∧a9=a9∧True:=⟨rfl,rfl,rfl,rfl,rfl,rfl,rfl,rfl,rfl,rfl,trivial⟩
theorem t11 {α0 α1 α2 α3 α4 α5 α6 α7 α8 α9 α10:Sort _} {a0:α0} {a1:α1} {a2:α2} {a3:α3} {a4:α4} {a5:α5} {a6:α6} {a7:α7} {a8:α8} {a9:α9} {a10:α10} : a0=a0∧a1=a1∧a2=a2∧a3=a3∧a4=a4∧a5=a5∧a6=a6∧a7=a7∧a8=a8∧a9=a9∧a10=a10∧True:=⟨rfl,rfl,rfl,rfl,rfl,rfl,rfl,rfl,rfl,rfl,rfl,trivial⟩
theorem t12 {α0 α1 α2 α3 α4 α5 α6 α7 α8 α9 α10 α11:Sort _} {a0:α0} {a1:α1} {a2:α2} {a3:α3} {a4:α4} {a5:α5} {a6:α6} {a7:α7} {a8:α8} {a9:α9} {a10:α10} {a11:α11} : a0=a0∧a1=a1∧a2=a2∧a3=a3∧a4=a4∧a5=a5∧a6=a6∧a7=a7∧a8=a8∧a9=a9∧a10=a10∧a11=a11∧True:=⟨rfl,rfl,rfl,rfl,rfl,rfl,rfl,rfl,rfl,rfl,rfl,rfl,trivial⟩
theorem t13 {α0 α1 α2 α3 α4 α5 α6 α7 α8 α9 α10 α11 α12:Sort _} {a0:α0} {a1:α1} {a2:α2} {a3:α3} {a4:α4} {a5:α5} {a6:α6} {a7:α7} {a8:α8} {a9:α9} {a10:α10} {a11:α11} {a12:α12} : a0=a0∧a1=a1∧a2=a2∧a3=a3∧a4=a4∧a5=a5∧a6=a6∧a7=a7∧a8=a8∧a9=a9∧a10=a10∧a11=a11∧a12=a12∧True:=⟨rfl,rfl,rfl,rfl,rfl,rfl,rfl,rfl,rfl,rfl,rfl,rfl,rfl,trivial⟩
theorem t17 {α0 α1 α2 α3 α4 α5 α6 α7 α8 α9 α10 α11 α12 α13 α14 α15 α16:Sort _} {a0:α0} {a1:α1} {a2:α2} {a3:α3} {a4:α4} {a5:α5} {a6:α6} {a7:α7} {a8:α8} {a9:α9} {a10:α10} {a11:α11} {a12:α12} {a13:α13} {a14:α14} {a15:α15} {a16:α16} : a0=a0∧a1=a1∧a2=a2∧a3=a3∧a4=a4∧a5=a5∧a6=a6∧a7=a7∧a8=a8∧a9=a9∧a10=a10∧a11=a11∧a12=a12∧a13=a13∧a14=a14∧a15=a15∧a16=a16∧True:=⟨rfl,rfl,rfl,rfl,rfl,rfl,rfl,rfl,rfl,rfl,rfl,rfl,rfl,rfl,rfl,rfl,rfl,trivial⟩
section
variable {P:PJ} {n:Nat} {ops:Array Oper} {i:Nat} {K:Zay} {S:Env} {D:List Deferred} {B:Kn} {L:List Cells}
variable {dst:Option Tmp} {ty:TypeId} {pos:String} {after:Array Edge} {g:Option (Nat × Bool)} {t u:TypeId} {x y:Operand}
theorem xM {x:Operand} {v:Value} (hg:Zr ops S g=some true:=by exact rfl) (hd:ZD n dst=true:=by exact rfl) (hx:ev S x=some v:=by exact rfl) (h:K (ZbX S dst v) D B L):opW P n ops i ⟨dst,.move x,ty,pos,after,g⟩ K S D B L:=Zo (ZsM hg hd hx h)
theorem xA {x:Operand} {v:Value} (hg:Zr ops S g=some true:=by exact rfl) (hd:ZD n dst=true:=by exact rfl) (hx:ev S x=some v:=by exact rfl) (h:K (ZbX S dst v) D B L):opW P n ops i ⟨dst,.assign x,ty,pos,after,g⟩ K S D B L:=Zo (Znd hg hd hx h)
theorem xP  {dst:Option Tmp} {op:Op} {t:TypeId} {pos:String} {after:Array Edge} {g:Option (Nat × Bool)}   (hg:Zr ops S g=some false:=by exact rfl) (hd:ZD n dst=true:=by exact rfl) (h:K (ZbX S dst undef) D B L):opW P n ops i ⟨dst,op,t,pos,after,g⟩ K S D B L:=Zo (ZsI  hg hd h)
theorem xT  {c:Operand} {a:Operand} {b:Operand} {v:Value}   (hg:Zr ops S g=some true:=by exact rfl) (hd:ZD n dst=true:=by exact rfl) (hc:ev S c=some (.bool true):=by exact rfl) (hx:ev S a=some v:=by exact rfl) (h:K (ZbX S dst v) D B L):opW P n ops i ⟨dst,.pick c a b,ty,pos,after,g⟩ K S D B L:=Zo (Zo9  hg hd hc hx h)
theorem xF  {c:Operand} {a:Operand} {b:Operand} {v:Value}   (hg:Zr ops S g=some true:=by exact rfl) (hd:ZD n dst=true:=by exact rfl) (hc:ev S c=some (.bool false):=by exact rfl) (hx:ev S b=some v:=by exact rfl) (h:K (ZbX S dst v) D B L):opW P n ops i ⟨dst,.pick c a b,ty,pos,after,g⟩ K S D B L:=Zo (Zpa  hg hd hc hx h)
theorem xE  {x:Operand} {ix:Nat} {vs:List Value} {v:Value}   (hg:Zr ops S g=some true:=by exact rfl) (hd:ZD n dst=true:=by exact rfl) (hx:ev S x=some (.tuple vs.toArray):=by exact rfl) (hi:vs[ix]? = some v:=by exact rfl) (h:K (ZbX S dst v) D B L):opW P n ops i ⟨dst,.extract x ix,ty,pos,after,g⟩ K S D B L:=Zo (ZkQ  hg hd hx hi h)
theorem xN  {x:Operand} {b:Bool} {t:TypeId}   (hg:Zr ops S g=some true:=by exact rfl) (hd:ZD n dst=true:=by exact rfl) (hx:ev S x=some (.bool b):=by exact rfl) (h:K (ZbX S dst (.bool (!b))) D B L):opW P n ops i ⟨dst,.unOp .not t x,ty,pos,after,g⟩ K S D B L:=Zo (ZuH  hg hd hx h)
theorem xW  {s:TypeId} {x:Operand} {fi:Nat} {off:Nat} {a:Addr}  (hf:ZS P s fi=some off) (hg:Zr ops S g=some true:=by exact rfl) (hd:ZD n dst=true:=by exact rfl) (hx:ev S x=some (ptr a):=by exact rfl) (h:K (ZbX S dst (ptr (a.add off))) D B L):opW P n ops i ⟨dst,.fieldAddr s x fi,ty,pos,after,g⟩ K S D B L:=Zo (ZhT  hg hd hf hx h)
theorem xD  {k:IntKind} {a b r:Int}   (hg:Zr ops S g=some true:=by exact rfl) (hd:ZD n dst=true:=by exact rfl) (hx:ev S x=some (.int k a):=by exact rfl) (hy:ev S y=some (.int k b):=by exact rfl) (hr:k.wrap (a+b)=r:=by first | exact ZaX (by first | omega | (simp;done) | (simp;omega)) (by first | omega | (simp;done) | (simp;omega)) | exact rfl) (h:K (ZbX S dst (.int k r)) D B L):opW P n ops i ⟨dst,.binOp .add t x y u,ty,pos,after,g⟩ K S D B L:=Zo (ZeR  hg hd hx hy hr h)
theorem xU  {k:IntKind} {a b r:Int}   (hg:Zr ops S g=some true:=by exact rfl) (hd:ZD n dst=true:=by exact rfl) (hx:ev S x=some (.int k a):=by exact rfl) (hy:ev S y=some (.int k b):=by exact rfl) (hr:k.wrap (a - b)=r:=by first | exact ZaX (by first | omega | (simp;done) | (simp;omega)) (by first | omega | (simp;done) | (simp;omega)) | exact rfl) (h:K (ZbX S dst (.int k r)) D B L):opW P n ops i ⟨dst,.binOp .sub t x y u,ty,pos,after,g⟩ K S D B L:=Zo (Zjc  hg hd hx hy hr h)
theorem xY  {k:IntKind} {a b r:Int}   (hg:Zr ops S g=some true:=by exact rfl) (hd:ZD n dst=true:=by exact rfl) (hx:ev S x=some (.int k a):=by exact rfl) (hy:ev S y=some (.int k b):=by exact rfl) (hr:k.wrap (a*b)=r:=by first | exact ZaX (by first | omega | (simp;done) | (simp;omega)) (by first | omega | (simp;done) | (simp;omega)) | exact rfl) (h:K (ZbX S dst (.int k r)) D B L):opW P n ops i ⟨dst,.binOp .mul t x y u,ty,pos,after,g⟩ K S D B L:=Zo (ZkN  hg hd hx hy hr h)
theorem Zag  {k:IntKind} {a b:Int}   (hg:Zr ops S g=some true:=by exact rfl) (hd:ZD n dst=true:=by exact rfl) (hx:ev S x=some (.int k a):=by exact rfl) (hy:ev S y=some (.int k b):=by exact rfl) (h:K (ZbX S dst (.bool (decide (a<b)))) D B L):opW P n ops i ⟨dst,.binOp .lss t x y u,ty,pos,after,g⟩ K S D B L:=Zo (ZuK  hg hd hx hy h)
theorem ZcG  {k:IntKind} {a b:Int}   (hg:Zr ops S g=some true:=by exact rfl) (hd:ZD n dst=true:=by exact rfl) (hx:ev S x=some (.int k a):=by exact rfl) (hy:ev S y=some (.int k b):=by exact rfl) (h:K (ZbX S dst (.bool (decide (a≤b)))) D B L):opW P n ops i ⟨dst,.binOp .leq t x y u,ty,pos,after,g⟩ K S D B L:=Zo (ZuL  hg hd hx hy h)
theorem ZbM  {k:IntKind} {a b:Int}   (hg:Zr ops S g=some true:=by exact rfl) (hd:ZD n dst=true:=by exact rfl) (hx:ev S x=some (.int k a):=by exact rfl) (hy:ev S y=some (.int k b):=by exact rfl) (h:K (ZbX S dst (.bool (decide (b<a)))) D B L):opW P n ops i ⟨dst,.binOp .gtr t x y u,ty,pos,after,g⟩ K S D B L:=Zo (ZuO  hg hd hx hy h)
theorem Zd8  {k:IntKind} {a b:Int}   (hg:Zr ops S g=some true:=by exact rfl) (hd:ZD n dst=true:=by exact rfl) (hx:ev S x=some (.int k a):=by exact rfl) (hy:ev S y=some (.int k b):=by exact rfl) (h:K (ZbX S dst (.bool (decide (b≤a)))) D B L):opW P n ops i ⟨dst,.binOp .geq t x y u,ty,pos,after,g⟩ K S D B L:=Zo (ZuP  hg hd hx hy h)
theorem ZI  {k:IntKind} {a b:Int}   (hg:Zr ops S g=some true:=by exact rfl) (hd:ZD n dst=true:=by exact rfl) (hx:ev S x=some (.int k a):=by exact rfl) (hy:ev S y=some (.int k b):=by exact rfl) (h:K (ZbX S dst (.bool (decide (a=b)))) D B L):opW P n ops i ⟨dst,.binOp .eql t x y u,ty,pos,after,g⟩ K S D B L:=Zo (ZsQ  hg hd hx hy h)
theorem ZbR  {k:IntKind} {a b:Int}   (hg:Zr ops S g=some true:=by exact rfl) (hd:ZD n dst=true:=by exact rfl) (hx:ev S x=some (.int k a):=by exact rfl) (hy:ev S y=some (.int k b):=by exact rfl) (h:K (ZbX S dst (.bool (decide (a≠b)))) D B L):opW P n ops i ⟨dst,.binOp .neq t x y u,ty,pos,after,g⟩ K S D B L:=Zo (ZsL  hg hd hx hy h)
theorem Zc4  {a b:List UInt8}   (hg:Zr ops S g=some true:=by exact rfl) (hd:ZD n dst=true:=by exact rfl) (hx:ev S x=some (str a):=by exact rfl) (hy:ev S y=some (str b):=by exact rfl) (h:K (ZbX S dst (.bool (decide (a=b)))) D B L):opW P n ops i ⟨dst,.binOp .eql t x y u,ty,pos,after,g⟩ K S D B L:=Zo (ZsP  hg hd hx hy h)
theorem Zg0  {a b:List UInt8}   (hg:Zr ops S g=some true:=by exact rfl) (hd:ZD n dst=true:=by exact rfl) (hx:ev S x=some (str a):=by exact rfl) (hy:ev S y=some (str b):=by exact rfl) (h:K (ZbX S dst (.bool (decide (a≠b)))) D B L):opW P n ops i ⟨dst,.binOp .neq t x y u,ty,pos,after,g⟩ K S D B L:=Zo (ZsK  hg hd hx hy h)
theorem ZsG  {a b:List UInt8}   (hg:Zr ops S g=some true:=by exact rfl) (hd:ZD n dst=true:=by exact rfl) (hx:ev S x=some (str a):=by exact rfl) (hy:ev S y=some (str b):=by exact rfl) (h:K (ZbX S dst (.bool (Op.bytesLess a b))) D B L):opW P n ops i ⟨dst,.binOp .lss t x y u,ty,pos,after,g⟩ K S D B L:=Zo (ZuJ  hg hd hx hy h)
theorem ZuC  {a b:List UInt8}   (hg:Zr ops S g=some true:=by exact rfl) (hd:ZD n dst=true:=by exact rfl) (hx:ev S x=some (str a):=by exact rfl) (hy:ev S y=some (str b):=by exact rfl) (h:K (ZbX S dst (.bool (!Op.bytesLess a b))) D B L):opW P n ops i ⟨dst,.binOp .geq t x y u,ty,pos,after,g⟩ K S D B L:=Zo (Zpf  hg hd hx hy h)
theorem xV  {x:Operand} {t:TypeId} {e:TypeId} {p:Option Addr} {len:Nat} {cap:Nat}  (hu:P.underlying t=some (.slice e)) (hg:Zr ops S g=some true:=by exact rfl) (hd:ZD n dst=true:=by exact rfl) (hx:ev S x=some (.slice p len cap):=by exact rfl) (h:K (ZbX S dst (.int .i64 len)) D B L):opW P n ops i ⟨dst,.call ⟨.builtin .len,#[x],#[t]⟩,ty,pos,after,g⟩ K S D B L:=Zo (ZsO  hg hd hu hx h)
theorem xVs  {x:Operand} {t:TypeId} {l:List UInt8}  (hu:P.underlying t=some .string) (hg:Zr ops S g=some true:=by exact rfl) (hd:ZD n dst=true:=by exact rfl) (hx:ev S x=some (str l):=by exact rfl) (h:K (ZbX S dst (.int .i64 l.length)) D B L):opW P n ops i ⟨dst,.call ⟨.builtin .len,#[x],#[t]⟩,ty,pos,after,g⟩ K S D B L:=Zo (Zpe  hg hd hu hx h)
theorem xNc  {x:Operand} {a:Addr}   (hg:Zr ops S g=some true:=by exact rfl) (hd:ZD n dst=true:=by exact rfl) (hx:ev S x=some (.pointer (some a)):=by exact rfl) (h:K (ZbX S dst (.pointer (some a))) D B L):opW P n ops i ⟨dst,.nilCheck x,ty,pos,after,g⟩ K S D B L:=Zo (Zjn  hg hd hx h)
theorem x1  {t:TypeId} {x:Operand} {a:Addr} {v:Value} {l:List Value} {T:TypeId} {fr:Nat × Nat} {r:Cells}  (hl:lk P t=some none) (j:Nat) (hg:Zr ops S g=some true:=by exact rfl) (hd:ZD n dst=true:=by exact rfl) (hx:ev S x=some (ptr a):=by exact rfl) (hj:L[j]? = some ((a.block,.cells l.toArray T fr) :: r):=by exact rfl) (hs:a.spot=none:=by exact rfl) (hv:l[a.off]? = some v:=by exact rfl) (h:K (ZbX S dst v) D B L):opW P n ops i ⟨dst,.load t x,ty,pos,after,g⟩ K S D B L:=Zo (Zn  hg hd hl hx (atL j hj hs hv) h)
theorem xL  {t:TypeId} {x:Operand} {a:Addr} {l:List Value} {T:TypeId} {fr:Nat × Nat} {r:Cells}  (vs:List Value) (hl:lk P t=some (some vs.length)) (j:Nat) (hg:Zr ops S g=some true:=by exact rfl) (hd:ZD n dst=true:=by exact rfl) (hx:ev S x=some (ptr a):=by exact rfl) (hj:L[j]? = some ((a.block,.cells l.toArray T fr) :: r):=by exact rfl) (hs:a.spot=none:=by exact rfl) (hv:(l.drop a.off).take vs.length=vs:=by exact rfl) (h:K (ZbX S dst (.agg vs.toArray)) D B L):opW P n ops i ⟨dst,.load t x,ty,pos,after,g⟩ K S D B L:=Zo (Z6  vs hg hd hl hx (Zaf j hj hs hv) h)
theorem y1  {t:TypeId} {x:Operand} {a:Addr} {v:Value} {b o:Nat} {row:List Value}  (hl:lk P t=some none) (hc:Za7 B b o row) (off:Nat) (hg:Zr ops S g=some true:=by exact rfl) (hd:ZD n dst=true:=by exact rfl) (hx:ev S x=some (ptr a):=by exact rfl) (ha:a=⟨b,o+off,none⟩:=by exact rfl) (hv:row[off]? = some v:=by exact rfl) (h:K (ZbX S dst v) D B L):opW P n ops i ⟨dst,.load t x,ty,pos,after,g⟩ K S D B L:=Zo (Zn  hg hd hl hx (by subst ha;exact hc _ off _ hv) h)
theorem yL  {t:TypeId} {x:Operand} {a:Addr} {b o:Nat} {row:List Value}  (vs:List Value) (hl:lk P t=some (some vs.length)) (hc:Za7 B b o row) (off:Nat) (hg:Zr ops S g=some true:=by exact rfl) (hd:ZD n dst=true:=by exact rfl) (hx:ev S x=some (ptr a):=by exact rfl) (ha:a=⟨b,o+off,none⟩:=by exact rfl) (hv:(row.drop off).take vs.length=vs:=by exact rfl) (h:K (ZbX S dst (.agg vs.toArray)) D B L):opW P n ops i ⟨dst,.load t x,ty,pos,after,g⟩ K S D B L:=Zo (Z6  vs hg hd hl hx (Zid hc off ha hv) h)
theorem xS  {t:TypeId} {x:Operand} {y:Operand} {a:Addr} {v:Value} {l:List Value} {T:TypeId} {r:Cells}  (vs:List Value) (j:Nat) (l':List Value) (hsz:Zae P t=some vs.length) (hg:Zr ops S g=some true:=by exact rfl) (hd:ZD n dst=true:=by exact rfl) (hx:ev S x=some (ptr a):=by exact rfl) (hy:ev S y=some v:=by exact rfl) (hv:v.cells=vs.toArray:=by exact rfl) (ho:vs.all ZgI=true:=by exact rfl) (hj:L[j]? = some ((a.block,.cells l.toArray T (0,0)) :: r):=by exact rfl) (hs:a.spot=none:=by exact rfl) (hlen:Nat.ble (a.off+vs.length) l.length=true:=by exact rfl) (hl':Zbr l a.off vs=l':=by exact rfl) (h:K (ZbX S dst undef) D B (L.set j ((a.block,.cells l'.toArray T (0,0)) :: r))):opW P n ops i ⟨dst,.store t x y,ty,pos,after,g⟩ K S D B L:=Zo (ZN  vs j l' hg hd hsz hx hy hv ho hj hs hlen hl' h)
theorem xB  {t:TypeId} {z:Value} {pl:List (Nat × Nat)} {vs:List Value} (parts:List (Nat × Operand)) (zl l':List Value) (hpl:Za8 P t=some pl) (hz:ZaF P t=some z) (hg:Zr ops S g=some true:=by exact rfl) (hd:ZD n dst=true:=by exact rfl) (hzl:z.cells.toList=zl:=by exact rfl) (ha:evs S (parts.map (·.2))=some vs:=by exact rfl) (hf:Zjg (fun i=>pl[i]?) zl ((parts.map (·.1)).zip vs)=some l':=by exact rfl) (h:K (ZbX S dst (.agg l'.toArray)) D B L):opW P n ops i ⟨dst,.build t parts.toArray,ty,pos,after,g⟩ K S D B L:=Zo (ZaH (parts:=parts) zl l' hg hd hpl hz hzl ha hf h)
theorem xAl  {t:TypeId} {z:Value} (l:List Value) (hz:ZaF P t=some z) (hg:Zr ops S g=some true:=by exact rfl) (hd:ZD n dst=true:=by exact rfl) (hl:z.cells=l.toArray:=by exact rfl) (h :∀b,K (ZbX S dst (ptr ⟨b,0,none⟩)) D B (L ++ [ZaE b l t])):opW P n ops i ⟨dst,.alloc t,ty,pos,after,g⟩ K S D B L:=Zo (Zao (l:=l) hg hd hz hl h)
theorem xBx  {t:TypeId} {x:Operand} {v:Value} (l:List Value)  (hg:Zr ops S g=some true:=by exact rfl) (hd:ZD n dst=true:=by exact rfl) (hx:ev S x=some v:=by exact rfl) (hl:v.cells=l.toArray:=by exact rfl) (h :∀b,K (ZbX S dst (ptr ⟨b,0,none⟩)) D B (L ++ [ZaE b l t])):opW P n ops i ⟨dst,.box t x,ty,pos,after,g⟩ K S D B L:=Zo (ZuT (l:=l) hg hd hx hl h)
theorem xIx  {t:TypeId} {e:TypeId} {x:Operand} {y:Operand} {k:IntKind} {b:Nat} {o:Nat} {len:Nat} {cap:Nat} {sz:Nat} {ix:Int}  (hu:P.underlying t=some (.slice e)) (hsz:Zae P e=some sz) (hg:Zr ops S g=some true:=by exact rfl) (hd:ZD n dst=true:=by exact rfl) (hx:ev S x=some (.slice (some ⟨b,o,none⟩) len cap):=by exact rfl) (hy:ev S y=some (.int k ix):=by exact rfl) (h0:0≤ix:=by first | omega | (simp;done) | (simp;omega)) (h1:ix<len:=by first | omega | (simp;done) | (simp;omega)) (h:K (ZbX S dst (ptr ⟨b,o+ix.toNat*sz,none⟩)) D B L):opW P n ops i ⟨dst,.indexAddr t x y,ty,pos,after,g⟩ K S D B L:=Zo (ZuM  hg hd hu hsz hx hy h0 h1 h)
theorem xIp  {t:TypeId} {e:TypeId} {x:Operand} {y:Operand} {k:IntKind} {p:Option Addr} {b:Nat} {len:Nat} {cap:Nat} {sz:Nat} {ix:Int}  (hp:p=some ⟨b,0,none⟩) (hu:P.underlying t=some (.slice e)) (hsz:Zae P e=some sz) (hg:Zr ops S g=some true:=by exact rfl) (hd:ZD n dst=true:=by exact rfl) (hx:ev S x=some (.slice p len cap):=by exact rfl) (hy:ev S y=some (.int k ix):=by exact rfl) (h0:0≤ix:=by first | omega | (simp;done) | (simp;omega)) (h1:ix<len:=by first | omega | (simp;done) | (simp;omega)) (h:K (ZbX S dst (ptr ⟨b,ix.toNat*sz,none⟩)) D B L):opW P n ops i ⟨dst,.indexAddr t x y,ty,pos,after,g⟩ K S D B L:=Zo (Zf8  hp hg hd hu hsz hx hy h0 h1 h)
theorem xX  {f:FuncId} {xs:List Operand} {vs:List Value} {ats:Array TypeId} {Q:Value→Cells→Prop} {s:Cells}  (j:Nat) (hj:L[j]? = some s) (he:enters P f=true) (ha:evs S xs=some vs) (hc:Ex1 P f vs B s Q) (hg:Zr ops S g=some true:=by exact rfl) (hd:ZD n dst=true:=by exact rfl) (h :∀v s',Q v s'→K (ZbX S dst v) D B (L.set j s')):opW P n ops i ⟨dst,.call ⟨.value (.func f),xs.toArray,ats⟩,ty,pos,after,g⟩ K S D B L:=Zo (ZcH  j hj hg hd he ha hc h)
theorem xR  {f:FuncId} {xs:List Operand} {vs:List Value} {ats:Array TypeId} {v:Value}  (he:enters P f=true) (ha:evs S xs=some vs) (hc:ZaL P f vs B v) (hg:Zr ops S g=some true:=by exact rfl) (hd:ZD n dst=true:=by exact rfl) (h:K (ZbX S dst v) D B L):opW P n ops i ⟨dst,.call ⟨.value (.func f),xs.toArray,ats⟩,ty,pos,after,g⟩ K S D B L:=Zo (ZaS  hg hd he ha hc h)
theorem xBs  {t:TypeId} {e:TypeId} {len:Nat} {sz:Nat} {z:Value} {vs:List Value} (parts:List (Nat × Operand)) (l':List Value) (hu:P.underlying t=some (.slice e)) (hsz:Zae P e=some sz) (hz:ZaF P e=some z) (hg:Zr ops S g=some true:=by exact rfl) (hd:ZD n dst=true:=by exact rfl) (hbig:Nat.ble (len*sz) 1024=true:=by exact rfl) (hidx:parts.map (·.1)=List.range len:=by exact rfl) (ha:evs S (parts.map (·.2))=some vs:=by exact rfl) (hall:vs.all (fun v=>Nat.beq v.cells.toList.length sz)=true:=by exact rfl) (hl':(vs.map fun v=>v.cells.toList).flatten=l':=by exact rfl) (h :∀b,K (ZbX S dst (.slice (some ⟨b,0,none⟩) len len)) D B (L ++ [ZaE b l' e])):opW P n ops i ⟨dst,.buildSlice t len parts.toArray,ty,pos,after,g⟩ K S D B L:=Zo (Zx (parts:=parts) l' hg hd hu hsz hz hbig hidx ha hall hl' h)
end
section
variable {P:PJ} {n:Nat} {ops:Array Oper} {K:Zay} {S:Env} {D:List Deferred} {B:Kn} {L:List Cells}
variable {dst:Option Tmp} {ty:TypeId} {pos:String} {after:Array Edge} {g:Option (Nat × Bool)} {t u:TypeId} {x y:Operand}
theorem aT {C:Cx P} {k':List Item} {I:Kn→List Cells→Prop} {ℓ:List Nat} (i:Nat) {o:Oper} {v:Value} (hi:ops[i]? = some o) (hq:quiet P n ops I i o v (sel (o.looksAt ops) S)) (hr:(Za1 ops ℓ).contains i=true:=by kernel_rfl) (hd:ZD n o.dst=true:=by exact rfl) (hp:ZjK o=false:=by rfl) (h:ZbQ C k' n ops I (i :: ℓ) K (ZbX S o.dst v) D B L):ZbQ C k' n ops I ℓ K S D B L:=Zsv i hi hr hd hq h hp
theorem r4 {α β γ δ:Type} {a:α} {b:β} {c:γ} {d:δ} : a=a∧b=b∧c=c∧d=d:=⟨rfl,rfl,rfl,rfl⟩
variable {C:Cx P} {k':List Item} {I:Kn→List Cells→Prop} {ℓ:List Nat}
theorem aM  {x:Operand} {v:Value} (i:Nat) (hii:ops[i]? = some ⟨dst,.move x,ty,pos,after,g⟩)  (hrr:(Za1 ops ℓ).contains i=true:=by kernel_rfl) (hdd:ZD n dst=true:=by exact rfl) (hg:Zr ops (sel ((⟨dst,.move x,ty,pos,after,g⟩:Oper).looksAt ops) S) g=some true:=by exact rfl) (hd:ZD n dst=true:=by exact rfl) (hx:ev (sel ((⟨dst,.move x,ty,pos,after,g⟩:Oper).looksAt ops) S) x=some v:=by exact rfl) (h:ZbQ C k' n ops I (i :: ℓ) K (ZbX S dst v) D B L):ZbQ C k' n ops I ℓ K S D B L:=Zax i hii hrr hdd (fun _ _ _=>ZsM hg hd hx ⟨rfl,rfl,rfl,rfl⟩) h
theorem aA  {x:Operand} {v:Value} (i:Nat) (hii:ops[i]? = some ⟨dst,.assign x,ty,pos,after,g⟩)  (hrr:(Za1 ops ℓ).contains i=true:=by kernel_rfl) (hdd:ZD n dst=true:=by exact rfl) (hg:Zr ops (sel ((⟨dst,.assign x,ty,pos,after,g⟩:Oper).looksAt ops) S) g=some true:=by exact rfl) (hd:ZD n dst=true:=by exact rfl) (hx:ev (sel ((⟨dst,.assign x,ty,pos,after,g⟩:Oper).looksAt ops) S) x=some v:=by exact rfl) (h:ZbQ C k' n ops I (i :: ℓ) K (ZbX S dst v) D B L):ZbQ C k' n ops I ℓ K S D B L:=Zax i hii hrr hdd (fun _ _ _=>Znd hg hd hx ⟨rfl,rfl,rfl,rfl⟩) h
theorem aZ  {dst:Option Tmp} {op:Op} {t:TypeId} {pos:String} {after:Array Edge} {g:Option (Nat × Bool)} (i:Nat) (hii:ops[i]? = some ⟨dst,op,t,pos,after,g⟩)  (hrr:(Za1 ops ℓ).contains i=true:=by kernel_rfl) (hdd:ZD n dst=true:=by exact rfl) (hg:Zr ops (sel ((⟨dst,op,t,pos,after,g⟩:Oper).looksAt ops) S) g=some false:=by exact rfl) (hd:ZD n dst=true:=by exact rfl) (h:ZbQ C k' n ops I (i :: ℓ) K (ZbX S dst undef) D B L):ZbQ C k' n ops I ℓ K S D B L:=Zax i hii hrr hdd (fun _ _ _=>ZsI hg hd ⟨rfl,rfl,rfl,rfl⟩) h
theorem aPT  {c:Operand} {a:Operand} {b:Operand} {v:Value} (i:Nat) (hii:ops[i]? = some ⟨dst,.pick c a b,ty,pos,after,g⟩)  (hrr:(Za1 ops ℓ).contains i=true:=by kernel_rfl) (hdd:ZD n dst=true:=by exact rfl) (hg:Zr ops (sel ((⟨dst,.pick c a b,ty,pos,after,g⟩:Oper).looksAt ops) S) g=some true:=by exact rfl) (hd:ZD n dst=true:=by exact rfl) (hc:ev (sel ((⟨dst,.pick c a b,ty,pos,after,g⟩:Oper).looksAt ops) S) c=some (.bool true):=by exact rfl) (hx:ev (sel ((⟨dst,.pick c a b,ty,pos,after,g⟩:Oper).looksAt ops) S) a=some v:=by exact rfl) (h:ZbQ C k' n ops I (i :: ℓ) K (ZbX S dst v) D B L):ZbQ C k' n ops I ℓ K S D B L:=Zax i hii hrr hdd (fun _ _ _=>Zo9 hg hd hc hx ⟨rfl,rfl,rfl,rfl⟩) h
theorem aPF  {c:Operand} {a:Operand} {b:Operand} {v:Value} (i:Nat) (hii:ops[i]? = some ⟨dst,.pick c a b,ty,pos,after,g⟩)  (hrr:(Za1 ops ℓ).contains i=true:=by kernel_rfl) (hdd:ZD n dst=true:=by exact rfl) (hg:Zr ops (sel ((⟨dst,.pick c a b,ty,pos,after,g⟩:Oper).looksAt ops) S) g=some true:=by exact rfl) (hd:ZD n dst=true:=by exact rfl) (hc:ev (sel ((⟨dst,.pick c a b,ty,pos,after,g⟩:Oper).looksAt ops) S) c=some (.bool false):=by exact rfl) (hx:ev (sel ((⟨dst,.pick c a b,ty,pos,after,g⟩:Oper).looksAt ops) S) b=some v:=by exact rfl) (h:ZbQ C k' n ops I (i :: ℓ) K (ZbX S dst v) D B L):ZbQ C k' n ops I ℓ K S D B L:=Zax i hii hrr hdd (fun _ _ _=>Zpa hg hd hc hx ⟨rfl,rfl,rfl,rfl⟩) h
theorem aE  {x:Operand} {ix:Nat} {vs:List Value} {v:Value} (i:Nat) (hii:ops[i]? = some ⟨dst,.extract x ix,ty,pos,after,g⟩)  (hrr:(Za1 ops ℓ).contains i=true:=by kernel_rfl) (hdd:ZD n dst=true:=by exact rfl) (hg:Zr ops (sel ((⟨dst,.extract x ix,ty,pos,after,g⟩:Oper).looksAt ops) S) g=some true:=by exact rfl) (hd:ZD n dst=true:=by exact rfl) (hx:ev (sel ((⟨dst,.extract x ix,ty,pos,after,g⟩:Oper).looksAt ops) S) x=some (.tuple vs.toArray):=by exact rfl) (hi:vs[ix]? = some v:=by exact rfl) (h:ZbQ C k' n ops I (i :: ℓ) K (ZbX S dst v) D B L):ZbQ C k' n ops I ℓ K S D B L:=Zax i hii hrr hdd (fun _ _ _=>ZkQ hg hd hx hi ⟨rfl,rfl,rfl,rfl⟩) h
theorem aW  {s:TypeId} {x:Operand} {fi:Nat} {off:Nat} {a:Addr} (i:Nat) (hii:ops[i]? = some ⟨dst,.fieldAddr s x fi,ty,pos,after,g⟩) (hf:ZS P s fi=some off) (hrr:(Za1 ops ℓ).contains i=true:=by kernel_rfl) (hdd:ZD n dst=true:=by exact rfl) (hg:Zr ops (sel ((⟨dst,.fieldAddr s x fi,ty,pos,after,g⟩:Oper).looksAt ops) S) g=some true:=by exact rfl) (hd:ZD n dst=true:=by exact rfl) (hx:ev (sel ((⟨dst,.fieldAddr s x fi,ty,pos,after,g⟩:Oper).looksAt ops) S) x=some (ptr a):=by exact rfl) (h:ZbQ C k' n ops I (i :: ℓ) K (ZbX S dst (ptr (a.add off))) D B L):ZbQ C k' n ops I ℓ K S D B L:=Zax i hii hrr hdd (fun _ _ _=>ZhT hg hd hf hx ⟨rfl,rfl,rfl,rfl⟩) h
theorem aN  {x:Operand} {b:Bool} {t:TypeId} (i:Nat) (hii:ops[i]? = some ⟨dst,.unOp .not t x,ty,pos,after,g⟩)  (hrr:(Za1 ops ℓ).contains i=true:=by kernel_rfl) (hdd:ZD n dst=true:=by exact rfl) (hg:Zr ops (sel ((⟨dst,.unOp .not t x,ty,pos,after,g⟩:Oper).looksAt ops) S) g=some true:=by exact rfl) (hd:ZD n dst=true:=by exact rfl) (hx:ev (sel ((⟨dst,.unOp .not t x,ty,pos,after,g⟩:Oper).looksAt ops) S) x=some (.bool b):=by exact rfl) (h:ZbQ C k' n ops I (i :: ℓ) K (ZbX S dst (.bool (!b))) D B L):ZbQ C k' n ops I ℓ K S D B L:=Zax i hii hrr hdd (fun _ _ _=>ZuH hg hd hx ⟨rfl,rfl,rfl,rfl⟩) h
theorem aNc  {x:Operand} {a:Addr} (i:Nat) (hii:ops[i]? = some ⟨dst,.nilCheck x,ty,pos,after,g⟩)  (hrr:(Za1 ops ℓ).contains i=true:=by kernel_rfl) (hdd:ZD n dst=true:=by exact rfl) (hg:Zr ops (sel ((⟨dst,.nilCheck x,ty,pos,after,g⟩:Oper).looksAt ops) S) g=some true:=by exact rfl) (hd:ZD n dst=true:=by exact rfl) (hx:ev (sel ((⟨dst,.nilCheck x,ty,pos,after,g⟩:Oper).looksAt ops) S) x=some (.pointer (some a)):=by exact rfl) (h:ZbQ C k' n ops I (i :: ℓ) K (ZbX S dst (.pointer (some a))) D B L):ZbQ C k' n ops I ℓ K S D B L:=Zax i hii hrr hdd (fun _ _ _=>Zjn hg hd hx ⟨rfl,rfl,rfl,rfl⟩) h
theorem aV  {x:Operand} {t:TypeId} {e:TypeId} {p:Option Addr} {len:Nat} {cap:Nat} (i:Nat) (hii:ops[i]? = some ⟨dst,.call ⟨.builtin .len,#[x],#[t]⟩,ty,pos,after,g⟩) (hu:P.underlying t=some (.slice e)) (hrr:(Za1 ops ℓ).contains i=true:=by kernel_rfl) (hdd:ZD n dst=true:=by exact rfl) (hg:Zr ops (sel ((⟨dst,.call ⟨.builtin .len,#[x],#[t]⟩,ty,pos,after,g⟩:Oper).looksAt ops) S) g=some true:=by exact rfl) (hd:ZD n dst=true:=by exact rfl) (hx:ev (sel ((⟨dst,.call ⟨.builtin .len,#[x],#[t]⟩,ty,pos,after,g⟩:Oper).looksAt ops) S) x=some (.slice p len cap):=by exact rfl) (h:ZbQ C k' n ops I (i :: ℓ) K (ZbX S dst (.int .i64 len)) D B L):ZbQ C k' n ops I ℓ K S D B L:=Zax i hii hrr hdd (fun _ _ _=>ZsO hg hd hu hx ⟨rfl,rfl,rfl,rfl⟩) h
theorem ZqZ  {k:IntKind} {a b:Int} (i:Nat) (hii:ops[i]? = some ⟨dst,.binOp .lss t x y u,ty,pos,after,g⟩)  (hrr:(Za1 ops ℓ).contains i=true:=by kernel_rfl) (hdd:ZD n dst=true:=by exact rfl) (hg:Zr ops (sel ((⟨dst,.binOp .lss t x y u,ty,pos,after,g⟩:Oper).looksAt ops) S) g=some true:=by exact rfl) (hd:ZD n dst=true:=by exact rfl) (hx:ev (sel ((⟨dst,.binOp .lss t x y u,ty,pos,after,g⟩:Oper).looksAt ops) S) x=some (.int k a):=by exact rfl) (hy:ev (sel ((⟨dst,.binOp .lss t x y u,ty,pos,after,g⟩:Oper).looksAt ops) S) y=some (.int k b):=by exact rfl) (h:ZbQ C k' n ops I (i :: ℓ) K (ZbX S dst (.bool (decide (a<b)))) D B L):ZbQ C k' n ops I ℓ K S D B L:=Zax i hii hrr hdd (fun _ _ _=>ZuK hg hd hx hy ⟨rfl,rfl,rfl,rfl⟩) h
theorem Zut  {k:IntKind} {a b:Int} (i:Nat) (hii:ops[i]? = some ⟨dst,.binOp .leq t x y u,ty,pos,after,g⟩)  (hrr:(Za1 ops ℓ).contains i=true:=by kernel_rfl) (hdd:ZD n dst=true:=by exact rfl) (hg:Zr ops (sel ((⟨dst,.binOp .leq t x y u,ty,pos,after,g⟩:Oper).looksAt ops) S) g=some true:=by exact rfl) (hd:ZD n dst=true:=by exact rfl) (hx:ev (sel ((⟨dst,.binOp .leq t x y u,ty,pos,after,g⟩:Oper).looksAt ops) S) x=some (.int k a):=by exact rfl) (hy:ev (sel ((⟨dst,.binOp .leq t x y u,ty,pos,after,g⟩:Oper).looksAt ops) S) y=some (.int k b):=by exact rfl) (h:ZbQ C k' n ops I (i :: ℓ) K (ZbX S dst (.bool (decide (a≤b)))) D B L):ZbQ C k' n ops I ℓ K S D B L:=Zax i hii hrr hdd (fun _ _ _=>ZuL hg hd hx hy ⟨rfl,rfl,rfl,rfl⟩) h
theorem Zm7  {k:IntKind} {a b:Int} (i:Nat) (hii:ops[i]? = some ⟨dst,.binOp .gtr t x y u,ty,pos,after,g⟩)  (hrr:(Za1 ops ℓ).contains i=true:=by kernel_rfl) (hdd:ZD n dst=true:=by exact rfl) (hg:Zr ops (sel ((⟨dst,.binOp .gtr t x y u,ty,pos,after,g⟩:Oper).looksAt ops) S) g=some true:=by exact rfl) (hd:ZD n dst=true:=by exact rfl) (hx:ev (sel ((⟨dst,.binOp .gtr t x y u,ty,pos,after,g⟩:Oper).looksAt ops) S) x=some (.int k a):=by exact rfl) (hy:ev (sel ((⟨dst,.binOp .gtr t x y u,ty,pos,after,g⟩:Oper).looksAt ops) S) y=some (.int k b):=by exact rfl) (h:ZbQ C k' n ops I (i :: ℓ) K (ZbX S dst (.bool (decide (b<a)))) D B L):ZbQ C k' n ops I ℓ K S D B L:=Zax i hii hrr hdd (fun _ _ _=>ZuO hg hd hx hy ⟨rfl,rfl,rfl,rfl⟩) h
theorem ZvQ  {k:IntKind} {a b:Int} (i:Nat) (hii:ops[i]? = some ⟨dst,.binOp .geq t x y u,ty,pos,after,g⟩)  (hrr:(Za1 ops ℓ).contains i=true:=by kernel_rfl) (hdd:ZD n dst=true:=by exact rfl) (hg:Zr ops (sel ((⟨dst,.binOp .geq t x y u,ty,pos,after,g⟩:Oper).looksAt ops) S) g=some true:=by exact rfl) (hd:ZD n dst=true:=by exact rfl) (hx:ev (sel ((⟨dst,.binOp .geq t x y u,ty,pos,after,g⟩:Oper).looksAt ops) S) x=some (.int k a):=by exact rfl) (hy:ev (sel ((⟨dst,.binOp .geq t x y u,ty,pos,after,g⟩:Oper).looksAt ops) S) y=some (.int k b):=by exact rfl) (h:ZbQ C k' n ops I (i :: ℓ) K (ZbX S dst (.bool (decide (b≤a)))) D B L):ZbQ C k' n ops I ℓ K S D B L:=Zax i hii hrr hdd (fun _ _ _=>ZuP hg hd hx hy ⟨rfl,rfl,rfl,rfl⟩) h
theorem Zq1  {k:IntKind} {a b:Int} (i:Nat) (hii:ops[i]? = some ⟨dst,.binOp .eql t x y u,ty,pos,after,g⟩)  (hrr:(Za1 ops ℓ).contains i=true:=by kernel_rfl) (hdd:ZD n dst=true:=by exact rfl) (hg:Zr ops (sel ((⟨dst,.binOp .eql t x y u,ty,pos,after,g⟩:Oper).looksAt ops) S) g=some true:=by exact rfl) (hd:ZD n dst=true:=by exact rfl) (hx:ev (sel ((⟨dst,.binOp .eql t x y u,ty,pos,after,g⟩:Oper).looksAt ops) S) x=some (.int k a):=by exact rfl) (hy:ev (sel ((⟨dst,.binOp .eql t x y u,ty,pos,after,g⟩:Oper).looksAt ops) S) y=some (.int k b):=by exact rfl) (h:ZbQ C k' n ops I (i :: ℓ) K (ZbX S dst (.bool (decide (a=b)))) D B L):ZbQ C k' n ops I ℓ K S D B L:=Zax i hii hrr hdd (fun _ _ _=>ZsQ hg hd hx hy ⟨rfl,rfl,rfl,rfl⟩) h
theorem ZvP  {k:IntKind} {a b:Int} (i:Nat) (hii:ops[i]? = some ⟨dst,.binOp .neq t x y u,ty,pos,after,g⟩)  (hrr:(Za1 ops ℓ).contains i=true:=by kernel_rfl) (hdd:ZD n dst=true:=by exact rfl) (hg:Zr ops (sel ((⟨dst,.binOp .neq t x y u,ty,pos,after,g⟩:Oper).looksAt ops) S) g=some true:=by exact rfl) (hd:ZD n dst=true:=by exact rfl) (hx:ev (sel ((⟨dst,.binOp .neq t x y u,ty,pos,after,g⟩:Oper).looksAt ops) S) x=some (.int k a):=by exact rfl) (hy:ev (sel ((⟨dst,.binOp .neq t x y u,ty,pos,after,g⟩:Oper).looksAt ops) S) y=some (.int k b):=by exact rfl) (h:ZbQ C k' n ops I (i :: ℓ) K (ZbX S dst (.bool (decide (a≠b)))) D B L):ZbQ C k' n ops I ℓ K S D B L:=Zax i hii hrr hdd (fun _ _ _=>ZsL hg hd hx hy ⟨rfl,rfl,rfl,rfl⟩) h
theorem Zq0  {a b:List UInt8} (i:Nat) (hii:ops[i]? = some ⟨dst,.binOp .eql t x y u,ty,pos,after,g⟩)  (hrr:(Za1 ops ℓ).contains i=true:=by kernel_rfl) (hdd:ZD n dst=true:=by exact rfl) (hg:Zr ops (sel ((⟨dst,.binOp .eql t x y u,ty,pos,after,g⟩:Oper).looksAt ops) S) g=some true:=by exact rfl) (hd:ZD n dst=true:=by exact rfl) (hx:ev (sel ((⟨dst,.binOp .eql t x y u,ty,pos,after,g⟩:Oper).looksAt ops) S) x=some (str a):=by exact rfl) (hy:ev (sel ((⟨dst,.binOp .eql t x y u,ty,pos,after,g⟩:Oper).looksAt ops) S) y=some (str b):=by exact rfl) (h:ZbQ C k' n ops I (i :: ℓ) K (ZbX S dst (.bool (decide (a=b)))) D B L):ZbQ C k' n ops I ℓ K S D B L:=Zax i hii hrr hdd (fun _ _ _=>ZsP hg hd hx hy ⟨rfl,rfl,rfl,rfl⟩) h
theorem ZvO  {a b:List UInt8} (i:Nat) (hii:ops[i]? = some ⟨dst,.binOp .neq t x y u,ty,pos,after,g⟩)  (hrr:(Za1 ops ℓ).contains i=true:=by kernel_rfl) (hdd:ZD n dst=true:=by exact rfl) (hg:Zr ops (sel ((⟨dst,.binOp .neq t x y u,ty,pos,after,g⟩:Oper).looksAt ops) S) g=some true:=by exact rfl) (hd:ZD n dst=true:=by exact rfl) (hx:ev (sel ((⟨dst,.binOp .neq t x y u,ty,pos,after,g⟩:Oper).looksAt ops) S) x=some (str a):=by exact rfl) (hy:ev (sel ((⟨dst,.binOp .neq t x y u,ty,pos,after,g⟩:Oper).looksAt ops) S) y=some (str b):=by exact rfl) (h:ZbQ C k' n ops I (i :: ℓ) K (ZbX S dst (.bool (decide (a≠b)))) D B L):ZbQ C k' n ops I ℓ K S D B L:=Zax i hii hrr hdd (fun _ _ _=>ZsK hg hd hx hy ⟨rfl,rfl,rfl,rfl⟩) h
theorem aD  {k:IntKind} {a b r:Int} (i:Nat) (hii:ops[i]? = some ⟨dst,.binOp .add t x y u,ty,pos,after,g⟩)  (hrr:(Za1 ops ℓ).contains i=true:=by kernel_rfl) (hdd:ZD n dst=true:=by exact rfl) (hg:Zr ops (sel ((⟨dst,.binOp .add t x y u,ty,pos,after,g⟩:Oper).looksAt ops) S) g=some true:=by exact rfl) (hd:ZD n dst=true:=by exact rfl) (hx:ev (sel ((⟨dst,.binOp .add t x y u,ty,pos,after,g⟩:Oper).looksAt ops) S) x=some (.int k a):=by exact rfl) (hy:ev (sel ((⟨dst,.binOp .add t x y u,ty,pos,after,g⟩:Oper).looksAt ops) S) y=some (.int k b):=by exact rfl) (hr:k.wrap (a+b)=r:=by first | exact ZaX (by first | omega | (simp;done) | (simp;omega)) (by first | omega | (simp;done) | (simp;omega)) | exact rfl) (h:ZbQ C k' n ops I (i :: ℓ) K (ZbX S dst (.int k r)) D B L):ZbQ C k' n ops I ℓ K S D B L:=Zax i hii hrr hdd (fun _ _ _=>ZeR hg hd hx hy hr ⟨rfl,rfl,rfl,rfl⟩) h
theorem aU  {k:IntKind} {a b r:Int} (i:Nat) (hii:ops[i]? = some ⟨dst,.binOp .sub t x y u,ty,pos,after,g⟩)  (hrr:(Za1 ops ℓ).contains i=true:=by kernel_rfl) (hdd:ZD n dst=true:=by exact rfl) (hg:Zr ops (sel ((⟨dst,.binOp .sub t x y u,ty,pos,after,g⟩:Oper).looksAt ops) S) g=some true:=by exact rfl) (hd:ZD n dst=true:=by exact rfl) (hx:ev (sel ((⟨dst,.binOp .sub t x y u,ty,pos,after,g⟩:Oper).looksAt ops) S) x=some (.int k a):=by exact rfl) (hy:ev (sel ((⟨dst,.binOp .sub t x y u,ty,pos,after,g⟩:Oper).looksAt ops) S) y=some (.int k b):=by exact rfl) (hr:k.wrap (a - b)=r:=by first | exact ZaX (by first | omega | (simp;done) | (simp;omega)) (by first | omega | (simp;done) | (simp;omega)) | exact rfl) (h:ZbQ C k' n ops I (i :: ℓ) K (ZbX S dst (.int k r)) D B L):ZbQ C k' n ops I ℓ K S D B L:=Zax i hii hrr hdd (fun _ _ _=>Zjc hg hd hx hy hr ⟨rfl,rfl,rfl,rfl⟩) h
theorem aIx  {t:TypeId} {e:TypeId} {x:Operand} {y:Operand} {k:IntKind} {b:Nat} {o:Nat} {len:Nat} {cap:Nat} {sz:Nat} {ix:Int} (i:Nat) (hii:ops[i]? = some ⟨dst,.indexAddr t x y,ty,pos,after,g⟩) (hu:P.underlying t=some (.slice e)) (hsz:Zae P e=some sz) (hrr:(Za1 ops ℓ).contains i=true:=by kernel_rfl) (hdd:ZD n dst=true:=by exact rfl) (hg:Zr ops (sel ((⟨dst,.indexAddr t x y,ty,pos,after,g⟩:Oper).looksAt ops) S) g=some true:=by exact rfl) (hd:ZD n dst=true:=by exact rfl) (hx:ev (sel ((⟨dst,.indexAddr t x y,ty,pos,after,g⟩:Oper).looksAt ops) S) x=some (.slice (some ⟨b,o,none⟩) len cap):=by exact rfl) (hy:ev (sel ((⟨dst,.indexAddr t x y,ty,pos,after,g⟩:Oper).looksAt ops) S) y=some (.int k ix):=by exact rfl) (h0:0≤ix:=by first | omega | (simp;done) | (simp;omega)) (h1:ix<len:=by first | omega | (simp;done) | (simp;omega)) (h:ZbQ C k' n ops I (i :: ℓ) K (ZbX S dst (ptr ⟨b,o+ix.toNat*sz,none⟩)) D B L):ZbQ C k' n ops I ℓ K S D B L:=Zax i hii hrr hdd (fun _ _ _=>ZuM hg hd hu hsz hx hy h0 h1 ⟨rfl,rfl,rfl,rfl⟩) h
end
end Go.BL
namespace Go.BL
open Go
set_option linter.unusedVariables false
set_option linter.unusedSimpArgs false
def ZbI (c:UInt8):Bool:=(decide (97≤c.toNat) && decide (c.toNat≤122)) || (decide (48≤c.toNat) && decide (c.toNat≤57))
def ZaA (l:List UInt8):Bool:=l.all ZbI && decide (1≤l.length) && decide (l.length≤8)
theorem Zsw {l:List UInt8} {k:Nat} {c:UInt8} (hc:l[k]? = some c) (h:ZbI c=false):l.all ZbI=false:=by
  rw [Bool.eq_false_iff];intro ha
  have:=List.all_eq_true.1 ha c (List.mem_of_getElem? hc)
  rw [h] at this;cases this
theorem ZnV {l:List UInt8} {k:Nat} {c:UInt8} (hc:l[k]? = some c) (h:ZbI c=true) (ha:(l.take k).all ZbI=true):(l.take (k+1)).all ZbI=true:=by
  rw [List.take_add_one,hc];simp only [Option.toList_some,List.all_append,ha,List.all_cons,h,List.all_nil];rfl
def word (l:List UInt8) (i:Nat):List UInt8:=(l.drop i).takeWhile ZbI
def ZdJ (w:List UInt8):Bool:=decide (1≤w.length) && decide (w.length≤8)
theorem ZpC {o:Option UInt8} {f:UInt8→Bool} (h:(match o with | some c=>f c | none=>false)=true) :∃c,o=some c∧f c=true:=by
  cases o with
  | none=>cases h
  | some c=>exact ⟨c,rfl,h⟩
theorem Zb8 {α:Type} {l:List α} {k:Nat} {c:α} (h:l[k]? = some c):k<l.length:=(List.getElem?_eq_some_iff.1 h).1
theorem Zf9 {p:UInt8→Bool} :∀{m:List UInt8} {k:Nat},(m.take k).all p=true→(∀c,m[k]? = some c→p c=false)→m.takeWhile p=m.take k
  | [],k,_,_=>by simp
  | c :: m,0,_,h=>by simp [List.takeWhile,h c rfl]
  | c :: m,k+1,ha,h=>by
    simp only [List.take_succ_cons,List.all_cons,Bool.and_eq_true] at ha
    simp only [List.takeWhile,ha.1,List.take_succ_cons]
    rw [Zf9 ha.2 (fun c hc=>h c (by simpa using hc))]
theorem Zrf {l:List UInt8} {i k:Nat} (ha:((l.drop i).take k).all ZbI=true) (h :∀c,l[i+k]? = some c→ZbI c=false):word l i=(l.drop i).take k:=
  Zf9 ha (fun c hc=>h c (by simpa using hc))
theorem Zfy {l:List UInt8} {i k:Nat} : (l.take (i+k)).drop i=(l.drop i).take k:=by
  rw [List.drop_take,Nat.add_sub_cancel_left]
theorem Zjr {a b c d:Value} (h:a=c) (h':b=d):Value.tuple #[a,b]=Value.tuple #[c,d]:=by rw [h,h']
def more:Nat→List UInt8→Nat→Bool × Nat
  | 0,_,i=>(true,i)
  | n+1,l,i=>if l[i]? = some 46 then (if ZdJ (word l (i+1))=true then more n l (i+1+(word l (i+1)).length) else (false,i+1+(word l (i+1)).length)) else (true,i)
def dom (l:List UInt8) (i:Nat):Bool × Nat:=if ZdJ (word l i)=true then more 2 l (i+(word l i).length) else (false,i+(word l i).length)
def ZiW (l:List UInt8) (i:Nat):List UInt8:=if (dom l i).1=true then (l.take (dom l i).2).drop i else []
def ZmX (l:List UInt8) (i:Nat):Bool:=(dom l i).1 && decide ((dom l i).2 - i≤20)
theorem ZmW {l:List UInt8} {i:Nat} (h:ZdJ (word l i)=false):dom l i=(false,i+(word l i).length):=by simp [dom,h]
theorem Zsn {l:List UInt8} {i:Nat} (h:ZdJ (word l i)=true):dom l i=more 2 l (i+(word l i).length):=by simp [dom,h]
theorem ZhN {l:List UInt8} {i:Nat} (h:i≤l.length):i+(word l i).length≤l.length:=by
  have:=List.IsPrefix.length_le (List.takeWhile_prefix ZbI (l:=l.drop i))
  rw [List.length_drop] at this
  unfold word;omega
theorem Zil {l:List UInt8} {n j:Nat} (h : ¬ l[j]? = some 46):more n l j=(true,j):=by
  cases n with
  | zero=>rfl
  | succ n=>rw [more,if_neg h]
theorem ZrK {l:List UInt8} {n j:Nat} (hn:1≤n) (h:l[j]? = some 46) (hw:ZdJ (word l (j+1))=false):more n l j=(false,j+1+(word l (j+1)).length):=by
  cases n with
  | zero=>omega
  | succ n=>rw [more,if_pos h,if_neg (by simp [hw])]
theorem ZpY {l:List UInt8} {n j:Nat} (hn:1≤n) (h:l[j]? = some 46) (hw:ZdJ (word l (j+1))=true):more n l j=more (n - 1) l (j+1+(word l (j+1)).length):=by
  cases n with
  | zero=>omega
  | succ n=>rw [more,if_pos h,if_pos hw];rfl
theorem Zew {p:UInt8→Bool} :∀l:List UInt8,(l.takeWhile p).length=l.length↔l.all p=true
  | []=>by simp
  | c :: l=>by
    have h:=Zew (p:=p) l
    cases hc:p c with
    | true=>simp [List.takeWhile,hc] at h ⊢;exact h
    | false=>simp [List.takeWhile,hc]
theorem Zdu {l:List UInt8} : ZaA l=(ZdJ (word l 0) && decide ((word l 0).length=l.length)):=by
  have h:=Zew (p:=ZbI) l
  have e:word l 0=l.takeWhile ZbI:=by simp [word]
  rw [Bool.eq_iff_iff]
  simp only [ZaA,ZdJ,e,Bool.and_eq_true,decide_eq_true_eq]
  constructor
  · rintro ⟨⟨h1,h2⟩,h3⟩
    have:=h.2 h1
    omega
  · rintro ⟨⟨h1,h2⟩,h3⟩
    exact ⟨⟨h.1 h3,by omega⟩,by omega⟩
theorem ZpX {l:List UInt8} :∀(n j:Nat),j≤l.length→(more n l j).2≤l.length
  | 0,j,h=>h
  | n+1,j,h=>by
    rw [more]
    split
    · rename_i e
      have:=Zb8 e
      have h2:=ZhN (l:=l) (i:=j+1) (by omega)
      split
      · exact ZpX n _ h2
      · exact h2
    · exact h
theorem ZvD {l:List UInt8} {i:Nat} (h:i≤l.length):(dom l i).2≤l.length:=by
  unfold dom
  have h2:=ZhN h
  split
  · exact ZpX 2 _ h2
  · exact h2
def glue (a:List UInt8):List (List UInt8)→List (List UInt8)
  | []=>[a]
  | p :: ps=>(a ++ p) :: ps
def cut (x:UInt8):List UInt8→List (List UInt8)
  | []=>[[]]
  | c :: r=>if c=x then [] :: cut x r else glue [c] (cut x r)
theorem ZnT (x:UInt8) :∀l,cut x l≠[]
  | []=>by simp [cut]
  | c :: r=>by
    rw [cut]
    split
    · simp
    · cases cut x r <;> simp [glue]
theorem ZnJ {m:List (List UInt8)} (h:m≠[]):glue [] m=m:=by
  cases m with
  | nil=>exact absurd rfl h
  | cons p ps=>rfl
theorem Zqn (a b:List UInt8) (m:List (List UInt8)):glue a (glue b m)=glue (a ++ b) m:=by
  cases m <;> simp [glue]
structure CutSt where
  i:Nat
  f:Nat
  m:Nat
  ps:List (List UInt8)
  q:Option Addr
  cp:Nat
  s:Cells
theorem Zwl {a b:UInt8} (h:(a.toNat:Int)=b.toNat):a=b:=UInt8.toNat_inj.1 (by exact_mod_cast h)
theorem Zun {l:List UInt8} {x c:UInt8} {i:Nat} (h:l[i]? = some c) (e:c=x):cut x (l.drop i)=[] :: cut x (l.drop (i+1)):=by
  obtain ⟨hlt,he⟩:=List.getElem?_eq_some_iff.1 h
  rw [List.drop_eq_getElem_cons hlt,he,cut,if_pos e]
theorem Zsp {l:List UInt8} {x c:UInt8} {i:Nat} (h:l[i]? = some c) (e:c≠x):cut x (l.drop i)=glue [c] (cut x (l.drop (i+1))):=by
  obtain ⟨hlt,he⟩:=List.getElem?_eq_some_iff.1 h
  rw [List.drop_eq_getElem_cons hlt,he,cut,if_neg e]
theorem Zwk {a b:UInt8} (h : ¬ (a.toNat:Int)=b.toNat):a≠b:=fun e=>h (by rw [e])
theorem Zpr {l:List UInt8} {c:UInt8} {i f:Nat} (h:l[i]? = some c) (hf:f≤i):(l.take i).drop f ++ [c]=(l.take (i+1)).drop f:=by
  have hlt:=Zb8 h
  rw [List.take_add_one,h]
  simp only [Option.toList_some]
  rw [List.drop_append_of_le_length (by rw [List.length_take];omega)]
theorem Zsc (a:List UInt8) (m:List (List UInt8)):glue a ([] :: m)=a :: m:=by simp [glue]
def Zcg (l:List UInt8):Bool:=(cut 46 l).all ZaA && decide ((cut 46 l).length≤3) && decide (l.length≤20)
theorem Zsb {a:List UInt8} {m:List (List UInt8)} {n:Nat} (h :∀p,p∈m→p.length≤n) :∀p,p∈glue a m→p.length≤a.length+n:=by
  cases m with
  | nil=>intro p hp;simp [glue] at hp;subst hp;omega
  | cons q qs=>
    intro p hp
    simp only [glue,List.mem_cons] at hp
    rcases hp with rfl | hp
    · rw [List.length_append];have:=h q (List.mem_cons_self ..);omega
    · have:=h p (List.mem_cons_of_mem _ hp);omega
theorem ZmY (x:UInt8) :∀(l p:List UInt8),p∈cut x l→p.length≤l.length
  | [],p,h=>by simp [cut] at h;subst h;simp
  | c :: r,p,h=>by
    rw [cut] at h
    split at h
    · rcases List.mem_cons.1 h with rfl | h
      · simp
      · have:=ZmY x r p h;simp;omega
    · have:=Zsb (ZmY x r) p h;simp at this ⊢;omega
theorem Zl2 {l:List (List UInt8)} {k:Nat} {c:List UInt8} (hc:l[k]? = some c) (h:ZaA c=false):l.all ZaA=false:=by
  rw [Bool.eq_false_iff];intro ha
  have:=List.all_eq_true.1 ha c (List.mem_of_getElem? hc)
  rw [h] at this;cases this
theorem Zi5 {l:List (List UInt8)} {k:Nat} {c:List UInt8} (hc:l[k]? = some c) (h:ZaA c=true) (ha:(l.take k).all ZaA=true):(l.take (k+1)).all ZaA=true:=by
  rw [List.take_add_one,hc];simp only [Option.toList_some,List.all_append,ha,List.all_cons,h,List.all_nil];rfl
theorem ZlR (x:UInt8) :∀l:List UInt8,(cut x l).length≤l.length+1
  | []=>by simp [cut]
  | c :: r=>by
    have h:=ZlR x r
    rw [cut]
    split
    · simp;omega
    · cases hq:cut x r with
      | nil=>exact absurd hq (ZnT x r)
      | cons p ps=>rw [hq] at h;simp [glue] at h ⊢;omega
end Go.BL
namespace Go.BL
open Go
set_option linter.unusedVariables false
set_option linter.unusedSimpArgs false
theorem ZkE {x:UInt8} :∀{l:List UInt8},x ∉ l→cut x l=[l]
  | [],_=>rfl
  | c :: r,h=>by
    rw [cut,if_neg (fun e=>h (by rw [e];exact List.mem_cons_self ..)),ZkE (fun hm=>h (List.mem_cons_of_mem _ hm))]
    rfl
theorem ZiX {x:UInt8} {b:List UInt8} :∀{a:List UInt8},x ∉ a→cut x (a ++ x :: b)=a :: cut x b
  | [],_=>by simp [cut]
  | c :: r,h=>by
    rw [List.cons_append,cut,if_neg (fun e=>h (by rw [e];exact List.mem_cons_self ..)),ZiX (fun hm=>h (List.mem_cons_of_mem _ hm))]
    rfl
theorem ZfI {x:UInt8} :∀{l:List UInt8},x∈l→∃a b,l=a ++ x :: b∧x ∉ a
  | c :: r,h=>by
    by_cases e:c=x
    · exact ⟨[],r,by simp [e],by simp⟩
    · have hr:x∈r:=(List.mem_cons.1 h).resolve_left (Ne.symm e)
      obtain ⟨a,b,h1,h2⟩:=ZfI hr
      exact ⟨c :: a,b,by simp [h1],by simp [Ne.symm e,h2]⟩
theorem Zjk (l:List UInt8) (i j:Nat):word l (i+j)=word (l.drop i) j:=by
  unfold word;rw [List.drop_drop]
theorem ZjF (l:List UInt8) (i:Nat) :∀n j,more n l (i+j)=((more n (l.drop i) j).1,i+(more n (l.drop i) j).2)
  | 0,j=>rfl
  | n+1,j=>by
    simp only [more,List.getElem?_drop]
    rw [show i+j+1=i+(j+1) from by omega,Zjk]
    split
    · split
      · rw [show i+(j+1)+(word (l.drop i) (j+1)).length=i+(j+1+(word (l.drop i) (j+1)).length) from by omega,ZjF l i n]
      · simp only [Prod.mk.injEq,true_and];omega
    · rfl
theorem Zrg {l:List UInt8} (h:l.all ZbI=true):word l 0=l:=by
  have:=(Zew (p:=ZbI) l).2 h
  have h2:=List.takeWhile_prefix ZbI (l:=l)
  simp only [word,List.drop_zero]
  exact List.IsPrefix.eq_of_length h2 this
theorem Zg2 {a b:List UInt8} {x:UInt8} (hx:ZbI x=false) (h:a.all ZbI=true):word (a ++ x :: b) 0=a:=by
  simp only [word,List.drop_zero]
  induction a with
  | nil=>simp [List.takeWhile,hx]
  | cons c a ih=>
    simp only [List.all_cons,Bool.and_eq_true] at h
    simp only [List.cons_append,List.takeWhile,h.1,ih h.2]
theorem Zg1 {a:List UInt8} (b:List UInt8) (h:a.all ZbI=false):(word (a ++ b) 0).length<a.length∧word (a ++ b) 0=word a 0:=by
  simp only [word,List.drop_zero]
  induction a with
  | nil=>simp at h
  | cons c a ih=>
    cases hc:ZbI c with
    | false=>simp [List.takeWhile,hc]
    | true=>
      have h':a.all ZbI=false:=by simpa [hc] using h
      have:=ih h'
      simp only [List.cons_append,List.takeWhile,hc,List.length_cons]
      exact ⟨by omega,by rw [this.2]⟩
theorem ZtT {a:List UInt8} (b:List UInt8) {k:Nat} (h:k<a.length):(a ++ b)[k]? = a[k]?:=List.getElem?_append_left h
theorem ZiH {x:UInt8} {a:List UInt8} (h:x ∉ a) (k:Nat):a[k]?≠some x:=fun e=>h (List.mem_of_getElem? e)
theorem ZpS :∀(n:Nat) (b:List UInt8),(ZdJ (word b 0)=true∧more n b (word b 0).length=(true,b.length))↔((cut 46 b).all ZaA=true∧(cut 46 b).length≤n+1):=by
  intro n
  induction n with
  | zero=>
    intro b
    by_cases hd:(46:UInt8)∈b
    · obtain ⟨a,r,rfl,ha⟩:=ZfI hd
      rw [ZiX ha]
      have hlen:(word (a ++ 46 :: r) 0).length≤a.length:=by
        cases hna:a.all ZbI with
        | true=>rw [Zg2 (by decide) hna];exact Nat.le_refl _
        | false=>exact Nat.le_of_lt (Zg1 _ hna).1
      constructor
      · rintro ⟨_,h2⟩
        simp only [more,Prod.mk.injEq,true_and] at h2
        rw [List.length_append,List.length_cons] at h2
        omega
      · rintro ⟨_,h2⟩
        have:=ZnT 46 r
        simp only [List.length_cons] at h2
        exact absurd (List.eq_nil_of_length_eq_zero (by omega)) this
    · rw [ZkE hd]
      simp only [more,List.all_cons,List.all_nil,Bool.and_true,List.length_cons,List.length_nil,Nat.zero_add,Nat.le_refl,and_true,Prod.mk.injEq,true_and,Zdu,Bool.and_eq_true,decide_eq_true_eq]
  | succ n ih=>
    intro b
    by_cases hd:(46:UInt8)∈b
    · obtain ⟨a,r,rfl,ha⟩:=ZfI hd
      rw [ZiX ha]
      cases hna:a.all ZbI with
      | true=>
        rw [Zg2 (by decide) hna]
        have hg:(a ++ 46 :: r)[a.length]? = some 46:=by simp
        have hdr:(a ++ 46 :: r).drop (a.length+1)=r:=by rw [List.drop_append];simp
        have hw:word (a ++ 46 :: r) (a.length+1)=word r 0:=by
          have:=Zjk (a ++ 46 :: r) (a.length+1) 0
          rw [Nat.add_zero,hdr] at this;exact this
        have hm:more n (a ++ 46 :: r) (a.length+1+(word r 0).length)=((more n r (word r 0).length).1,a.length+1+(more n r (word r 0).length).2):=by
          rw [ZjF,hdr]
        simp only [more,hg,if_true,hw,hm,List.all_cons,Bool.and_eq_true,List.length_cons]
        have hna':ZaA a=ZdJ a:=by rw [Zdu,Zrg hna];simp
        have hi:=ih r
        constructor
        · rintro ⟨h1,h2⟩
          split at h2
          · rename_i h3
            simp only [Prod.mk.injEq,List.length_append,List.length_cons] at h2
            have:=hi.1 ⟨h3,by ext1;exact h2.1;simp only [];omega⟩
            exact ⟨⟨by rw [hna'];exact h1,this.1⟩,by omega⟩
          · simp at h2
        · rintro ⟨⟨h1,h2⟩,h3⟩
          obtain ⟨h4,h5⟩:=hi.2 ⟨h2,by omega⟩
          refine ⟨by rw [← hna'];exact h1,?_⟩
          rw [if_pos h4,h5]
          simp;omega
      | false=>
        obtain ⟨h1,h2⟩:=Zg1 (46 :: r) hna
        have hne:ZaA a=false:=by simp [ZaA,hna]
        constructor
        · rintro ⟨_,h3⟩
          rw [Zil (by rw [ZtT _ h1];exact ZiH ha _)] at h3
          simp only [Prod.mk.injEq,true_and,List.length_append,List.length_cons] at h3
          omega
        · rintro ⟨h3,_⟩
          simp [hne] at h3
    · rw [ZkE hd]
      rw [Zil (ZiH hd _)]
      simp only [List.all_cons,List.all_nil,Bool.and_true,List.length_cons,List.length_nil,Prod.mk.injEq,true_and,Zdu,Bool.and_eq_true,decide_eq_true_eq]
      constructor
      · rintro ⟨h1,h2⟩;exact ⟨⟨h1,h2⟩,by omega⟩
      · rintro ⟨⟨h1,h2⟩,_⟩;exact ⟨h1,h2⟩
theorem ZlP (b:List UInt8):((dom b 0).1=true∧(dom b 0).2≤20∧(dom b 0).2=b.length)↔Zcg b=true:=by
  have h:=ZpS 2 b
  simp only [Zcg,Bool.and_eq_true,decide_eq_true_eq]
  constructor
  · rintro ⟨h1,h2,h3⟩
    cases hw:ZdJ (word b 0) with
    | false=>simp [dom,hw] at h1
    | true=>
      simp only [dom,hw,if_true,Nat.zero_add] at h1 h2 h3
      have:=h.1 ⟨hw,by ext1;exact h1;exact h3⟩
      exact ⟨⟨this.1,this.2⟩,by omega⟩
  · rintro ⟨⟨h1,h2⟩,h3⟩
    obtain ⟨h4,h5⟩:=h.2 ⟨h1,h2⟩
    simp only [dom,h4,if_true,Nat.zero_add,h5]
    exact ⟨trivial,h3,trivial⟩
end Go.BL
namespace Go.BL
open Go
set_option linter.unusedVariables false
set_option linter.unusedSimpArgs false
theorem Zbi {α:Type} {p:α→Prop} {l:List α} {k:Nat} {x:α} (hx:l[k]? = some x) (h :∀y,y∈l.take k→p y) (hp:p x) :∀y,y∈l.take (k+1)→p y:=by
  intro y hy
  rw [List.take_add_one,hx] at hy
  simp only [Option.toList_some,List.mem_append,List.mem_singleton] at hy
  rcases hy with hy | rfl
  · exact h y hy
  · exact hp
def Zdw (us:List DUser) (u:Str):Int:=match us.findIdx? (fun x=>decide (x.name=u)) with | some i=>i | none=>-1
theorem ZrY {us:List DUser} {u:Str} {k:Nat} {x:DUser} (hx:us[k]? = some x) (he:x.name=u) (h :∀y,y∈us.take k→y.name≠u):Zdw us u=k:=by
  have:us.findIdx? (fun x=>decide (x.name=u))=some k:=by
    rw [List.findIdx?_eq_some_iff_getElem]
    obtain ⟨hk,rfl⟩:=List.getElem?_eq_some_iff.1 hx
    refine ⟨hk,by simpa using he,fun j hj=>?_⟩
    have:=h us[j] (by rw [List.mem_take_iff_getElem];exact ⟨j,by omega,rfl⟩)
    simpa using this
  rw [Zdw,this]
theorem Zqa {us:List DUser} {u:Str} (h :∀y,y∈us→y.name≠u):Zdw us u = -1:=by
  have:us.findIdx? (fun x=>decide (x.name=u))=none:=by
    rw [List.findIdx?_eq_none_iff]
    intro x hx
    simpa using h x hx
  rw [Zdw,this]
theorem Zcj {α:Type} {as bs:List α} {k:Nat} {x y:α} (hx:as[k]? = some x) (hy:bs[k]? = some y) (e:x=y) (h:as.take k=bs.take k):as.take (k+1)=bs.take (k+1):=by
  rw [List.take_add_one,List.take_add_one,hx,hy,e,h]
theorem ZiQ {α:Type} {as bs:List α} {inst:Decidable (as=bs)} (h : ¬ (as.length:Int)=bs.length):false=decide (as=bs):=by
  symm;rw [decide_eq_false_iff_not];intro e;exact h (by rw [e])
theorem Zgu {α:Type} {as bs:List α} {inst:Decidable (as=bs)} {k:Nat} {x y:α} (hx:as[k]? = some x) (hy:bs[k]? = some y) (e : ¬ x=y):false=decide (as=bs):=by
  symm;rw [decide_eq_false_iff_not];intro h;rw [h,hy] at hx;exact e (Option.some.inj hx).symm
theorem eqT {α:Type} {as bs:List α} {inst:Decidable (as=bs)} {k:Nat} (hl:as.length=bs.length) (hk:k=as.length) (h:as.take k=bs.take k):true=decide (as=bs):=by
  symm;rw [decide_eq_true_eq]
  rw [List.take_of_length_le (by omega),List.take_of_length_le (by omega)] at h;exact h
theorem Zx6 {α:Type} {as:List α} {x:α} {inst:Decidable (x∈as)} (h :∀y,y∈as→y≠x):false=decide (x∈as):=by
  symm;rw [decide_eq_false_iff_not];intro hx;exact h x hx rfl
theorem Zx5 {α:Type} {as:List α} {x y:α} {inst:Decidable (x∈as)} {k:Nat} (hy:as[k]? = some y) (e:y=x):true=decide (x∈as):=by
  symm;rw [decide_eq_true_eq];subst e;exact List.mem_of_getElem? hy
theorem Zbq {α:Type} {p:α→Prop} {l:List α} {k:Nat} (hk : ¬ (k:Int)<l.length) (h :∀y,y∈l.take k→p y) :∀y,y∈l→p y:=by
  rwa [List.take_of_length_le (by omega)] at h
theorem ZkD {α:Type} {l:List α} {k:Nat} {x:α} (h:l[k]? = some x):l.drop k=x :: l.drop (k+1):=by
  obtain ⟨hlt,he⟩:=List.getElem?_eq_some_iff.1 h
  rw [List.drop_eq_getElem_cons hlt,he]
theorem ZqI {α:Type} {l:List α} {k:Nat} (h : ¬ (k:Int)<l.length):l.drop k=[]:=List.drop_eq_nil_of_le (by omega)
def Zcu (l:List Str):Bool:=l.all ZaA && decide l.Nodup && decide (l.length≤3)
def Zar (x:DLetter):Bool:=ZaA x.fr && Zcu x.to_ && decide (0<x.to_.length) && decide (x.text.length≤20)
def Zcw (x:DItem):Bool:=Zar ⟨x.fr,x.left,x.text⟩
def ZcU:Int→List DItem→Option Int
  | last,[]=>some last
  | last,x :: r=>if (last+1≤x.id∧x.id≤99)∧Zcw x=true then ZcU x.id r else none
def Zai (q:DQueue):Bool:=match ZcU 0 q.items with
  | some last=>decide (last+1≤q.next) && decide (q.next≤100) && decide (q.items.length≤6)
  | none=>false
theorem ZpR {α:Type} {l:List α} {k:Nat} {x:α} (hx:l[k]? = some x) (h:(l.take k).Nodup) (hn : ¬ x∈l.take k):(l.take (k+1)).Nodup:=by
  rw [List.take_add_one,hx]
  simp only [Option.toList_some]
  rw [List.nodup_append]
  exact ⟨h,by simp,fun a ha b hb=>by rw [List.mem_singleton.1 hb];exact fun e=>hn (e ▸ ha)⟩
theorem ZtA {α:Type} {l:List α} {k:Nat} {x:α} (hx:l[k]? = some x) (h:x∈l.take k) : ¬ l.Nodup:=by
  intro hn
  have e:l=l.take k ++ l.drop k:=(List.take_append_drop k l).symm
  rw [e,ZkD hx,List.nodup_append] at hn
  exact hn.2.2 x h x (List.mem_cons_self ..) rfl
theorem Zhe {l:List Str} {k:Nat} {x:Str} (hx:l[k]? = some x) (h:ZaA x=false):false=Zcu l:=by
  simp [Zcu,Zl2 hx h]
theorem Zhd {l:List Str} {k:Nat} {x:Str} (hx:l[k]? = some x) (h:x∈l.take k):false=Zcu l:=by
  simp [Zcu,ZtA hx h]
theorem Zik {l:List Str} {k:Nat} (hk : ¬ (k:Int)<l.length) (ha:(l.take k).all ZaA=true) (hn:(l.take k).Nodup):decide ((l.length:Int)≤3)=Zcu l:=by
  rw [List.take_of_length_le (by omega)] at ha hn
  rw [Bool.eq_iff_iff];simp only [Zcu,ha,decide_eq_true hn,Bool.true_and,decide_eq_true_eq];omega
def Zbc {α:Type} (p:α→Bool) (xs:List α):Int:=match xs.findIdx? p with | some i=>i | none=>-1
theorem ZhF {α:Type} {p:α→Bool} {xs:List α} {k:Nat} {x:α} (hx:xs[k]? = some x) (he:p x=true) (h :∀y,y∈xs.take k→p y=false):Zbc p xs=k:=by
  have:xs.findIdx? p=some k:=by
    rw [List.findIdx?_eq_some_iff_getElem]
    obtain ⟨hk,rfl⟩:=List.getElem?_eq_some_iff.1 hx
    refine ⟨hk,he,fun j hj=>?_⟩
    have:=h xs[j] (by rw [List.mem_take_iff_getElem];exact ⟨j,by omega,rfl⟩)
    simpa using this
  rw [Zbc,this]
theorem Ze5 {α:Type} {p:α→Bool} {xs:List α} (h :∀y,y∈xs→p y=false):Zbc p xs = -1:=by
  have:xs.findIdx? p=none:=by
    rw [List.findIdx?_eq_none_iff]
    intro x hx
    simpa using h x hx
  rw [Zbc,this]
theorem Zez {α:Type} {p:α→Bool} {xs:List α} : (0≤Zbc p xs)↔∃x,x∈xs∧p x=true:=by
  cases h:xs.findIdx? p with
  | none=>
    rw [List.findIdx?_eq_none_iff] at h
    simp only [Zbc,List.findIdx?_eq_none_iff.2 h]
    refine ⟨fun e=>absurd e (by omega),fun ⟨x,hx,hp⟩=>?_⟩
    rw [h x hx] at hp;cases hp
  | some i=>
    simp only [Zbc,h]
    rw [List.findIdx?_eq_some_iff_getElem] at h
    obtain ⟨hi,hp,_⟩:=h
    exact ⟨fun _=>⟨_,List.getElem_mem hi,hp⟩,fun _=>by omega⟩
def ZwE (xs:List Str) (v:Str):Int:=Zbc (fun x=>decide (x=v)) xs
theorem ZrZ {xs:List Str} {v:Str} : (0≤ZwE xs v)↔v∈xs:=by
  rw [ZwE,Zez];simp
theorem Znv {q:DQueue} (h:ZcU 0 q.items=none):false=Zai q:=by simp [Zai,h]
theorem Znu {q:DQueue} {last:Int} (h:ZcU 0 q.items=some last):(decide (last+1≤q.next) && decide (q.next≤100) && decide (q.items.length≤6))=Zai q:=by simp [Zai,h]
theorem ZpD {q:DQueue} {k:Nat} {last:Int} {x:DItem} (hs:ZcU 0 q.items=ZcU last (q.items.drop k)) (hx:q.items[k]? = some x):ZcU 0 q.items=if (last+1≤x.id∧x.id≤99)∧Zcw x=true then ZcU x.id (q.items.drop (k+1)) else none:=by
  rw [hs,ZkD hx,ZcU]
theorem Zhx {a b:DQueue} {k:Nat} {x y:DItem} (hx:a.items[k]? = some x) (hy:b.items[k]? = some y) (e : ¬ x=y):false=decide (a=b):=by
  symm;rw [decide_eq_false_iff_not];rintro rfl;rw [hx] at hy;exact e (Option.some.inj hy)
def rep (l:Str) (n:Nat):Str:=(List.replicate n l).flatten
theorem Zke (l:Str) (n:Nat):(rep l n).length=n*l.length:=by simp [rep]
theorem Ze1 (x:DLetter):Zar x=(ZaA x.fr && (decide (1≤x.to_.length) && Zcu x.to_) && decide ((x.text.length:Int)≤20)):=by
  rw [Bool.eq_iff_iff];simp only [Zar,Bool.and_eq_true,decide_eq_true_eq]
  constructor
  · rintro ⟨⟨⟨a,b⟩,c⟩,d⟩;exact ⟨⟨a,by omega,b⟩,by omega⟩
  · rintro ⟨⟨a,c,b⟩,d⟩;exact ⟨⟨⟨a,b⟩,by omega⟩,by omega⟩
theorem Zat.mono {B B':Kn} {q:Option Addr} {m:Nat} (h:Zat B q m) (hle:B.le B'):Zat B' q m:=fun j hj=>by
  obtain ⟨a,c,h1,h2,h3⟩:=h j hj
  exact ⟨a,c,h1,h2,h3.mono hle⟩
theorem Ztq (l:Str) (n:Nat) (h:n % 2=1):rep l n=l ++ rep (l ++ l) (n / 2):=by
  obtain ⟨k,rfl⟩ :∃k,n=2*k+1:=⟨n / 2,by omega⟩
  have e:(2*k+1) / 2=k:=by omega
  rw [e]
  clear h e
  induction k with
  | zero=>simp [rep]
  | succ k ih=>
    rw [show 2*(k+1)+1=(2*k+1)+1+1 from by omega]
    simp only [rep,List.replicate_succ,List.flatten_cons] at ih ⊢
    rw [ih];simp
theorem Zrv (l:Str) (n:Nat) (h:n % 2=0):rep l n=rep (l ++ l) (n / 2):=by
  obtain ⟨k,rfl⟩ :∃k,n=2*k:=⟨n / 2,by omega⟩
  have e:2*k / 2=k:=by omega
  rw [e]
  clear h e
  induction k with
  | zero=>simp [rep]
  | succ k ih=>
    rw [show 2*(k+1)=(2*k)+1+1 from by omega]
    simp only [rep,List.replicate_succ,List.flatten_cons] at ih ⊢
    rw [ih];simp
structure Gh (α:Type) where
  k:Nat
  p:Nat
  l:Cells
  a:Option Addr
  c:Nat
  xs:List α
theorem Zaw {α:Type} {l:List α} {k:Nat} {x:α} (hx:l[k]? = some x):l.take (k+1)=l.take k ++ [x]:=by
  rw [List.take_add_one,hx];rfl
def Zer (q:DQueue) (x:DLetter):DQueue × Bool:=
  if Zai q=true∧Zar x=true then
    (if 6≤q.items.length∨99<q.next then (q,false) else (⟨q.next+1,q.items ++ [⟨q.next,x.fr,x.text,x.to_⟩]⟩,true))
  else (⟨0,[]⟩,false)
theorem Zl4 {q:DQueue} {x:DLetter} (h:Zai q=false):Zer q x=(⟨0,[]⟩,false):=by simp [Zer,h]
theorem Zl3 {q:DQueue} {x:DLetter} (h:Zar x=false):Zer q x=(⟨0,[]⟩,false):=by simp [Zer,h]
theorem Zgy {q:DQueue} {x:DLetter} (h:Zai q=true) (h':Zar x=true) (hf:6≤q.items.length∨99<q.next):Zer q x=(q,false):=by rw [Zer,if_pos ⟨h,h'⟩,if_pos hf]
theorem ZqX {q:DQueue} {x:DLetter} (h:Zai q=true) (h':Zar x=true) (h1 : ¬ 6≤q.items.length) (h2 : ¬ 99<q.next):Zer q x=(⟨q.next+1,q.items ++ [⟨q.next,x.fr,x.text,x.to_⟩]⟩,true):=by
  rw [Zer,if_pos ⟨h,h'⟩,if_neg (by omega)]
theorem ZpE :∀{xs:List DItem} {l r:Int},ZcU l xs=some r→l≤r
  | [],l,r,h=>by simp only [ZcU,Option.some.injEq] at h;omega
  | x :: xs,l,r,h=>by
    rw [ZcU] at h
    split at h
    · rename_i e;have:=ZpE h;omega
    · cases h
theorem ZcW {q:DQueue} (h:Zai q=true):1≤q.next∧q.next≤100∧q.items.length≤6:=by
  unfold Zai at h
  split at h
  · rename_i last e
    have:=ZpE e
    simp only [Bool.and_eq_true,decide_eq_true_eq] at h
    omega
  · cases h
structure Gh2 (α β:Type) where
  k:Nat
  p:Nat
  l:Cells
  a:Option Addr
  c:Nat
  xs:List α
  e:β
def without (xs:List Str) (u:Str):List Str:=xs.filter fun x=>decide (x≠u)
theorem ZkM {xs:List Str} {u:Str} {k:Nat} {x:Str} (hx:xs[k]? = some x) (h : ¬ x=u):without (xs.take (k+1)) u=without (xs.take k) u ++ [x]:=by
  rw [Zaw hx,without,without,List.filter_append];simp [h]
theorem ZkL {xs:List Str} {u:Str} {k:Nat} {x:Str} (hx:xs[k]? = some x) (h:x=u):without (xs.take (k+1)) u=without (xs.take k) u:=by
  rw [Zaw hx,without,without,List.filter_append];simp [h]
theorem ZhO (xs:List Str) (u:Str):(without xs u).length≤xs.length:=List.length_filter_le _ _
def ZbJ (id:Int) (u:Str) (x:DItem):DItem:=if x.id=id∧u∈x.left then ⟨x.id,x.fr,x.text,without x.left u⟩ else x
def ZeN (id:Int) (u:Str) (xs:List DItem):List DItem:=(xs.map (ZbJ id u)).filter fun x=>decide (0<x.left.length)
def ZbV (id:Int) (u:Str) (s:Str × Bool) (x:DItem):Str × Bool:=if x.id=id∧u∈x.left then (x.text,true) else s
def ZfH (id:Int) (u:Str) (xs:List DItem):Str × Bool:=xs.foldl (ZbV id u) ([],false)
theorem ZeS {id:Int} {u:Str} {x:DItem} (h:x.id=id) (h':u∈x.left):ZbJ id u x=⟨x.id,x.fr,x.text,without x.left u⟩:=by rw [ZbJ,if_pos ⟨h,h'⟩]
theorem Zg7 {id:Int} {u:Str} {x:DItem} (h : ¬ x.id=id):ZbJ id u x=x:=by rw [ZbJ,if_neg (fun e=>h e.1)]
theorem Zg6 {id:Int} {u:Str} {x:DItem} (h : ¬ u∈x.left):ZbJ id u x=x:=by rw [ZbJ,if_neg (fun e=>h e.2)]
theorem Zh2 {id:Int} {u:Str} {xs:List DItem} {k:Nat} {x y:DItem} (hx:xs[k]? = some x) (e:ZbJ id u x=y) (h:0<y.left.length):ZeN id u (xs.take (k+1))=ZeN id u (xs.take k) ++ [y]:=by
  rw [Zaw hx,ZeN,ZeN,List.map_append,List.filter_append];simp [e,h]
theorem ZgC {id:Int} {u:Str} {xs:List DItem} {k:Nat} {x y:DItem} (hx:xs[k]? = some x) (e:ZbJ id u x=y) (h : ¬ 0<y.left.length):ZeN id u (xs.take (k+1))=ZeN id u (xs.take k):=by
  rw [Zaw hx,ZeN,ZeN,List.map_append,List.filter_append];simp [e,show y.left.length=0 by omega]
theorem Zk5 {id:Int} {u:Str} {xs:List DItem} {k:Nat} {x:DItem} (hx:xs[k]? = some x) (h:x.id=id) (h':u∈x.left):ZfH id u (xs.take (k+1))=(x.text,true):=by
  rw [Zaw hx,ZfH,List.foldl_append];simp [ZbV,h,h']
theorem Zk4 {id:Int} {u:Str} {xs:List DItem} {k:Nat} {x:DItem} (hx:xs[k]? = some x) (h : ¬ x.id=id):ZfH id u (xs.take (k+1))=ZfH id u (xs.take k):=by
  rw [Zaw hx,ZfH,List.foldl_append];simp [ZbV,h,ZfH]
theorem Zk3 {id:Int} {u:Str} {xs:List DItem} {k:Nat} {x:DItem} (hx:xs[k]? = some x) (h : ¬ u∈x.left):ZfH id u (xs.take (k+1))=ZfH id u (xs.take k):=by
  rw [Zaw hx,ZfH,List.foldl_append];simp [ZbV,h,ZfH]
theorem Zh1 (id:Int) (u:Str) (xs:List DItem):(ZeN id u xs).length≤xs.length:=by
  unfold ZeN;exact Nat.le_trans (List.length_filter_le _ _) (by simp)
def Zb6 (q:DQueue) (id:Int) (u:Str):DQueue × Str × Bool:=(⟨q.next,ZeN id u q.items⟩,(ZfH id u q.items).1,(ZfH id u q.items).2)
def Zc2 (q:DQueue) (id:Int) (u:Str):DQueue × Str × Bool:=if Zai q=true then Zb6 q id u else (⟨0,[]⟩,[],false)
structure GQ where
  k:Nat
  p:Nat
  l:Cells
  a:Option Addr
  c:Nat
  q:DQueue
structure GM where
  b:Nat
  p:Nat
  l:Cells
  a:Option Addr
  c:Nat
  q:DQueue
  f:Bool
theorem Zfp (q:DQueue) (x:DLetter):(Zer q x).1.items.length≤q.items.length+1:=by
  unfold Zer
  split
  · split
    · exact Nat.le_succ _
    · simp
  · exact Nat.zero_le _
theorem Zlg (q:DQueue) (id:Int) (u:Str):(Zc2 q id u).1.items.length≤q.items.length:=by
  unfold Zc2
  split
  · exact Zh1 _ _ _
  · exact Nat.zero_le _
theorem ZqH {α:Type} {xs:List α} {j:Nat} {y:α} (h:xs[j]? = some y):xs.drop j=y :: xs.drop (j+1):=by
  obtain ⟨hj,rfl⟩:=List.getElem?_eq_some_iff.1 h
  exact List.drop_eq_getElem_cons hj
structure QOf where
  p:Option Addr
  ys:List DItem
  xs:List DItem
  l:Cells
  q:Option Addr
  c:Nat
  cells:Cells
theorem Z2.slice0 {α:Type} {B:Kn} {l:Cells} {p:Option Addr} {c:Nat} {T:TypeId} {w sz:Nat} {R:Rel α} {xs:List α} (h:Z2 B l p c T w R xs):(if c=0 then p else p.map (fun a=>a.add (0*sz)))=p:=by
  obtain ⟨rows,_,_,_,⟨rfl,_,rfl,_⟩ | ⟨b,arr,rfl,_,_,_,_⟩⟩:=h
  · rfl
  · split
    · rfl
    · rw [Nat.zero_mul];simp [Addr.add_off]
theorem ZgH {q:DQueue} (h : ¬ (q.items.length≤6∧1≤q.next∧q.next≤100)):false=Zai q:=by
  symm;rw [Bool.eq_false_iff];intro hq
  have:=ZcW hq
  omega
end Go.BL
namespace Go.BL
open Go
set_option linter.unusedVariables false
set_option linter.unusedSimpArgs false
def hat (xs:List Int) (k:Nat):Int:=xs.getD k 0
def swp (xs:List Int) (i j:Nat):List Int:=(xs.set i (hat xs j)).set j (hat xs i)
def ZdH (xs:List Int):Prop:=∀k,0<k→k<xs.length→hat xs ((k - 1) / 2)≤hat xs k
def Zf3 (xs:List Int) (j:Nat):Prop:=(∀k,0<k→k<xs.length→k≠j→hat xs ((k - 1) / 2)≤hat xs k)∧(∀k,0<k→k<xs.length→(k - 1) / 2=j→0<j→hat xs ((j - 1) / 2)≤hat xs k)
theorem ZtR {xs:List Int} {k:Nat} {a:Int} (h:xs[k]? = some a):hat xs k=a:=by simp [hat,List.getD,h]
theorem Za5 {xs:List Int} {k:Nat} (h:k<xs.length):xs[k]? = some (hat xs k):=by simp [hat,List.getD,List.getElem?_eq_getElem h]
theorem Zdp (xs:List Int) (i j:Nat):(swp xs i j).length=xs.length:=by simp [swp]
theorem Ze6 {xs:List Int} {i j:Nat} (hi:i<xs.length) (hj:j<xs.length) (k:Nat):hat (swp xs i j) k=if k=j then hat xs i else if k=i then hat xs j else hat xs k:=by
  simp only [hat,swp,List.getD,List.getElem?_set]
  by_cases h1:k=j
  · subst h1;simp [hj]
  · have h1' : ¬j=k:=fun h=>h1 h.symm
    by_cases h2:k=i
    · subst h2;simp [hi,h1,h1']
    · have h2' : ¬i=k:=fun h=>h2 h.symm
      simp [h1,h1',h2,h2']
theorem Zgb {xs:List Int} {i j:Nat} (hi:i<xs.length) (hj:j<xs.length):(swp xs i j).Perm xs:=by
  rw [List.perm_iff_count]
  intro a
  unfold swp
  rw [List.count_set (by simpa using hj),List.count_set hi]
  have e1:(xs.set i (hat xs j))[j]'(by simpa using hj)=hat xs j:=by
    rw [List.getElem_set];split
    · rfl
    · simp [hat,List.getD,List.getElem?_eq_getElem hj]
  have e2:xs[i]=hat xs i:=by simp [hat,List.getD,List.getElem?_eq_getElem hi]
  rw [e1,e2]
  have hp :∀v,(v == a)=true→v∈xs→0<List.count a xs:=fun v hv hm=>by
    rw [beq_iff_eq] at hv;subst hv;exact List.count_pos_iff.2 hm
  have hm1:hat xs i∈xs:=by rw [← e2];exact List.getElem_mem _
  by_cases h1:(hat xs i == a)=true <;> by_cases h2:(hat xs j == a)=true <;> simp [h1,h2] <;> (try have:=hp _ h1 hm1;omega)
theorem Ztf {xs:List Int} (h:Zf3 xs 0):ZdH xs:=fun k h0 hk=>h.1 k h0 hk (by omega)
theorem Zth {xs:List Int} {j:Nat} (h:Zf3 xs j) (hj:hat xs ((j - 1) / 2)≤hat xs j):ZdH xs:=fun k h0 hk=>by
  by_cases e:k=j
  · subst e;exact hj
  · exact h.1 k h0 hk e
theorem Ztg {xs:List Int} {j:Nat} (h0:0<j) (hj:j<xs.length) (h:Zf3 xs j) (hlt:hat xs j<hat xs ((j - 1) / 2)):Zf3 (swp xs ((j - 1) / 2) j) ((j - 1) / 2):=by
  have hi:(j - 1) / 2<xs.length:=by omega
  have H:=fun k=>Ze6 hi hj k
  generalize hii:(j - 1) / 2=i at *
  refine ⟨fun k hk0 hk hne=>?_,fun k hk0 hk hpar hi0=>?_⟩
  · rw [Zdp] at hk
    rw [H,H]
    by_cases e1:k=j
    · subst e1
      rw [hii];rw [if_neg (by omega),if_pos rfl,if_pos rfl];omega
    · rw [if_neg e1,if_neg hne]
      by_cases e2:(k - 1) / 2=j
      · rw [if_pos e2];have:=h.2 k hk0 hk e2 h0;rw [hii] at this;exact this
      · rw [if_neg e2]
        by_cases e3:(k - 1) / 2=i
        · rw [if_pos e3];have:=h.1 k hk0 hk e1;rw [e3] at this;omega
        · rw [if_neg e3];exact h.1 k hk0 hk e1
  · rw [Zdp] at hk
    rw [H,H]
    have hpi:(i - 1) / 2≠i:=by omega
    have hpj:(i - 1) / 2≠j:=by omega
    rw [if_neg hpj,if_neg hpi]
    have hii2:=h.1 i hi0 hi (by omega)
    by_cases e1:k=j
    · rw [if_pos e1];exact hii2
    · rw [if_neg e1,if_neg (by omega)]
      have:=h.1 k hk0 hk e1;rw [hpar] at this;omega
theorem Zr2 {xs:List Int} (h:ZdH xs) :∀k,k<xs.length→hat xs 0≤hat xs k:=fun k=>by
  induction k using Nat.strongRecOn with
  | ind k ih=>
    intro hk
    by_cases h0:k=0
    · subst h0;exact Int.le_refl _
    · have h1:=ih ((k - 1) / 2) (by omega) (by omega)
      have h2:=h k (by omega) hk
      omega
def ZsE (xs:List Int) (n:Nat):Prop:=∀k,0<k→k<n→hat xs ((k - 1) / 2)≤hat xs k
def Zff (xs:List Int) (n i:Nat):Prop:=(∀k,0<k→k<n→(k - 1) / 2≠i→hat xs ((k - 1) / 2)≤hat xs k)∧(∀k,0<k→k<n→(k - 1) / 2=i→0<i→hat xs ((i - 1) / 2)≤hat xs k)
theorem ZqK {xs:List Int} {n i:Nat} (h:Zff xs n i) (hl:n≤2*i+1):ZsE xs n:=fun k h0 hk=>h.1 k h0 hk (by omega)
theorem ZiV {xs:List Int} {n i:Nat} (h:Zff xs n i) (hc :∀k,0<k→k<n→(k - 1) / 2=i→hat xs i≤hat xs k):ZsE xs n:=fun k h0 hk=>by
  by_cases e:(k - 1) / 2=i
  · rw [e];exact hc k h0 hk e
  · exact h.1 k h0 hk e
theorem ZiU {xs:List Int} {n i j:Nat} (hn:n≤xs.length) (hj0:0<j) (hj:j<n) (hpj:(j - 1) / 2=i) (h:Zff xs n i) (hmin :∀k,0<k→k<n→(k - 1) / 2=i→hat xs j≤hat xs k) (hlt:hat xs j<hat xs i):Zff (swp xs i j) n j:=by
  have hi:i<xs.length:=by omega
  have hij:i≠j:=by omega
  have H:=fun k=>Ze6 hi (show j<xs.length by omega) k
  refine ⟨fun k hk0 hk hne=>?_,fun k hk0 hk hpar _=>?_⟩
  · rw [H,H,if_neg hne]
    by_cases e1:k=j
    · subst e1;rw [if_pos hpj,if_pos rfl];omega
    · rw [if_neg e1]
      by_cases e2:(k - 1) / 2=i
      · rw [if_pos e2,if_neg (by omega)];exact hmin k hk0 hk e2
      · rw [if_neg e2]
        by_cases e3:k=i
        · rw [if_pos e3];subst e3;exact h.2 j hj0 hj hpj hk0
        · rw [if_neg e3];exact h.1 k hk0 hk e2
  · rw [H,H,hpj,if_neg hij,if_pos rfl,if_neg (by omega),if_neg (by omega)]
    have:=h.1 k hk0 hk (by omega)
    rwa [hpar] at this
theorem Zwm (k:Nat):Int.tdiv ((k:Int) - 1) 2=(((k - 1) / 2:Nat):Int):=by
  cases k with
  | zero=>rfl
  | succ k=>rw [show ((k+1:Nat):Int) - 1=(k:Int) from by omega,Int.tdiv_eq_ediv_of_nonneg (by omega)];simp
theorem Zqj {xs:List Int} {z:Int} {k:Nat} (h:k<xs.length):hat (xs ++ [z]) k=hat xs k:=by
  simp [hat,List.getD,List.getElem?_append_left h]
theorem Zrx {xs:List Int} {z:Int} (h:ZdH xs):Zf3 (xs ++ [z]) xs.length:=by
  refine ⟨fun k h0 hk hne=>?_,fun k h0 hk hp _=>?_⟩
  · rw [List.length_append,List.length_singleton] at hk
    rw [Zqj (by omega),Zqj (by omega)]
    exact h k h0 (by omega)
  · rw [List.length_append,List.length_singleton] at hk
    omega
theorem Ztr {xs:List Int} (h:ZdH xs) (h0:0<xs.length):Zff (swp xs 0 (xs.length - 1)) (xs.length - 1) 0:=by
  refine ⟨fun k hk0 hk hne=>?_,fun k hk0 hk hpar hh=>absurd hh (by omega)⟩
  rw [Ze6 h0 (by omega),Ze6 h0 (by omega),if_neg (by omega),if_neg (by omega),if_neg (by omega),if_neg (by omega)]
  exact h k hk0 (by omega)
theorem Zrp {xs:List Int} (h0:0<xs.length):hat (swp xs 0 (xs.length - 1)) (xs.length - 1)=hat xs 0:=by rw [Ze6 h0 (by omega),if_pos rfl]
theorem ZnI {xs:List Int} {n k:Nat} (h:k<n):hat (xs.take n) k=hat xs k:=by simp [hat,List.getD,List.getElem?_take,h]
theorem ZoF {ys:List Int} {n:Nat} (h:ZsE ys n) (hn:n≤ys.length):ZdH (ys.take n):=fun k h0 hk=>by
  rw [List.length_take] at hk
  rw [ZnI (by omega),ZnI (by omega)]
  exact h k h0 (by omega)
theorem ZrA {xs ys:List Int} (h0:0<ys.length) (hp:ys.Perm xs) {z:Int} (hz:hat ys (ys.length - 1)=z):(z :: ys.take (ys.length - 1)).Perm xs:=by
  refine List.Perm.trans ?_ hp
  have e:ys=ys.take (ys.length - 1) ++ [z]:=by
    have h1:=Zaw (Za5 (xs:=ys) (k:=ys.length - 1) (by omega))
    rw [show ys.length - 1+1=ys.length from by omega,List.take_length] at h1
    rw [hz] at h1;exact h1
  have h2:(z :: ys.take (ys.length - 1)).Perm (ys.take (ys.length - 1) ++ [z]):=(List.perm_append_singleton z _).symm
  rwa [← e] at h2
theorem Zr1:ZdH []:=fun k h0 hk=>by simp at hk
def asc:Int→Int→List Int→Bool
  | _,_,[]=>true
  | b,l,x :: r=>decide (b<x) && decide (x≤l) && asc x l r
theorem Zm4 :∀{r:List Int} {b l z:Int},asc b l r=true→z∈r→b<z
  | [],_,_,_,_,hz=>by cases hz
  | x :: r,b,l,z,h,hz=>by
    simp only [asc,Bool.and_eq_true,decide_eq_true_eq] at h
    rcases List.mem_cons.1 hz with rfl | hz
    · exact h.1.1
    · have:=Zm4 h.2 hz;omega
theorem ZtQ {xs:List Int} {k:Nat} (h:k<xs.length):hat xs k∈xs:=List.mem_of_getElem? (Za5 h)
theorem Zsu {b l x:Int} {r ys:List Int} (hp:ys.Perm (x :: r)) (hh:ZdH ys) (hne:hat ys 0≠x):false=asc b l (x :: r):=by
  symm;rw [Bool.eq_false_iff]
  intro h
  have h0:0<ys.length:=by rw [hp.length_eq];simp
  have hm:=hp.mem_iff.1 (ZtQ h0)
  simp only [asc,Bool.and_eq_true,decide_eq_true_eq] at h
  rcases List.mem_cons.1 hm with e | hm
  · exact hne e
  · have h1:=Zm4 h.2 hm
    obtain ⟨k,hk⟩:=List.mem_iff_getElem?.1 (hp.mem_iff.2 (List.mem_cons_self (a:=x) (l:=r)))
    have h2:=Zr2 hh k (List.getElem?_eq_some_iff.1 hk).1
    rw [ZtR hk] at h2
    omega
theorem Zst {b l x:Int} {r:List Int} (h:x≤b):false=asc b l (x :: r):=by simp [asc,show ¬ b<x from by omega]
theorem Zss {b l x:Int} {r:List Int} (h:l<x):false=asc b l (x :: r):=by simp [asc,show ¬ x≤l from by omega]
theorem ZvJ {b l x:Int} {r:List Int} (h : ¬ x≤b) (h2 : ¬ l<x):asc b l (x :: r)=asc x l r:=by simp [asc,show b<x from by omega,show x≤l from by omega]
theorem Znq :∀{xs:List DItem} {b:Int} {l:Int},l≤99→(match ZcU b xs with | some r=>decide (r≤l) | none=>false)=(decide (b≤l) && xs.all Zcw && asc b l (xs.map (·.id)))
  | [],b,l,_=>by simp [ZcU,asc]
  | x :: xs,b,l,hl=>by
    have ih:=Znq (xs:=xs) (b:=x.id) hl
    rw [ZcU,List.map_cons,List.all_cons,asc]
    by_cases h1:b+1≤x.id
    · by_cases h2:Zcw x=true
      · by_cases h3:x.id≤99
        · rw [if_pos ⟨⟨h1,h3⟩,h2⟩,ih,h2]
          by_cases h4:x.id≤l
          · simp [h4,show b≤l from by omega,show b<x.id from by omega]
          · simp [h4]
        · rw [if_neg (fun h=>h3 h.1.2)]
          simp [show ¬ x.id≤l from by omega]
      · rw [if_neg (fun h=>h2 h.2)]
        simp [h2]
    · rw [if_neg (fun h=>h1 h.1.1)]
      simp [show ¬ b<x.id from by omega]
theorem ZcL (q:DQueue):Zai q=(decide (q.items.length≤6) && decide (1≤q.next) && decide (q.next≤100) && q.items.all Zcw && asc 0 (q.next - 1) (q.items.map (·.id))):=by
  by_cases h:q.next≤100
  · have:=Znq (xs:=q.items) (b:=0) (l:=q.next - 1) (by omega)
    unfold Zai
    cases hs:ZcU 0 q.items with
    | none=>
      rw [hs] at this
      simp only at this
      rw [Bool.eq_iff_iff]
      simp only [Bool.and_eq_true,decide_eq_true_eq,Bool.false_eq_true,false_iff]
      rintro ⟨⟨⟨⟨_,h1⟩,_⟩,h2⟩,h3⟩
      rw [h2,h3] at this
      simp at this;omega
    | some r=>
      rw [hs] at this
      simp only at this
      rw [Bool.eq_iff_iff] at this ⊢
      simp only [Bool.and_eq_true,decide_eq_true_eq] at this ⊢
      constructor
      · rintro ⟨⟨h1,h2⟩,h3⟩
        obtain ⟨⟨a,b⟩,c⟩:=this.1 (by omega)
        exact ⟨⟨⟨⟨h3,by omega⟩,h⟩,b⟩,c⟩
      · rintro ⟨⟨⟨⟨h1,h2⟩,h3⟩,h4⟩,h5⟩
        have:=this.2 ⟨⟨by omega,h4⟩,h5⟩
        omega
  · unfold Zai
    cases ZcU 0 q.items <;> simp [h]
theorem ZvL {α:Type} {p:α→Bool} {l:List α} {k:Nat} {x:α} (hx:l[k]? = some x) (h:p x=false):l.all p=false:=by
  rw [Bool.eq_false_iff];intro hp
  rw [List.all_eq_true] at hp
  have:=hp x (List.mem_of_getElem? hx)
  rw [h] at this;cases this
theorem ZvK {α:Type} {p:α→Bool} {l:List α} {k:Nat} {x:α} (hx:l[k]? = some x) (h:p x=true) (ha:(l.take k).all p=true):(l.take (k+1)).all p=true:=by
  rw [Zaw hx,List.all_append,ha];simp [h]
theorem Zmx {q:DQueue} {k:Nat} {x:DItem} (hx:q.items[k]? = some x) (h:Zcw x=false):false=Zai q:=by
  rw [ZcL,ZvL hx h];simp
theorem Zmw {q:DQueue} {k:Nat} (hk : ¬ (k:Int)<q.items.length) (ha:(q.items.take k).all Zcw=true) (h6:q.items.length≤6) (h1:1≤q.next) (h2:q.next≤100):asc 0 (q.next - 1) (q.items.map (·.id))=Zai q:=by
  rw [List.take_of_length_le (by omega)] at ha
  rw [ZcL,ha];simp [h6,h1,h2]
theorem Zi6 {q:DQueue} {x:DLetter} (h:(Zer q x).2=true):(Zer q x).1=⟨q.next+1,q.items ++ [⟨q.next,x.fr,x.text,x.to_⟩]⟩∧Zai q=true∧Zar x=true∧q.items.length<6∧q.next≤99:=by
  unfold Zer at h ⊢
  by_cases h1:Zai q=true∧Zar x=true
  · rw [if_pos h1] at h ⊢
    by_cases h2:6≤q.items.length∨99<q.next
    · rw [if_pos h2] at h;cases h
    · rw [if_neg h2];exact ⟨rfl,h1.1,h1.2,by omega,by omega⟩
  · rw [if_neg h1] at h;cases h
theorem Znr :∀{xs:List DItem} {b r:Int} {y:DItem},ZcU b xs=some r→r+1≤y.id→y.id≤99→Zcw y=true→ZcU b (xs ++ [y])=some y.id
  | [],b,r,y,h,h1,h2,h3=>by
    simp only [ZcU,Option.some.injEq] at h;subst h
    simp only [List.nil_append,ZcU,if_pos (And.intro (And.intro h1 h2) h3)]
  | x :: xs,b,r,y,h,h1,h2,h3=>by
    rw [ZcU] at h
    split at h
    · rename_i hc
      rw [List.cons_append,ZcU,if_pos hc];exact Znr h h1 h2 h3
    · cases h
theorem ZoY {q:DQueue} {x:DLetter} (h:(Zer q x).2=true):Zai (Zer q x).1=true:=by
  obtain ⟨he,hq,hx,h6,h9⟩:=Zi6 h
  rw [he]
  unfold Zai at hq ⊢
  split at hq
  · rename_i last hs
    simp only [Bool.and_eq_true,decide_eq_true_eq] at hq
    have:=Znr (y:=⟨q.next,x.fr,x.text,x.to_⟩) hs (by simp only [];omega) h9 hx
    rw [this]
    simp only [Bool.and_eq_true,decide_eq_true_eq,List.length_append,List.length_singleton]
    omega
  · cases hq
structure QLf where
  p:Option Addr
  ys:List DItem
  xs:List DItem
  cells:Cells
theorem Zs2 :∀{ids:List Int} {b l:Int},asc b l ids=true→ids.Nodup
  | [],_,_,_=>by simp
  | x :: r,b,l,h=>by
    simp only [asc,Bool.and_eq_true,decide_eq_true_eq] at h
    rw [List.nodup_cons]
    exact ⟨fun hm=>by have:=Zm4 h.2 hm;omega,Zs2 h.2⟩
theorem Zmv {q:DQueue} (h:Zai q=true):(q.items.map (·.id)).Nodup:=by
  rw [ZcL] at h
  simp only [Bool.and_eq_true] at h
  exact Zs2 h.2
theorem ZdR {q:DQueue} (h:Zai q=true) {x:DItem} (hx:x∈q.items):Zcw x=true:=by
  rw [ZcL] at h
  simp only [Bool.and_eq_true] at h
  exact List.all_eq_true.1 h.1.2 x hx
theorem Zit {x:DItem} (h:Zcw x=true):0<x.left.length∧x.left.Nodup:=by
  simp only [Zcw,Zar,Zcu,Bool.and_eq_true,decide_eq_true_eq] at h
  exact ⟨h.1.2,h.1.1.2.1.2⟩
theorem Zk2 {id:Int} {u:Str} {x:DItem} (h : ¬ (x.id=id∧u∈x.left)):ZbJ id u x=x:=by rw [ZbJ,if_neg h]
theorem Zga {id:Int} {u:Str} :∀{xs:List DItem} {s:Str × Bool},(∀x,x∈xs→¬ (x.id=id∧u∈x.left))→xs.foldl (ZbV id u) s=s
  | [],_,_=>rfl
  | x :: xs,s,h=>by
    rw [List.foldl_cons,ZbV,if_neg (h x (List.mem_cons_self ..))]
    exact Zga fun y hy=>h y (List.mem_cons_of_mem _ hy)
theorem Zh0 {id:Int} {u:Str} {xs:List DItem} (h :∀x,x∈xs→¬ (x.id=id∧u∈x.left)) (hl :∀x,x∈xs→0<x.left.length):ZeN id u xs=xs:=by
  have e:xs.map (ZbJ id u)=xs:=by
    conv=>rhs;rw [← List.map_id xs]
    exact List.map_congr_left fun x hx=>Zk2 (h x hx)
  rw [ZeN,e]
  exact List.filter_eq_self.2 fun x hx=>by simpa using hl x hx
theorem Zrn {q:DQueue} {id:Int} {u:Str} (hq:Zai q=true) (h :∀x,x∈q.items→¬ (x.id=id∧u∈x.left)):Zc2 q id u=(q,[],false):=by
  rw [Zc2,if_pos hq,Zb6,Zh0 h (fun x hx=>(Zit (ZdR hq hx)).1),ZfH,Zga h]
theorem Zqc {q:DQueue} (hq:Zai q=true) {pre ys:List DItem} {y:DItem} (hs:pre ++ y :: ys=q.items):(∀x,x∈pre→x.id≠y.id)∧∀x,x∈ys→x.id≠y.id:=by
  have h:=Zmv hq
  rw [← hs,List.map_append,List.map_cons,List.nodup_append] at h
  obtain ⟨_,h2,h3⟩:=h
  rw [List.nodup_cons] at h2
  refine ⟨fun x hx=>h3 _ (List.mem_map.2 ⟨x,hx,rfl⟩) _ (List.mem_cons_self ..),fun x hx e=>h2.1 (List.mem_map.2 ⟨x,hx,e⟩)⟩
theorem Zmi {q:DQueue} (hq:Zai q=true) {pre ys:List DItem} {y:DItem} (hs:pre ++ y :: ys=q.items) {u:Str} (hu:u∈y.left) :
    Zc2 q y.id u=(⟨q.next,pre ++ (if 0<(without y.left u).length then ⟨y.id,y.fr,y.text,without y.left u⟩ :: ys else ys)⟩,y.text,true):=by
  obtain ⟨h1,h2⟩:=Zqc hq hs
  have hl :∀x,x∈q.items→0<x.left.length:=fun x hx=>(Zit (ZdR hq hx)).1
  have n1 :∀x,x∈pre→¬ (x.id=y.id∧u∈x.left):=fun x hx e=>h1 x hx e.1
  have n2 :∀x,x∈ys→¬ (x.id=y.id∧u∈x.left):=fun x hx e=>h2 x hx e.1
  have l1:=Zh0 n1 (fun x hx=>hl x (by rw [← hs];exact List.mem_append_left _ hx))
  have l2:=Zh0 n2 (fun x hx=>hl x (by rw [← hs];exact List.mem_append_right _ (List.mem_cons_of_mem _ hx)))
  rw [Zc2,if_pos hq,Zb6,← hs]
  unfold ZeN at l1 l2 ⊢
  unfold ZfH
  rw [List.foldl_append,Zga n1,List.foldl_cons,Zga n2,ZbV,if_pos ⟨rfl,hu⟩,List.map_append,List.map_cons,List.filter_append,l1,ZeS rfl hu,List.filter_cons,l2]
  simp only [decide_eq_true_eq]
theorem Zpq {q:DQueue} {id:Int} {u:Str} (h:(Zc2 q id u).2.2=true):Zai q=true∧∃pre y ys,pre ++ y :: ys=q.items∧y.id=id∧u∈y.left∧
    Zc2 q id u=(⟨q.next,pre ++ (if 0<(without y.left u).length then ⟨y.id,y.fr,y.text,without y.left u⟩ :: ys else ys)⟩,y.text,true):=by
  have hq:Zai q=true:=by
    cases hq:Zai q with
    | true=>rfl
    | false=>simp [Zc2,hq] at h
  refine ⟨hq,?_⟩
  by_cases hx :∀x,x∈q.items→¬ (x.id=id∧u∈x.left)
  · rw [Zrn hq hx] at h;cases h
  · simp only [Classical.not_forall,Classical.not_not] at hx
    obtain ⟨y,hy,hi,hu⟩:=hx
    obtain ⟨pre,ys,hs⟩:=List.append_of_mem hy
    exact ⟨pre,y,ys,hs.symm,hi,hu,by rw [← hi];exact Zmi hq hs.symm hu⟩
theorem Zsr :∀{ids:List Int} {b b' l:Int},b'≤b→asc b l ids=true→asc b' l ids=true
  | [],_,_,_,_,_=>rfl
  | x :: r,b,b',l,hb,h=>by
    simp only [asc,Bool.and_eq_true,decide_eq_true_eq] at h ⊢
    exact ⟨⟨by omega,h.1.2⟩,h.2⟩
theorem ZqU :∀{a c:List Int} {b l x:Int},asc b l (a ++ x :: c)=true→asc b l (a ++ c)=true
  | [],c,b,l,x,h=>by
    simp only [List.nil_append,asc,Bool.and_eq_true,decide_eq_true_eq] at h ⊢
    exact Zsr (by omega) h.2
  | y :: a,c,b,l,x,h=>by
    simp only [List.cons_append,asc,Bool.and_eq_true,decide_eq_true_eq] at h ⊢
    exact ⟨h.1,ZqU h.2⟩
theorem Zjd {y:DItem} {u:Str} (h:Zcw y=true) (h0:0<(without y.left u).length):Zcw ⟨y.id,y.fr,y.text,without y.left u⟩=true:=by
  simp only [Zcw,Zar,Zcu,Bool.and_eq_true,decide_eq_true_eq,List.all_eq_true] at h ⊢
  obtain ⟨⟨⟨h1,⟨h2,h3⟩,h4⟩,h5⟩,h6⟩:=h
  have:=ZhO y.left u
  exact ⟨⟨⟨h1,⟨fun x hx=>h2 x (List.mem_filter.1 hx).1,h3.filter _⟩,by omega⟩,h0⟩,h6⟩
theorem Zn1 {q:DQueue} {id:Int} {u:Str} (h:(Zc2 q id u).2.2=true):Zai (Zc2 q id u).1=true:=by
  obtain ⟨hq,pre,y,ys,hs,hi,hu,he⟩:=Zpq h
  rw [he]
  have hq':=hq
  rw [ZcL,← hs] at hq'
  rw [ZcL]
  simp only [Bool.and_eq_true,decide_eq_true_eq,List.length_append,List.length_cons,List.all_append,List.all_cons,List.map_append,List.map_cons] at hq' ⊢
  obtain ⟨⟨⟨⟨h6,h1⟩,h2⟩,h3,h4,h5⟩,ha⟩:=hq'
  by_cases h0:0<(without y.left u).length
  · rw [if_pos h0]
    simp only [List.length_cons,List.all_cons,List.map_cons,Bool.and_eq_true]
    exact ⟨⟨⟨⟨by omega,h1⟩,h2⟩,h3,Zjd h4 h0,h5⟩,ha⟩
  · rw [if_neg h0]
    exact ⟨⟨⟨⟨by omega,h1⟩,h2⟩,h3,h5⟩,ZqU ha⟩
structure QN where
  k:Nat
  a:Option Addr
  c:Nat
end Go.BL
namespace Go.BL
open Go
set_option linter.unusedVariables false
set_option linter.unusedSimpArgs false
def ZbB (m:DMail):Bool:=(decide (1≤m.uid) && decide (m.uid≤99)) && (decide (0≤m.flags) && decide (m.flags≤31)) && decide (m.text.length≤20)
def scn {α β:Type} (p:β→α→Bool) (nx:β→α→β) (b0:β) (xs:List α):Bool × β:=xs.foldl (fun s x=>(s.1 && p s.2 x,nx s.2 x)) (true,b0)
theorem ZeX {α β:Type} {p:β→α→Bool} {nx:β→α→β} {b0:β} {xs:List α} : scn p nx b0 (xs.take 0)=(true,b0):=by simp [scn]
theorem Zno {α β:Type} {p:β→α→Bool} {nx:β→α→β} {b0:β} {xs:List α} {k:Nat} {x:α} (hx:xs[k]? = some x):scn p nx b0 (xs.take (k+1))=((scn p nx b0 (xs.take k)).1 && p (scn p nx b0 (xs.take k)).2 x,nx (scn p nx b0 (xs.take k)).2 x):=by
  have:xs.take (k+1)=xs.take k ++ [x]:=by rw [List.take_add_one,hx];rfl
  rw [this,scn,List.foldl_append];rfl
theorem Zb7 {α β:Type} {p:β→α→Bool} {nx:β→α→β} :∀(xs:List α) (b:β),(xs.foldl (fun (s:Bool × β) x=>(s.1 && p s.2 x,nx s.2 x)) (false,b)).1=false
  | [],_=>rfl
  | x :: xs,b=>by simp only [List.foldl_cons,Bool.false_and];exact Zb7 xs _
theorem Ztn {α β:Type} {p:β→α→Bool} {nx:β→α→β} {b0:β} {xs:List α} {k:Nat} (h:(scn p nx b0 (xs.take k)).1=false):(scn p nx b0 xs).1=false:=by
  have e:xs=xs.take k ++ xs.drop k:=(List.take_append_drop k xs).symm
  have:scn p nx b0 xs=(xs.drop k).foldl (fun s x=>(s.1 && p s.2 x,nx s.2 x)) (scn p nx b0 (xs.take k)):=by
    conv=>lhs;rw [e,scn,List.foldl_append]
    rfl
  rw [this]
  rcases hs:scn p nx b0 (xs.take k) with ⟨b,c⟩
  rw [hs] at h
  simp only at h
  subst h
  exact Zb7 _ _
theorem ZfN {α β:Type} {p:β→α→Bool} {nx:β→α→β} {b0:β} {xs:List α} {k:Nat} {x:α} (hx:xs[k]? = some x) (h:p (scn p nx b0 (xs.take k)).2 x=false):(scn p nx b0 xs).1=false:=
  Ztn (k:=k+1) (by rw [Zno hx,h,Bool.and_false])
theorem Zce {α β:Type} {p:β→α→Bool} {nx:β→α→β} {b0 b:β} {xs:List α} {k:Nat} {x:α} (hx:xs[k]? = some x) (hs:scn p nx b0 (xs.take k)=(true,b)) (h:p b x=true):scn p nx b0 (xs.take (k+1))=(true,nx b x):=by
  rw [Zno hx,hs];simp [h]
theorem Zd0 {α β:Type} {p:β→α→Bool} {nx:β→α→β} {b0 b:β} {xs:List α} {k:Nat} (hs:scn p nx b0 (xs.take k)=(true,b)) (hk:xs.length≤k):scn p nx b0 xs=(true,b):=by
  rwa [List.take_of_length_le hk] at hs
def ZbO (b:Int) (m:DMail):Bool:=ZbB m && decide (b<m.uid)
def Zcf (ms:List DMail):Bool × Int:=scn ZbO (fun _ m=>m.uid) 0 ms
def Zbm (b:DBox):Bool:=(Zcf b.mail).1 && (decide ((Zcf b.mail).2+1≤b.next) && decide (b.next≤100)) && decide (b.mail.length≤10)
def Zak (ms:List DMail):Nat:=(ms.map (·.text.length)).sum
theorem Zh7 {ms:List DMail} {k:Nat} {x:DMail} (hx:ms[k]? = some x):Zak (ms.take (k+1))=Zak (ms.take k)+x.text.length:=by
  have:ms.take (k+1)=ms.take k ++ [x]:=by rw [List.take_add_one,hx];rfl
  simp [Zak,this]
theorem Zgw {b:DBox} (h:(Zcf b.mail).1=false):Zbm b=false:=by simp [Zbm,h]
theorem ZdC {b:DBox} {l:Int} (h:Zcf b.mail=(true,l)):Zbm b=((decide (l+1≤b.next) && decide (b.next≤100)) && decide (b.mail.length≤10)):=by simp [Zbm,h]
theorem ZjI {m:DMail} (h:ZbB m=true):0≤m.uid∧m.uid≤99:=by
  simp only [ZbB,Bool.and_eq_true,decide_eq_true_eq] at h;omega
theorem Zju {ms:List DMail} {k n:Nat} (h:n=Zak (ms.take k)) (hk:ms.length≤k):n=Zak ms:=by rwa [List.take_of_length_le hk] at h
def Zd5 (b:DBox):Int:=if Zbm b then (Zak b.mail:Int) else -1
def anyone:Str:=[97,110,121,111,110,101]
def ZcD (u:DUser):Bool:=ZaA u.name && decide (u.name≠anyone) && ZaA u.pass && (decide (0≤u.quota) && decide (u.quota≤200))
theorem Zbs :∀(a b:Str),Op.bytesLess a b = !(Op.bytesLess b a || decide (b=a))
  | [],[]=>by simp [Op.bytesLess]
  | [],_ :: _=>by simp [Op.bytesLess]
  | _ :: _,[]=>by simp [Op.bytesLess]
  | a :: x,b :: y=>by
    have ih:=Zbs x y
    simp only [Op.bytesLess,ih]
    rcases UInt8.lt_or_lt_of_ne (a:=a) (b:=b) with h
    by_cases e:a=b
    · subst e
      have : ¬ a<a:=UInt8.lt_irrefl a
      simp [this,ih]
    · rcases h e with h | h
      · have h2 : ¬ b<a:=UInt8.lt_asymm h
        simp [h,h2,e,Ne.symm e]
      · have h2 : ¬ a<b:=UInt8.lt_asymm h
        simp [h,h2,e]
def Zdn (b:Str) (u:DUser):Bool:=ZcD u && Op.bytesLess b u.name
def ZdL (us:List DUser):Bool × Str:=scn Zdn (fun _ u=>u.name) [] us
def Zas (us:List DUser):Bool:=(ZdL us).1 && (decide (1≤us.length) && decide (us.length≤4))
theorem ZfF {us:List DUser} (h:(ZdL us).1=false):Zas us=false:=by simp [Zas,h]
theorem ZhW {us:List DUser} {b:Str} (h:ZdL us=(true,b)):Zas us=(decide (1≤us.length) && decide (us.length≤4)):=by simp [Zas,h]
def ZpP:DUser:=⟨[],[],0⟩
def ZfX (t:DUser→Bool) (us:List DUser):DUser × Bool:=match us.find? t with | some x=>(x,true) | none=>(ZpP,false)
theorem ZlM {α:Type} {t:α→Bool} {xs:List α} (h :∀y,y∈xs→t y=false):xs.find? t=none:=List.find?_eq_none.2 fun y hy=>by simp [h y hy]
theorem Zse {α:Type} {t:α→Bool} {xs:List α} {k:Nat} {x:α} (hx:xs[k]? = some x) (ht:t x=true) (h :∀y,y∈xs.take k→t y=false):xs.find? t=some x:=by
  have hlt:=(List.getElem?_eq_some_iff.1 hx).1
  have e:xs=xs.take k ++ (x :: xs.drop (k+1)):=by
    rw [← (List.getElem?_eq_some_iff.1 hx).2,← List.drop_eq_getElem_cons hlt,List.take_append_drop]
  rw [e,List.find?_append,ZlM h];simp [ht]
theorem Zqw {t:DUser→Bool} {us:List DUser} {k:Nat} {x:DUser} (hx:us[k]? = some x) (ht:t x=true) (h :∀y,y∈us.take k→t y=false):ZfX t us=(x,true):=by simp [ZfX,Zse hx ht h]
theorem ZoO {t:DUser→Bool} {us:List DUser} (h :∀y,y∈us→t y=false):ZfX t us=(ZpP,false):=by simp [ZfX,ZlM h]
theorem Zkd {B:Kn} {b:Nat} {T:TypeId} {vs:List Value} (h :∀p,p∈ZaE b vs T→B.mem p.1=some p.2):Za7 B b 0 vs:=fun L j u hu=>
  ⟨rfl,vs.toArray,T,(0,0),.inl (h (b,.cells vs.toArray T) (List.mem_singleton.2 rfl)),by simpa using hu⟩
def Zau (us:List DUser) (n:Str):DUser × Bool:=if Zas us then ZfX (fun y=>decide (y.name=n)) us else (ZpP,false)
def inF (o n:Str) (f:DFolder):Bool:=decide (f.owner=o) && decide (f.name=n)
def Zdb (us:List DUser) (x:DItem):Bool:=(Zau us x.fr).2 && x.left.all fun n=>(Zau us n).2
theorem ZcT {α:Type} {p:α→Bool} {xs:List α} {k:Nat} {x:α} (hx:xs[k]? = some x) (h:p x=false):xs.all p=false:=by
  rw [List.all_eq_false];exact ⟨x,List.mem_of_getElem? hx,by simp [h]⟩
theorem ZeH {α:Type} {p:α→Bool} {xs:List α} (h :∀y,y∈xs→p y=true):xs.all p=true:=List.all_eq_true.2 h
def ZcO (a b:DFolder):Bool:=Op.bytesLess a.owner b.owner || (decide (a.owner=b.owner) && Op.bytesLess a.name b.name)
theorem ZdU (a:Str):Op.bytesLess a a=false:=by
  have:=Zbs a a
  cases h:Op.bytesLess a a with
  | false=>rfl
  | true=>rw [h] at this;simp at this
end Go.BL
namespace Go.BL
open Go
set_option linter.unusedVariables false
set_option linter.unusedSimpArgs false
inductive Prev {α β:Type} (f:α→β) (z:β) (xs:List α):Nat→β→Prop
  | zero:Prev f z xs 0 z
  | succ {k:Nat} {x:α} : xs[k]? = some x→Prev f z xs (k+1) (f x)
theorem Prev.at {α β:Type} {f:α→β} {z:β} {xs:List α} {k:Nat} {b:β} {y:α} (h:Prev f z xs k b) (hy:xs[((k:Int) - 1).toNat]? = some y) (hk:0<(k:Int)):b=f y:=by
  cases h with
  | zero=>omega
  | succ hx=>
    rename_i k x
    rw [show (((k+1:Nat):Int) - 1).toNat=k from by omega,hx] at hy
    cases hy;rfl
theorem Prev.at0 {α β:Type} {f:α→β} {z:β} {xs:List α} {k:Nat} {b:β} (h:Prev f z xs k b) (hk:(k:Int)≤0):b=z:=by
  cases h with
  | zero=>rfl
  | succ hx=>omega
theorem Zhw {α β:Type} {p:β→α→Bool} {nx:β→α→β} {b0 b:β} {xs:List α} {k:Nat} {x:α} (hx:xs[k]? = some x) (hs:scn p nx b0 (xs.take k)=(true,b)) (h:p b x=false):(scn p nx b0 xs).1=false:=
  ZfN hx (by rw [congrArg Prod.snd hs];exact h)
theorem Zdm {us:List DUser} {k:Nat} {x:DUser} {nm:Str} (hx:us[k]? = some x) (hs:ZdL (us.take k)=(true,nm)) (h:Zdn nm x=false):Zas us=false:=
  ZfF (Zhw hx hs h)
theorem ZnB {s:Str} (h:0<s.length):Op.bytesLess [] s=true:=by
  cases s with
  | nil=>cases h
  | cons a s=>rfl
theorem ZjE {s:Str} (h:ZaA s=true):0<s.length:=by
  cases s with
  | nil=>simp [ZaA] at h
  | cons a s=>simp
def ZcE (b:Str) (g:DGrant):Bool:=ZaA g.user && (decide (1≤g.rights) && decide (g.rights≤63)) && Op.bytesLess b g.user
def Zdy (gs:List DGrant):Bool × Str:=scn ZcE (fun _ g=>g.user) [] gs
def ZcB (gs:List DGrant):Bool:=(Zdy gs).1 && decide (gs.length≤4)
theorem ZdF {gs:List DGrant} {k:Nat} {x:DGrant} {nm:Str} (hx:gs[k]? = some x) (hs:Zdy (gs.take k)=(true,nm)) (h:ZcE nm x=false):ZcB gs=false:=by
  rw [ZcB,show (Zdy gs).1=false from Zhw hx hs h,Bool.false_and]
theorem Zl8 {gs:List DGrant} {b:Str} (h:Zdy gs=(true,b)):ZcB gs=decide (gs.length≤4):=by rw [ZcB,h,Bool.true_and]
def DFolder.box (f:DFolder):DBox:=⟨f.next,f.mail⟩
def inbox:Str:=[105,110,98,111,120]
def Zab (us:List DUser) (f:DFolder):Bool:=decide (0≤Zdw us f.owner) && ZaA f.name && ZcB f.grants && Zbm f.box
def ZbU (us:List DUser) (b:Option DFolder) (f:DFolder):Bool:=Zab us f && (match b with | none=>true | some y=>ZcO y f)
def Zdi (us:List DUser) (fs:List DFolder):Bool × Option DFolder:=scn (ZbU us) (fun _ f=>some f) none fs
def Zcc (us:List DUser) (fs:List DFolder):Bool:=(Zdi us fs).1 && decide (fs.length≤8)
theorem Zcz {us:List DUser} {fs:List DFolder} {k:Nat} {x:DFolder} {b:Option DFolder} (hx:fs[k]? = some x) (hs:Zdi us (fs.take k)=(true,b)) (h:ZbU us b x=false):Zcc us fs=false:=by
  rw [Zcc,show (Zdi us fs).1=false from Zhw hx hs h,Bool.false_and]
theorem Zkx {us:List DUser} {fs:List DFolder} {b:Option DFolder} (h:Zdi us fs=(true,b)):Zcc us fs=decide (fs.length≤8):=by rw [Zcc,h,Bool.true_and]
def Zbd (fs:List DFolder) (u:Str):Nat:=(fs.map fun f=>if f.owner=u then Zak f.mail else 0).sum
theorem Zjq {fs:List DFolder} {u:Str} {k:Nat} {x:DFolder} (hx:fs[k]? = some x):Zbd (fs.take (k+1)) u=Zbd (fs.take k) u+if x.owner=u then Zak x.mail else 0:=by
  have:fs.take (k+1)=fs.take k ++ [x]:=by rw [List.take_add_one,hx];rfl
  simp [Zbd,this]
theorem Zpo {fs:List DFolder} {u:Str} {k n:Nat} (h:n=Zbd (fs.take k) u) (hk:fs.length≤k):n=Zbd fs u:=by rwa [List.take_of_length_le hk] at h
def Zc6 (us:List DUser) (ns:List Str):Bool:=ns.all fun n=>decide (0≤Zdw us n)
def ZaT (fs:List DFolder) (u:DUser):Bool:=decide (0≤Zbc (inF u.name inbox) fs) && decide ((Zbd fs u.name:Int)≤u.quota)
def ZaK (us:List DUser) (x:DItem):Bool:=decide (0≤Zdw us x.fr) && Zc6 us x.left
def ZJ (h:DHost):Bool:=Zcg h.domain && Zas h.users && Zai h.queue && Zcc h.users h.folders && h.users.all (ZaT h.folders) && h.queue.items.all (ZaK h.users)
theorem Zac {B:Kn} {q:Option Addr} {cp:Nat} {ms:List DMail} (h:SlK B q cp 3 ZM ms):Zak ms≤4000000000000:=by
  have h1 :∀m,m∈ms→m.text.length≤2000000:=fun m hm=>by
    obtain ⟨i,hi⟩:=List.mem_iff_getElem?.1 hm
    obtain ⟨b,o,row,_,h2,_⟩:=h.rows i m hi
    exact h2.2
  have h2 :∀l:List DMail,(∀m,m∈l→m.text.length≤2000000)→Zak l≤l.length*2000000:=by
    intro l
    induction l with
    | nil=>intro _;simp [Zak]
    | cons m l ih=>
      intro hl
      have:=ih fun y hy=>hl y (List.mem_cons_of_mem _ hy)
      have:=hl m (List.mem_cons_self ..)
      simp only [Zak,List.map_cons,List.sum_cons,List.length_cons] at *
      omega
  have:=h2 ms h1
  have:=h.len
  omega
theorem Ziz {h:DHost} {k:Nat} {u:DUser} (hu:h.users[k]? = some u) (hf:ZaT h.folders u=false):ZJ h=false:=by
  rw [ZJ,ZcT hu hf,Bool.and_false,Bool.false_and]
theorem ZiB {h:DHost} {k:Nat} {y:DItem} (hy:h.queue.items[k]? = some y) (hf:ZaK h.users y=false):ZJ h=false:=by
  rw [ZJ,ZcT hy hf,Bool.and_false]
theorem ZoA {h:DHost} (h1:Zcg h.domain=true) (h2:Zas h.users=true) (h3:Zai h.queue=true) (h4:Zcc h.users h.folders=true) (h5:h.users.all (ZaT h.folders)=true) (h6:h.queue.items.all (ZaK h.users)=true):ZJ h=true:=by
  rw [ZJ,h1,h2,h3,h4,h5,h6];rfl
theorem ZkX {fs:List DFolder} {u:DUser} (h:Zbc (inF u.name inbox) fs<0):ZaT fs u=false:=by
  rw [ZaT,decide_eq_false (by omega),Bool.false_and]
theorem ZkW {fs:List DFolder} {u:DUser} (h:u.quota<Zbd fs u.name):ZaT fs u=false:=by
  rw [ZaT,decide_eq_false (p:=(Zbd fs u.name:Int)≤u.quota) (by omega),Bool.and_false]
theorem ZkV {fs:List DFolder} {u:DUser} (h:0≤Zbc (inF u.name inbox) fs) (h':(Zbd fs u.name:Int)≤u.quota):ZaT fs u=true:=by
  rw [ZaT,decide_eq_true h,decide_eq_true h'];rfl
theorem Zkp {us:List DUser} {x:DItem} (h:Zdw us x.fr<0):ZaK us x=false:=by rw [ZaK,decide_eq_false (by omega),Bool.false_and]
theorem Zko {us:List DUser} {x:DItem} (h:Zc6 us x.left=false):ZaK us x=false:=by rw [ZaK,h,Bool.and_false]
theorem Zkn {us:List DUser} {x:DItem} (h:0≤Zdw us x.fr) (h':Zc6 us x.left=true):ZaK us x=true:=by rw [ZaK,decide_eq_true h,h'];rfl
theorem Zfk :∀{a b c:Str},Op.bytesLess a b=true→Op.bytesLess b c=true→Op.bytesLess a c=true
  | [],[],_,h,_=>by simp [Op.bytesLess] at h
  | _ :: _,[],_,h,_=>by simp [Op.bytesLess] at h
  | _,_ :: _,[],_,h=>by simp [Op.bytesLess] at h
  | [],_ :: _,_ :: _,_,_=>by simp [Op.bytesLess]
  | a :: x,b :: y,c :: z,h,h'=>by
    simp only [Op.bytesLess,Bool.or_eq_true,decide_eq_true_eq,Bool.and_eq_true,beq_iff_eq] at h h' ⊢
    rcases h with h | ⟨rfl,h⟩
    · rcases h' with h' | ⟨rfl,h'⟩
      · exact .inl (UInt8.lt_trans h h')
      · exact .inl h
    · rcases h' with h' | ⟨rfl,h'⟩
      · exact .inl h'
      · exact .inr ⟨rfl,Zfk h h'⟩
def ZsW (gs:List DGrant):List (Str × Int):=gs.map fun g=>(g.user,g.rights)
theorem Zhh :∀(xs:List DGrant) (b0 b:Str),xs.foldl (fun s x=>(s.1 && ZcE s.2 x,x.user)) (true,b0)=(true,b)→(∀y,y∈xs→y.user=b∨Op.bytesLess y.user b=true)∧(b=b0∨Op.bytesLess b0 b=true)
  | [],b0,b,h=>by
    cases h;exact ⟨by simp,.inl rfl⟩
  | x :: xs,b0,b,h=>by
    simp only [List.foldl_cons,Bool.true_and] at h
    cases hp:ZcE b0 x with
    | false=>
      rw [hp] at h
      have:=Zb7 (p:=ZcE) (nx:=fun _ g=>g.user) xs x.user
      rw [h] at this;cases this
    | true=>
      rw [hp] at h
      obtain ⟨h1,h2⟩:=Zhh xs x.user b h
      have hl:Op.bytesLess b0 x.user=true:=by
        simp only [ZcE,Bool.and_eq_true] at hp;exact hp.2
      refine ⟨fun y hy=>?_,.inr ?_⟩
      · rcases List.mem_cons.1 hy with rfl | hy
        · rcases h2 with h2 | h2
          · exact .inl h2.symm
          · exact .inr h2
        · exact h1 y hy
      · rcases h2 with rfl | h2
        · exact hl
        · exact Zfk hl h2
theorem ZrJ {kvs:List (Str × Int)} {k:Str} {v:Int} (h:k ∉ kvs.map (·.1)):mput kvs k v=kvs ++ [(k,v)]:=by
  induction kvs with
  | nil=>rfl
  | cons p r ih=>
    simp only [List.map_cons,List.mem_cons,not_or] at h
    simp only [mput,if_neg h.1,ih h.2,List.cons_append]
theorem ZtJ {gs:List DGrant} {k:Nat} {m:DGrant} {nm:Str} (hm:gs[k]? = some m) (hs:Zdy (gs.take k)=(true,nm)) (hl:Op.bytesLess nm m.user=true):mput (ZsW (gs.take k)) m.user m.rights=ZsW (gs.take (k+1)):=by
  have h1:=(Zhh _ _ _ hs).1
  rw [ZrJ]
  · rw [ZsW,ZsW,List.take_add_one,hm];simp
  · intro hc
    simp only [ZsW,List.map_map,List.mem_map,Function.comp] at hc
    obtain ⟨y,hy,e⟩:=hc
    rcases h1 y hy with h | h
    · rw [← e,h,ZdU] at hl;cases hl
    · rw [e] at h
      have:=Zfk hl h
      rw [ZdU] at this;cases this
def Zm8 (gs:List DGrant) (B:Kn):Value→Kn→List Cells→Prop:=fun v B' Ls=>∃m l,v = .tuple #[.map m,.bool (ZcB gs)]∧Ls=[l]∧B'=B∧(ZcB gs=true→∃b,m=some b∧ZuA l b (ZsW gs))
theorem ZiS {P:PJ} {S:Env} {B:Kn} {L:List Cells} {rs:List ResultVar} {gs:List DGrant} (e:Exit) (he:e = .ret∨e = .normal) (vs:List Value) (hr:Zea P S B L rs vs) (h:ZcB gs=false) (hv:ZdQ vs = .tuple #[.map none,.bool false]:=by rfl):Zi3 P rs (Zm8 gs B) e S [] B L:=
  Zsg e he vs hr ⟨none,[],by rw [hv,h],rfl,rfl,fun hc=>by rw [h] at hc;cases hc⟩
theorem Zt9 {P:PJ} {S:Env} {B:Kn} {L:List Cells} {rs:List ResultVar} {gs:List DGrant} (e:Exit) (he:e = .ret∨e = .normal) (vs:List Value) {b:Nat} {l:Cells} {r:List Cells} (hp:Zbk L [0]=some ([l],r)) (hr:Zea P S B L rs vs) (h:ZcB gs=true) (hm:ZuA l b (ZsW gs)) (hv:ZdQ vs = .tuple #[.map (some b),.bool true]:=by rfl):Zi3 P rs (Zm8 gs B) e S [] B L:=
  Zad e he vs [0] hp hr ⟨some b,l,by rw [hv,h],rfl,rfl,fun _=>⟨b,rfl,hm⟩⟩
def ZvE (f:DFolder) (ow nm:Str):Int:=if Lib.compareBytes f.owner ow≠0 then Lib.compareBytes f.owner ow else Lib.compareBytes f.name nm
theorem ZlS (f g:DFolder):0≤ZvE f g.owner g.name↔ZcO f g=false:=by
  have h1:=Zm1 f.owner g.owner
  have h2:=Zm1 f.name g.name
  unfold ZvE ZcO
  by_cases e:f.owner=g.owner
  · have e0:=h1.2.2 e
    have e1:Op.bytesLess f.owner g.owner=false:=by rw [e];exact ZdU _
    rw [if_neg (fun h=>h e0),e1,decide_eq_true e,Bool.true_and,Bool.false_or,Bool.eq_false_iff,ne_eq,← h2.1];omega
  · have e0:Lib.compareBytes f.owner g.owner≠0:=fun h=>e (h1.2.1 h)
    rw [if_pos e0,decide_eq_false e,Bool.false_and,Bool.or_false,Bool.eq_false_iff,ne_eq,← h1.1];omega
def ZfG (fs:List DFolder) (u:Str):Int:=(fs.map fun f=>if f.owner=u then Zd5 ⟨f.next,f.mail⟩ else 0).sum
theorem Zjp {fs:List DFolder} {u:Str} {k:Nat} {x:DFolder} (hx:fs[k]? = some x):ZfG (fs.take (k+1)) u=ZfG (fs.take k) u+if x.owner=u then Zd5 ⟨x.next,x.mail⟩ else 0:=by
  have:fs.take (k+1)=fs.take k ++ [x]:=by rw [List.take_add_one,hx];rfl
  simp [ZfG,this]
theorem Zpl {fs:List DFolder} {u:Str} {k:Nat} {n:Int} (h:n=ZfG (fs.take k) u) (hk:fs.length≤k):n=ZfG fs u:=by rwa [List.take_of_length_le hk] at h
theorem ZnC :∀(xs:List DMail) (b0 b:Int),xs.foldl (fun s x=>(s.1 && ZbO s.2 x,x.uid)) (true,b0)=(true,b)→∀y,y∈xs→ZbB y=true
  | [],_,_,_,_,h=>by cases h
  | x :: xs,b0,b,h,y,hy=>by
    simp only [List.foldl_cons,Bool.true_and] at h
    cases hp:ZbO b0 x with
    | false=>
      rw [hp] at h
      have:=Zb7 (p:=ZbO) (nx:=fun _ m=>m.uid) xs x.uid
      rw [h] at this;cases this
    | true=>
      rw [hp] at h
      rcases List.mem_cons.1 hy with rfl | hy
      · simp only [ZbO,Bool.and_eq_true] at hp;exact hp.1
      · exact ZnC xs x.uid b h y hy
theorem ZdB {b:DBox} (h:Zbm b=true):(∀y,y∈b.mail→ZbB y=true)∧b.mail.length≤10:=by
  simp only [Zbm,Bool.and_eq_true,decide_eq_true_eq] at h
  exact ⟨ZnC b.mail 0 (Zcf b.mail).2 (Prod.ext h.1.1 rfl),h.2⟩
theorem ZfL :∀l:List DMail,(∀m,m∈l→ZbB m=true)→Zak l≤l.length*20
  | [],_=>by simp [Zak]
  | m :: l,h=>by
    have h1:=ZfL l fun y hy=>h y (List.mem_cons_of_mem _ hy)
    have h2:=h m (List.mem_cons_self ..)
    simp only [ZbB,Bool.and_eq_true,decide_eq_true_eq] at h2
    simp only [Zak,List.map_cons,List.sum_cons,List.length_cons] at *
    omega
theorem ZjZ (b:DBox) : -1≤Zd5 b∧Zd5 b≤200:=by
  unfold Zd5
  split
  · rename_i h
    obtain ⟨h1,h2⟩:=ZdB h
    have:=ZfL _ h1
    omega
  · omega
theorem Zrm (fs:List DFolder) (u:Str) : -1*fs.length≤ZfG fs u∧ZfG fs u≤fs.length*200:=by
  induction fs with
  | nil=>simp [ZfG]
  | cons f fs ih=>
    have:=ZjZ ⟨f.next,f.mail⟩
    simp only [ZfG,List.map_cons,List.sum_cons,List.length_cons] at *
    split <;> omega
def ZeE (x:DHost) (u:Str) (more:Int):Bool:=!(Zau x.users u).2 || decide ((Zau x.users u).1.quota<ZfG x.folders u+more)
def ZcS (x:DHost) (w:DUser):Bool:=decide (0≤Zbc (inF w.name inbox) x.folders) && !ZeE x w.name 0
theorem Zk0 {x:DHost} {w:DUser} (h:Zbc (inF w.name inbox) x.folders<0):ZcS x w=false:=by rw [ZcS,decide_eq_false (by omega),Bool.false_and]
theorem ZkZ {x:DHost} {w:DUser} (h:ZeE x w.name 0=true):ZcS x w=false:=by rw [ZcS,h];simp
theorem ZkY {x:DHost} {w:DUser} (h:0≤Zbc (inF w.name inbox) x.folders) (h':ZeE x w.name 0=false):ZcS x w=true:=by rw [ZcS,h',decide_eq_true h];rfl
def ZhX (x:DHost):Bool:=x.users.all (ZcS x)
def Zm9:Rel Bool:=fun _ row x=>row=[.bool x]
theorem Zm9.mono:Mono Zm9:=fun _ _ _ h=>h
theorem Zm9.one {B:Kn} :∀row y,Zm9 B row y→row.all ZgI=true∧row.length=1:=by rintro _ y rfl;exact ⟨rfl,rfl⟩
def ZaZ (us:List DUser) (f:DFolder):Bool:=(Zau us f.owner).2 && ZaA f.name && ZcB f.grants && Zbm f.box
theorem Zhz (C i:Nat):(some (ptr (Addr.add ⟨C,0,none⟩ ((i:Int).toNat*1))):Option Value)=some (ptr ⟨C,i,none⟩):=by
  rw [Addr.add_off _ _ rfl];simp
def Zq8 (x:DHost) (i:Nat):Value:=.bool (match x.folders[i]? with | some m=>ZaZ x.users m | none=>false)
theorem Zng {x:DHost} {i:Nat} {m:DFolder} (h:x.folders[i]? = some m):Zq8 x i = .bool (ZaZ x.users m):=by simp [Zq8,h]
theorem Zpj {B:Kn} {x:DHost} {C:Nat} {T:TypeId} (hm :∀p,p∈[(C,Obj.cells ((List.range x.folders.length).map (Zq8 x)).toArray T (0,0))]→B.mem p.1=some p.2) (hl:x.folders.length≤2000000):SlK B (some ⟨C,0,none⟩) (x.folders.map (ZaZ x.users)).length 1 Zm9 (x.folders.map (ZaZ x.users)):=by
  refine ⟨fun i y hy=>⟨C,0,[.bool y],rfl,rfl,fun j u hu=>?_⟩,by simp,by simpa using hl⟩
  have hj:j=0:=by
    cases j with
    | zero=>rfl
    | succ j=>simp at hu
  subst hj
  simp only [List.getElem?_cons_zero,Option.some.injEq] at hu
  subst hu
  rw [List.getElem?_map] at hy
  obtain ⟨m,hm',rfl⟩:=Option.map_eq_some_iff.1 hy
  have hi:i<x.folders.length:=(List.getElem?_eq_some_iff.1 hm').1
  refine ⟨rfl,_,T,(0,0),.inl (hm _ (List.mem_singleton.2 rfl)),?_⟩
  simp only [Nat.mul_one,Nat.zero_add,Nat.add_zero,List.getElem?_toArray,List.getElem?_map,List.getElem?_range hi,Option.map_some,Zng hm']
theorem ZkJ {us:List DUser} {fs:List DFolder} : (!decide (0≤Zbc (fun y=>decide (false=y)) (fs.map (ZaZ us))))=fs.all (ZaZ us):=by
  by_cases h :∀f,f∈fs→ZaZ us f=true
  · rw [List.all_eq_true.2 h,Ze5 (fun y hy=>by
      obtain ⟨f,hf,rfl⟩:=List.mem_map.1 hy
      simp [h f hf])]
    rfl
  · have h2:fs.all (ZaZ us)=false:=by
      rw [Bool.eq_false_iff,ne_eq,List.all_eq_true];exact h
    rw [h2]
    have h3 :∃k,(fs.map (ZaZ us)).findIdx? (fun y=>decide (false=y))=some k:=by
      cases hk:(fs.map (ZaZ us)).findIdx? (fun y=>decide (false=y)) with
      | some k=>exact ⟨k,rfl⟩
      | none=>
        exfalso;apply h
        intro f hf
        have:=List.findIdx?_eq_none_iff.1 hk (ZaZ us f) (List.mem_map_of_mem hf)
        cases hq:ZaZ us f with
        | true=>rfl
        | false=>rw [hq] at this;simp at this
    obtain ⟨k,hk⟩:=h3
    have e:Zbc (fun y=>decide (false=y)) (fs.map (ZaZ us))=(k:Int):=by unfold Zbc;rw [hk]
    rw [e];simp
def Zhc:List DFolder→Bool
  | []=>true
  | [_]=>true
  | a :: b :: r=>ZcO a b && Zhc (b :: r)
def Zdx (x:DHost):Bool:=Zcg x.domain && Zas x.users && Zai x.queue && decide (x.folders.length≤8) && Zhc x.folders && (x.folders.all (ZaZ x.users) && ZhX x && x.queue.items.all (Zdb x.users))
def ZsC (fs:List DFolder) (k:Nat):Prop:=∀i a b,i<k→fs[i]? = some a→fs[i+1]? = some b→ZcO a b=true
theorem Zoh {fs:List DFolder} : ZsC fs 0:=fun i a b h=>by omega
theorem Zoi {fs:List DFolder} {k:Nat} {x y:DFolder} (h:ZsC fs k) (hx:fs[k]? = some x) (hy:fs[k+1]? = some y) (hl:ZcO x y=true):ZsC fs (k+1):=fun i a b hi ha hb=>by
  rcases Nat.lt_or_ge i k with h' | h'
  · exact h i a b h' ha hb
  · obtain rfl:i=k:=by omega
    rw [hx] at ha;rw [hy] at hb
    cases ha;cases hb;exact hl
theorem ZhA :∀(fs:List DFolder),Zhc fs=true↔∀i a b,fs[i]? = some a→fs[i+1]? = some b→ZcO a b=true
  | []=>by simp [Zhc]
  | [_]=>by simp [Zhc]
  | x :: y :: r=>by
    rw [Zhc,Bool.and_eq_true,ZhA (y :: r)]
    constructor
    · rintro ⟨h1,h2⟩ i a b ha hb
      cases i with
      | zero=>simp at ha hb;rw [← ha,← hb];exact h1
      | succ i=>exact h2 i a b (by simpa using ha) (by simpa using hb)
    · intro h
      exact ⟨h 0 x y rfl rfl,fun i a b ha hb=>h (i+1) a b (by simpa using ha) (by simpa using hb)⟩
theorem ZrG {fs:List DFolder} {k:Nat} {x y:DFolder} (hx:fs[k]? = some x) (hy:fs[k+1]? = some y) (hl:ZcO x y=false):Zhc fs=false:=by
  rw [Bool.eq_false_iff,ne_eq,ZhA]
  intro h
  have:=h k x y hx hy
  rw [hl] at this;cases this
theorem ZrF {fs:List DFolder} (h :∀i a b,i<fs.length - 1→fs[i]? = some a→fs[i+1]? = some b→ZcO a b=true):Zhc fs=true:=
  (ZhA fs).2 fun i a b ha hb=>h i a b (by have:=(List.getElem?_eq_some_iff.1 hb).1;omega) ha hb
theorem Zib {α:Type} {p:Str→α→Bool} {f:α→Str} (hp :∀b x,p b x=true→Op.bytesLess b (f x)=true) :∀(xs:List α) (b0 b:Str),xs.foldl (fun s x=>(s.1 && p s.2 x,f x)) (true,b0)=(true,b)→(∀y,y∈xs→Op.bytesLess b0 (f y)=true)∧xs.Pairwise (fun x y=>Op.bytesLess (f x) (f y)=true)
  | [],_,_,_=>⟨by simp,.nil⟩
  | x :: xs,b0,b,h=>by
    simp only [List.foldl_cons,Bool.true_and] at h
    cases hq:p b0 x with
    | false=>
      rw [hq] at h
      have:=Zb7 (p:=p) (nx:=fun _ g=>f g) xs (f x)
      rw [h] at this;cases this
    | true=>
      rw [hq] at h
      obtain ⟨h1,h2⟩:=Zib hp xs (f x) b h
      refine ⟨fun y hy=>?_,.cons h1 h2⟩
      rcases List.mem_cons.1 hy with rfl | hy
      · exact hp _ _ hq
      · exact Zfk (hp _ _ hq) (h1 y hy)
theorem ZdY {us:List DUser} (h:Zas us=true):us.Pairwise fun x y=>Op.bytesLess x.name y.name=true:=by
  simp only [Zas,Bool.and_eq_true] at h
  exact (Zib (p:=Zdn) (f:=fun u=>u.name) (fun b x hq=>by simp only [Zdn,Bool.and_eq_true] at hq;exact hq.2) us [] (ZdL us).2 (Prod.ext h.1 rfl)).2
theorem ZbS {us:List DUser} {u:Str} : 0≤Zdw us u↔∃x,x∈us∧x.name=u:=by
  unfold Zdw
  cases h:us.findIdx? (fun x=>decide (x.name=u)) with
  | none=>
    have:=List.findIdx?_eq_none_iff.1 h
    simp only [decide_eq_false_iff_not] at this
    exact ⟨fun hc=>absurd hc (by simp only [];omega),fun ⟨x,hx,e⟩=>absurd e (this x hx)⟩
  | some i=>
    rw [List.findIdx?_eq_some_iff_getElem] at h
    obtain ⟨hi,h1,_⟩:=h
    exact ⟨fun _=>⟨us[i],List.getElem_mem hi,by simpa using h1⟩,fun _=>by simp only [];omega⟩
theorem Zqv {us:List DUser} {t:DUser→Bool} : (ZfX t us).2=true↔∃x,x∈us∧t x=true:=by
  unfold ZfX
  cases h:us.find? t with
  | none=>simp only [Bool.false_eq_true,false_iff];rintro ⟨x,hx,e⟩;have:=List.find?_eq_none.1 h x hx;exact this e
  | some x=>simp only [true_iff];exact ⟨x,List.mem_of_find?_eq_some h,List.find?_some h⟩
theorem ZdM {us:List DUser} (h:Zas us=true) (n:Str):(Zau us n).2=decide (0≤Zdw us n):=by
  rw [Zau,if_pos h,Bool.eq_iff_iff,Zqv,decide_eq_true_eq,ZbS];simp
theorem ZfW :∀{us:List DUser},us.Pairwise (fun x y=>Op.bytesLess x.name y.name=true)→∀w,w∈us→us.find? (fun y=>decide (y.name=w.name))=some w
  | [],_,w,h=>by cases h
  | x :: us,hp,w,h=>by
    cases hp with
    | cons h1 h2=>
      rw [List.find?_cons]
      rcases List.mem_cons.1 h with rfl | h
      · simp
      · have hne:x.name≠w.name:=fun e=>by
          have:=h1 w h
          rw [e,ZdU] at this;cases this
        simp only [hne,decide_false]
        exact ZfW h2 w h
theorem Zj4 {us:List DUser} (h:Zas us=true) {w:DUser} (hw:w∈us):Zau us w.name=(w,true):=by
  rw [Zau,if_pos h,ZfX,ZfW (ZdY h) w hw]
theorem ZoL {us:List DUser} (h:Zas us=true) (f:DFolder):ZaZ us f=Zab us f:=by
  rw [ZaZ,Zab,ZdM h]
theorem ZeM {us:List DUser} :∀(fs:List DFolder) (b0:Option DFolder),(fs.foldl (fun s x=>(s.1 && ZbU us s.2 x,some x)) (true,b0)).1=(fs.all (Zab us) && Zhc ((match b0 with | none=>[] | some y=>[y]) ++ fs))
  | [],none=>rfl
  | [],some y=>rfl
  | x :: fs,b0=>by
    simp only [List.foldl_cons,Bool.true_and]
    have hstep:(fs.foldl (fun (s:Bool × Option DFolder) x=>(s.1 && ZbU us s.2 x,some x)) (ZbU us b0 x,some x)).1=(ZbU us b0 x && (fs.all (Zab us) && Zhc (x :: fs))):=by
      cases hq:ZbU us b0 x with
      | false=>rw [Bool.false_and];exact Zb7 (p:=ZbU us) (nx:=fun _ f=>some f) fs (some x)
      | true=>rw [Bool.true_and];exact ZeM fs (some x)
    rw [hstep]
    cases b0 with
    | none=>
      simp only [ZbU,Bool.and_true,List.all_cons,List.nil_append]
      cases Zab us x <;> simp
    | some y=>
      simp only [ZbU,List.all_cons,List.cons_append,List.nil_append,Zhc]
      cases Zab us x <;> cases ZcO y x <;> simp
theorem Zdz {us:List DUser} {fs:List DFolder} : Zcc us fs=(fs.all (Zab us) && Zhc fs && decide (fs.length≤8)):=by
  rw [Zcc,show (Zdi us fs).1=_ from ZeM fs none];rfl
theorem Znh {us:List DUser} {u:Str} :∀{fs:List DFolder},fs.all (Zab us)=true→ZfG fs u=(Zbd fs u:Int)
  | [],_=>rfl
  | f :: fs,h=>by
    simp only [List.all_cons,Bool.and_eq_true] at h
    have ih:=Znh (u:=u) h.2
    have hb:Zbm ⟨f.next,f.mail⟩=true:=by
      have:=h.1;simp only [Zab,Bool.and_eq_true] at this;exact this.2
    simp only [ZfG,Zbd,List.map_cons,List.sum_cons] at ih ⊢
    rw [ih]
    by_cases he:f.owner=u
    · simp [he,Zd5,hb]
    · simp [he]
theorem Zmh {x:DHost} (hu:Zas x.users=true) (hf:x.folders.all (Zab x.users)=true) {w:DUser} (hw:w∈x.users):ZcS x w=ZaT x.folders w:=by
  rw [ZcS,ZaT,ZeE,Zj4 hu hw,Znh hf]
  simp only [Bool.not_true,Bool.false_or,Int.add_zero]
  congr 1
  rw [Bool.eq_iff_iff];simp
theorem ZmI {us:List DUser} (h:Zas us=true) (y:DItem):Zdb us y=ZaK us y:=by
  rw [Zdb,ZaK,ZdM h,Zc6]
  simp only [ZdM h]
theorem ZqW {α:Type} {p q:α→Bool} {xs:List α} (h :∀x,x∈xs→p x=q x):xs.all p=xs.all q:=by
  rw [Bool.eq_iff_iff,List.all_eq_true,List.all_eq_true]
  exact ⟨fun a x hx=>h x hx ▸ a x hx,fun a x hx=>(h x hx).symm ▸ a x hx⟩
theorem ZoB (x:DHost):Zdx x=ZJ x:=by
  cases hu:Zas x.users with
  | false=>simp [Zdx,ZJ,hu]
  | true=>
    have e1:x.folders.all (ZaZ x.users)=x.folders.all (Zab x.users):=ZqW fun f _=>ZoL hu f
    have e2:x.queue.items.all (Zdb x.users)=x.queue.items.all (ZaK x.users):=ZqW fun y _=>ZmI hu y
    rw [Zdx,ZJ,hu,e1,e2,Zdz]
    cases hf:x.folders.all (Zab x.users) with
    | false=>simp
    | true=>
      have e3:ZhX x=x.users.all (ZaT x.folders):=ZqW fun w hw=>Zmh hu hf hw
      rw [e3]
      cases Zcg x.domain <;> cases Zai x.queue <;> cases Zhc x.folders <;> cases decide (x.folders.length≤8) <;> simp
end Go.BL
namespace Go.BL
open Go
set_option linter.unusedVariables false
set_option linter.unusedSimpArgs false
theorem ZlA {x:DHost} (h:ZJ x=true):Zas x.users=true:=by
  simp only [ZJ,Bool.and_eq_true] at h;exact h.1.1.1.1.2
theorem ZiA {x:DHost} (h:ZJ x=true) (n:Str):(Zau x.users n).2=decide (0≤Zdw x.users n):=ZdM (ZlA h) n
theorem Zsd {us:List DUser} {n:Str} (h:0≤Zdw us n) {x:DUser} (hx:us[(Zdw us n).toNat]? = some x):ZfX (fun y=>decide (y.name=n)) us=(x,true):=by
  unfold Zdw at h hx
  cases hf:us.findIdx? (fun x=>decide (x.name=n)) with
  | none=>rw [hf] at h;simp at h
  | some i=>
    rw [hf] at hx
    simp only [Int.toNat_natCast] at hx
    rw [List.findIdx?_eq_some_iff_getElem] at hf
    obtain ⟨hi,h1,h2⟩:=hf
    rw [List.getElem?_eq_getElem hi] at hx
    cases hx
    have:us.find? (fun y=>decide (y.name=n))=some us[i]:=by
      rw [List.find?_eq_some_iff_getElem]
      exact ⟨h1,i,hi,rfl,fun j hj=>by simpa using h2 j hj⟩
    rw [ZfX,this]
structure DSess where
  user:Str
  owner:Str
  name:Str
deriving DecidableEq
theorem Zqb (us:List DUser) (n:Str):Zdw us n<us.length∧Zdw us n ≥ -1:=by
  unfold Zdw
  cases hf:us.findIdx? (fun x=>decide (x.name=n)) with
  | none=>simp only [];omega
  | some i=>
    rw [List.findIdx?_eq_some_iff_getElem] at hf
    obtain ⟨hi,_⟩:=hf
    simp only [];omega
end Go.BL
namespace Go.BL
open Go
set_option linter.unusedVariables false
set_option linter.unusedSimpArgs false
def Zkh (n:Str):DFolder:=⟨n,inbox,[],1,[]⟩
def ZpQ (d:Str) (us:List DUser):DHost:=⟨d,us,us.map fun u=>Zkh u.name,⟨1,[]⟩⟩
def ZaQ:DHost:=⟨[],[],[],⟨0,[]⟩⟩
def Zch (d:Str) (us:List DUser):DHost × Bool:=if Zcg d=true∧Zas us=true then (ZpQ d us,true) else (ZaQ,false)
theorem Zj9 {α β:Type} {p:β→α→Bool} {nx:β→α→β} :∀(xs:List α) (b:β),(xs.foldl (fun (s:Bool × β) x=>(s.1 && p s.2 x,nx s.2 x)) (true,b)).1=true→∀x,x∈xs→∃b',p b' x=true
  | [],_,_,x,hx=>by cases hx
  | x :: xs,b,h,y,hy=>by
    simp only [List.foldl_cons,Bool.true_and] at h
    cases hq:p b x with
    | false=>
      rw [hq] at h
      have:=Zb7 (p:=p) (nx:=nx) xs (nx b x)
      rw [this] at h;cases h
    | true=>
      rw [hq] at h
      rcases List.mem_cons.1 hy with rfl | hy
      · exact ⟨b,hq⟩
      · exact Zj9 xs _ h y hy
theorem ZkT {us:List DUser} (h:Zas us=true) {u:DUser} (hu:u∈us):ZcD u=true:=by
  simp only [Zas,Bool.and_eq_true] at h
  obtain ⟨b,hb⟩:=Zj9 (p:=Zdn) (nx:=fun _ u=>u.name) us [] h.1 u hu
  simp only [Zdn,Bool.and_eq_true] at hb;exact hb.1
theorem Znx :∀{us:List DUser},us.Pairwise (fun x y=>Op.bytesLess x.name y.name=true)→Zhc (us.map fun u=>Zkh u.name)=true
  | [],_=>rfl
  | [_],_=>rfl
  | a :: b :: r,h=>by
    cases h with
    | cons h1 h2=>
      have h3:=h1 b (List.mem_cons_self ..)
      show (ZcO (Zkh a.name) (Zkh b.name) && Zhc ((b :: r).map fun u=>Zkh u.name))=true
      rw [Znx h2,Bool.and_true,ZcO]
      simp only [Zkh,h3,Bool.true_or]
theorem Zpm (us:List DUser) (n:Str):Zbd (us.map fun u=>Zkh u.name) n=0:=by
  induction us with
  | nil=>rfl
  | cons u us ih=>
    simp only [Zbd,List.map_cons,List.sum_cons] at ih ⊢
    rw [ih]
    simp [Zkh,Zak]
theorem Zty {us:List DUser} {u:DUser} (h:u∈us):0≤Zbc (inF u.name inbox) (us.map fun u=>Zkh u.name):=
  Zez.2 ⟨Zkh u.name,List.mem_map.2 ⟨u,h,rfl⟩,by simp [inF,Zkh]⟩
theorem ZmB (d:Str) (us:List DUser):ZJ (ZpQ d us)=(Zcg d && Zas us):=by
  cases hu:Zas us with
  | false=>simp [ZJ,ZpQ,hu]
  | true=>
    have h1:Zcc us (us.map fun u=>Zkh u.name)=true:=by
      rw [Zdz,Znx (ZdY hu)]
      have h2:(us.map fun u=>Zkh u.name).all (Zab us)=true:=by
        rw [List.all_eq_true]
        intro f hf
        obtain ⟨u,hm,rfl⟩:=List.mem_map.1 hf
        have e1:ZaA inbox=true:=by decide
        have e2:ZcB []=true:=by decide
        have e3:Zbm ⟨1,[]⟩=true:=by decide
        simp only [Zab,Zkh,DFolder.box,e1,e2,e3,Bool.and_true]
        exact decide_eq_true (ZbS.2 ⟨u,hm,rfl⟩)
      have h3:us.length≤4:=by simp only [Zas,Bool.and_eq_true,decide_eq_true_eq] at hu;exact hu.2.2
      rw [h2];simp;omega
    have h4:us.all (ZaT (us.map fun u=>Zkh u.name))=true:=by
      rw [List.all_eq_true]
      intro u hm
      have:=ZkT hu hm
      simp only [ZcD,Bool.and_eq_true,decide_eq_true_eq] at this
      simp only [ZaT,Zpm,Bool.and_eq_true,decide_eq_true_eq]
      exact ⟨Zty hm,by omega⟩
    have h5:Zai ⟨1,[]⟩=true:=by decide
    simp only [ZJ,ZpQ,hu,h1,h4,h5,List.all_nil,Bool.and_true]
theorem ZiC {d:Str} {us:List DUser} (h:ZJ (ZpQ d us)=true):Zch d us=(ZpQ d us,true):=by
  rw [ZmB,Bool.and_eq_true] at h;rw [Zch,if_pos h]
theorem ZoC {d:Str} {us:List DUser} (h:ZJ (ZpQ d us)=false):Zch d us=(ZaQ,false):=by
  rw [ZmB] at h;rw [Zch,if_neg (by rw [← Bool.and_eq_true,h];exact Bool.false_ne_true)]
theorem ZeA {α:Type} (p:α→Bool) (xs:List α):Zbc p xs<xs.length∧Zbc p xs ≥ -1:=by
  unfold Zbc
  cases hf:xs.findIdx? p with
  | none=>simp only [];omega
  | some i=>
    rw [List.findIdx?_eq_some_iff_getElem] at hf
    obtain ⟨hi,_⟩:=hf
    simp only [];omega
end Go.BL
namespace Go.BL
open Go
set_option linter.unusedVariables false
set_option linter.unusedSimpArgs false
end Go.BL
namespace Go.BL
open Go
set_option linter.unusedVariables false
set_option linter.unusedSimpArgs false
def Zdg (k:Nat):Int:=([1,2,4,8,16,32]:List Int).getD k 0
theorem ZqS {k:Nat} (h:k<6):(k=0∧Zdg k=1)∨(k=1∧Zdg k=2)∨(k=2∧Zdg k=4)∨(k=3∧Zdg k=8)∨(k=4∧Zdg k=16)∨(k=5∧Zdg k=32):=by
  have:k=0∨k=1∨k=2∨k=3∨k=4∨k=5:=by omega
  rcases this with rfl | rfl | rfl | rfl | rfl | rfl <;> simp [Zdg]
theorem ZkG {k:Nat} (h:k<6):0<Zdg k∧Zdg k≤32:=by rcases ZqS h with h | h | h | h | h | h <;> omega
theorem ZdX {α:Type} {p:α→Bool} {xs:List α} {k:Nat} {x:α} (hx:xs[k]? = some x):(xs.take (k+1)).any p=((xs.take k).any p || p x):=by
  rw [Zaw hx,List.any_append];simp
theorem ZqV {α:Type} {p:α→Bool} {xs:List α} {k:Nat} {b:Bool} (h:b=(xs.take k).any p) (hk:xs.length≤k):b=xs.any p:=by rwa [List.take_of_length_le hk] at h
def onB (u:Str) (b:Int) (g:DGrant):Bool:=(decide (g.user=u) || decide (g.user=anyone)) && decide (Int.tmod (Int.tdiv g.rights b) 2=1)
def ZfA (gs:List DGrant) (u:Str):Nat→Int
  | 0=>0
  | k+1=>if gs.any (onB u (Zdg k))=true then ZfA gs u k+Zdg k else ZfA gs u k
theorem Zi4 (gs:List DGrant) (u:Str) :∀k,k≤6→0≤ZfA gs u k∧ZfA gs u k≤100*k
  | 0,_=>by simp [ZfA]
  | k+1,h=>by
    have:=Zi4 gs u k (by omega)
    have:=ZkG (k:=k) (by omega)
    simp only [ZfA]
    split <;> omega
def ZdP (gs:List DGrant) (u:Str):Int:=ZfA gs u 6
def Zo3 (f:DFolder) (u:Str) (r:Int):Bool:=decide (u=f.owner) || decide (Int.tmod (Int.tdiv (ZdP f.grants u) r) 2=1)
def Zjh (us:List DUser) (fs:List DFolder) (u:Str) (k:Int) (r:Int):Int:=
  if Zdw us u<0∨k<0 then 1 else match fs[k.toNat]? with
    | none=>1
    | some f=>if Zo3 f u 1=false then 1 else if Zo3 f u r=false then 2 else 0
theorem ZqP {us:List DUser} {fs:List DFolder} {u:Str} {k r:Int} (h:Zdw us u<0∨k<0):Zjh us fs u k r=1:=by rw [Zjh,if_pos h]
theorem Zuo {us:List DUser} {fs:List DFolder} {u:Str} {k r:Int} {f:DFolder} (h : ¬ (Zdw us u<0∨k<0)) (hf:fs[k.toNat]? = some f):Zjh us fs u k r=if Zo3 f u 1=false then 1 else if Zo3 f u r=false then 2 else 0:=by
  rw [Zjh,if_neg h,hf]
theorem Zeq {us:List DUser} {fs:List DFolder} {u:Str} {k r:Int} (h:Zjh us fs u k r=0):0≤Zdw us u∧0≤k∧∃f,fs[k.toNat]? = some f∧Zo3 f u 1=true∧Zo3 f u r=true:=by
  unfold Zjh at h
  split at h
  · cases h
  · split at h
    · cases h
    · rename_i f hf
      split at h
      · cases h
      · split at h
        · cases h
        · rename_i h1 h2 h3
          exact ⟨by omega,by omega,f,hf,by simpa using h2,by simpa using h3⟩
def ZgW (b:DBox) (fl:Int) (t:Str):DBox × Bool:=if 10≤b.mail.length∨99<b.next then (b,false) else (⟨b.next+1,b.mail ++ [⟨b.next,fl,t⟩]⟩,true)
theorem Zl5 {b:DBox} {fl:Int} {t:Str} (h:10≤b.mail.length∨99<b.next):ZgW b fl t=(b,false):=by rw [ZgW,if_pos h]
theorem Zur {b:DBox} {fl:Int} {t:Str} (h : ¬ (10≤b.mail.length∨99<b.next)):ZgW b fl t=(⟨b.next+1,b.mail ++ [⟨b.next,fl,t⟩]⟩,true):=by rw [ZgW,if_neg h]
def DFolder.withBox (f:DFolder) (b:DBox):DFolder:=⟨f.owner,f.name,f.grants,b.next,b.mail⟩
def DHost.withFolders (x:DHost) (fs:List DFolder):DHost:=⟨x.domain,x.users,fs,x.queue⟩
def DHost.withQueue (x:DHost) (q:DQueue):DHost:=⟨x.domain,x.users,x.folders,q⟩
def Zd1 (us:List DUser) (n:Str):Int:=match us[(Zdw us n).toNat]? with | some w=>w.quota | none=>0
def ZbN (x:DHost) (k:Nat) (fl:Int) (t:Str):DHost × Int:=
  match x.folders[k]? with
  | none=>(x,0)
  | some f=>if Zd1 x.users f.owner<(Zbd x.folders f.owner:Int)+t.length then (x,3)
    else if (ZgW f.box fl t).2=true then (x.withFolders (x.folders.set k (f.withBox (ZgW f.box fl t).1)),0) else (x,4)
theorem ZmA {x:DHost} {k:Nat} {fl:Int} {t:Str} {f:DFolder} (hf:x.folders[k]? = some f) (h:Zd1 x.users f.owner<(Zbd x.folders f.owner:Int)+t.length):ZbN x k fl t=(x,3):=by simp only [ZbN,hf,if_pos h]
theorem Zoe {x:DHost} {k:Nat} {fl:Int} {t:Str} {f:DFolder} (hf:x.folders[k]? = some f) (h : ¬ Zd1 x.users f.owner<(Zbd x.folders f.owner:Int)+t.length) (h2:(ZgW f.box fl t).2=false):ZbN x k fl t=(x,4):=by simp only [ZbN,hf,if_neg h,h2];rfl
theorem Zof {x:DHost} {k:Nat} {fl:Int} {t:Str} {f:DFolder} (hf:x.folders[k]? = some f) (h : ¬ Zd1 x.users f.owner<(Zbd x.folders f.owner:Int)+t.length) (h2:(ZgW f.box fl t).2=true):ZbN x k fl t=(x.withFolders (x.folders.set k (f.withBox (ZgW f.box fl t).1)),0):=by simp only [ZbN,hf,if_neg h,h2,if_true]
def ZaV (n:Int):Bool:=decide (0≤n) && decide (n≤31)
def Zku (x:DHost) (by_ o n:Str) (fl:Int) (t:Str):DHost × Int:=
  if ¬ (ZJ x=true∧ZaV fl=true∧t.length≤20) then (ZaQ,5)
  else if Zjh x.users x.folders by_ (Zbc (inF o n) x.folders) 8≠0 then (x,Zjh x.users x.folders by_ (Zbc (inF o n) x.folders) 8)
  else ZbN x (Zbc (inF o n) x.folders).toNat fl t
def Ze0 (o n:Str):DFolder:=⟨o,n,[],1,[]⟩
def ZgM (fs:List DFolder) (f:DFolder):Nat:=(fs.takeWhile fun y=>ZcO y f).length
def Zhq (fs:List DFolder) (f:DFolder):List DFolder:=fs.take (ZgM fs f) ++ [f] ++ fs.drop (ZgM fs f)
def Zbl (x:DHost) (u n:Str):DHost × Int:=
  if ¬ (ZJ x=true∧ZaA n=true) then (ZaQ,5)
  else if Zdw x.users u<0 then (x,1)
  else if 0≤Zbc (inF u n) x.folders∨8≤x.folders.length then (x,4)
  else (x.withFolders (Zhq x.folders (Ze0 u n)),0)
def Zfe (u:Str) (r:Int) (s:Bool × List DGrant) (g:DGrant):Bool × List DGrant:=
  let s1:Bool × List DGrant:=if s.1=false∧Op.bytesLess g.user u=false then (true,s.2 ++ [⟨u,r⟩]) else s
  if g.user≠u then (s1.1,s1.2 ++ [g]) else s1
def ZeI (u:Str) (r:Int) (gs:List DGrant):Bool × List DGrant:=gs.foldl (Zfe u r) (decide (r=0),[])
theorem Zcp {u:Str} {r:Int} {gs:List DGrant} {k:Nat} {x:DGrant} (hx:gs[k]? = some x):ZeI u r (gs.take (k+1))=Zfe u r (ZeI u r (gs.take k)) x:=by
  rw [Zaw hx,ZeI,List.foldl_append];rfl
def Zgz (gs:List DGrant) (u:Str) (r:Int):List DGrant:=if (ZeI u r gs).1=true then (ZeI u r gs).2 else (ZeI u r gs).2 ++ [⟨u,r⟩]
def ZdO (r:Int):Bool:=decide (0≤r) && decide (r≤63)
def Zb3 (gs:List DGrant) (u:Str) (r:Int):List DGrant × Bool:=
  if ¬ (ZcB gs=true∧ZaA u=true∧ZdO r=true) then ([],false)
  else if ZcB (Zgz gs u r)=true then (Zgz gs u r,true) else (gs,false)
def DFolder.withGrants (f:DFolder) (gs:List DGrant):DFolder:=⟨f.owner,f.name,gs,f.next,f.mail⟩
def Ze7 (x:DHost) (k:Nat) (u:Str) (r:Int):DHost × Int:=
  match x.folders[k]? with
  | none=>(x,0)
  | some f=>if (Zb3 f.grants u r).2=true then (x.withFolders (x.folders.set k (f.withGrants (Zb3 f.grants u r).1)),0) else (x,4)
def Zb1 (x:DHost) (by_ o n u:Str) (r:Int):DHost × Int:=
  if ¬ (ZJ x=true∧ZdO r=true) then (ZaQ,5)
  else if Zjh x.users x.folders by_ (Zbc (inF o n) x.folders) 32≠0 then (x,Zjh x.users x.folders by_ (Zbc (inF o n) x.folders) 32)
  else if u≠anyone∧Zdw x.users u<0 then (x,1)
  else Ze7 x (Zbc (inF o n) x.folders).toNat u r
def ZW (x:DHost) (l:DLetter):DHost × Int:=
  if ¬ (ZJ x=true∧Zar l=true) then (ZaQ,5)
  else if Zdw x.users l.fr<0∨Zc6 x.users l.to_=false then (x,1)
  else if (Zer x.queue l).2=true then (x.withQueue (Zer x.queue l).1,0) else (x,4)
def ZaU (x:DHost) (id:Int) (u:Str):DHost × Int:=
  if ZJ x=false then (ZaQ,5)
  else if (Zb6 x.queue id u).2.2=false then (x,1)
  else if (ZbN x (Zbc (inF u inbox) x.folders).toNat 0 (Zb6 x.queue id u).2.1).2≠4 then
    ((ZbN x (Zbc (inF u inbox) x.folders).toNat 0 (Zb6 x.queue id u).2.1).1.withQueue (Zb6 x.queue id u).1,(ZbN x (Zbc (inF u inbox) x.folders).toNat 0 (Zb6 x.queue id u).2.1).2)
  else ZbN x (Zbc (inF u inbox) x.folders).toNat 0 (Zb6 x.queue id u).2.1
def Zk9 (s:DSpan):Bool:=(decide (0≤s.low) && decide (s.low≤99)) && (decide (0≤s.high) && decide (s.high≤99))
def Zh8 (s:List DSpan):Bool:=s.all Zk9 && (decide (1≤s.length) && decide (s.length≤6))
def ZdZ (last n:Int) (s:DSpan):Bool:=decide (min (if s.low=0 then last else s.low) (if s.high=0 then last else s.high)≤n) && decide (n≤max (if s.low=0 then last else s.low) (if s.high=0 then last else s.high))
def Zgg (s:List DSpan) (last n:Int):Bool:=s.any (ZdZ last n)
def ZcY (s:List DSpan) (last:Int):Nat→List Int
  | 0=>[]
  | n+1=>if Zgg s last (n+1:Nat)=true then ZcY s last n ++ [((n+1:Nat):Int)] else ZcY s last n
def ZaJ (s:List DSpan) (last:Int):List Int:=if Zh8 s=true then ZcY s (min last 99) (min last 99).toNat else []
def Zj0 (n:Int) (k:Nat):Int:=Int.tmod (Int.tdiv n (Zdg k)) 2
def Zfb (fl how ot:Int) (k:Nat):Bool:=(decide (how=1) && decide (0<Zj0 fl k+Zj0 ot k)) || (decide (how = -1) && decide (Zj0 fl k=1) && decide (Zj0 ot k=0)) || (decide (how=0) && decide (Zj0 ot k=1))
def Zi0 (fl how ot:Int):Nat→Int
  | 0=>0
  | k+1=>if Zfb fl how ot k=true then Zi0 fl how ot k+Zdg k else Zi0 fl how ot k
theorem ZnU (fl how ot:Int) :∀k,k≤5→0≤Zi0 fl how ot k∧Zi0 fl how ot k≤100*k
  | 0,_=>by simp [Zi0]
  | k+1,h=>by
    have:=ZnU fl how ot k (by omega)
    have:=ZkG (k:=k) (by omega)
    simp only [Zi0]
    split <;> omega
def chg (fl how ot:Int):Int:=Zi0 fl how ot 5
theorem Zs0 (fl how ot:Int):0≤chg fl how ot∧chg fl how ot≤31:=by
  unfold chg
  simp only [Zi0,show Zdg 0=1 from rfl,show Zdg 1=2 from rfl,show Zdg 2=4 from rfl,show Zdg 3=8 from rfl,show Zdg 4=16 from rfl]
  split <;> split <;> split <;> split <;> split <;> omega
def ZpO (n:Nat) (b x:Int):Bool:=(decide (1≤x) && decide (x≤n)) && decide (b<x)
def ZdT (n:Nat) (xs:List Int):Bool × Int:=scn (ZpO n) (fun _ x=>x) 0 xs
def Zed (n:Nat) (xs:List Int):Bool:=(ZdT n xs).1
def ZgR (ms:List DMail) (how fl:Int) (acc:List DMail) (n:Int):List DMail:=
  match acc[(n - 1).toNat]?,ms[(n - 1).toNat]? with
  | some a,some m=>acc.set (n - 1).toNat ⟨a.uid,chg m.flags how fl,a.text⟩
  | _,_=>acc
def Zd4 (ms:List DMail) (how fl:Int) (ns:List Int):List DMail:=ns.foldl (ZgR ms how fl) ms
def Zkr (how:Int):Bool:=decide (-1≤how) && decide (how≤1)
def Zbh (b:DBox) (ns:List Int) (how fl:Int):DBox × Bool:=
  if Zbm b=true∧Zed b.mail.length ns=true∧Zkr how=true∧ZaV fl=true then (⟨b.next,Zd4 b.mail how fl ns⟩,true) else (⟨0,[]⟩,false)
def Zo2 (m:DMail):Bool:=decide (Int.tmod (Int.tdiv m.flags 8) 2=1)
def Zcv (ms:List DMail):List DMail:=ms.filter fun m=>!Zo2 m
def Zdc (s:Nat × List Int) (m:DMail):Nat × List Int:=if Zo2 m=true then (s.1,s.2 ++ [((s.1+1:Nat):Int)]) else (s.1+1,s.2)
def Zkv (ms:List DMail):Nat × List Int:=ms.foldl Zdc (0,[])
def expunge (b:DBox):DBox × List Int:=if Zbm b=true then (⟨b.next,Zcv b.mail⟩,(Zkv b.mail).2) else (⟨0,[]⟩,[])
def atF (x:DHost) (s:DSess) (r:Int):Int × Int:=
  if Zjh x.users x.folders s.user (Zbc (inF s.owner s.name) x.folders) 2≠0 then (Zbc (inF s.owner s.name) x.folders,Zjh x.users x.folders s.user (Zbc (inF s.owner s.name) x.folders) 2)
  else (Zbc (inF s.owner s.name) x.folders,Zjh x.users x.folders s.user (Zbc (inF s.owner s.name) x.folders) r)
def Zhr (x:DHost) (k:Nat):DBox:=match x.folders[k]? with | some f=>f.box | none=>⟨0,[]⟩
def Zjv (x:DHost) (k:Nat) (b:DBox):DHost:=match x.folders[k]? with | some f=>x.withFolders (x.folders.set k (f.withBox b)) | none=>x
def Zca (x:DHost) (s:DSess) (set:List DSpan) (how fl:Int):DHost × Int:=
  if ¬ (ZJ x=true∧Zh8 set=true∧ZaV fl=true∧Zkr how=true) then (ZaQ,5)
  else if (atF x s 4).2≠0 then (x,(atF x s 4).2)
  else (Zjv x (atF x s 4).1.toNat (Zbh (Zhr x (atF x s 4).1.toNat) (ZaJ set (Zhr x (atF x s 4).1.toNat).mail.length) how fl).1,0)
def ZaP (x:DHost) (s:DSess):DHost × List Int × Int:=
  if ZJ x=false then (ZaQ,[],5)
  else if (atF x s 16).2≠0 then (x,[],(atF x s 16).2)
  else (Zjv x (atF x s 16).1.toNat (expunge (Zhr x (atF x s 16).1.toNat)).1,(expunge (Zhr x (atF x s 16).1.toNat)).2,0)
def ZbL (to:Nat) (s:DHost × Int) (m:DMail):DHost × Int:=if s.2=0 then ZbN s.1 to m.flags m.text else s
def ZiY (x:DHost) (ms:List DMail) (to:Nat):DHost × Int:=ms.foldl (ZbL to) (x,0)
def Zc5 (ms:List DMail) (n:Int):DMail:=match ms[(n - 1).toNat]? with | some m=>m | none=>⟨0,0,[]⟩
def ZeD (x:DHost) (s:DSess) (set:List DSpan) (o n:Str):DHost × Int:=
  if ¬ (ZJ x=true∧Zh8 set=true) then (ZaQ,5)
  else if (atF x s 2).2≠0 then (x,(atF x s 2).2)
  else if Zjh x.users x.folders s.user (Zbc (inF o n) x.folders) 8≠0 then (x,Zjh x.users x.folders s.user (Zbc (inF o n) x.folders) 8)
  else
    let ms:=(ZaJ set (Zhr x (atF x s 2).1.toNat).mail.length).map (Zc5 (Zhr x (atF x s 2).1.toNat).mail)
    if (ZiY x ms (Zbc (inF o n) x.folders).toNat).2=0 then ZiY x ms (Zbc (inF o n) x.folders).toNat else (x,(ZiY x ms (Zbc (inF o n) x.folders).toNat).2)
structure DEvent where
  kind:Int
  by_:Str
  owner:Str
  name:Str
  to_:Str
  text:Str
  a:Int
  b:Int
deriving DecidableEq
def ZhG (x:DHost) (e:DEvent):DHost × Int:=
  if e.kind=1 then Zbl x e.by_ e.name
  else if e.kind=2 then Zb1 x e.by_ e.owner e.name e.to_ e.a
  else if e.kind=3 then Zku x e.by_ e.owner e.name e.a e.text
  else if e.kind=4 then ZW x ⟨e.by_,[e.to_],e.text⟩
  else if e.kind=5 then ZaU x e.a e.to_
  else if e.kind=6 then Zca x ⟨e.by_,e.owner,e.name⟩ [⟨e.a,e.a⟩] 1 e.b
  else if e.kind=7 then ((ZaP x ⟨e.by_,e.owner,e.name⟩).1,(ZaP x ⟨e.by_,e.owner,e.name⟩).2.2)
  else if e.kind=8 then ZeD x ⟨e.by_,e.owner,e.name⟩ [⟨e.a,e.a⟩] e.to_ inbox
  else (ZaQ,5)
def hDo (x:DHost) (e:DEvent):DHost × Int:=if ZJ x=false then (ZaQ,5) else if (ZhG x e).2=5 then (x,5) else ZhG x e
end Go.BL
namespace Go.BL
open Go
set_option linter.unusedVariables false
set_option linter.unusedSimpArgs false
theorem Zbt {x:DHost} : ZJ x=true↔(Zcg x.domain=true∧Zas x.users=true∧Zai x.queue=true)∧((∀f,f∈x.folders→Zab x.users f=true)∧Zhc x.folders=true∧x.folders.length≤8)∧(∀u,u∈x.users→ZaT x.folders u=true)∧(∀y,y∈x.queue.items→ZaK x.users y=true):=by
  simp only [ZJ,Zdz,Bool.and_eq_true,decide_eq_true_eq,List.all_eq_true]
  constructor
  · rintro ⟨⟨⟨⟨⟨h1,h2⟩,h3⟩,⟨h4,h5⟩,h6⟩,h7⟩,h8⟩
    exact ⟨⟨h1,h2,h3⟩,⟨h4,h5,h6⟩,h7,h8⟩
  · rintro ⟨⟨h1,h2,h3⟩,⟨h4,h5,h6⟩,h7,h8⟩
    exact ⟨⟨⟨⟨⟨h1,h2⟩,h3⟩,⟨h4,h5⟩,h6⟩,h7⟩,h8⟩
theorem ZiG {α:Type} {fs:List α} {k i:Nat} {y g:α} (h:(fs.set k y)[i]? = some g):(i=k∧g=y∧k<fs.length)∨(i≠k∧fs[i]? = some g):=by
  have hi:=(List.getElem?_eq_some_iff.1 h).1
  rw [List.length_set] at hi
  rw [List.getElem?_set] at h
  split at h
  · rename_i e
    subst e
    simp [hi] at h
    exact .inl ⟨rfl,h.symm,hi⟩
  · rename_i e
    exact .inr ⟨fun e'=>e e'.symm,h⟩
theorem Zk1 :∀{fs:List DFolder} {k:Nat} {f:DFolder} (f':DFolder) (u:Str),fs[k]? = some f→Zbd (fs.set k f') u+(if f.owner=u then Zak f.mail else 0)=Zbd fs u+(if f'.owner=u then Zak f'.mail else 0)
  | [],_,_,_,_,h=>by simp at h
  | g :: fs,0,f,f',u,h=>by
    simp only [List.getElem?_cons_zero,Option.some.injEq] at h
    subst h
    simp only [List.set_cons_zero,Zbd,List.map_cons,List.sum_cons]
    omega
  | g :: fs,k+1,f,f',u,h=>by
    have:=Zk1 (fs:=fs) (k:=k) f' u (by simpa using h)
    simp only [Zbd] at this
    simp only [List.set_cons_succ,Zbd,List.map_cons,List.sum_cons]
    omega
theorem Zlp {a b a' b':DFolder} (h1:a.owner=a'.owner) (h2:a.name=a'.name) (h3:b.owner=b'.owner) (h4:b.name=b'.name):ZcO a b=ZcO a' b':=by simp only [ZcO,h1,h2,h3,h4]
theorem ZrE {fs:List DFolder} {k:Nat} {f f':DFolder} (h:Zhc fs=true) (hf:fs[k]? = some f) (ho:f'.owner=f.owner) (hn:f'.name=f.name):Zhc (fs.set k f')=true:=by
  rw [ZhA] at h ⊢
  intro i a b ha hb
  rcases ZiG ha with ⟨e1,e2,_⟩ | ⟨hi,ha'⟩
  · rcases ZiG hb with ⟨e,_,_⟩ | ⟨_,hb'⟩
    · omega
    · rw [e2,Zlp ho hn rfl rfl];exact h i _ _ (by rw [e1];exact hf) hb'
  · rcases ZiG hb with ⟨e,e2,_⟩ | ⟨_,hb'⟩
    · rw [e2,Zlp rfl rfl ho hn];exact h i _ _ ha' (by rw [e];exact hf)
    · exact h _ _ _ ha' hb'
theorem ZtO {fs:List DFolder} {k:Nat} {f f':DFolder} {o n:Str} (hf:fs[k]? = some f) (ho:f'.owner=f.owner) (hn:f'.name=f.name) (h:0≤Zbc (inF o n) fs):0≤Zbc (inF o n) (fs.set k f'):=by
  rw [Zez] at h ⊢
  obtain ⟨y,hy,hp⟩:=h
  obtain ⟨i,hi⟩:=List.mem_iff_getElem?.1 hy
  by_cases e:i=k
  · subst e
    rw [hf] at hi;cases hi
    refine ⟨f',List.mem_iff_getElem?.2 ⟨i,?_⟩,by simp only [inF,ho,hn] at hp ⊢;exact hp⟩
    have:=(List.getElem?_eq_some_iff.1 hf).1
    simp [List.getElem?_set,this]
  · exact ⟨y,List.mem_iff_getElem?.2 ⟨i,by rw [List.getElem?_set,if_neg (fun e'=>e e'.symm)];exact hi⟩,hp⟩
theorem Zod {us:List DUser} (h:Zas us=true) {w:DUser} (hw:w∈us):Zd1 us w.name=w.quota:=by
  have h0:0≤Zdw us w.name:=ZbS.2 ⟨w,hw,rfl⟩
  have h1:=Zqb us w.name
  obtain ⟨v,hv⟩ :∃v,us[(Zdw us w.name).toNat]? = some v:=⟨_,List.getElem?_eq_getElem (by omega)⟩
  have h2:=Zsd h0 hv
  rw [ZfX,ZfW (ZdY h) w hw] at h2
  cases h2
  simp only [Zd1,hv]
theorem ZrD {us:List DUser} {f:DFolder} (h:Zab us f=true) :∃w,w∈us∧w.name=f.owner:=by
  simp only [Zab,Bool.and_eq_true,decide_eq_true_eq] at h
  exact ZbS.1 h.1.1.1
theorem ZgN {x:DHost} {k:Nat} {f f':DFolder} (h:ZJ x=true) (hf:x.folders[k]? = some f) (ho:f'.owner=f.owner) (hn:f'.name=f.name) (hi:Zab x.users f'=true)
    (hq:(Zbd x.folders f.owner:Int)+Zak f'.mail≤Zd1 x.users f.owner+Zak f.mail∨Zak f'.mail≤Zak f.mail):ZJ (x.withFolders (x.folders.set k f'))=true:=by
  rw [Zbt] at h ⊢
  obtain ⟨⟨h1,h2,h3⟩,⟨h4,h5,h6⟩,h7,h8⟩:=h
  refine ⟨⟨h1,h2,h3⟩,⟨?_,ZrE h5 hf ho hn,by simpa [DHost.withFolders] using h6⟩,?_,h8⟩
  · intro g hg
    obtain ⟨i,hg⟩:=List.mem_iff_getElem?.1 hg
    rcases ZiG hg with ⟨_,rfl,_⟩ | ⟨_,hg⟩
    · exact hi
    · exact h4 g (List.mem_of_getElem? hg)
  · intro w hw
    have:=h7 w hw
    simp only [ZaT,Bool.and_eq_true,decide_eq_true_eq] at this ⊢
    refine ⟨ZtO hf ho hn this.1,?_⟩
    have hu:=Zk1 f' w.name hf
    simp only [DHost.withFolders]
    by_cases e:f.owner=w.name
    · rw [if_pos e,if_pos (ho.trans e)] at hu
      rw [e,Zod h2 hw] at hq
      omega
    · rw [if_neg e,if_neg (fun e'=>e (ho ▸ e'))] at hu
      omega
theorem Zny :∀{fs:List DFolder} {f:DFolder},Zhc fs=true→(∀g,g∈fs→¬ (g.owner=f.owner∧g.name=f.name))→Zhc (Zhq fs f)=true
  | [],f,_,_=>rfl
  | a :: r,f,h,hk=>by
    cases hl:ZcO a f with
    | true=>
      have e:Zhq (a :: r) f=a :: Zhq r f:=by simp [Zhq,ZgM,hl]
      have ih:=Zny (fs:=r) (f:=f) (by cases r with | nil=>rfl | cons b r=>simp only [Zhc,Bool.and_eq_true] at h;exact h.2) (fun g hg=>hk g (List.mem_cons_of_mem _ hg))
      rw [e]
      cases r with
      | nil=>simp [Zhq,ZgM,Zhc,hl]
      | cons b r=>
        simp only [Zhc,Bool.and_eq_true] at h
        cases hb:ZcO b f with
        | true=>
          have e2:Zhq (b :: r) f=b :: Zhq r f:=by simp [Zhq,ZgM,hb]
          rw [e2] at ih ⊢
          simp only [Zhc,h.1,Bool.true_and];exact ih
        | false=>
          have e2:Zhq (b :: r) f=f :: b :: r:=by simp [Zhq,ZgM,hb]
          rw [e2] at ih ⊢
          simp only [Zhc,hl,Bool.true_and] at ih ⊢;exact ih
    | false=>
      have e:Zhq (a :: r) f=f :: a :: r:=by simp [Zhq,ZgM,hl]
      rw [e]
      have hne:=hk a (List.mem_cons_self ..)
      have:ZcO f a=true:=by
        unfold ZcO at hl ⊢
        rw [Zbs f.owner a.owner,Zbs f.name a.name]
        simp only [Bool.or_eq_false_iff,Bool.and_eq_false_iff,decide_eq_false_iff_not] at hl
        by_cases e:a.owner=f.owner
        · have e2:a.name≠f.name:=fun e2=>hne ⟨e,e2⟩
          rcases hl.2 with h2 | h2
          · exact absurd e h2
          · simp [e,ZdU,h2,e2]
        · simp [hl.1,e]
      simp only [Zhc,this,Bool.true_and];exact h
theorem ZpZ {fs:List DFolder} {f g:DFolder} : g∈Zhq fs f↔g∈fs∨g=f:=by
  have e:fs=fs.take (ZgM fs f) ++ fs.drop (ZgM fs f):=(List.take_append_drop _ _).symm
  constructor
  · intro h
    simp only [Zhq,List.mem_append,List.mem_singleton] at h
    rcases h with (h | h) | h
    · exact .inl (List.mem_of_mem_take h)
    · exact .inr h
    · exact .inl (List.mem_of_mem_drop h)
  · intro h
    simp only [Zhq,List.mem_append,List.mem_singleton]
    rcases h with h | h
    · rw [e,List.mem_append] at h
      rcases h with h | h
      · exact .inl (.inl h)
      · exact .inr h
    · exact .inl (.inr h)
theorem ZhZ (as bs:List DFolder) (u:Str):Zbd (as ++ bs) u=Zbd as u+Zbd bs u:=by simp [Zbd]
theorem Zpn (fs:List DFolder) (f:DFolder) (u:Str):Zbd (Zhq fs f) u=Zbd fs u+(if f.owner=u then Zak f.mail else 0):=by
  have e:Zbd fs u=Zbd (fs.take (ZgM fs f)) u+Zbd (fs.drop (ZgM fs f)) u:=by rw [← ZhZ,List.take_append_drop]
  rw [Zhq,ZhZ,ZhZ,e]
  simp only [Zbd,List.map_cons,List.map_nil,List.sum_cons,List.sum_nil];omega
theorem ZtM (fs:List DFolder) (f:DFolder):(Zhq fs f).length=fs.length+1:=by
  have:=congrArg List.length (List.take_append_drop (ZgM fs f) fs)
  simp only [List.length_append] at this
  simp only [Zhq,List.length_append,List.length_cons,List.length_nil];omega
theorem Zks {x:DHost} {u n:Str} (h:ZJ x=true) (hn:ZaA n=true) (hu : ¬ Zdw x.users u<0) (hk : ¬ (0≤Zbc (inF u n) x.folders∨8≤x.folders.length)):ZJ (x.withFolders (Zhq x.folders (Ze0 u n)))=true:=by
  rw [Zbt] at h ⊢
  obtain ⟨⟨h1,h2,h3⟩,⟨h4,h5,h6⟩,h7,h8⟩:=h
  refine ⟨⟨h1,h2,h3⟩,⟨?_,Zny h5 ?_,by show (Zhq x.folders _).length≤8;rw [ZtM];omega⟩,?_,h8⟩
  · intro g hg
    rcases ZpZ.1 hg with hg | rfl
    · exact h4 g hg
    · have e2:ZcB []=true:=by decide
      have e3:Zbm ⟨1,[]⟩=true:=by decide
      simp only [Zab,Ze0,DFolder.box,e2,e3,hn,Bool.and_true]
      exact decide_eq_true (by simp only [DHost.withFolders];omega)
  · rintro g hg ⟨e1,e2⟩
    exact hk (.inl (Zez.2 ⟨g,hg,by simp [inF,e1,e2,Ze0]⟩))
  · intro w hw
    have:=h7 w hw
    simp only [ZaT,Bool.and_eq_true,decide_eq_true_eq] at this ⊢
    have e:Zbd (Zhq x.folders (Ze0 u n)) w.name=Zbd x.folders w.name:=by
      rw [Zpn];simp [Ze0,Zak]
    obtain ⟨g,hg,hp⟩:=Zez.1 this.1
    refine ⟨Zez.2 ⟨g,ZpZ.2 (.inl hg),hp⟩,?_⟩
    show ((Zbd (Zhq x.folders (Ze0 u n)) w.name:Nat):Int)≤w.quota
    rw [e];exact this.2
theorem ZoK {x:DHost} {u n:Str} (h:ZJ x=true):(Zbl x u n).2=5∨ZJ (Zbl x u n).1=true:=by
  unfold Zbl
  split
  · exact .inl rfl
  · rename_i h1
    split
    · exact .inr h
    · rename_i h2
      split
      · exact .inr h
      · rename_i h3
        exact .inr (Zks h (by simp only [h,true_and,Decidable.not_not] at h1;exact h1) h2 h3)
theorem Zlm {ms:List DMail} {b:Int} {m:DMail} (h:Zcf ms=(true,b)) (hm:ZbO b m=true):Zcf (ms ++ [m])=(true,m.uid):=by
  rw [Zcf,scn,List.foldl_append]
  have:ms.foldl (fun (s:Bool × Int) x=>(s.1 && ZbO s.2 x,x.uid)) (true,0)=(true,b):=h
  rw [this];simp [hm]
theorem Zfo {b:DBox} (h:Zbm b=true) :∃l,Zcf b.mail=(true,l)∧l+1≤b.next∧b.next≤100∧b.mail.length≤10:=by
  simp only [Zbm,Bool.and_eq_true,decide_eq_true_eq] at h
  exact ⟨(Zcf b.mail).2,Prod.ext h.1.1 rfl,h.1.2.1,h.1.2.2,h.2⟩
theorem Zka :∀(xs:List DMail) (b0 b:Int),xs.foldl (fun (s:Bool × Int) x=>(s.1 && ZbO s.2 x,x.uid)) (true,b0)=(true,b)→b0≤b
  | [],b0,b,h=>by cases h;omega
  | x :: xs,b0,b,h=>by
    simp only [List.foldl_cons,Bool.true_and] at h
    cases hp:ZbO b0 x with
    | false=>
      rw [hp] at h
      have:=Zb7 (p:=ZbO) (nx:=fun _ m=>m.uid) xs x.uid
      rw [h] at this;cases this
    | true=>
      rw [hp] at h
      have:=Zka xs x.uid b h
      simp only [ZbO,Bool.and_eq_true,decide_eq_true_eq] at hp
      omega
theorem ZoZ {b:DBox} {fl:Int} {t:Str} (h:Zbm b=true) (hf:ZaV fl=true) (ht:t.length≤20) (h2:(ZgW b fl t).2=true):Zbm (ZgW b fl t).1=true∧Zak (ZgW b fl t).1.mail=Zak b.mail+t.length:=by
  obtain ⟨l,hs,hl,hn,hk⟩:=Zfo h
  have h0:=Zka b.mail 0 l hs
  unfold ZgW at h2 ⊢
  split at h2
  · cases h2
  · rename_i hc
    rw [if_neg hc]
    simp only [ZaV,Bool.and_eq_true,decide_eq_true_eq] at hf
    have hm:ZbO l ⟨b.next,fl,t⟩=true:=by
      simp only [ZbO,ZbB,Bool.and_eq_true,decide_eq_true_eq];omega
    refine ⟨?_,by simp [Zak]⟩
    rw [ZdC (Zlm hs hm)]
    simp only [Bool.and_eq_true,decide_eq_true_eq,List.length_append,List.length_cons,List.length_nil]
    omega
theorem Zhi {us:List DUser} {f:DFolder} {b:DBox} (h:Zab us f=true) (hb:Zbm b=true):Zab us (f.withBox b)=true:=by
  simp only [Zab,Bool.and_eq_true,decide_eq_true_eq] at h ⊢
  exact ⟨⟨⟨h.1.1.1,h.1.1.2⟩,h.1.2⟩,hb⟩
theorem Zbu {x:DHost} {k:Nat} {f:DFolder} (h:ZJ x=true) (hf:x.folders[k]? = some f):Zab x.users f=true:=(Zbt.1 h).2.1.1 f (List.mem_of_getElem? hf)
theorem Zb0 {us:List DUser} {f:DFolder} (h:Zab us f=true):Zbm f.box=true:=by simp only [Zab,Bool.and_eq_true] at h;exact h.2
theorem Zhy {x:DHost} {k:Nat} {fl:Int} {t:Str} (h:ZJ x=true) (hf:ZaV fl=true) (ht:t.length≤20):ZJ (ZbN x k fl t).1=true:=by
  unfold ZbN
  split
  · exact h
  · rename_i f hk
    split
    · exact h
    · rename_i hq
      split
      · rename_i h2
        obtain ⟨h3,h4⟩:=ZoZ (Zb0 (Zbu h hk)) hf ht h2
        refine ZgN h hk rfl rfl (Zhi (Zbu h hk) h3) (.inl ?_)
        show (Zbd x.folders f.owner:Int)+Zak (ZgW f.box fl t).1.mail≤Zd1 x.users f.owner+Zak f.mail
        rw [h4,show f.box.mail=f.mail from rfl];omega
      · exact h
theorem ZU {x:DHost} {k:Nat} {fl:Int} {t:Str} : (ZbN x k fl t).1.users=x.users∧(ZbN x k fl t).1.queue=x.queue∧(ZbN x k fl t).1.domain=x.domain∧(ZbN x k fl t).1.folders.length=x.folders.length:=by
  unfold ZbN
  split
  · exact ⟨rfl,rfl,rfl,rfl⟩
  · split
    · exact ⟨rfl,rfl,rfl,rfl⟩
    · split
      · exact ⟨rfl,rfl,rfl,by simp [DHost.withFolders]⟩
      · exact ⟨rfl,rfl,rfl,rfl⟩
theorem ZtS {x:DHost} {b o n:Str} {fl:Int} {t:Str} (h:ZJ x=true):(Zku x b o n fl t).2=5∨ZJ (Zku x b o n fl t).1=true:=by
  unfold Zku
  split
  · exact .inl rfl
  · rename_i h1
    simp only [h,true_and,Decidable.not_not] at h1
    split
    · exact .inr h
    · exact .inr (Zhy h h1.1 h1.2)
theorem ZqY {gs:List DGrant} {u:Str} {r:Int} (h:(Zb3 gs u r).2=true):ZcB (Zb3 gs u r).1=true:=by
  unfold Zb3 at h ⊢
  split
  · rename_i h1;rw [if_pos h1] at h;cases h
  · rename_i h1
    rw [if_neg h1] at h
    split
    · assumption
    · rename_i h2;rw [if_neg h2] at h;cases h
theorem Zql {x:DHost} {b o n u:Str} {r:Int} (h:ZJ x=true):(Zb1 x b o n u r).2=5∨ZJ (Zb1 x b o n u r).1=true:=by
  unfold Zb1
  split
  · exact .inl rfl
  · split
    · exact .inr h
    · split
      · exact .inr h
      · right
        unfold Ze7
        split
        · exact h
        · rename_i f hk
          split
          · rename_i h2
            refine ZgN h hk rfl rfl ?_ (.inr (Nat.le_refl _))
            have:=Zbu h hk
            simp only [Zab,Bool.and_eq_true,decide_eq_true_eq] at this ⊢
            exact ⟨⟨⟨this.1.1.1,this.1.1.2⟩,ZqY h2⟩,this.2⟩
          · exact h
theorem Zhf {x:DHost} {q:DQueue} (h:ZJ x=true) (hq:Zai q=true) (hi :∀y,y∈q.items→ZaK x.users y=true):ZJ (x.withQueue q)=true:=by
  rw [Zbt] at h ⊢
  exact ⟨⟨h.1.1,h.1.2.1,hq⟩,h.2.1,h.2.2.1,hi⟩
theorem Zgq {x:DHost} (h:ZJ x=true):Zai x.queue=true:=(Zbt.1 h).1.2.2
theorem ZjM {x:DHost} {l:DLetter} (h:ZJ x=true):(ZW x l).2=5∨ZJ (ZW x l).1=true:=by
  unfold ZW
  split
  · exact .inl rfl
  · split
    · exact .inr h
    · rename_i h2
      split
      · rename_i h3
        refine .inr (Zhf h (ZoY h3) fun y hy=>?_)
        rw [(Zi6 h3).1] at hy
        simp only [List.mem_append,List.mem_singleton] at hy
        rcases hy with hy | rfl
        · exact (Zbt.1 h).2.2.2 y hy
        · simp only [not_or,Bool.not_eq_false] at h2
          simp only [ZaK,h2.2,Bool.and_true]
          exact decide_eq_true (by omega)
      · exact .inr h
theorem Zn2 {id:Int} {u:Str} {xs:List DItem} {y:DItem} (h:y∈ZeN id u xs) :∃z,z∈xs∧y.fr=z.fr∧(∀n,n∈y.left→n∈z.left):=by
  simp only [ZeN,List.mem_filter,List.mem_map] at h
  obtain ⟨⟨z,hz,rfl⟩,_⟩:=h
  refine ⟨z,hz,?_,?_⟩
  · unfold ZbJ;split <;> rfl
  · intro n hn
    unfold ZbJ at hn
    split at hn
    · exact (List.mem_filter.1 hn).1
    · exact hn
theorem Zjs :∀(xs:List DItem) {id:Int} {u:Str} (s:Str × Bool),(xs.foldl (ZbV id u) s).2=true→s.2=true∨∃y,y∈xs∧u∈y.left
  | [],_,_,s,h=>.inl h
  | x :: xs,id,u,s,h=>by
    rcases Zjs xs (ZbV id u s x) h with h | ⟨y,hy,hu⟩
    · unfold ZbV at h
      split at h
      · rename_i hc;exact .inr ⟨x,List.mem_cons_self ..,hc.2⟩
      · exact .inl h
    · exact .inr ⟨y,List.mem_cons_of_mem _ hy,hu⟩
theorem ZoQ {x:DHost} {id:Int} {u:Str} (h:ZJ x=true) (hf:(Zb6 x.queue id u).2.2=true):0≤Zbc (inF u inbox) x.folders:=by
  obtain ⟨_,_,h7,h8⟩:=Zbt.1 h
  rcases Zjs x.queue.items (id:=id) (u:=u) ([],false) hf with h0 | ⟨y,hy,hu⟩
  · cases h0
  · have:=h8 y hy
    simp only [ZaK,Zc6,Bool.and_eq_true,List.all_eq_true,decide_eq_true_eq] at this
    obtain ⟨w,hw,rfl⟩:=ZbS.1 (this.2 u hu)
    have:=h7 w hw
    simp only [ZaT,Bool.and_eq_true,decide_eq_true_eq] at this
    exact this.1
theorem Zni :∀(xs:List DItem) {id:Int} {u:Str} (s:Str × Bool),s.1.length≤20→(∀y,y∈xs→Zcw y=true)→(xs.foldl (ZbV id u) s).1.length≤20
  | [],_,_,s,h,_=>h
  | x :: xs,id,u,s,h,ha=>by
    refine Zni xs (ZbV id u s x) ?_ fun y hy=>ha y (List.mem_cons_of_mem _ hy)
    unfold ZbV
    split
    · have:=ha x (List.mem_cons_self ..)
      simp only [Zcw,Zar,Bool.and_eq_true,decide_eq_true_eq] at this
      exact this.2
    · exact h
theorem Zho {x:DHost} {id:Int} {u:Str} (h:ZJ x=true):(Zb6 x.queue id u).2.1.length≤20:=
  Zni x.queue.items ([],false) (by simp) fun y hy=>ZdR (Zgq h) hy
theorem ZmR {x:DHost} {id:Int} {u:Str} (h:ZJ x=true):(ZaU x id u).2=5∨ZJ (ZaU x id u).1=true:=by
  right
  unfold ZaU
  rw [if_neg (show ¬ ZJ x=false by simp [h])]
  split
  · exact h
  · rename_i hf
    have hp:ZJ (ZbN x (Zbc (inF u inbox) x.folders).toNat 0 (Zb6 x.queue id u).2.1).1=true:=Zhy h (by decide) (Zho h)
    split
    · have e:=ZU (x:=x) (k:=(Zbc (inF u inbox) x.folders).toNat) (fl:=0) (t:=(Zb6 x.queue id u).2.1)
      have hq:Zc2 x.queue id u=Zb6 x.queue id u:=by rw [Zc2,if_pos (Zgq h)]
      refine Zhf hp ?_ fun y hy=>?_
      · rw [← hq];exact Zn1 (by rw [hq];simpa using hf)
      · obtain ⟨z,hz,e1,e2⟩:=Zn2 (show y∈ZeN id u x.queue.items from hy)
        have:=(Zbt.1 h).2.2.2 z hz
        simp only [ZaK,Zc6,Bool.and_eq_true,List.all_eq_true,e.1,e1] at this ⊢
        exact ⟨this.1,fun n hn=>this.2 n (e2 n hn)⟩
    · exact hp
theorem Zla {x:DHost} {k:Nat} {b:DBox} (h:ZJ x=true) (hb :∀f,x.folders[k]? = some f→Zbm b=true∧Zak b.mail≤Zak f.mail):ZJ (Zjv x k b)=true:=by
  unfold Zjv
  split
  · rename_i f hf
    exact ZgN h hf rfl rfl (Zhi (Zbu h hf) (hb f hf).1) (.inr (hb f hf).2)
  · exact h
def Like (ms ms':List DMail):Prop:=ms'.length=ms.length∧∀(i:Nat) (a b:DMail),ms[i]? = some a→ms'[i]? = some b→b.uid=a.uid∧b.text=a.text∧(b.flags=a.flags∨(0≤b.flags∧b.flags≤31))
theorem Like.refl (ms:List DMail):Like ms ms:=⟨rfl,fun i a b h1 h2=>by rw [h1] at h2;cases h2;exact ⟨rfl,rfl,.inl rfl⟩⟩
theorem Like.set {ms acc:List DMail} {k:Nat} {a:DMail} {fl:Int} (h:Like ms acc) (ha:acc[k]? = some a) (hf:0≤fl∧fl≤31):Like ms (acc.set k ⟨a.uid,fl,a.text⟩):=by
  refine ⟨by rw [List.length_set];exact h.1,fun i c d hc hd=>?_⟩
  rcases ZiG hd with ⟨rfl,rfl,_⟩ | ⟨_,hd⟩
  · have:=h.2 _ _ _ hc ha
    exact ⟨this.1,this.2.1,.inr hf⟩
  · exact h.2 _ _ _ hc hd
theorem ZlL {ms acc:List DMail} {how fl n:Int} (h:Like ms acc):Like ms (ZgR ms how fl acc n):=by
  unfold ZgR
  split
  · rename_i a m ha hm;exact h.set ha (Zs0 _ _ _)
  · exact h
theorem Zhn {ms:List DMail} {how fl:Int} :∀(ns:List Int) {acc:List DMail},Like ms acc→Like ms (ns.foldl (ZgR ms how fl) acc)
  | [],_,h=>h
  | n :: ns,_,h=>Zhn ns (ZlL h)
theorem Zlo :∀{ms ms':List DMail} (b0 b:Int),Like ms ms'→ms.foldl (fun (s:Bool × Int) x=>(s.1 && ZbO s.2 x,x.uid)) (true,b0)=(true,b)→ms'.foldl (fun (s:Bool × Int) x=>(s.1 && ZbO s.2 x,x.uid)) (true,b0)=(true,b)∧Zak ms'=Zak ms
  | [],ms',b0,b,h,hs=>by
    have:ms'=[]:=List.length_eq_zero_iff.1 h.1
    subst this;exact ⟨hs,rfl⟩
  | x :: ms,[],b0,b,h,hs=>by cases h.1
  | x :: ms,y :: ms',b0,b,h,hs=>by
    obtain ⟨h1,h2⟩:=h
    obtain ⟨e1,e2,e3⟩:=h2 0 x y rfl rfl
    simp only [List.foldl_cons,Bool.true_and] at hs ⊢
    cases hp:ZbO b0 x with
    | false=>
      rw [hp] at hs
      have:=Zb7 (p:=ZbO) (nx:=fun _ m=>m.uid) ms x.uid
      rw [hs] at this;cases this
    | true=>
      rw [hp] at hs
      have hq:ZbO b0 y=true:=by
        simp only [ZbO,ZbB,Bool.and_eq_true,decide_eq_true_eq] at hp ⊢
        rw [e1,e2]
        rcases e3 with e3 | e3
        · rw [e3];exact hp
        · omega
      rw [hq,e1]
      obtain ⟨h3,h4⟩:=Zlo (ms:=ms) (ms':=ms') x.uid b ⟨by simpa using h1,fun i a c ha hc=>h2 (i+1) a c (by simpa using ha) (by simpa using hc)⟩ hs
      refine ⟨h3,?_⟩
      simp only [Zak,List.map_cons,List.sum_cons,e2] at h4 ⊢
      omega
theorem ZrN {b:DBox} {ms:List DMail} (h:Zbm b=true) (hl:Like b.mail ms):Zbm ⟨b.next,ms⟩=true∧Zak ms=Zak b.mail:=by
  obtain ⟨l,hs,h1,h2,h3⟩:=Zfo h
  obtain ⟨h4,h5⟩:=Zlo 0 l hl hs
  refine ⟨?_,h5⟩
  rw [ZdC (b:=⟨b.next,ms⟩) h4]
  simp only [Bool.and_eq_true,decide_eq_true_eq,hl.1];omega
theorem Zir :∀(ms:List DMail) (b0 b1 b:Int),b1≤b0→ms.foldl (fun (s:Bool × Int) x=>(s.1 && ZbO s.2 x,x.uid)) (true,b0)=(true,b)→∃c,c≤b∧(Zcv ms).foldl (fun (s:Bool × Int) x=>(s.1 && ZbO s.2 x,x.uid)) (true,b1)=(true,c)∧Zak (Zcv ms)≤Zak ms
  | [],b0,b1,b,hb,h=>by cases h;exact ⟨b1,hb,rfl,Nat.le_refl _⟩
  | x :: ms,b0,b1,b,hb,h=>by
    simp only [List.foldl_cons,Bool.true_and] at h
    cases hp:ZbO b0 x with
    | false=>
      rw [hp] at h
      have:=Zb7 (p:=ZbO) (nx:=fun _ m=>m.uid) ms x.uid
      rw [h] at this;cases this
    | true=>
      rw [hp] at h
      have hx:b0<x.uid:=by simp only [ZbO,Bool.and_eq_true,decide_eq_true_eq] at hp;exact hp.2
      cases hd:Zo2 x with
      | true=>
        obtain ⟨c,h1,h2,h3⟩:=Zir ms x.uid b1 b (by omega) h
        have e:Zcv (x :: ms)=Zcv ms:=by simp [Zcv,hd]
        rw [e]
        refine ⟨c,h1,h2,?_⟩
        simp only [Zak,List.map_cons,List.sum_cons] at h3 ⊢;omega
      | false=>
        obtain ⟨c,h1,h2,h3⟩:=Zir ms x.uid x.uid b (by omega) h
        have e:Zcv (x :: ms)=x :: Zcv ms:=by simp [Zcv,hd]
        rw [e]
        have hq:ZbO b1 x=true:=by
          simp only [ZbO,Bool.and_eq_true,decide_eq_true_eq] at hp ⊢
          exact ⟨hp.1,by omega⟩
        refine ⟨c,h1,?_,?_⟩
        · simp only [List.foldl_cons,Bool.true_and,hq];exact h2
        · simp only [Zak,List.map_cons,List.sum_cons] at h3 ⊢;omega
theorem ZrV {b:DBox} (h:Zbm b=true):Zbm ⟨b.next,Zcv b.mail⟩=true∧Zak (Zcv b.mail)≤Zak b.mail:=by
  obtain ⟨l,hs,h1,h2,h3⟩:=Zfo h
  obtain ⟨c,h4,h5,h6⟩:=Zir b.mail 0 0 l (by omega) hs
  refine ⟨?_,h6⟩
  have:(Zcv b.mail).length≤b.mail.length:=List.length_filter_le _ _
  rw [ZdC (b:=⟨b.next,Zcv b.mail⟩) h5]
  simp only [Bool.and_eq_true,decide_eq_true_eq];omega
theorem Zdk {x:DHost} {k:Nat} {f:DFolder} (h:x.folders[k]? = some f):Zhr x k=f.box:=by simp only [Zhr,h]
theorem ZhJ {x:DHost} {s:DSess} {r:Int} (h:(atF x s r).2=0):(atF x s r).1=Zbc (inF s.owner s.name) x.folders∧0≤(atF x s r).1∧0≤Zdw x.users s.user∧∃f,x.folders[(atF x s r).1.toNat]? = some f∧Zo3 f s.user 1=true∧Zo3 f s.user 2=true∧Zo3 f s.user r=true:=by
  unfold atF at h ⊢
  split at h
  · rename_i h1;exact absurd h h1
  · rename_i h1
    rw [if_neg h1]
    obtain ⟨h2,h3,f,hf,h4,h5⟩:=Zeq h
    obtain ⟨_,_,f',hf',_,h6⟩:=Zeq (Decidable.not_not.1 h1)
    rw [hf] at hf';cases hf'
    exact ⟨rfl,h3,h2,f,hf,h4,h6,h5⟩
theorem Zqk {x:DHost} {s:DSess} {set:List DSpan} {how fl:Int} (h:ZJ x=true):(Zca x s set how fl).2=5∨ZJ (Zca x s set how fl).1=true∨(Zed (Zhr x (atF x s 4).1.toNat).mail.length (ZaJ set (Zhr x (atF x s 4).1.toNat).mail.length)=false):=by
  unfold Zca
  split
  · exact .inl rfl
  · rename_i h1
    split
    · exact .inr (.inl h)
    · rename_i h2
      cases hn:Zed (Zhr x (atF x s 4).1.toNat).mail.length (ZaJ set (Zhr x (atF x s 4).1.toNat).mail.length) with
      | false=>exact .inr (.inr rfl)
      | true=>
        refine .inr (.inl (Zla h fun f hf=>?_))
        simp only [h,true_and,Decidable.not_not] at h1
        have hb:=Zb0 (Zbu h hf)
        rw [Zdk hf] at hn ⊢
        rw [Zbh,if_pos ⟨hb,hn,h1.2.2,h1.2.1⟩]
        obtain ⟨h4,h5⟩:=ZrN hb (Zhn (how:=how) (fl:=fl) (ZaJ set f.box.mail.length) (Like.refl f.box.mail))
        exact ⟨h4,Nat.le_of_eq h5⟩
theorem ZmQ {x:DHost} {s:DSess} (h:ZJ x=true):(ZaP x s).2.2=5∨ZJ (ZaP x s).1=true:=by
  unfold ZaP
  split
  · exact .inl rfl
  · split
    · exact .inr h
    · refine .inr (Zla h fun f hf=>?_)
      have hb:=Zb0 (Zbu h hf)
      rw [Zdk hf,expunge,if_pos hb]
      exact ZrV hb
theorem ZgJ (s:List DSpan) (last:Int) :∀(n:Nat) (y:Int),y∈ZcY s last n→1≤y∧y≤n
  | 0,y,h=>by cases h
  | n+1,y,h=>by
    simp only [ZcY] at h
    split at h
    · rw [List.mem_append,List.mem_singleton] at h
      rcases h with h | rfl
      · have:=ZgJ s last n y h;omega
      · omega
    · have:=ZgJ s last n y h;omega
theorem Zlj {m:Nat} {xs:List Int} {b y:Int} (h:ZdT m xs=(true,b)) (hy:ZpO m b y=true):ZdT m (xs ++ [y])=(true,y):=by
  rw [ZdT,scn,List.foldl_append]
  have:xs.foldl (fun (s:Bool × Int) x=>(s.1 && ZpO m s.2 x,x)) (true,0)=(true,b):=h
  rw [this];simp [hy]
theorem Zih (s:List DSpan) (last:Int) (m:Nat) :∀n,n≤m→∃b,ZdT m (ZcY s last n)=(true,b)∧b≤n
  | 0,_=>⟨0,rfl,by simp⟩
  | n+1,h=>by
    obtain ⟨b,h1,h2⟩:=Zih s last m n (by omega)
    simp only [ZcY]
    split
    · exact ⟨_,Zlj h1 (by simp only [ZpO,Bool.and_eq_true,decide_eq_true_eq];omega),by omega⟩
    · exact ⟨b,h1,by omega⟩
theorem ZpN (s:List DSpan) (m:Nat):Zed m (ZaJ s m)=true:=by
  unfold ZaJ
  split
  · obtain ⟨b,h,_⟩:=Zih s (min (m:Int) 99) m (min (m:Int) 99).toNat (by omega)
    rw [Zed,h]
  · rfl
theorem ZjD {s:List DSpan} {m:Nat} {y:Int} (h:y∈ZaJ s m):1≤y∧y≤m:=by
  unfold ZaJ at h
  split at h
  · have:=ZgJ _ _ _ _ h;omega
  · cases h
theorem ZjB (s:List DSpan) (last:Int) :∀n,(ZcY s last n).length≤n
  | 0=>by simp [ZcY]
  | n+1=>by
    have:=ZjB s last n
    simp only [ZcY]
    split
    · simp;omega
    · omega
theorem ZmZ {to:Nat} {s:DHost × Int} {m:DMail} (h:ZJ s.1=true) (hm:ZbB m=true):ZJ (ZbL to s m).1=true:=by
  unfold ZbL
  simp only [ZbB,Bool.and_eq_true,decide_eq_true_eq] at hm
  split
  · exact Zhy h (by simp only [ZaV,Bool.and_eq_true,decide_eq_true_eq];exact hm.1.2) hm.2
  · exact h
theorem ZiZ {to:Nat} :∀(ms:List DMail) (s:DHost × Int),ZJ s.1=true→(∀m,m∈ms→ZbB m=true)→ZJ (ms.foldl (ZbL to) s).1=true
  | [],_,h,_=>h
  | m :: ms,s,h,hm=>ZiZ ms _ (ZmZ h (hm m (List.mem_cons_self ..))) fun y hy=>hm y (List.mem_cons_of_mem _ hy)
theorem Zp0 {b:DBox} (h:Zbm b=true) {y:Int} (hy:1≤y∧y≤b.mail.length):ZbB (Zc5 b.mail y)=true:=by
  unfold Zc5
  have :∃m,b.mail[(y - 1).toNat]? = some m:=⟨_,List.getElem?_eq_getElem (by omega)⟩
  obtain ⟨m,hm⟩:=this
  simp only [hm]
  exact (ZdB h).1 m (List.mem_of_getElem? hm)
theorem Zr8 {x:DHost} {s:DSess} {set:List DSpan} {o n:Str} (h:ZJ x=true):(ZeD x s set o n).2=5∨ZJ (ZeD x s set o n).1=true:=by
  unfold ZeD
  split
  · exact .inl rfl
  · split
    · exact .inr h
    · rename_i h2
      split
      · exact .inr h
      · obtain ⟨_,_,_,f,hf,_⟩:=ZhJ (Decidable.not_not.1 h2)
        have hb:=Zb0 (Zbu h hf)
        simp only []
        split
        · refine .inr (ZiZ _ _ h fun m hm=>?_)
          obtain ⟨y,hy,rfl⟩:=List.mem_map.1 hm
          rw [Zdk hf] at hy ⊢
          exact Zp0 hb (ZjD hy)
        · exact .inr h
theorem Zt1 {x:DHost} {e:DEvent} (h:ZJ x=true):(ZhG x e).2=5∨ZJ (ZhG x e).1=true:=by
  unfold ZhG
  split
  · exact ZoK h
  · split
    · exact Zql h
    · split
      · exact ZtS h
      · split
        · exact ZjM h
        · split
          · exact ZmR h
          · split
            · rcases Zqk (x:=x) (s:=⟨e.by_,e.owner,e.name⟩) (set:=[⟨e.a,e.a⟩]) (how:=1) (fl:=e.b) h with h | h | h
              · exact .inl h
              · exact .inr h
              · rw [ZpN] at h;cases h
            · split
              · exact ZmQ h
              · split
                · exact Zr8 h
                · exact .inl rfl
theorem Zvg {x:DHost} {e:DEvent} (h:ZJ x=true):ZJ (hDo x e).1=true:=by
  unfold hDo
  rw [h]
  simp only [Bool.true_eq_false,if_false]
  split
  · exact h
  · rename_i h2
    rcases Zt1 (e:=e) h with h3 | h3
    · exact absurd h3 h2
    · exact h3
end Go.BL
namespace Go.BL
open Go
set_option linter.unusedVariables false
set_option linter.unusedSimpArgs false
theorem Zrz {k:Nat} {e:Int} (h:([1,2,4,8,16,32]:List Int)[k]? = some e):e=Zdg k:=by rw [Zdg,List.getD_eq_getElem?_getD,h];rfl
theorem ZpL {k:Nat} {e:Int} (h:([1,2,4,8,16]:List Int)[k]? = some e):e=Zdg k:=by
  have hk:=(List.getElem?_eq_some_iff.1 h).1
  simp only [List.length_cons,List.length_nil] at hk
  have:k=0∨k=1∨k=2∨k=3∨k=4:=by omega
  rcases this with rfl | rfl | rfl | rfl | rfl <;> simp at h <;> rw [← h] <;> rfl
theorem Zjz {a b:Int} (h0:0≤a) (h1:a≤1000000) (hb:0<b):IntKind.i64.wrap (Int.tdiv a b)=Int.tdiv a b:=
  ZaX (Int.le_trans (by decide) (Int.tdiv_nonneg h0 (by omega))) (Int.le_trans (Int.tdiv_le_self _ h0) (by omega))
theorem Zl7 {gs:List DGrant} (h:ZcB gs=true) :∀y,y∈gs→0≤y.rights∧y.rights≤63:=by
  intro y hy
  simp only [ZcB,Bool.and_eq_true] at h
  obtain ⟨b,hb⟩:=Zj9 (p:=ZcE) (nx:=fun _ g=>g.user) gs [] h.1 y hy
  simp only [ZcE,Bool.and_eq_true,decide_eq_true_eq] at hb;omega
def ZhM (fs:List DFolder):Prop:=∀f,f∈fs→∀y,y∈f.grants→0≤y.rights∧y.rights≤63
theorem Zcx {x:DHost} (h:ZJ x=true):ZhM x.folders:=fun f hf=>by
  have:=(Zbt.1 h).2.1.1 f hf
  simp only [Zab,Bool.and_eq_true] at this
  exact Zl7 this.1.2
theorem Zmt (gs:List DGrant) (u:Str):0≤ZdP gs u∧ZdP gs u≤600:=Zi4 gs u 6 (Nat.le_refl _)
theorem Zpk :∀{fs:List DFolder} (us:List DUser) (u:Str),(∀f,f∈fs→Zab us f=true)→Zbd fs u≤fs.length*200
  | [],_,_,_=>by simp [Zbd]
  | f :: fs,us,u,h=>by
    have ih:=Zpk us u fun g hg=>h g (List.mem_cons_of_mem _ hg)
    obtain ⟨h1,h2⟩:=ZdB (Zb0 (h f (List.mem_cons_self ..)))
    have h3:Zak f.mail≤f.mail.length*20:=ZfL _ h1
    have h4:f.mail.length≤10:=h2
    simp only [Zbd,List.map_cons,List.sum_cons,List.length_cons] at ih ⊢
    split <;> omega
theorem ZmL {x:DHost} (h:ZJ x=true) (u:Str):Zbd x.folders u≤1600:=by
  obtain ⟨_,⟨h4,_,h6⟩,_⟩:=Zbt.1 h
  have:=Zpk x.users u h4
  omega
theorem Zdj {b:DBox} (h:Zbm b=true):1≤b.next∧b.next≤100∧b.mail.length≤10:=by
  obtain ⟨l,hs,h1,h2,h3⟩:=Zfo h
  have:=Zka b.mail 0 l hs
  omega
structure GHC where
  q1:Option Addr
  c1:Nat
  q3:Option Addr
  c3:Nat
  b:Nat
theorem Zg5 {α:Type} {p:α→Bool} :∀{fs:List α} {k:Nat},(∀y,y∈fs.take k→p y=true)→(fs.length≤k∨∃z,fs[k]? = some z∧p z=false)→k≤fs.length→(fs.takeWhile p).length=k
  | [],k,_,_,hk=>by simp at hk;subst hk;rfl
  | a :: fs,0,_,he,_=>by
    rcases he with he | ⟨z,hz,hp⟩
    · simp at he
    · simp at hz;subst hz;simp [hp]
  | a :: fs,k+1,ha,he,hk=>by
    have h1:p a=true:=ha a (by simp)
    have ih:=Zg5 (fs:=fs) (k:=k) (fun y hy=>ha y (by simp [hy])) (by
      rcases he with he | ⟨z,hz,hp⟩
      · exact .inl (by simpa using he)
      · exact .inr ⟨z,by simpa using hz,hp⟩) (by simpa using hk)
    simp [h1,ih]
theorem Zcn {x:DHost} {u n:Str} {k:Nat} (h1:ZJ x=true) (h2:ZaA n=true) (h3 : ¬ Zdw x.users u<0) (h4 : ¬ 0≤Zbc (inF u n) x.folders) (h5 : ¬ 8≤x.folders.length) (hk:k≤x.folders.length)
    (ha :∀y,y∈x.folders.take k→ZcO y (Ze0 u n)=true) (he:x.folders.length≤k∨∃z,x.folders[k]? = some z∧ZcO z (Ze0 u n)=false) :
    Zbl x u n=(x.withFolders (((x.folders.take k).drop 0 ++ [⟨u,n,[],1,[]⟩]) ++ (x.folders.take x.folders.length).drop k),0):=by
  rw [Zbl,if_neg (fun h=>h ⟨h1,h2⟩),if_neg h3,if_neg (fun h=>h.elim h4 h5),Zhq,show ZgM x.folders (Ze0 u n)=k from Zg5 ha he hk,List.drop_zero,List.take_length]
  rfl
theorem ZgX {gs:List DGrant} {u:Str} {r:Int} (h : ¬ (ZcB gs=true∧ZaA u=true∧ZdO r=true)):Zb3 gs u r=([],false):=by rw [Zb3,if_pos h]
theorem Zl6 {gs:List DGrant} {u:Str} {r:Int} (h:ZcB gs=true∧ZaA u=true∧ZdO r=true) (h2:ZcB (Zgz gs u r)=false):Zb3 gs u r=(gs,false):=by rw [Zb3,if_neg (fun a=>a h),if_neg (by rw [h2];exact Bool.false_ne_true)]
theorem Zj2 {gs:List DGrant} {u:Str} {r:Int} (h:ZcB gs=true∧ZaA u=true∧ZdO r=true) (h2:ZcB (Zgz gs u r)=true):Zb3 gs u r=(Zgz gs u r,true):=by rw [Zb3,if_neg (fun a=>a h),if_pos h2]
theorem ZgY {gs xs:List DGrant} {u:Str} {r:Int} (h:(true,xs)=ZeI u r gs):Zgz gs u r=xs:=by rw [Zgz,← h];rfl
theorem ZgZ {gs xs:List DGrant} {u:Str} {r:Int} (h:(false,xs)=ZeI u r gs):Zgz gs u r=xs ++ [⟨u,r⟩]:=by rw [Zgz,← h];rfl
theorem Zi7 {gs:List DGrant} (h:ZcB gs=true):gs.length≤4:=by simp only [ZcB,Bool.and_eq_true,decide_eq_true_eq] at h;exact h.2
theorem ZjN {x:DHost} {k:Nat} {f:DFolder} {u:Str} {r:Int} (hf:x.folders[k]? = some f) (h:(Zb3 f.grants u r).2=false):Ze7 x k u r=(x,4):=by simp only [Ze7,hf,h];rfl
theorem ZiF {x:DHost} {k:Nat} {f:DFolder} {u:Str} {r:Int} (hf:x.folders[k]? = some f) (h:(Zb3 f.grants u r).2=true):Ze7 x k u r=(x.withFolders (x.folders.set k (f.withGrants (Zb3 f.grants u r).1)),0):=by simp only [Ze7,hf,h,if_true]
theorem ZjC {n:Nat} {xs:List Int} {k:Nat} {x b:Int} (hx:xs[k]? = some x) (hs:ZdT n (xs.take k)=(true,b)) (h:ZpO n b x=false):Zed n xs=false:=Zhw hx hs h
theorem Zol {n:Nat} {xs:List Int} {b:Int} (h:ZdT n xs=(true,b)):Zed n xs=true:=by rw [Zed,h]
theorem Zok {n:Nat} {xs:List Int} (h:Zed n xs=true) :∀y,y∈xs→1≤y∧y≤n:=by
  intro y hy
  obtain ⟨b,hb⟩:=Zj9 (p:=ZpO n) (nx:=fun _ x=>x) xs 0 h y hy
  simp only [ZpO,Bool.and_eq_true,decide_eq_true_eq] at hb;omega
theorem ZlK {ms:List DMail} {how fl:Int} {ns:List Int} {k:Nat} {y:Int} {a m:DMail} (hy:ns[k]? = some y) (ha:(Zd4 ms how fl (ns.take k))[(y - 1).toNat]? = some a) (hm:ms[(y - 1).toNat]? = some m) :
    Zd4 ms how fl (ns.take (k+1))=(Zd4 ms how fl (ns.take k)).set (y - 1).toNat ⟨a.uid,chg m.flags how fl,a.text⟩:=by
  have e:Zd4 ms how fl (ns.take (k+1))=ZgR ms how fl (Zd4 ms how fl (ns.take k)) y:=by rw [Zaw hy,Zd4,List.foldl_append];rfl
  rw [e,ZgR,ha,hm]
theorem ZfZ {b:DBox} (h:Zbm b=true) {m:DMail} (hm:m∈b.mail):0≤m.flags∧m.flags≤31:=by
  have:=(ZdB h).1 m hm
  simp only [ZbB,Bool.and_eq_true,decide_eq_true_eq] at this;exact this.1.2
theorem ZrT {ms:List DMail} {k:Nat} {x:DMail} (hx:ms[k]? = some x) (h:Zo2 x=false):Zcv (ms.take (k+1))=Zcv (ms.take k) ++ [x]:=by
  rw [Zaw hx,Zcv,List.filter_append];simp [Zcv,h]
theorem ZtK {ms:List DMail} {k:Nat} {x:DMail} (hx:ms[k]? = some x) (h:Zo2 x=true):Zcv (ms.take (k+1))=Zcv (ms.take k):=by
  rw [Zaw hx,Zcv,List.filter_append];simp [Zcv,h]
theorem ZjO {ms:List DMail} {k:Nat} {x:DMail} (hx:ms[k]? = some x):Zkv (ms.take (k+1))=Zdc (Zkv (ms.take k)) x:=by
  rw [Zaw hx,Zkv,List.foldl_append];rfl
theorem Zqm (ms:List DMail):(Zkv ms).1=(Zcv ms).length:=by
  have key :∀(ms:List DMail) (s:Nat × List Int),(ms.foldl Zdc s).1=s.1+(Zcv ms).length:=by
    intro ms
    induction ms with
    | nil=>intro s;rfl
    | cons m ms ih=>
      intro s
      rw [List.foldl_cons,ih,Zdc]
      cases hd:Zo2 m with
      | true=>simp [Zcv,hd]
      | false=>simp [Zcv,hd];omega
  rw [Zkv,key];simp
theorem ZrU (ms:List DMail) (k:Nat):(Zcv (ms.take k)).length≤k:=Nat.le_trans (List.length_filter_le _ _) (by rw [List.length_take];omega)
theorem Zoj {s:List DSpan} {last:Int} {n:Nat} (h:Zgg s last (n+1:Nat)=true):ZcY s last (n+1)=ZcY s last n ++ [((n+1:Nat):Int)]:=by simp only [ZcY,h,if_true]
theorem ZpM {s:List DSpan} {last:Int} {n:Nat} (h:Zgg s last (n+1:Nat)=false):ZcY s last (n+1)=ZcY s last n:=by simp only [ZcY,h];rfl
theorem Zh9 {x:DHost} {k:Nat} {b:DBox} {f:DFolder} (h:x.folders[k]? = some f):Zjv x k b=x.withFolders (x.folders.set k (f.withBox b)):=by simp only [Zjv,h]
theorem ZeG {b:DBox} {ns:List Int} {how fl:Int} (h : ¬ (Zbm b=true∧Zed b.mail.length ns=true∧Zkr how=true∧ZaV fl=true)):Zbh b ns how fl=(⟨0,[]⟩,false):=by rw [Zbh,if_neg h]
theorem ZlW {b:DBox} {ns:List Int} {how fl:Int} (h:Zbm b=true∧Zed b.mail.length ns=true∧Zkr how=true∧ZaV fl=true):Zbh b ns how fl=(⟨b.next,Zd4 b.mail how fl ns⟩,true):=by rw [Zbh,if_pos h]
structure GEx where
  k:Nat
  m:Gh DMail
  n:Gh Int
structure GCp where
  k:Nat
  x:DHost
  c:Int
  q1:Option Addr
  c1:Nat
  q2:Option Addr
  c2:Nat
  q3:Option Addr
  c3:Nat
theorem ZqO {ns:List Int} {ms:List DMail} {to k:Nat} {y:Int} {s:DHost × Int} (hy:ns[k]? = some y):((ns.take (k+1)).map (Zc5 ms)).foldl (ZbL to) s=ZbL to (((ns.take k).map (Zc5 ms)).foldl (ZbL to) s) (Zc5 ms y):=by
  rw [Zaw hy,List.map_append,List.foldl_append];rfl
theorem ZgT {to:Nat} :∀(ms:List DMail) (s:DHost × Int),s.2≠0→ms.foldl (ZbL to) s=s
  | [],_,_=>rfl
  | m :: ms,s,h=>by rw [List.foldl_cons,ZbL,if_neg h];exact ZgT ms s h
theorem ZqN {ns:List Int} {ms:List DMail} {to k:Nat} {s:DHost × Int} {y:DHost} {c:Int} (h:(y,c)=((ns.take k).map (Zc5 ms)).foldl (ZbL to) s) (hc : ¬ c=0):(y,c)=(ns.map (Zc5 ms)).foldl (ZbL to) s:=by
  have e:ns=ns.take k ++ ns.drop k:=(List.take_append_drop k ns).symm
  conv=>rhs;rw [e,List.map_append,List.foldl_append,← h,ZgT _ _ hc]
theorem ZlF {x:DHost} {s:DSess} {set:List DSpan} {o n:Str} {f:DFolder} {y:DHost} {c:Int} (h : ¬ ¬ (ZJ x=true∧Zh8 set=true)) (ha:(atF x s 2).2=0) (hf:x.folders[(atF x s 2).1.toNat]? = some f)
    (hr:(y,c)=((ZaJ set f.mail.length).map (Zc5 f.mail)).foldl (ZbL (Zbc (inF o n) x.folders).toNat) (x,Zjh x.users x.folders s.user (Zbc (inF o n) x.folders) 8)):ZeD x s set o n=if c=0 then (y,0) else (x,c):=by
  rw [ZeD,if_neg h,if_neg (fun h=>h ha),Zdk hf]
  by_cases h8:Zjh x.users x.folders s.user (Zbc (inF o n) x.folders) 8=0
  · rw [if_neg (fun h=>h h8)]
    rw [h8] at hr
    have e:ZiY x ((ZaJ set f.mail.length).map (Zc5 f.mail)) (Zbc (inF o n) x.folders).toNat=(y,c):=hr.symm
    show (if (ZiY x ((ZaJ set f.mail.length).map (Zc5 f.mail)) (Zbc (inF o n) x.folders).toNat).2=0 then ZiY x ((ZaJ set f.mail.length).map (Zc5 f.mail)) (Zbc (inF o n) x.folders).toNat else (x,(ZiY x ((ZaJ set f.mail.length).map (Zc5 f.mail)) (Zbc (inF o n) x.folders).toNat).2))=_
    rw [e]
    by_cases hc:c=0
    · simp only [hc,if_true]
    · simp only [hc,if_false]
  · rw [if_pos h8]
    rw [ZgT _ _ h8] at hr
    cases hr
    rw [if_neg h8]
theorem Zom (s:List DSpan) (m:Nat):(ZaJ s m).length≤m:=by
  unfold ZaJ
  split
  · have:=ZjB s (min (m:Int) 99) (min (m:Int) 99).toNat
    omega
  · simp
theorem Zfq (gs:List DGrant) (u:Str) (r:Int):(Zb3 gs u r).1.length≤gs.length+4:=by
  unfold Zb3
  split
  · simp
  · split
    · rename_i h;have:=Zi7 h;simp only [];omega
    · simp only [];omega
theorem Zsy (b:DBox) (fl:Int) (t:Str):(ZgW b fl t).1.mail.length≤b.mail.length+1:=by
  unfold ZgW;split <;> simp
theorem ZmU (b:DBox):(expunge b).1.mail.length≤b.mail.length∧(expunge b).2.length≤b.mail.length:=by
  unfold expunge
  split
  · have key :∀(ms:List DMail) (s:Nat × List Int),(ms.foldl Zdc s).2.length≤s.2.length+ms.length:=by
      intro ms
      induction ms with
      | nil=>intro s;simp
      | cons m ms ih=>
        intro s
        rw [List.foldl_cons]
        cases hd:Zo2 m with
        | true=>
          have:=ih (s.1,s.2 ++ [((s.1+1:Nat):Int)])
          rw [Zdc,if_pos hd]
          simp only [List.length_append,List.length_cons,List.length_nil] at this ⊢;omega
        | false=>
          have:=ih (s.1+1,s.2)
          rw [Zdc,if_neg (by simp [hd])]
          simp only [List.length_cons] at this ⊢;omega
    have:=key b.mail (0,[])
    exact ⟨List.length_filter_le _ _,by simpa [Zkv] using this⟩
  · simp
def ZR (b:DBox) (fl:Int) (t:Str):DBox × Bool:=if Zbm b=true∧ZaV fl=true∧t.length≤20 then ZgW b fl t else (⟨0,[]⟩,false)
theorem Zfc {b:DBox} {fl:Int} {t:Str} (h : ¬ (Zbm b=true∧ZaV fl=true∧t.length≤20)):ZR b fl t=(⟨0,[]⟩,false):=by rw [ZR,if_neg h]
theorem ZkF {b:DBox} {fl:Int} {t:Str} (h:Zbm b=true∧ZaV fl=true∧t.length≤20):ZR b fl t=ZgW b fl t:=by rw [ZR,if_pos h]
theorem ZdW (b:DBox) (fl:Int) (t:Str):0≤(ZR b fl t).1.next∧(ZR b fl t).1.next≤101∧(ZR b fl t).1.mail.length≤11:=by
  unfold ZR
  split
  · rename_i h
    have:=Zdj h.1
    unfold ZgW
    split
    · simp only [];omega
    · simp;omega
  · simp
theorem ZF (b:DBox):0≤(expunge b).1.next∧(expunge b).1.next≤101∧(expunge b).1.mail.length≤10:=by
  unfold expunge
  split
  · rename_i h
    have:=Zdj h
    have:=List.length_filter_le (fun m=>!Zo2 m) b.mail
    simp only [Zcv];omega
  · simp
theorem Zgr {us:List DUser} {f:DFolder} (h:Zab us f=true):f.grants.length≤4:=by
  simp only [Zab,Bool.and_eq_true] at h;exact Zi7 h.1.2
theorem ZmM {x:DHost} (h:ZJ x=true) :∀y,y∈x.queue.items→0<y.left.length:=fun y hy=>by
  have:=ZdR (Zgq h) hy
  simp only [Zcw,Zar,Bool.and_eq_true,decide_eq_true_eq] at this
  exact this.1.2
theorem Zoz {x:DHost} (h:ZJ x=true):0<x.folders.length∧0<x.users.length:=by
  obtain ⟨⟨_,h2,_⟩,_,h7,_⟩:=Zbt.1 h
  simp only [Zas,Bool.and_eq_true,decide_eq_true_eq] at h2
  have hu:0<x.users.length:=by omega
  refine ⟨?_,hu⟩
  have:=h7 _ (List.getElem_mem hu)
  simp only [ZaT,Bool.and_eq_true,decide_eq_true_eq] at this
  obtain ⟨f,hf,_⟩:=Zez.1 this.1
  exact List.length_pos_of_mem hf
def Zfz (a b:Int):List DUser:=[⟨[97,109,121],[97,49],60⟩,⟨[98,111,98],[98,50],20+a⟩,⟨[99,121,100],[99,51],100+b⟩]
theorem ZqJ {a b:Int} (h1:0≤a) (h2:a<60) (h3:0≤b) (h4:b<100):Zch [104,111,115,116,46,111,114,103] (Zfz a b)=(ZpQ [104,111,115,116,46,111,114,103] (Zfz a b),true)∧ZJ (ZpQ [104,111,115,116,46,111,114,103] (Zfz a b))=true:=by
  have hd:Zcg [104,111,115,116,46,111,114,103]=true:=by decide
  have hu:Zas (Zfz a b)=true:=by
    have e1:Zdn [] ⟨[97,109,121],[97,49],60⟩=true:=by decide
    have e2:Zdn [97,109,121] ⟨[98,111,98],[98,50],20+a⟩=true:=by
      have:(decide (0≤20+a) && decide (20+a≤200))=true:=by simp;omega
      simp only [Zdn,ZcD,this,Bool.and_true];rfl
    have e3:Zdn [98,111,98] ⟨[99,121,100],[99,51],100+b⟩=true:=by
      have:(decide (0≤100+b) && decide (100+b≤200))=true:=by simp;omega
      simp only [Zdn,ZcD,this,Bool.and_true];rfl
    simp [Zas,ZdL,scn,Zfz,e1,e2,e3]
  have:=ZmB [104,111,115,116,46,111,114,103] (Zfz a b)
  rw [hd,hu] at this
  exact ⟨ZiC this,this⟩
structure GHo where
  k:Nat
  p:Nat
  x:DHost
  q1:Option Addr
  c1:Nat
  q2:Option Addr
  c2:Nat
  q3:Option Addr
  c3:Nat
structure GBo where
  k:Nat
  p:Nat
  l:Cells
  a:Option Addr
  c:Nat
  x:DBox
structure GAc where
  k:Nat
  p:Nat
  l:Cells
  a:Option Addr
  c:Nat
  xs:List DGrant
end Go.BL
namespace Go.BL
open Go
set_option linter.unusedVariables false
set_option linter.unusedSimpArgs false
theorem Zp7 {us:List DUser} {u:Str} (h :∀z,z∈us→z.name≠u) : ¬ 0≤Zdw us u:=fun hc=>by
  obtain ⟨w,hw,he⟩:=ZbS.1 hc
  exact h w hw he
theorem Ztz {α:Type} {p:α→Prop} {xs:List α} {k:Nat} {x:α} (hx:xs[k]? = some x) (h :∀z,z∈xs.take k→p z) (h2:p x) :∀z,z∈xs.take (k+1)→p z:=fun z hz=>by
  rw [Zaw hx,List.mem_append,List.mem_singleton] at hz
  rcases hz with hz | rfl
  · exact h z hz
  · exact h2
end Go.BL
namespace Go.BL
open Go
set_option linter.unusedVariables false
set_option linter.unusedSimpArgs false
end Go.BL
namespace Go.BL
open Go
set_option linter.unusedVariables false
set_option linter.unusedSimpArgs false
end Go.BL
namespace Go.BL
open Go
set_option linter.unusedVariables false
set_option linter.unusedSimpArgs false
end Go.BL
namespace Go.BL
open Go
set_option linter.unusedVariables false
set_option linter.unusedSimpArgs false
end Go.BL
namespace Go.BL
open Go
set_option linter.unusedVariables false
set_option linter.unusedSimpArgs false
end Go.BL
namespace Go.BL
open Go
set_option linter.unusedVariables false
set_option linter.unusedSimpArgs false
end Go.BL
namespace Go.BL
open Go
set_option linter.unusedVariables false
set_option linter.unusedSimpArgs false
def ZgE (x:DHost) (l:DLetter):Nat:=if (([l.fr] ++ l.to_).all fun n=>(Zau x.users n).2)=false then 1 else if (Zer x.queue l).2=true then 0 else 4
def Znj (x:DHost) (l:DLetter):DHost:=if ZgE x l=0 then x.withQueue (Zer x.queue l).1 else x
theorem Ztl (x:DHost) (l:DLetter):ZgE x l<5:=by unfold ZgE;split <;> (try split) <;> omega
theorem Zpv {x:DHost} {l:DLetter} {k:Nat} {n:Str} (hn:([l.fr] ++ l.to_)[k]? = some n) (h:(Zau x.users n).2=false):ZgE x l=1:=by
  rw [ZgE,if_pos];rw [List.all_eq_false];exact ⟨n,List.mem_of_getElem? hn,by simp [h]⟩
theorem Zh3 {x:DHost} {l:DLetter} (h :∀n,n∈[l.fr] ++ l.to_→(Zau x.users n).2=true) (h2:(Zer x.queue l).2=false):ZgE x l=4:=by
  rw [ZgE,if_neg (by rw [List.all_eq_true.2 h];exact Bool.true_eq_false ▸ (fun h=>by cases h)),if_neg (by rw [h2];exact Bool.false_ne_true)]
theorem Zh4 {x:DHost} {l:DLetter} (h :∀n,n∈[l.fr] ++ l.to_→(Zau x.users n).2=true) (h2:(Zer x.queue l).2=true):ZgE x l=0:=by
  rw [ZgE,if_neg (by rw [List.all_eq_true.2 h];intro h;cases h),if_pos h2]
theorem ZgD {x:DHost} {l:DLetter} {k:Nat} (h:ZgE x l=k+1):Znj x l=x:=by rw [Znj,if_neg (by omega)]
theorem Zht {x:DHost} {l:DLetter} (h:ZgE x l=0):Znj x l=x.withQueue (Zer x.queue l).1:=by rw [Znj,if_pos h]
theorem Zu4 (x:DHost) (l:DLetter):((if Zar l=true∧ZJ x=true then (Znj x l,(ZgE x l:Int)) else (ZaQ,5)):DHost × Int)=ZW x l:=by
  unfold ZW
  by_cases h:ZJ x=true∧Zar l=true
  · rw [if_pos ⟨h.2,h.1⟩,if_neg (fun hh=>hh h)]
    have e:(([l.fr] ++ l.to_).all fun n=>(Zau x.users n).2)=false↔(Zdw x.users l.fr<0∨Zc6 x.users l.to_=false):=by
      rw [List.singleton_append,List.all_cons,ZiA h.1,Bool.and_eq_false_iff,decide_eq_false_iff_not]
      have e2:(l.to_.all fun n=>(Zau x.users n).2)=Zc6 x.users l.to_:=by
        unfold Zc6;congr 1;funext n;exact ZiA h.1 n
      rw [e2]
      constructor
      · rintro (h | h)
        · exact .inl (by omega)
        · exact .inr h
      · rintro (h | h)
        · exact .inl (by omega)
        · exact .inr h
    by_cases h1:Zdw x.users l.fr<0∨Zc6 x.users l.to_=false
    · have e1:ZgE x l=1:=by rw [ZgE,if_pos (e.2 h1)]
      rw [if_pos h1,ZgD e1,e1];rfl
    · rw [if_neg h1]
      by_cases h2:(Zer x.queue l).2=true
      · have e1:ZgE x l=0:=by rw [ZgE,if_neg (fun hh=>h1 (e.1 hh)),if_pos h2]
        rw [if_pos h2,Zht e1,e1];rfl
      · have e1:ZgE x l=4:=by rw [ZgE,if_neg (fun hh=>h1 (e.1 hh)),if_neg h2]
        rw [if_neg h2,ZgD e1,e1];rfl
  · rw [if_neg (fun hh=>h ⟨hh.2,hh.1⟩),if_pos h]
theorem Zmk {x:DHost} {z:DLetter} (h0:(ZW x z).2≠0) (h5:(ZW x z).2≠5):(ZW x z).1=x:=by
  revert h0 h5;unfold ZW;split
  · intro _ h;exact absurd rfl h
  · split
    · intros;rfl
    · split
      · intro h;exact absurd rfl h
      · intros;rfl
theorem Zrq {x:DHost} {z:DLetter} (h:(ZW x z).2=0):ZW x z=(x.withQueue (Zer x.queue z).1,0)∧(Zer x.queue z).2=true∧0≤Zdw x.users z.fr∧(∀n,n∈z.to_→0≤Zdw x.users n)∧ZJ (x.withQueue (Zer x.queue z).1)=true:=by
  by_cases h1 : ¬ (ZJ x=true∧Zar z=true)
  · rw [ZW,if_pos h1] at h;cases h
  · by_cases h2:Zdw x.users z.fr<0∨Zc6 x.users z.to_=false
    · rw [ZW,if_neg h1,if_pos h2] at h;cases h
    · by_cases h3:(Zer x.queue z).2=true
      · have e:ZW x z=(x.withQueue (Zer x.queue z).1,0):=by rw [ZW,if_neg h1,if_neg h2,if_pos h3]
        have hv:=ZjM (l:=z) (Decidable.not_not.1 h1).1
        rw [e] at hv
        have h4:Zc6 x.users z.to_=true:=by
          cases hk:Zc6 x.users z.to_ with
          | true=>rfl
          | false=>exact absurd (.inr hk) h2
        refine ⟨e,h3,by omega,fun n hn=>?_,hv.resolve_left (fun hh=>absurd hh (show ¬ ((0:Int)=5) by decide))⟩
        exact of_decide_eq_true (List.all_eq_true.1 h4 n hn)
      · rw [ZW,if_neg h1,if_neg h2,if_neg h3] at h;cases h
end Go.BL
namespace Go.BL
open Go
set_option linter.unusedVariables false
set_option linter.unusedSimpArgs false
theorem ZA.perm {P:PJ} {f:FuncId} {args:List Value} {B:Kn} {Ls Ls':List Cells} {Post:Value→Kn→List Cells→Prop} (hp:Ls.flatten.Perm Ls'.flatten) (h:ZA P f args B Ls' Post):ZA P f args B Ls Post:=fun X kind c cs F hk hA=>by
  refine X.drop (r:=Ls'.flatten ++ F) (gl:=[]) ?_ (h X kind c cs F hk hA)
  rw [List.append_nil];exact hp.append_right F
theorem Zjj.ptr {Tn:TypeId} {v0:Value} {bl:Nat} {x:DMail} {rest:Cells} {pre:List DMail} (h:Zjj Tn v0 bl x rest pre) :∃p,v0 = .pointer p:=by
  obtain ⟨s0,h1,_⟩:=h (.pointer none) [] [] ⟨rfl,rfl⟩
  exact h1.ptr
theorem MLst.one {TL Tn:TypeId} {b bn:Nat} {m:DMail} {s:Cells} (hm:m.text.length≤2000000) (hp:s.Perm (ZaE b [Go.BL.ptr ⟨bn,0,none⟩,Go.BL.ptr ⟨bn,0,none⟩,.int .i64 1] TL ++ ZaE bn (Zii m (.pointer none)) Tn)):MLst TL Tn b [m] s:=
  .inr ⟨_,bn,m,[],hp.trans (by simp),Zjj.init hm⟩
theorem MLst.add {TL Tn:TypeId} {b bl bn:Nat} {v0:Value} {x m:DMail} {rest s:Cells} {xs:List DMail} {k:Int} (h:Zjj Tn v0 bl x rest xs) (hm:m.text.length≤2000000) (hk:k=xs.length+1)
    (hp:s.Perm (ZaE b [v0,Go.BL.ptr ⟨bn,0,none⟩,.int .i64 k] TL ++ (ZaE bn (Zii m (.pointer none)) Tn ++ (rest ++ ZaE bl (Zii x (Go.BL.ptr ⟨bn,0,none⟩)) Tn)))):MLst TL Tn b (xs ++ [m]) s:=by
  refine .inr ⟨v0,bn,m,rest ++ ZaE bl (Zii x (Go.BL.ptr ⟨bn,0,none⟩)) Tn,hp.trans ?_,h.step hm⟩
  rw [hk,List.length_append]
  simp
end Go.BL
namespace Go.BL
section
variable {P:PJ} {n:Nat} {ops:Array Oper} {i:Nat} {K:Zay} {S:Env} {D:List Deferred} {B:Kn} {L:List Cells}
variable {dst:Option Tmp} {ty:TypeId} {pos:String} {after:Array Edge} {g:Option (Nat × Bool)}
end
end Go.BL
