/-
  THE WALK'S LOGIC: owned cells and known cells, goroutines started and awaited, calls, loops, data, and plain laws on lists: no program in sight.
-/
import Derived.Test.YtikanaeckjcelaaGreatDoorB0
set_option linter.unusedVariables false
set_option linter.unusedSimpArgs false
set_option linter.unusedSectionVars false
namespace Go.BL
open Go.Conc (G)
abbrev KV:=List (List UInt8 × Int)
def mput:KV→List UInt8→Int→KV
 | [],k,v=>[(k,v)]
 | (a,w) :: r,k,v=>if k=a then (k,v) :: r else (a,w) :: mput r k v
def mdel:KV→List UInt8→KV
 | [],_=>[]
 | (a,w) :: r,k=>if k=a then r else (a,w) :: mdel r k
def mget:KV→List UInt8→Option Int
 | [],_=>none
 | (a,w) :: r,k=>if k=a then some w else mget r k
def mlook:KV→List UInt8→Nat→Option (Nat × Value)
 | [],_,_=>none
 | (a,w) :: r,k,i=>if k=a then some (i,.int .i64 w) else mlook r k (i+1)
def Zvj (e:MapEntry):Value × Value:=(e.key,e.val)
def kvV (p:List UInt8 × Int):Value × Value:=(str p.1,.int .i64 p.2)
structure MapOk (es:Array MapEntry) (clock:Nat) (kvs:KV):Prop where
 ent:es.toList.map Zvj=kvs.map kvV
 born:(es.toList.map (·.born)).Nodup
 old :∀e,e∈es.toList→e.born<clock
 keys:(kvs.map (·.1)).Nodup
def ZvS (l:Cells) (b:Nat) (kvs:KV):Prop:=∃es clock,l=[(b,Obj.map es clock)]∧MapOk es clock kvs
theorem ZmU (a b:List UInt8):(({ data:=a.toArray } : ByteArray) == { data:=b.toArray })=decide (a=b):=by
 have h :∀x y:ByteArray,(x == y)=(x.data == y.data):=fun x y=>rfl
 rw [h,Bool.eq_iff_iff];simp
theorem ZkH (k:List UInt8) :∀(es:List MapEntry) (kvs:KV) (i:Nat),es.map Zvj=kvs.map kvV→Instr.findNow .string (str k) es i=some (mlook kvs k i)
 | [],[],i,_=>rfl
 | e :: es,(a,w) :: r,i,h=>by
  simp only [List.map_cons,List.cons.injEq,Zvj,kvV,Prod.mk.injEq] at h
  obtain ⟨⟨h1,h2⟩,h3⟩:=h
  rw [Instr.findNow,h1,h2]
  simp only [Instr.sameNow,ZmU]
  by_cases ha:k=a
  ·simp [ha,mlook]
  ·simp only [decide_eq_false ha,mlook,if_neg ha]
   exact ZkH k es r (i+1) h3
 | [],_ :: _,i,h=>by simp at h
 | _ :: _,[],i,h=>by simp at h
theorem Zkv {k:List UInt8} :∀{kvs:KV} {i:Nat},mlook kvs k i=none→k ∉ kvs.map (·.1)∧mput kvs k=(fun v=>kvs ++ [(k,v)])∧mdel kvs k=kvs∧mget kvs k=none
 | [],_,_=>⟨by simp,rfl,rfl,rfl⟩
 | (a,w) :: r,i,h=>by
  simp only [mlook] at h
  split at h
  ·cases h
  ·rename_i ha
   obtain ⟨h1,h2,h3,h4⟩:=Zkv h
   refine ⟨by simp only [List.map_cons,List.mem_cons,not_or];exact ⟨ha,h1⟩,?_,?_,?_⟩
   ·funext v;simp only [mput,if_neg ha,h2,List.cons_append]
   ·simp only [mdel,if_neg ha,h3]
   ·simp only [mget,if_neg ha,h4]
theorem Zku {k:List UInt8} :∀{kvs:KV} {i j:Nat} {u:Value},mlook kvs k i=some (j,u)→∃n w,j=i+n∧u = .int .i64 w∧kvs[n]? = some (k,w)∧(∀v,mput kvs k v=kvs.set n (k,v))∧mdel kvs k=kvs.eraseIdx n∧mget kvs k=some w
 | [],_,_,_,h=>by cases h
 | (a,w) :: r,i,j,u,h=>by
  simp only [mlook] at h
  split at h
  ·rename_i ha
   cases h
   subst ha
   exact ⟨0,w,rfl,rfl,rfl,fun v=>by simp [mput],by simp [mdel],by simp [mget]⟩
  ·rename_i ha
   obtain ⟨n,w',h1,h2,h3,h4,h5,h6⟩:=Zku h
   exact ⟨n+1,w',by omega,h2,by simpa using h3,fun v=>by simp [mput,if_neg ha,h4],by simp [mdel,if_neg ha,h5],by simp [mget,if_neg ha,h6]⟩
section
variable {P:PJ} {n:Nat} {ops:Array Oper} {i:Nat} {K:Zbl} {S:Env} {D:List Deferred} {B:Kn} {L:List Cells}
variable {dst:Option Tmp} {ty:TypeId} {pos:String} {after:Array Edge} {g:Option (Nat × Bool)}
theorem ZnI {P:Program} {B:Kn} {L:Cells} {Q:Unit→Kn→Cells→Prop} {em:Bool} {t:TypeId} {k:List UInt8} (hu:P.underlying t=some .string) (q:Q () B L):hb P (Instr.checkKey em 10000 t (str k)) Q B L:=by
 show hb P (Instr.checkKey em (9999+1) t _) Q B L
 rw [Instr.checkKey,Zk,Zt hu]
 exact q
theorem ZpL {P:Program} {B:Kn} {L:Cells} {Q:Option (Nat × Value)→Kn→Cells→Prop} {t:TypeId} {k:List UInt8} {es:List MapEntry} {kvs:KV} (hu:P.underlying t=some .string) (he:es.map Zvj=kvs.map kvV) (q:Q (mlook kvs k 0) B L):hb P (Instr.findKey t (str k) es) Q B L:=by
 rw [Instr.findKey,Zk,Zt hu,ZkH k es kvs 0 he]
 exact q
theorem Zqj {t:TypeId} (hg:Zm ops S g=some true) (hd:ZC n dst=true) (h :∀b l,ZvS l b []→K (.map (some b)) D B (L ++ [l])):opX P n ops i ⟨dst,.makeMap t none,ty,pos,after,g⟩ K S D B L:=
 Zd7 hg hd fun ρ hρ F=>by
  simp only [execOp,Instr.makeMap,Zk,Option.map_none,Zr]
  refine ⟨rfl,fun b _ _=>?_⟩
  refine ⟨L ++ [[(b,Obj.map #[] 0)]],?_,h b _ ⟨#[],0,rfl,⟨rfl,by simp,by simp,by simp⟩⟩⟩
  exact .of (ZeD L [(b,Obj.map #[] 0)] F)
theorem Zl8 (k:List UInt8):Instr.sameBits 10000 (str k) (str k)=true:=by
 show Instr.sameBits (9999+1) _ _=true
 simp only [Instr.sameBits,ZmU];simp
theorem Zm7 {t kt et:TypeId} {x y z:Operand} {b:Nat} {l:Cells} {kvs:KV} {k:List UInt8} {v:Int} (j:Nat) (hj:L[j]? = some l) (hl:ZvS l b kvs) (hg:Zm ops S g=some true) (hd:ZC n dst=true) (hu:P.underlying t=some (.map kt et)) (hk:P.underlying kt=some .string)
  (hx:ev S x=some (.map (some b))) (hy:ev S y=some (str k)) (hz:ev S z=some (.int .i64 v)) (h :∀l',ZvS l' b (mput kvs k v)→K undef D B (L.set j l')):opX P n ops i ⟨dst,.mapUpdate t x y z,ty,pos,after,g⟩ K S D B L:=
 Zd7 hg hd fun ρ hρ F=>by
  obtain ⟨es,clock,rfl,ok⟩:=hl
  have hput :∀l',((L.set j l').flatten ++ F).Perm (l' ++ ((Zaa F [] hj).choose)):=fun l'=>by
   have hc:=(Zaa F [] hj).choose_spec
   obtain ⟨rr,h1,h2⟩:=Zaa F l' hj
   have:(Zaa F [] hj).choose.Perm rr:=(List.perm_append_left_iff [(b,Obj.map es clock)]).1 (hc.1.symm.trans h1)
   exact h2.trans (List.Perm.append_left l' this.symm)
  have hin:(b,Obj.map es clock)∈L.flatten ++ F:=by
   rw [((Zaa F [] hj).choose_spec.1).mem_iff];simp
  simp only [execOp,Instr.mapUpdate,hρ x _ hx,hρ y _ hy,hρ z _ hz,Zk,Zt hu]
  refine ⟨_,.inr hin,rfl,rfl,?_⟩
  simp only [ZbQ,Zk]
  refine ZnI hk ?_
  rw [Zk]
  refine ZpL hk ok.ent ?_
  cases hm:mlook kvs k 0 with
  | none=>
   obtain ⟨m1,m2,_,_⟩:=Zkv hm
   refine ⟨⟨rfl,rfl⟩,_,(Zaa F [] hj).choose,(Zaa F [] hj).choose_spec.1,rfl,?_⟩
   refine ⟨L.set j [(b,Obj.map (es.push ⟨str k,.int .i64 v,clock⟩) (clock+1))],.of (hput [(b,Obj.map (es.push ⟨str k,.int .i64 v,clock⟩) (clock+1))]).symm,h _ ⟨_,_,rfl,⟨?_,?_,?_,?_⟩⟩⟩
   ·rw [m2];simp [ok.ent,Zvj,kvV]
   ·rw [Array.toList_push,List.map_append,List.nodup_append]
    refine ⟨ok.born,by simp,fun a ha b' hb' e=>?_⟩
    obtain ⟨e1,he1,rfl⟩:=List.mem_map.1 ha
    simp only [List.map_cons,List.map_nil,List.mem_singleton] at hb'
    have:=ok.old e1 he1
    omega
   ·intro e he
    rw [Array.toList_push] at he
    rcases List.mem_append.1 he with he | he
    ·have:=ok.old e he;omega
    ·rw [List.mem_singleton.1 he];exact Nat.lt_succ_self _
   ·rw [m2,List.map_append,List.nodup_append]
    refine ⟨ok.keys,by simp,fun a ha b' hb' e=>?_⟩
    simp only [List.map_cons,List.map_nil,List.mem_singleton] at hb'
    exact m1 (hb' ▸ e ▸ ha)
  | some p=>
   obtain ⟨jj,u⟩:=p
   obtain ⟨m,w,rfl,rfl,m3,m4,_,_⟩:=Zku hm
   rw [Nat.zero_add]
   have hem :∃e,es[m]? = some e∧e.key=str k:=by
    have h1:=congrArg (fun l=>l[m]?) ok.ent
    simp only [List.getElem?_map,m3,Option.map_some,Array.getElem?_toList] at h1
    cases he:es[m]? with
    | none=>rw [he] at h1;cases h1
    | some e=>
     rw [he] at h1
     simp only [Option.map_some,Option.some.injEq,Zvj,kvV,Prod.mk.injEq] at h1
     exact ⟨e,rfl,h1.1⟩
   obtain ⟨e,he,hek⟩:=hem
   simp only [he,Option.map_some,Option.getD_some,hek,Instr.keyThatStays,Zl8,if_true,Zr,Zk]
   refine ⟨⟨rfl,rfl⟩,_,(Zaa F [] hj).choose,(Zaa F [] hj).choose_spec.1,rfl,?_⟩
   refine ⟨L.set j [(b,Obj.map (es.modify m fun e=>{ e with key:=str k,val:=.int .i64 v }) clock)],.of (hput [(b,Obj.map (es.modify m fun e=>{ e with key:=str k,val:=.int .i64 v }) clock)]).symm,h _ ⟨_,_,rfl,⟨?_,?_,?_,?_⟩⟩⟩
   ·rw [m4]
    apply List.ext_getElem?
    intro q
    have h1:=congrArg (fun l=>l[q]?) ok.ent
    simp only [List.getElem?_map,Array.getElem?_toList] at h1
    simp only [List.getElem?_map,Array.getElem?_toList,Array.getElem?_modify,List.getElem?_set]
    have hlen:m<kvs.length:=by
     obtain ⟨hh,_⟩:=List.getElem?_eq_some_iff.1 m3;exact hh
    by_cases hq:m=q
    ·subst hq
     simp [he,hlen,Zvj,kvV]
    ·simp [hq,h1]
   ·have e1:(es.modify m fun e=>{ e with key:=str k,val:=.int .i64 v }).toList.map (·.born)=es.toList.map (·.born):=by
     apply List.ext_getElem?
     intro q
     simp only [List.getElem?_map,Array.getElem?_toList,Array.getElem?_modify]
     by_cases hq:m=q
     ·subst hq;simp [he]
     ·simp [hq]
    rw [e1];exact ok.born
   ·intro e' he'
    obtain ⟨q,hq⟩:=List.mem_iff_getElem?.1 he'
    simp only [Array.getElem?_toList,Array.getElem?_modify] at hq
    by_cases hmq:m=q
    ·subst hmq
     simp only [if_true,he,Option.map_some,Option.some.injEq] at hq
     rw [← hq]
     exact ok.old e (List.mem_of_getElem? (by simpa using he))
    ·rw [if_neg hmq] at hq
     exact ok.old e' (List.mem_of_getElem? (by simpa using hq))
   ·rw [m4]
    have:(kvs.set m (k,v)).map (·.1)=kvs.map (·.1):=by
     apply List.ext_getElem?
     intro q
     simp only [List.getElem?_map,List.getElem?_set]
     by_cases hq:m=q
     ·subst hq
      obtain ⟨hh,he2⟩:=List.getElem?_eq_some_iff.1 m3
      simp [hh,he2]
     ·simp [hq]
    rw [this];exact ok.keys
end
end Go.BL
namespace Go.BL
open Go.Conc (G)
section
variable {P:PJ} {n:Nat} {ops:Array Oper} {i:Nat} {K:Zbl} {S:Env} {D:List Deferred} {B:Kn} {L:List Cells}
variable {dst:Option Tmp} {ty:TypeId} {pos:String} {after:Array Edge} {g:Option (Nat × Bool)}
theorem Zxx {f:FuncId} {fn:Func} {x y:Operand} {ats:Array TypeId} {a b:List UInt8} (hg:Zm ops S g=some true) (hd:ZC n dst=true) (hf:P.funcs[f]? = some fn) (hname:(fn.name == "runtime.NumGoroutine")=false) (hb:fn.body.isNone=true) (hn:Extern.findNext fn=none) (he:Extern.find fn=some Extern.BytealgCompare.compare)
  (hx:ev S x=some (str a)) (hy:ev S y=some (str b)) (h:K (.int .i64 (Lib.compareBytes a b)) D B L):opX P n ops i ⟨dst,.call ⟨.value (.func f),#[x,y],ats⟩,ty,pos,after,g⟩ K S D B L:=
 Zd7 hg hd fun ρ hρ F=>by
  have e0:ρ (.func f) = .func (.func f) #[] #[]:=hρ (.func f) _ rfl
  simp only [execOp,resolve,e0,Deferred.ofValue,Zk,Zr,invoke,List.map_toArray,List.map_cons,List.map_nil,hρ x _ hx,hρ y _ hy]
  have e:(#[] ++ #[str a,str b]:Array Value) ++ #[] = #[str a,str b]:=by simp
  rw [e]
  simp only [callFunc,Zk,ZbL,hf,hname,Bool.false_eq_true,if_false,hb,if_true,hn,he]
  refine ⟨rfl,?_⟩
  have e3:Extern.BytealgCompare.compare #[str a,str b]=(do Pure.pure (goInt (Extern.BytealgCompare.cmp (← Extern.Bytes.bytesOf (str a)) (← Extern.Bytes.bytesOf (str b))))):=rfl
  simp only [ZbQ,Zr,Zk,e3,Extern.Bytes.bytesOf,Lib.cmp_eq]
  exact ⟨L,.of (.refl _),h⟩
end
theorem ZnW :∀(a b:List UInt8),(Lib.compareBytes a b<0↔Op.bytesLess a b=true)∧(Lib.compareBytes a b=0↔a=b)
 | [],[]=>by simp [Lib.compareBytes,Op.bytesLess]
 | [],_ :: _=>by simp [Lib.compareBytes,Op.bytesLess]
 | _ :: _,[]=>by simp [Lib.compareBytes,Op.bytesLess]
 | a :: x,b :: y=>by
  have ih:=ZnW x y
  simp only [Lib.compareBytes,Op.bytesLess,Bool.or_eq_true,decide_eq_true_eq,Bool.and_eq_true,beq_iff_eq,List.cons.injEq]
  by_cases h:a<b
  ·simp [h,UInt8.ne_of_lt h]
  ·by_cases h':b<a
   ·have hne:a≠b:=(UInt8.ne_of_lt h').symm
    simp [h,h',hne]
   ·have e:a=b:=UInt8.le_antisymm (UInt8.not_lt.1 h') (UInt8.not_lt.1 h)
    subst e
    simpa [h] using ih
section
variable {P:PJ} {n:Nat} {ops:Array Oper} {i:Nat} {K:Zbl} {S:Env} {D:List Deferred} {B:Kn} {L:List Cells}
variable {dst:Option Tmp} {ty:TypeId} {pos:String} {after:Array Edge} {g:Option (Nat × Bool)}
theorem Zxw {x y:Operand} {ats:Array TypeId} {a b:Int} {k k':IntKind} {m:Nat} (hg:Zm ops S g=some true) (hd:ZC n dst=true) (hx:ev S x=some (.int k a)) (hy:ev S y=some (.int k' b)) (hm:(if b > a then b else a)=(m:Int)) (h:K (.int k (m:Int)) D B L):opX P n ops i ⟨dst,.call ⟨.builtin .max,#[x,y],ats⟩,ty,pos,after,g⟩ K S D B L:=
 ZV hg hd (fun ρ hρ Q F q=>by
  simp only [execOp,resolve,Zk,Zr,invoke,builtin,Builtin.max_,List.map_toArray,List.map_cons,List.map_nil,hρ x _ hx,hρ y _ hy,List.foldlM_cons,List.foldlM_nil,Builtin.max2,hm]
  exact q) h
end
end Go.BL
namespace Go.BL
open Go.Conc (G)
def zrow (z:List Value) (c:Nat):List Value:=(List.replicate c z).flatten
theorem ZcF {z:List Value} {c:Nat} : (zrow z c).length=c*z.length:=by
 induction c with
 | zero=>simp [zrow]
 | succ c ih=>
  simp only [zrow,List.replicate_succ,List.flatten_cons,List.length_append] at ih ⊢
  rw [ih,Nat.succ_mul,Nat.add_comm]
theorem Zn4 {z:List Value} :∀{c i:Nat},i<c*z.length→(zrow z c)[i]? = z[i % z.length]?
 | 0,i,h=>by simp at h
 | c+1,i,h=>by
  have e:zrow z (c+1)=z ++ zrow z c:=by simp [zrow,List.replicate_succ]
  rw [e]
  by_cases hi:i<z.length
  ·rw [List.getElem?_append_left hi,Nat.mod_eq_of_lt hi]
  ·have hz:0<z.length:=by
    rcases Nat.eq_zero_or_pos z.length with h0 | h0
    ·rw [h0] at h;simp at h
    ·exact h0
   rw [List.getElem?_append_right (by omega),Zn4 (by rw [Nat.succ_mul] at h;omega)]
   congr 1
   conv=>rhs;rw [show i=(i - z.length)+z.length from by omega,Nat.add_mod_right]
theorem Zp8 {z:List Value} {c:Nat} : (Array.range (c*z.length)).map (fun i=>z.toArray[i % z.toArray.size]!)=(zrow z c).toArray:=by
 apply Array.ext'
 apply List.ext_getElem?
 intro i
 simp only [Array.toList_map,Array.toList_range,List.getElem?_map,List.size_toArray]
 by_cases hi:i<c*z.length
 ·have hz:0<z.length:=by
   rcases Nat.eq_zero_or_pos z.length with h0 | h0
   ·rw [h0] at hi;simp at hi
   ·exact h0
  rw [List.getElem?_range hi,Zn4 hi,Option.map_some]
  have hm:i % z.length<z.length:=Nat.mod_lt _ hz
  rw [getElem!_pos z.toArray _ (by simpa using hm)]
  simp [List.getElem?_eq_getElem hm]
 ·have h1:(List.range (c*z.length))[i]? = none:=by simp;omega
  have h2:(zrow z c)[i]? = none:=by rw [List.getElem?_eq_none_iff,ZcF];omega
  rw [h1,h2];rfl
section
variable {P:PJ} {n:Nat} {ops:Array Oper} {i:Nat} {K:Zbl} {S:Env} {D:List Deferred} {B:Kn} {L:List Cells}
variable {dst:Option Tmp} {ty:TypeId} {pos:String} {after:Array Edge} {g:Option (Nat × Bool)}
theorem Zmx {P:Program} {B:Kn} {L:Cells} {Q:Addr→Kn→Cells→Prop} {e:TypeId} {cs:Array Value} (h :∀b,Q ⟨b,0,none⟩ B ((b,.cells cs e) :: L)):hb P (newRow e cs) Q B L:=by
 simp only [newRow,Zk,Zr]
 exact ⟨rfl,fun b _ _=>h b⟩
theorem Zf0 {t e:TypeId} {x y:Operand} {m c sz by_:Nat} {z:Value} (zs:List Value) (hg:Zm ops S g=some true) (hd:ZC n dst=true) (he:Zck P t e sz by_=true) (hz:ZaB P e=some z) (hzs:z.cells=zs.toArray) (hzl:zs.length=sz)
  (hx :∃k,∃q:Int,ev S x=some (.int k q)∧q=m) (hy :∃k,∃q:Int,ev S y=some (.int k q)∧q=c) (hmc:m≤c) (hfit:c*by_≤140737488355328)
  (h :∀b,K (.slice (some ⟨b,0,none⟩) m c) D B (L ++ [Zah b (zrow zs c) e])):opX P n ops i ⟨dst,.makeSlice t x y,ty,pos,after,g⟩ K S D B L:=
 Zd7 hg hd fun ρ hρ F=>by
  unfold Zck at he
  split at he
  ·rename_i e' inf hut hie
   simp only [Bool.and_eq_true,beq_iff_eq] at he
   obtain ⟨⟨⟨⟨rfl,hsz⟩,hby⟩,hpos⟩,hzz⟩:=he
   have hby0:0<by_:=by simpa using hpos
   have hsi:Z8 P e'=some sz:=by simp [Z8,hie,hsz]
   obtain ⟨k1,q1,h1,rfl⟩:=hx
   obtain ⟨k2,q2,h2,rfl⟩:=hy
   have hc0:c≤140737488355328:=Nat.le_trans (Nat.le_mul_of_pos_right c hby0) hfit
   have wr :∀q:Nat,q≤140737488355328→IntKind.wrap .i64 (q:Int)=q:=fun q hq=>Za9 (by omega) (by omega)
   have t1:(decide ((c:Int)<0) || decide ((by_:Int)*(c:Int) > 2 ^ 48))=false:=by
    have:(by_:Int)*(c:Int)≤140737488355328:=by
     rw [← Int.natCast_mul]
     have:by_*c≤140737488355328:=by rw [Nat.mul_comm];exact hfit
     omega
    simp only [Bool.or_eq_false_iff,decide_eq_false_iff_not]
    refine ⟨by omega,by omega⟩
   have t2:(decide ((m:Int)<0) || decide ((m:Int) > (c:Int)))=false:=by
    simp only [Bool.or_eq_false_iff,decide_eq_false_iff_not]
    omega
   simp only [execOp,Instr.makeSlice,Zk,Zt hut,asInt,asIntOf,hρ x _ h1,hρ y _ h2,Zr,Zb1 hie,hby,wr c hc0,wr m (by omega),t1,t2,Bool.false_or,Bool.or_eq_true,Bool.false_eq_true,if_false]
   rw [if_neg (by
    simp only [Bool.or_eq_false_iff] at t1 t2
    rw [t1.1,t1.2,t2.1,t2.2];simp)]
   simp only [Int.toNat_natCast,Zk]
   refine ZkB ?_
   simp only [ZaS hsi,Zk]
   by_cases h0:c*sz=0
   ·rw [if_pos h0]
    simp only [Zk,Zr,h0]
    refine Zmx fun b=>?_
    have hzr:zrow zs c=[]:=List.eq_nil_of_length_eq_zero (by rw [ZcF,hzl];exact h0)
    refine ⟨L ++ [Zah b (zrow zs c) e'],?_,h b⟩
    rw [hzr]
    have e0:Array.map (fun x=>(#[]:Array Value)[x % (#[]:Array Value).size]!) (Array.range 0)=([]:List Value).toArray:=by simp
    rw [e0]
    exact .of (ZeD L (Zah b [] e') F)
   ·rw [if_neg h0]
    simp only [Zk,Zb0 hz,Zr,hzs]
    rw [← hzl,Zp8]
    refine Zmx fun b=>?_
    exact ⟨L ++ [Zah b (zrow zs c) e'],.of (ZeD L (Zah b (zrow zs c) e') F),h b⟩
  ·cases he
end
theorem ZY.zeros {α:Type} {B:Kn} {b:Nat} {T:TypeId} {R:Rel α} {zs:List Value} {d:α} {m c w:Nat} (hw:zs.length=w) (hR:R B zs d) (hmc:m≤c):ZY B (Zah b (zrow zs c) T) (some ⟨b,0,none⟩) c T w R (List.replicate m d):=by
 refine ⟨List.replicate m zs,?_,fun r hr=>by rw [(List.mem_replicate.1 hr).2];exact hw,?_,.inr ⟨b,_,rfl,by rw [ZcF,hw],?_,rfl,by rw [List.length_replicate];exact hmc⟩⟩
 ·induction m with
  | zero=>exact .nil
  | succ m ih=>rw [List.replicate_succ,List.replicate_succ];exact .cons hR (ih (by omega))
 ·rw [List.length_replicate]
  exact (ZcF (z:=zs) (c:=m)).trans (by rw [hw])
 ·rw [List.length_replicate]
  have e:zrow zs c=zrow zs m ++ zrow zs (c - m):=by
   simp only [zrow,← List.flatten_append,List.replicate_append_replicate]
   rw [show m+(c - m)=c from by omega]
  rw [e,List.take_append_of_le_length (by rw [ZcF,hw];exact Nat.le_refl _),List.take_of_length_le (by rw [ZcF,hw];exact Nat.le_refl _)]
  rfl
section
variable {P:PJ} {C:Cx P} {n:Nat} {k:List Item} {T:Array Value} {S:Env} {D:List Deferred} {B:Kn} {L:List Cells}
theorem Zfw {x y:Code} (h:C.X.R (G (fat C.b T D (.code x :: .code y :: k)) C.cs) B (L.flatten ++ C.F)):C.X.R (G (fat C.b T D (.code (.seq x y) :: k)) C.cs) B (L.flatten ++ C.F):=
 C.X.ctl rfl (fun w=>ZlY) h
theorem ZoN {id:Nat} {c:Code} (h:C.X.R (G (fat C.b T D (.code c :: .inBlock id :: k)) C.cs) B (L.flatten ++ C.F)):C.X.R (G (fat C.b T D (.code (.block id c) :: k)) C.cs) B (L.flatten ++ C.F):=
 C.X.ctl rfl (fun w=>ZkX) h
theorem ZpU {id:Nat} (h:C.X.R (G (fat C.b T D k) C.cs) B (L.flatten ++ C.F)):C.X.R (G (fat C.b T D (.inBlock id :: k)) C.cs) B (L.flatten ++ C.F):=
 C.X.ctl rfl (fun w=>Zhe) h
theorem ZvA (h:C.X.R (G (fat C.b T D k) C.cs) B (L.flatten ++ C.F)):C.X.R (G (fat C.b T D (.code .skip :: k)) C.cs) B (L.flatten ++ C.F):=
 C.X.ctl rfl (fun w=>ZqC) h
theorem ZvB {id:Nat} {k':List Item} (hk:exitTo id k=some k') (h:C.X.R (G (fat C.b T D k') C.cs) B (L.flatten ++ C.F)):C.X.R (G (fat C.b T D (.code (.exit id) :: k)) C.cs) B (L.flatten ++ C.F):=
 C.X.ctl rfl (fun w=>ZqD hk) h
theorem ZrY {t:Bool} {c:Operand} {x y:Code} (hc:ev S c=some (.bool t)) (hT:Ag T S) (h:C.X.R (G (fat C.b T D (.code (if t then x else y) :: k)) C.cs) B (L.flatten ++ C.F)):C.X.R (G (fat C.b T D (.code (.cond c x y) :: k)) C.cs) B (L.flatten ++ C.F):=
 C.X.ctl rfl (fun w=>ZqE (Zfu hT hc)) h
theorem Zg6 {id:Nat} {ops:Array Oper} (h:C.X.R (G (fat C.b T D (.inRegion ops (List.range ops.size) :: k)) C.cs) B (L.flatten ++ C.F)):C.X.R (G (fat C.b T D (.code (.region id ops false) :: k)) C.cs) B (L.flatten ++ C.F):=
 C.X.ctl rfl (fun w=>ZgF) h
theorem Zdv {ops:Array Oper} (h:C.X.R (G (fat C.b T D k) C.cs) B (L.flatten ++ C.F)):C.X.R (G (fat C.b T D (.inRegion ops [] :: k)) C.cs) B (L.flatten ++ C.F):=
 C.X.ctl rfl (fun w=>ZcH) h
end
theorem Zdo {P:Program} {t:TypeId} {k:Nat} (h:Z8 P t=some k) (w:World) (es:Array Event):(sizeOf t).events P w es=es:=by
 obtain ⟨i,hi,_⟩:=Option.map_eq_some_iff.1 h
 simp [sizeOf,typeInfo,Go.program,hi,Sem.events,Sem.runT,Bind.bind,Sem.bind,Pure.pure]
section
variable {P:PJ} {C:Cx P} {n:Nat} {k:List Item} {T:Array Value} {S:Env} {D:List Deferred} {B:Kn} {L:List Cells}
theorem ZkM {id:Nat} {l:List Oper} (hn:T.size=n) (hT:Ag T S) (h:Zp4 P n l.toArray 0 l (fun S' D' B' L'=>∀T',T'.size=n→Ag T' S'→C.X.R (G (fat C.b T' D' k) C.cs) B' (L'.flatten ++ C.F)) S D B L):C.X.R (G (fat C.b T D (.code (.region id l.toArray false) :: k)) C.cs) B (L.flatten ++ C.F):=by
 refine C.X.ctl rfl (fun w=>ZgF) ?_
 rw [List.size_toArray,List.range_eq_range']
 exact Zhg l 0 (fun j=>by simp) h C k T hn hT fun S' D' B' L' T' hle hq hn' hT'=>C.X.ctl rfl (fun w=>ZcH) (hq T' hn' hT')
theorem ZmM {g:Goroutine} (hs:g=G g.frame g.callers) (i:Nat) {l:Cells} (hi:L[i]? = some l) (h :∀B',B.le B'→(∀p,p∈l→B'.mem p.1=some p.2)→C.X.R g B' ((L.set i []).flatten ++ C.F)):C.X.R g B (L.flatten ++ C.F):=by
 obtain ⟨r,h1,h2⟩:=Zaa C.F [] hi
 exact C.X.publish hs h1 fun B' hle hm=>C.X.perm (by simpa using h2.symm) (h B' hle hm)
theorem ZyQ {ops:Array Oper} {i:Nat} {todo:List Nat} {o:Oper} (ho:ops[i]? = some o) (hn:T.size=n) (hT:Ag T S) (h:opW P n ops i o (fun S' D' B' L'=>∀T',T'.size=n→Ag T' S'→C.X.R (G (fat C.b T' D' (.inRegion ops todo :: k)) C.cs) B' (L'.flatten ++ C.F)) S D B L):C.X.R (G (fat C.b T D (.inRegion ops (i :: todo) :: k)) C.cs) B (L.flatten ++ C.F):=
 h C todo k T ho hn hT fun S' D' B' L' T' _ hq hn' hT'=>hq T' hn' hT'
theorem Ag.sub' {T:Array Value} {S S':Env} (h:Ag T S) (hs:Sub S' S):Ag T S':=h.sub hs
end
end Go.BL
namespace Go.BL
end Go.BL
namespace Go.BL
open Go.Conc (G)
def Zau (Tg Tm:TypeId):ZjW DFolder:=fun row x ins=>∃q c q' c' i1 i2,row=[str x.owner,str x.name,.slice q x.grants.length c,.int .i64 x.next,.slice q' x.mail.length c']∧ins=i1 ++ i2∧ZY Kn.none i1 q c Tg 2 ZZ x.grants∧ZY Kn.none i2 q' c' Tm 3 ZN x.mail∧
 x.owner.length≤2000000∧x.name.length≤2000000∧x.grants.length≤2000000∧x.mail.length≤2000000
theorem Zau.known {Tg Tm:TypeId} {B:Kn} {row:List Value} {x:DFolder} {ins:Cells} (h:Zau Tg Tm row x ins) (hm :∀q,q∈ins→B.mem q.1=some q.2):Ze B row x:=by
 obtain ⟨q,c,q',c',i1,i2,h1,rfl,h2,h3,h4,h5,h6,h7⟩:=h
 exact ⟨q,c,q',c',h1,⟨h2.rowsF ZZ.any fun p hp=>hm p (List.mem_append.2 (.inl hp)),h2.cap,h6⟩,⟨h3.rowsF ZN.any fun p hp=>hm p (List.mem_append.2 (.inr hp)),h3.cap,h7⟩,h4,h5⟩
theorem All3.zeros {α:Type} {R:ZjW α} {row:List Value} {d:α} (h:R row d []) :∀m,All3 R (List.replicate m row) (List.replicate m d) []
 | 0=>.nil
 | m+1=>by rw [List.replicate_succ,List.replicate_succ];exact All3.cons (ins:=[]) h (All3.zeros h m)
theorem ZcD.zeros {α:Type} {b:Nat} {T:TypeId} {R:ZjW α} {zs:List Value} {d:α} {m c w:Nat} (hw:zs.length=w) (hR:R zs d []) (hmc:m≤c):ZcD (Zah b (zrow zs c) T) (some ⟨b,0,Option.none⟩) c T w R (List.replicate m d):=by
 refine ⟨List.replicate m zs,_,[],All3.zeros hR m,fun r hr=>by rw [(List.mem_replicate.1 hr).2];exact hw,by rw [List.append_nil],?_,.inr ⟨b,_,rfl,by rw [ZcF,hw],?_,rfl,by rw [List.length_replicate];exact hmc⟩⟩
 ·rw [List.length_replicate]
  exact (ZcF (z:=zs) (c:=m)).trans (by rw [hw])
 ·rw [List.length_replicate]
  have e:zrow zs c=zrow zs m ++ zrow zs (c - m):=by
   simp only [zrow,← List.flatten_append,List.replicate_append_replicate]
   rw [show m+(c - m)=c from by omega]
  rw [e,List.take_append_of_le_length (by rw [ZcF,hw];exact Nat.le_refl _),List.take_of_length_le (by rw [ZcF,hw];exact Nat.le_refl _)]
  rfl
section
variable {P:PJ} {n:Nat} {ops:Array Oper} {i:Nat} {K:Zbl} {S:Env} {D:List Deferred} {B:Kn} {L:List Cells} {Q:Exit→Zao}
variable {dst:Option Tmp} {ty:TypeId} {pos:String} {after:Array Edge} {g:Option (Nat × Bool)}
theorem ZuJ {o:Oper} {L':List Cells} {K':Zbl} (hp:L.flatten.Perm L'.flatten) (h:opX P n ops i o K' S D B L') (hk :∀v D' B' L₁,B.le B'→K' v D' B' L₁→∃L₂ gl,L₁.flatten.Perm (L₂.flatten ++ gl)∧K v D' B' L₂):opX P n ops i o K S D B L:=⟨h.1,fun C todo k T ho hn hT hA=>
 C.X.perm (hp.append_right _) (h.2 C todo k T ho hn hT fun v D' B' L₁ hle hK=>by
  obtain ⟨L₂,gl,hp2,hK2⟩:=hk v D' B' L₁ hle hK
  refine C.X.drop (r:=L₂.flatten ++ C.F) (gl:=gl) ((hp2.append_right _).trans ?_) (hA v D' B' L₂ hle hK2)
  rw [List.append_assoc,List.append_assoc]
  exact List.Perm.append_left _ List.perm_append_comm)⟩
end
section
variable {P:PJ} {n:Nat} {ops:Array Oper} {i:Nat} {K:Zbl} {S:Env} {D:List Deferred} {B BV:Kn} {L:List Cells}
variable {dst:Option Tmp} {ty:TypeId} {pos:String} {after:Array Edge} {g:Option (Nat × Bool)}
end
theorem Zv.borrowL {P:PJ} {f:FuncId} {args:List Value} {B:Kn} {ls Ls:List Cells} {Post:Value→Kn→List Cells→Prop}
  (h:(∀p,p∈ls.flatten→(B.add ls.flatten).mem p.1=some p.2)→Zv P f args (B.add ls.flatten) Ls Post) :
  Zv P f args B (ls ++ Ls) (fun v B' Ls'=>∃B₂ Ls₂,Ls'=ls ++ Ls₂∧B'=B₂.minus ls.flatten∧(B.add ls.flatten).le B₂∧(∀p,p∈ls.flatten→(B.add ls.flatten).mem p.1=some p.2)∧(B.add ls.flatten).minus ls.flatten=B∧Post v B₂ Ls₂):=fun X kind c cs F hk hA=>by
 have key:=Zv.borrow (l:=ls.flatten) (Ls:=Ls) h X kind c cs F hk fun v B' Ls' hle ⟨B₂,Ls₂,h1,h2,h3,h4,h5,h6⟩=>by
  have:=hA v B' (ls ++ Ls₂) hle ⟨B₂,Ls₂,rfl,h2,h3,h4,h5,h6⟩
  subst h1
  rw [List.flatten_cons]
  rwa [List.flatten_append] at this
 rw [List.flatten_cons] at key
 rwa [List.flatten_append]
section
variable {P:PJ} {C:Cx P} {k:List Item} {n:Nat} {ops:Array Oper} {i:Nat} {S:Env} {D:List Deferred} {B BV:Kn} {L:List Cells} {Q:Exit→Zao}
variable {α:Type} {xs:List α} {l:Cells} {p:Option Addr} {cp:Nat} {T:TypeId} {w:Nat}
theorem Zol {R:ZjW α} {R':Rel α} {o:Oper} {K:Zao} (j:Nat) (hj:L[j]? = some l) (hv:ZcD l p cp T w R xs) (hR :∀{B:Kn} {row:List Value} {x:α} {ins:Cells},R row x ins→(∀q,q∈ins→B.mem q.1=some q.2)→R' B row x) (hM:Mono R') (hl:xs.length≤2000000)
  (h :∀B',B.le B'→SlK B' p cp w R' xs→opW P n ops i o K S D B' (L.set j [])):opW P n ops i o K S D B L:=fun C todo k T ho hn hT hA'=>by
 obtain ⟨r,h1,h2⟩:=Zaa C.F [] hj
 exact C.X.publish rfl h1 fun B' hle hm=>C.X.perm (by simpa using h2.symm) (h B' hle (hv.known (fun _ _ _ a b=>hR a b) hM hm hl) C todo k T ho hn hT fun S' D' B'' L' T' hle' hq=>hA' S' D' B'' L' T' (hle.trans hle') hq)
end
end Go.BL
namespace Go.BL
open Go.ChangeShapes Go.WideShapes Go.ChangeAt Go.RowKit
section
variable {H:Type} (enc:TypeId × Value→H) (P:Program) (W:World)
end
section
variable {H:Type} {enc:TypeId × Value→H} {P:Program} {W:World}
end
end Go.BL
namespace Go.BL
section
variable {P:PJ} {n:Nat} {ops:Array Oper} {i:Nat} {K:Zbl} {S:Env} {D:List Deferred} {B:Kn} {L:List Cells}
variable {dst:Option Tmp} {ty:TypeId} {pos:String} {after:Array Edge} {g:Option (Nat × Bool)}
end
end Go.BL
namespace Go.BL
theorem All3.at {α:Type} {R:ZjW α} {rows:List (List Value)} {xs:List α} {s:Cells} (h:All3 R rows xs s) :∀{i:Nat} {x:α},xs[i]? = some x→∃row li lr,rows[i]? = some row∧R row x li∧s.Perm (li ++ lr)∧∀x' li',R row x' li'→∃s',All3 R rows (xs.set i x') s'∧s'.Perm (li' ++ lr):=by
 induction h with
 | nil=>intro i x hx;simp at hx
 | @cons row0 x0 ins0 rest rows xs h1 h2 ih=>
  intro i x hx
  cases i with
  | zero=>
   simp only [List.getElem?_cons_zero,Option.some.injEq] at hx
   subst hx
   exact ⟨row0,ins0,rest,rfl,h1,.refl _,fun x' li' hr=>⟨li' ++ rest,.cons hr h2,.refl _⟩⟩
  | succ i=>
   obtain ⟨row,li,lr,e1,e2,e3,e4⟩:=ih (by simpa using hx)
   refine ⟨row,li,ins0 ++ lr,by simpa using e1,e2,?_,fun x' li' hr=>?_⟩
   ·exact (List.Perm.append_left ins0 e3).trans (by rw [← List.append_assoc,← List.append_assoc];exact List.Perm.append_right lr List.perm_append_comm)
   ·obtain ⟨s',f1,f2⟩:=e4 x' li' hr
    exact ⟨ins0 ++ s',.cons h1 f1,(List.Perm.append_left ins0 f2).trans (by rw [← List.append_assoc,← List.append_assoc];exact List.Perm.append_right lr List.perm_append_comm)⟩
theorem ZcD.open1 {α:Type} {l:Cells} {p:Option Addr} {c:Nat} {T:TypeId} {w:Nat} {R:ZjW α} {xs:List α} (h:ZcD l p c T w R xs) {i:Nat} {x:α} (hx:xs[i]? = some x) :
∃b arr row li lr,p=some ⟨b,0,none⟩∧R row x li∧row.length=w∧l.Perm (li ++ (Zah b arr T ++ lr))∧(∀(j:Nat) (u:Value),row[j]? = some u→arr[i*w+j]? = some u)∧
∀x' li',R row x' li'→ZcD (li' ++ (Zah b arr T ++ lr)) p c T w R (xs.set i x'):=by
 obtain ⟨rows,blk,ins,h1,h2,h3,hvl⟩:=h
 have hlt:=(List.getElem?_eq_some_iff.1 hx).1
 obtain ⟨hl0,⟨_,h0,_,_⟩ | ⟨b,arr,rfl,ha,ht,rfl,hm⟩⟩:=hvl
 ·omega
 ·obtain ⟨row,li,lr,e1,e2,e3,e4⟩:=h1.at hx
  refine ⟨b,arr,row,li,lr,rfl,e2,h2 row (List.mem_of_getElem? e1),?_,fun j u hj=>?_,fun x' li' hr=>?_⟩
  ·refine h3.trans ((List.Perm.append_left _ e3).trans ?_)
   rw [← List.append_assoc,← List.append_assoc];exact List.Perm.append_right lr List.perm_append_comm
  ·have hu:=ZgA h2 e1 hj
   rw [← ht,List.getElem?_take] at hu
   split at hu
   ·exact hu
   ·cases hu
  ·obtain ⟨s',f1,f2⟩:=e4 x' li' hr
   refine ⟨rows,Zah b arr T,s',f1,h2,?_,by rw [List.length_set];exact hl0,.inr ⟨b,arr,rfl,ha,by rw [List.length_set];exact ht,rfl,by rw [List.length_set];exact hm⟩⟩
   refine List.Perm.trans ?_ (List.Perm.append_left _ f2.symm)
   rw [← List.append_assoc,← List.append_assoc];exact List.Perm.append_right lr List.perm_append_comm
section
variable {P:PJ} {n:Nat} {Q:Exit→Zao} {S:Env} {D:List Deferred} {B:Kn} {L:List Cells} {c:Code}
theorem ZtT {L':List Cells} (hp:L.flatten.Perm L'.flatten) (h:wpS P n c Q S D B L'):wpS P n c Q S D B L:=fun C k T hn hT hA=>by
 refine C.X.drop (r:=L'.flatten ++ C.F) (gl:=[]) ?_ (h C k T hn hT hA)
 rw [List.append_nil];exact hp.append_right C.F
theorem Zqm {a b:Cells} (j m:Nat) (hj:L[j]? = some a) (hm:L[m]? = some b) (hne:j≠m) (h:wpS P n c Q S D B ((L.set j (b ++ a)).set m [])):wpS P n c Q S D B L:=by
 refine ZtT ?_ h
 obtain ⟨r,h1,h2⟩:=Zaa [] (b ++ a) hj
 have hm':(L.set j (b ++ a))[m]? = some b:=by rw [List.getElem?_set_ne hne];exact hm
 obtain ⟨r2,h3,h4⟩:=Zaa [] [] hm'
 rw [List.append_nil] at h1 h2 h3 h4
 rw [List.nil_append] at h4
 have h5:(b ++ (a ++ r)).Perm (b ++ r2):=by rw [← List.append_assoc];exact h2.symm.trans h3
 exact h1.trans (((List.perm_append_left_iff b).1 h5).trans h4.symm)
end
end Go.BL
namespace Go.BL
section
variable {P:PJ} {n:Nat} {ops:Array Oper} {i:Nat} {K:Zbl} {S:Env} {D:List Deferred} {B:Kn} {L:List Cells}
variable {dst:Option Tmp} {ty:TypeId} {pos:String} {after:Array Edge} {g:Option (Nat × Bool)}
end
end Go.BL
namespace Go.BL
open Go.Conc (G)
section
variable {P:PJ} {n:Nat} {ops:Array Oper} {i:Nat} {K:Zbl} {S:Env} {D:List Deferred} {B:Kn} {L:List Cells}
variable {dst:Option Tmp} {ty:TypeId} {pos:String} {after:Array Edge} {g:Option (Nat × Bool)}
theorem Zuq {α:Type} {R:ZjW α} {xs:List α} (z:α) {t u e:TypeId} {x y:Operand} {sz by_ m c c2:Nat} {p q:Option Addr} {row:List Value} {l:Cells} {inss r:List Cells} (j:Nat) (ks:List Nat) (hpk:Za0 L (j :: ks)=some (l :: inss,r)) (hnd:Ze4 (j :: ks)=true) (hv:ZcD l p c e sz R xs) (hm:m=xs.length) (hg:Zm ops S g=some true) (hd:ZC n dst=true)
  (he:Zck P t e sz by_=true) (hu:(match P.underlying u with | some (.slice _)=>true | _=>false)=true) (hx:ev S x=some (.slice p m c)) (hy:ev S y=some (.slice q 1 c2)) (hs:ZaQ B L.flatten q row) (hone:row.all ZgT=true) (hrl:row.length=sz) (ins0:Cells) (hi0:inss.flatten=ins0) (hr:R row z ins0) (hb1:(xs.length+1)*by_≤140737488355328)
  (h :∀l' p' c',ZcD l' p' c' e sz R (xs ++ [z])→K (.slice p' (xs ++ [z]).length c') D B (ZcS r (j :: ks) (l' :: inss.map fun _=>[]))):opX P n ops i ⟨dst,.call ⟨.builtin .append,#[x,y],#[t,u]⟩,ty,pos,after,g⟩ K S D B L:=by
 subst hm
 subst hi0
 obtain ⟨rows,blk,inn,h1,h2,h3,h4⟩:=hv
 have hpp:=ZaC (j :: ks) L (l :: inss) r hpk
 have p1:L.flatten.Perm (blk ++ (inn ++ (inss.flatten ++ r.flatten))):=by
  refine hpp.trans ?_
  simp only [List.flatten_cons,List.append_assoc]
  refine (h3.append_right _).trans ?_
  rw [List.append_assoc]
 refine Zor (L':=[blk,inn ++ (inss.flatten ++ r.flatten)]) (K':=fun v D' B' L₁=>∃blk' p' c',L₁=[blk',inn ++ (inss.flatten ++ r.flatten)]∧v = .slice p' (xs.length+1) c'∧D'=D∧B'=B∧Ziq blk' p' (xs.length+1) c' e sz (rows.flatten ++ row)) ?_ ?_ ?_
 ·simpa using p1
 ·refine ZeO 0 rfl h4 hg hd he hu hx hy ?_ (by rw [hrl,Nat.one_mul]) hone hb1 fun l' p' c' hv'=>⟨l',p',c',rfl,rfl,rfl,rfl,hv'⟩
  cases q with
  | none=>exact hs
  | some a=>
   intro jj v hjj
   exact (hs jj v hjj).perm (by simpa using p1)
 ·rintro v D' B' L₁ hle ⟨blk',p',c',rfl,rfl,rfl,rfl,hv'⟩
  have hnew:ZcD (blk' ++ (inn ++ inss.flatten)) p' c' e sz R (xs ++ [z]):=⟨rows ++ [row],blk',inn ++ inss.flatten,h1.snoc hr,fun r' hr'=>by
   rcases List.mem_append.1 hr' with hr' | hr'
   ·exact h2 r' hr'
   ·rw [List.mem_singleton.1 hr'];exact hrl,.refl _,by rw [List.length_append,List.flatten_append];simpa using hv'⟩
  refine ⟨_,?_,by have:=h _ _ _ hnew;rwa [List.length_append] at this⟩
  have hq:=Zcr ((blk' ++ (inn ++ inss.flatten)) :: inss.map fun _=>[]) r (j :: ks) (Zct hnd) (fun jj hj=>Zcs (j :: ks) L (l :: inss) r hpk jj (.inr hj))
  have hnil:((inss.map fun _=>([]:Cells))).flatten=[]:=by
   clear hpk hpp h hnew hs h3 p1 hq
   induction inss with
   | nil=>rfl
   | cons a as ih=>simp
  rw [List.flatten_cons,hnil,List.append_nil] at hq
  refine List.Perm.trans ?_ hq
  simp only [List.flatten_cons,List.flatten_nil,List.append_nil,List.append_assoc]
  exact .refl _
theorem ZaM.borrowL {f:FuncId} {args:List Value} {ls:List Cells} {v:Value} (h:(∀p,p∈ls.flatten→(B.add ls.flatten).mem p.1=some p.2)→ZaM P f args (B.add ls.flatten) v):Zv P f args B ls (fun v' B' Ls=>v'=v∧B'=B∧Ls=ls):=by
 have:=(Zv.borrowL (P:=P) (Ls:=[]) h).mono (Post':=fun v' B' Ls=>v'=v∧B'=B∧Ls=ls) fun v' B' Ls' _ ⟨B₂,Ls₂,a1,a2,_,_,a3,a4,a5,a6⟩=>by subst a5;subst a6;exact ⟨a4,a2.trans a3,by rw [a1,List.append_nil]⟩
 rwa [List.append_nil] at this
theorem ZdH {f:FuncId} {xs:List Operand} {vs:List Value} {ats:Array TypeId} {v:Value} {ls r:List Cells} (js:List Nat) (hp:Za0 L js=some (ls,r)) (hput:ZcS r js ls=L) (hn:Ze4 js=true) (hg:Zm ops S g=some true) (hd:ZC n dst=true) (he:enters P f=true) (ha:evs S xs=some vs)
  (hc:Zv P f vs B ls (fun v' B' Ls=>v'=v∧B'=B∧Ls=ls)) (h:K v D B L):opX P n ops i ⟨dst,.call ⟨.value (.func f),xs.toArray,ats⟩,ty,pos,after,g⟩ K S D B L:=
 Zax js hp hn hg hd he ha hc fun v' B' Ls' hle ⟨h1,h2,h3⟩=>by subst h1;subst h2;subst h3;rw [hput];exact h
end
theorem Zv.borrowK {P:PJ} {B:Kn} {f:FuncId} {args:List Value} {Ls:List Cells} {Post:Value→Kn→List Cells→Prop} (k:Nat)
  (h:(∀p,p∈(Ls.take k).flatten→(B.add (Ls.take k).flatten).mem p.1=some p.2)→Zv P f args (B.add (Ls.take k).flatten) (Ls.drop k) Post) :
  Zv P f args B Ls (fun v B' Ls'=>∃B₂ Ls₂,Ls'=Ls.take k ++ Ls₂∧B'=B₂.minus (Ls.take k).flatten∧(B.add (Ls.take k).flatten).le B₂∧(∀p,p∈(Ls.take k).flatten→(B.add (Ls.take k).flatten).mem p.1=some p.2)∧(B.add (Ls.take k).flatten).minus (Ls.take k).flatten=B∧Post v B₂ Ls₂):=by
 have:=Zv.borrowL (P:=P) (ls:=Ls.take k) (Ls:=Ls.drop k) h
 rwa [List.take_append_drop] at this
theorem Zrc {B:Kn} {ls:List Cells} {l:Cells} (hm :∀p,p∈ls.flatten→B.mem p.1=some p.2) (k:Nat) (hk:ls[k]? = some l) :∀q,q∈l→B.mem q.1=some q.2:=fun q hq=>hm q (List.mem_flatten.2 ⟨l,List.mem_of_getElem? hk,hq⟩)
theorem ZY.lendK {α:Type} {B BV:Kn} {l:Cells} {ls:List Cells} {p:Option Addr} {c:Nat} {T:TypeId} {w:Nat} {R:Rel α} {xs:List α} (h:ZY BV l p c T w R xs) (hR:Zso R) (k:Nat) (hk:ls[k]? = some l) (hm :∀q,q∈ls.flatten→(B.add ls.flatten).mem q.1=some q.2) (hl:xs.length≤2000000):SlK (B.add ls.flatten) p c w R xs:=⟨h.rowsF hR (Zrc hm k hk),h.cap,hl⟩
theorem ZcD.lendK {α:Type} {B:Kn} {l:Cells} {ls:List Cells} {p:Option Addr} {c:Nat} {T:TypeId} {w:Nat} {R:ZjW α} {R':Rel α} {xs:List α} (h:ZcD l p c T w R xs) (hR :∀{B:Kn} {row:List Value} {x:α} {ins:Cells},R row x ins→(∀q,q∈ins→B.mem q.1=some q.2)→R' B row x) (hM:Mono R') (k:Nat) (hk:ls[k]? = some l) (hm :∀q,q∈ls.flatten→(B.add ls.flatten).mem q.1=some q.2) (hl:xs.length≤2000000):SlK (B.add ls.flatten) p c w R' xs:=h.known (fun _ _ _ a b=>hR a b) hM (Zrc hm k hk) hl
theorem ZxP {l a b lr:Cells} (h:l.Perm (a ++ b ++ lr)):l.Perm (lr ++ ([a,b]:List Cells).flatten):=by
 simpa using h.trans List.perm_append_comm
theorem Zwb {P:PJ} {n:Nat} {Q:Exit→Zao} {S:Env} {D:List Deferred} {B:Kn} {L:List Cells} {c:Code} (es:List Cells) (he:es.flatten=[]) (h:wpS P n c Q S D B (L ++ es)):wpS P n c Q S D B L:=
 ZtT (by rw [List.flatten_append,he,List.append_nil]) h
end Go.BL
namespace Go.BL
open Go.Conc (G)
def errv (tE:TypeId) (a:Nat→Addr):Nat→Value
 | 0=>.nilIface
 | k+1=>.iface tE (.pointer (some (a k)))
structure ErrsB (tE:TypeId) (gs:List Nat) (B:Kn) (a:Nat→Addr):Prop where
 row :∀k,k<4→Zbi B (gs.getD k 0) 0 [.iface tE (.pointer (some (a k)))]
 cell :∀k,k<4→∃cs T,B.mem (a k).block=some (.cells cs T (0,0))
 ne :∀i j,i<4→j<4→i≠j→a i≠a j
theorem ErrsB.mono {tE:TypeId} {gs:List Nat} {B B':Kn} {a:Nat→Addr} (h:ErrsB tE gs B a) (hle:B.le B'):ErrsB tE gs B' a:=
 ⟨fun k hk=>(h.row k hk).mono hle,fun k hk=>let ⟨cs,T,e⟩:=h.cell k hk;⟨cs,T,hle _ _ e⟩,h.ne⟩
section
variable {P:Program}
theorem Ztl {a:Addr} {B:Kn} {L:Cells} {Q:Bool→Kn→Cells→Prop} (q:Q true B L):hb P (sameAddr a a) Q B L:=by
 have e:sameAddr a a=pure true:=by simp [sameAddr]
 rw [e];exact q
theorem ZhV {x:Addr} {cx:Array Value} {tx:TypeId} {B:Kn} {L:Cells} {Q:Bool→Kn→Cells→Prop} (hx:ZkS B L x.block (.cells cx tx (0,0))) (q:Q false B L):hb P (stringish x) Q B L:=by
 unfold stringish
 rw [Zk]
 refine ⟨_,hx,?_⟩
 simp only [Zb9,Zr,ZbQ,Nat.not_lt_zero,decide_false,Bool.and_false,Bool.false_eq_true,if_false]
 rw [Zk]
 refine ⟨_,hx,?_⟩
 simp only [ZkY,Zr,ZbQ]
 refine ⟨_,hx,?_⟩
 simp only [Zb9,Nat.not_lt_zero,decide_false,Bool.and_false]
 exact q
theorem Zmw {x:Addr} {cx:Array Value} {tx:TypeId} {B:Kn} {L:Cells} {Q:Unit→Kn→Cells→Prop} (hx:ZkS B L x.block (.cells cx tx (0,0))) (q:Q () B L):hb P (noView x) Q B L:=by
 unfold noView viewAt
 simp only [Zk]
 refine ⟨_,hx,?_⟩
 simp only [ZkY,Option.isSome_some,if_true,Zr,ZbQ]
 exact q
theorem Ztm {a b:Addr} {ca cb:Array Value} {ta tb:TypeId} {B:Kn} {L:Cells} {Q:Bool→Kn→Cells→Prop} (hne:a≠b) (ha:ZkS B L a.block (.cells ca ta (0,0))) (hb':ZkS B L b.block (.cells cb tb (0,0))) (q:Q false B L):hb P (sameAddr a b) Q B L:=by
 unfold sameAddr
 by_cases h:a.block=b.block
 ·have e1:(a.block == b.block)=true:=by simpa using h
  have e2:(a == b)=false:=by simpa using hne
  simp only [e1,if_true,e2];exact q
 ·have e1:(a.block == b.block)=false:=by simpa using h
  simp only [e1,Bool.false_eq_true,if_false,Zk]
  refine ⟨_,ha,?_⟩
  have f1:Zb9 a.off (.cells ca ta (0,0))=false:=by simp [Zb9]
  simp only [f1,Zr,ZbQ,Bool.false_eq_true,if_false,Bool.false_and,Zk]
  refine ⟨_,hb',?_⟩
  simp only [Zr,ZbQ,Zk]
  refine Zmw ha ?_
  rw [Zk]
  refine Zmw hb' ?_
  unfold mayBeOne
  simp only [Zk]
  refine ZhV ha ?_
  rw [Zk]
  refine ZhV hb' ?_
  simp only [Zk]
  refine ⟨_,ha,?_⟩
  simp only [Zr,ZbQ,Zk]
  refine ⟨_,hb',?_⟩
  simp only [Bool.false_and,Bool.or_false,Bool.false_eq_true,if_false,Zr,ZbQ]
  exact q
theorem ZwA {tI tE te:TypeId} {ms:Array (String × TypeId)} {i:TypeInfo} {d:Nat} {x y:Addr} {B:Kn} {L:Cells} {Q:Bool→Kn→Cells→Prop} (hi:P.underlying tI=some (.interface ms)) (hp:P.underlying tE=some (.pointer te)) (hinfo:P.info? tE=some i) (hc:i.comparable=true) (hs:Z8 P te=some (d+1))
  (h:hb P (sameAddr x y) Q B L):hb P (Op.equal tI (.iface tE (.pointer (some x))) (.iface tE (.pointer (some y)))) Q B L:=by
 show hb P (Op.equalIn (9999+1) tI _ _) Q B L
 rw [Op.equalIn,Zk,Zt hi]
 simp only [ne_eq,not_true_eq_false,if_false,Zk,Zb1 hinfo,hc,Bool.not_true,Bool.false_eq_true]
 show hb P (Op.equalIn (9998+1) tE _ _) Q B L
 rw [Op.equalIn,Zk,Zt hp]
 simp only [Zk,ZaS hs,ne_eq,Nat.add_eq_zero_iff,Nat.one_ne_zero,and_false,not_false_eq_true,if_true]
 exact h
theorem ZrJ {tE:TypeId} {gs:List Nat} {B:Kn} {a:Nat→Addr} (h:ErrsB tE gs B a) {k:Nat} (hk:k<4) (L:Cells) :∃cs T,ZkS B L (a k).block (.cells cs T (0,0)):=
 let ⟨cs,T,e⟩:=h.cell k hk;⟨cs,T,.inl e⟩
theorem ZwB {tI tE te:TypeId} {ms:Array (String × TypeId)} {i:TypeInfo} {d:Nat} {c k:Nat} {gs:List Nat} {a:Nat→Addr} {B:Kn} {L:Cells} {Q:Bool→Kn→Cells→Prop} (hE:ErrsB tE gs B a) (hcb:c<5) (hkb:k<4) (hi:P.underlying tI=some (.interface ms)) (hp:P.underlying tE=some (.pointer te)) (hinfo:P.info? tE=some i) (hc:i.comparable=true) (hs:Z8 P te=some (d+1))
  (h:Q (decide (c=k+1)) B L):hb P (Op.equal tI (errv tE a c) (errv tE a (k+1))) Q B L:=by
 cases c with
 | zero=>
  show hb P (Op.equalIn (9999+1) tI .nilIface _) Q B L
  rw [Op.equalIn,Zk,Zt hi]
  simp only [errv,Zr]
  simpa using h
 | succ c=>
  refine ZwA hi hp hinfo hc hs ?_
  by_cases e:c=k
  ·subst e
   exact Ztl (by simpa using h)
  ·obtain ⟨cs,T,h1⟩:=ZrJ hE (k:=c) (by omega) L
   obtain ⟨cs',T',h2⟩:=ZrJ hE hkb L
   exact Ztm (hE.ne c k (by omega) hkb e) h1 h2 (by simpa [e] using h)
end
section
variable {P:PJ} {n:Nat} {ops:Array Oper} {i:Nat} {K:Zbl} {S:Env} {D:List Deferred} {B:Kn} {L:List Cells}
variable {dst:Option Tmp} {ty:TypeId} {pos:String} {after:Array Edge} {g:Option (Nat × Bool)}
theorem Ziy {t u:TypeId} {x:Operand} {tE:TypeId} {a:Nat→Addr} {c:Nat} {ms:Array (String × TypeId)} (hg:Zm ops S g=some true) (hd:ZC n dst=true) (hu:P.underlying t=some (.interface ms)) (hx:ev S x=some (errv tE a c)) (h:K (.bool (decide (c=0))) D B L):opX P n ops i ⟨dst,.binOp .eql t x (.const .nilIface) u,ty,pos,after,g⟩ K S D B L:=
 ZV hg hd (fun ρ hρ Q F q=>by
  have e0:ρ (.const .nilIface) = .nilIface:=hρ (.const .nilIface) _ rfl
  simp only [execOp,hρ x _ hx,e0,Zk]
  cases c with
  | zero=>
   simp only [errv,eqGuard,binOp,Bool.not_true,Bool.false_eq_true,if_false,Bool.or_true,if_true,Zr,Zk]
   show hb P (Op.equalIn (9999+1) t .nilIface .nilIface) _ B _
   rw [Op.equalIn,Zk,Zt hu]
   simp only [Zr]
   simpa using q
  | succ c=>
   simp only [errv,eqGuard,binOp,Bool.not_true,Bool.false_eq_true,if_false,Bool.or_true,if_true,Zr,Zk]
   show hb P (Op.equalIn (9999+1) t (.iface tE _) .nilIface) _ B _
   rw [Op.equalIn,Zk,Zt hu]
   simp only [Zr]
   simpa using q) h
theorem Zql {t u:TypeId} {x y:Operand} {tE te:TypeId} {gs:List Nat} {a:Nat→Addr} {c k:Nat} {ms:Array (String × TypeId)} (hE:ErrsB tE gs B a) (hcb:c<5) (hkb:k<4) (hg:Zm ops S g=some true) (hd:ZC n dst=true) (hu:P.underlying t=some (.interface ms)) (hp:P.underlying tE=some (.pointer te)) (hinf:(P.info? tE).map (·.comparable)=some true) (hs:Z8 P te=some 1)
  (hx:ev S x=some (errv tE a c)) (hy:ev S y=some (errv tE a (k+1))) (h:K (.bool (decide (c=k+1))) D B L):opX P n ops i ⟨dst,.binOp .eql t x y u,ty,pos,after,g⟩ K S D B L:=
 ZV hg hd (fun ρ hρ Q F q=>by
  obtain ⟨inf,hinfo,hc⟩:=Option.map_eq_some_iff.1 hinf
  have hpl:Zhv (errv tE a c) (errv tE a (k+1))=true:=by cases c <;> rfl
  simp only [execOp,hρ x _ hx,hρ y _ hy,Zk,Zgk hpl,ZmT (.inl hpl)]
  exact ZwB hE hcb hkb hu hp hinfo hc hs q) h
theorem Ziz {x:Operand} {xt t asserted:TypeId} {v:Value} {want:Array (String × TypeId)} (hg:Zm ops S g=some true) (hd:ZC n dst=true) (hu:P.underlying asserted=some (.interface want)) (hl:(P.info? t).map (fun i=>(lacking want i.methods).isEmpty)=some false) (hz:ZaB P asserted=some .nilIface)
  (hx:ev S x=some (.iface t v)) (h:K (.tuple #[.nilIface,.bool false]) D B L):opX P n ops i ⟨dst,.typeAssert x xt asserted true,ty,pos,after,g⟩ K S D B L:=
 ZV hg hd (fun ρ hρ Q F q=>by
  obtain ⟨j,hj,hm⟩:=Option.map_eq_some_iff.1 hl
  obtain ⟨m,hm⟩:=missingMethod_some (want:=want) (got:=j.methods) (fun e=>by rw [e] at hm;cases hm)
  simp only [execOp,Instr.typeAssert,hρ x _ hx,Zk,Zt hu,Zb1 hj,hm,if_true,Zb0 hz,Zr]
  exact q) h
theorem Zwa {f:FuncId} {fn:Func} {ext:Array Value→Sem Value} {x:Operand} {ats:Array TypeId} {v r:Value} (hg:Zm ops S g=some true) (hd:ZC n dst=true) (hf:P.funcs[f]? = some fn) (hname:(fn.name == "runtime.NumGoroutine")=false) (hb0:fn.body.isNone=true) (hn:Extern.findNext fn=none) (he:Extern.find fn=some ext)
  (hx:ev S x=some v) (hr :∀(Q:Value→Kn→Cells→Prop) B L,hb P (ext #[v]) Q B L=Q r B L) (h:K r D B L):opX P n ops i ⟨dst,.call ⟨.value (.func f),#[x],ats⟩,ty,pos,after,g⟩ K S D B L:=
 Zd7 hg hd fun ρ hρ F=>by
  have e0:ρ (.func f) = .func (.func f) #[] #[]:=hρ (.func f) _ rfl
  simp only [execOp,resolve,e0,Deferred.ofValue,Zk,Zr,invoke,List.map_toArray,List.map_cons,List.map_nil,hρ x _ hx]
  have e:(#[] ++ #[v]:Array Value) ++ #[] = #[v]:=by simp
  rw [e]
  simp only [callFunc,Zk,ZbL,hf,hname,Bool.false_eq_true,if_false,hb0,if_true,hn,he]
  refine ⟨rfl,?_⟩
  simp only [ZbQ,Zr,Zk,hr]
  exact ⟨L,.of (.refl _),h⟩
theorem Zv7 {f:FuncId} {fn:Func} {ext:Array Value→Sem Value} {x:Operand} {t:TypeId} {name:String} {ats:Array TypeId} {v u r:Value} (hg:Zm ops S g=some true) (hd:ZC n dst=true) (hf:P.funcs[f]? = some fn) (hname:(fn.name == "runtime.NumGoroutine")=false) (hb0:fn.body.isNone=true) (hn:Extern.findNext fn=none) (he:Extern.find fn=some ext)
  (hx:ev S x=some (.iface t v)) (hm :∀(k:Nat) (Q:FuncId × Value→Kn→Cells→Prop) B L,hb P (method (k+1) t v name) Q B L=Q (f,u) B L) (hr :∀(Q:Value→Kn→Cells→Prop) B L,hb P (ext #[u]) Q B L=Q r B L) (h:K r D B L):opX P n ops i ⟨dst,.call ⟨.invoke x name,#[],ats⟩,ty,pos,after,g⟩ K S D B L:=
 Zd7 hg hd fun ρ hρ F=>by
  have e1:(#[Value.iface t v] ++ #[])[0]? = some (.iface t v):=by simp
  have e2:(#[Value.iface t v] ++ #[]).extract 1 (#[Value.iface t v] ++ #[]).size = #[]:=by apply Array.ext';simp
  have e3 : #[u] ++ #[] = #[u]:=by simp
  simp only [execOp,resolve,hρ x _ hx,Zk,Zr,invoke,List.map_toArray,List.map_nil,e1,e2,callMethod,ZbL]
  have hpos:0<Made.depth:=by decide
  obtain ⟨d,hd'⟩ :∃d,P.types.size+Made.depth=d+1:=⟨P.types.size+Made.depth - 1,by omega⟩
  rw [hd',hm]
  simp only [e3,callFunc,Zk,ZbL,hf,hname,Bool.false_eq_true,if_false,hb0,if_true,hn,he]
  refine ⟨rfl,?_⟩
  simp only [ZbQ,Zr,Zk,hr]
  exact ⟨L,.of (.refl _),h⟩
end
end Go.BL
namespace Go.BL
open Go.ChangeShapes Go.WideShapes Go.ChangeAt Go.RowKit Go.Conc
section
variable {H:Type} {enc:TypeId × Value→H} {P:Program}
theorem ZoW {t:TypeId} {ms:Array (String × TypeId)} (hu:P.underlying t=some (.interface ms)) {W W':World} {sp sp':Nat→Bool} {fuel:Nat} {cs:List Value} : DataW.trod enc P W 0 sp true fuel t cs=DataW.trod enc P W' 0 sp' true fuel t cs:=by
 cases fuel with
 | zero=>simp [DataW.trod]
 | succ n=>
  cases cs with
  | nil=>simp [DataW.trod,hu]
  | cons x xs=>
   cases xs with
   | nil=>cases x <;> simp [DataW.trod,hu]
   | cons y ys=>cases x <;> simp [DataW.trod,hu]
theorem Zsw {W W':World} (hk:Kept W W') {n:String} {g:Nat} {cs:Array Value} (hg:P.globalNamed n=some g) (hlt:g<W.heap.size) (h:W.var? P n=some cs):W'.var? P n=some cs:=by
 simp only [World.var?,hg,Option.bind_some] at h ⊢
 rw [hk.1 g hlt];exact h
theorem Zl5 {W W':World} (hk:Kept W W') {sp sp':Nat→Bool} :∀{ns:List String} {gs:List (DataW H)} {ps:List MemPlace},(∀n,n∈ns→∀g t,P.globalNamed n=some g→(P.globals[g]?).map (·.type)=some t→∃ms,P.underlying t=some (.interface ms))→
  DataW.TrodVars enc P W sp ns gs ps→(∀n,n∈ns→∀g,P.globalNamed n=some g→g<W.heap.size)→DataW.TrodVars enc P W' sp' ns gs ps
 | [],[],_,_,h,_=>h
 | n :: ns,d :: ds,ps,ht,⟨g,t,cs,fuel,p,q,hg,hty,hv,hd,hr,e⟩,hlt=>by
  obtain ⟨ms,hu⟩:=ht n (List.mem_cons_self ..) g t hg hty
  exact ⟨g,t,cs,fuel,p,q,hg,hty,Zsw hk hg (hlt n (List.mem_cons_self ..) g hg) hv,(ZoW hu).trans hd,
   Zl5 hk (fun n hn=>ht n (List.mem_cons_of_mem _ hn)) hr (fun n hn=>hlt n (List.mem_cons_of_mem _ hn)),e⟩
 | [],_ :: _,_,_,h,_=>h.elim
 | _ :: _,[],_,_,h,_=>h.elim
theorem Zqo {W:World} {sp:Nat→Bool} :∀{ns:List String} {gs:List (DataW H)} {ps:List MemPlace},DataW.TrodVars enc P W sp ns gs ps→∀n,n∈ns→∀g,P.globalNamed n=some g→g<W.heap.size
 | [],_,_,_,n,hn,_,_=>by cases hn
 | m :: ns,d :: ds,ps,⟨g,t,cs,fuel,p,q,hg,hty,hv,hd,hr,e⟩,n,hn,g',hg'=>by
  rcases List.mem_cons.1 hn with rfl | hn
  ·obtain rfl:=Option.some.inj (hg.symm.trans hg')
   simp only [World.var?,hg,Option.bind_some] at hv
   rcases Nat.lt_or_ge g W.heap.size with h | h
   ·exact h
   ·rw [Array.getElem?_eq_none h] at hv;cases hv
  ·exact Zqo hr n hn g' hg'
 | _ :: _,[],_,h,_,_,_,_=>h.elim
theorem Zn9 {W:World} {sp:Nat→Bool} :∀{ns:List String} {gs:List (DataW H)} {ps:List MemPlace},DataW.TrodVars enc P W sp ns gs ps→gs.length=ns.length
 | [],[],_,_=>rfl
 | n :: ns,d :: ds,ps,⟨g,t,cs,fuel,p,q,hg,hty,hv,hd,hr,e⟩=>by rw [List.length_cons,List.length_cons,Zn9 hr]
 | [],_ :: _,_,h=>h.elim
 | _ :: _,[],_,h=>h.elim
theorem Zi2 {f:Func} {s:ChangeSpec} {apart fresh handsOn again:Bool} {W W':World} {args:Array Value} {ds gs:List (DataW H)} {before:List MemPlace} {tb:TypeId}
  (hl:laidOutB P=true) (hts:(f.params.toList.all fun t=>P.readableRec t && decide (t<P.types.size))=true) (hres:f.resultTypes.toList=[tb]) (hb:P.underlying tb=some .bool)
  (hvars :∀n,n∈s.vars→∀g t,P.globalNamed n=some g→(P.globals[g]?).map (·.type)=some t→∃ms,P.underlying t=some (.interface ms))
  (hW:DataW.Whole enc P f.params.toList s.vars apart W args.toList ds gs before) (hfn :∀ds' gs',gs'.length=s.vars.length→ds'.length=f.params.toList.length→s.fn H (ds' ++ gs') = { results:=[.lit (.bool true)],args:=ds',vars:=gs' })
  (hk:Kept W W'):s.post enc P f apart fresh handsOn again W args (.bool true) W':=by
 have hlt:=hW.lt
 have hW':=hW
 obtain ⟨p,q,hA0,hV,rfl,hfz,hnd⟩:=hW
 have hlen:=(trodAll_length hA0).2
 have hvl:gs.length=s.vars.length:=Zn9 hV
 have hf2:=hfn ds gs hvl hlen
 have hr2:f.resultTypes = #[tb]:=by apply Array.ext';rw [hres]
 refine post_of_same (pa:=p) (pv:=q) hW' (fun b sp hd=>?_) (fun sp hsp=>?_) (fun sp hsp=>?_) rfl (hk.2.frame _) hk.2.2.1 ?_
 ·rw [hf2,hr2]
  exact trodAll_cons_mk (shut_bool hb _) trodAll_mk0
 ·rw [hf2]
  exact Zoj hl hk hts hA0 (fun x hx=>hlt x (List.mem_append_left _ hx)) (fun x hx=>hsp x (List.mem_append_left _ hx))
 ·rw [hf2]
  exact Zl5 hk hvars hV (Zqo hV)
 ·intro j t r h1 h2
  rw [hr2] at h1 h2
  cases j with
  | zero=>
   simp only [List.getElem?_toArray,List.getElem?_cons_zero,Option.some.injEq] at h1
   simp [Value.resultList] at h2
   subst h1;subst h2
   exact okWide_bool_mk hb _
  | succ j=>simp at h1
theorem Zf3 {ns:List String} (h:(ns.all fun n=>match P.globalNamed n with | some g=>(match (P.globals[g]?).map (·.type) with | some t=>(match P.underlying t with | some (.interface _)=>true | _=>false) | none=>true) | none=>true)=true) :
∀n,n∈ns→∀g t,P.globalNamed n=some g→(P.globals[g]?).map (·.type)=some t→∃ms,P.underlying t=some (.interface ms):=fun n hn g t hg ht=>by
 have h1:=List.all_eq_true.1 h n hn
 simp only [hg,ht] at h1
 split at h1
 ·exact ⟨_,by assumption⟩
 ·cases h1
theorem ZkV {ts:Array TypeId} (h:(ts.toList.all fun t=>!P.wantsStandIn t)=true) {j:Nat} {t:TypeId} (ht:ts[j]? = some t):P.wantsStandIn t=false:=by
 have:=List.all_eq_true.1 h t (by
  rw [← Array.getElem?_toList] at ht
  exact List.mem_of_getElem? ht)
 simpa using this
theorem Zfg {a:Assume} {C:Checked} {os:Os} {f:FuncId} {fn:Func} {s:ChangeSpec} {conds:List PathCond} {apart fresh handsOn again:Bool} {laid:List (String × DataW Unit)}
  (own:ownKnob C.prog.godebug=none) (started:os.Started) (hfn:C.prog.funcs[f]? = some fn)
  (witness :∃(w:World) (tape:Tape) (i:Input),w.os=os∧(w.forCall tape i).Shaped C.prog∧i.vars=[]∧Input.okWide C.prog (w.forCall tape i) .any w.heap.size f i∧
   ((s.pre enc C.prog fn conds apart (w.forCall tape i).memory i.args∧laidMetH C.prog laid (w.forCall tape i).memory)∧sizedMet enc C.prog fn (OpenSpec.ofChange s) apart (w.forCall tape i).memory i.args)∧a.holds C.prog (lone (Frame.enter C.prog f i.args .normal) [] (w.forCall tape i)))
  (runs :∀(W:World) (base:Nat) (args:Array Value) (ds gs:List (DataW H)) (before:List MemPlace),
   (∀(j:Nat) t v,fn.params[j]? = some t→args[j]? = some v→Value.okWide C.prog W .any base t v)→
   DataW.Whole enc C.prog fn.params.toList s.vars apart W args.toList ds gs before→
   (DataW.weightsEach C.prog (fn.params.toList ++ s.plain.varTypes C.prog) (ds ++ gs)).all (·≤reachBytes)=true→
   laidMetH C.prog laid W→
∃M last o w' t',runNT C.prog (M+1) (solo (G (Frame.enter C.prog f args .normal) []) W) #[]=(.ended o w',t')∧runN C.prog M (solo (G (Frame.enter C.prog f args .normal) []) W) = .next last∧
    step C.prog last = .ended o w'∧Conc.Good C.prog (fun v W'=>s.post enc C.prog fn apart fresh handsOn again W args v W') last o w' t') :
  ReturnsInLeavingWide a C os f .any (fun w args=>(s.pre enc C.prog fn conds apart w args∧laidMetH C.prog laid w)∧sizedMet enc C.prog fn (OpenSpec.ofChange s) apart w args) (s.post enc C.prog fn apart fresh handsOn again):=by
 refine returnsInLeavingWide_of_good own started witness ?_
 intro w tape i _ _ _ hok hpre hholds
 obtain ⟨_,_,_,fn',hfn',_,_,_,_,hval⟩:=hok
 have e:fn'=fn:=Option.some.inj (hfn'.symm.trans hfn)
 subst e
 obtain ⟨⟨⟨ds,gs,before,hw,hc⟩,hL⟩,hz⟩:=hpre
 have hw':=DataW.Whole.of_heap (w':=w.forCall tape i) (by rfl) hw
 have hL':=hL.of_heap (w':=w.forCall tape i) (by rfl)
 obtain ⟨M,last,o,w',t',h1,h2,h3,h4⟩:=runs (w.forCall tape i) w.heap.size i.args ds gs before hval hw' (hz.weights hw) hL'
 exact ⟨M,last,o,w',t',h1,h2,h3,h4.mono fun v hp=>ChangeSpec.post_blind hp⟩
theorem ZjC {n0 n1 n2 n3 nm:String} {x0 x1 x2 x3:List UInt8} {r:List (String × DataW Unit)} {W:World} {k0 k1 k2 k3:Nat} {ti tp te ts:TypeId} {ms:Array (String × TypeId)} {f:Field}
  (h:laidMet P ((n0,.iface nm (.ptr (.agg [.lit (.string x0)]))) :: (n1,.iface nm (.ptr (.agg [.lit (.string x1)]))) :: (n2,.iface nm (.ptr (.agg [.lit (.string x2)]))) :: (n3,.iface nm (.ptr (.agg [.lit (.string x3)]))) :: r) W)
  (hg0:P.globalNamed n0=some k0) (hg1:P.globalNamed n1=some k1) (hg2:P.globalNamed n2=some k2) (hg3:P.globalNamed n3=some k3) (hy0:(P.globals[k0]?).map (·.type)=some ti) (hy1:(P.globals[k1]?).map (·.type)=some ti) (hy2:(P.globals[k2]?).map (·.type)=some ti) (hy3:(P.globals[k3]?).map (·.type)=some ti)
  (hi:P.underlying ti=some (.interface ms)) (hrow :∀u,P.typeName? 3 u=some nm→u=tp)
  (hp:P.underlying tp=some (.pointer te)) (he:P.underlying te=some (.struct #[f])) (hft:f.type=ts) (hfo:f.offset=0) (hs:P.underlying ts=some .string) (hc:P.cellsOf te=1) (hcs:P.cellsOf ts=1) :
∃a:Nat→Addr,ErrsB tp [k0,k1,k2,k3] (Zj6 W) a:=by
 obtain ⟨ps,⟨g0,t0,cs0,f0,p0,q0,hg0',ht0',hv0,hd0,⟨g1,t1,cs1,f1,p1,q1,hg1',ht1',hv1,hd1,⟨g2,t2,cs2,f2,p2,q2,hg2',ht2',hv2,hd2,⟨g3,t3,cs3,f3,p3,q3,hg3',ht3',hv3,hd3,_,e3⟩,e2⟩,e1⟩,e0⟩,hnd,hrows⟩:=h
 obtain rfl:=Option.some.inj (hg0.symm.trans hg0')
 obtain rfl:=Option.some.inj (hg1.symm.trans hg1')
 obtain rfl:=Option.some.inj (hg2.symm.trans hg2')
 obtain rfl:=Option.some.inj (hg3.symm.trans hg3')
 obtain rfl:=Option.some.inj (hy0.symm.trans ht0')
 obtain rfl:=Option.some.inj (hy1.symm.trans ht1')
 obtain rfl:=Option.some.inj (hy2.symm.trans ht2')
 obtain rfl:=Option.some.inj (hy3.symm.trans ht3')
 subst e3
 subst e2
 subst e1
 subst e0
 obtain ⟨l0⟩:=cs0
 obtain ⟨l1⟩:=cs1
 obtain ⟨l2⟩:=cs2
 obtain ⟨l3⟩:=cs3
 have ok0 :∀u v,l0=[.iface u v]→Value.okWide P W .any 0 u v:=fun u v e=>by
  subst e
  exact (hrows k0 0 (by simp [MemPlace.row])).2 u v (by simpa using World.var?_cell hg0' hv0 0)
 have ok1 :∀u v,l1=[.iface u v]→Value.okWide P W .any 0 u v:=fun u v e=>by
  subst e
  exact (hrows k1 0 (by simp [MemPlace.row])).2 u v (by simpa using World.var?_cell hg1' hv1 0)
 have ok2 :∀u v,l2=[.iface u v]→Value.okWide P W .any 0 u v:=fun u v e=>by
  subst e
  exact (hrows k2 0 (by simp [MemPlace.row])).2 u v (by simpa using World.var?_cell hg2' hv2 0)
 have ok3 :∀u v,l3=[.iface u v]→Value.okWide P W .any 0 u v:=fun u v e=>by
  subst e
  exact (hrows k3 0 (by simp [MemPlace.row])).2 u v (by simpa using World.var?_cell hg3' hv3 0)
 obtain ⟨a0,s0,rfl,hc0,hs0,hz0,rfl⟩:=errorString_of_trod hi hrow hp he hft hfo hs hc hcs hd0 ok0
 obtain ⟨a1,s1,rfl,hc1,hs1,hz1,rfl⟩:=errorString_of_trod hi hrow hp he hft hfo hs hc hcs hd1 ok1
 obtain ⟨a2,s2,rfl,hc2,hs2,hz2,rfl⟩:=errorString_of_trod hi hrow hp he hft hfo hs hc hcs hd2 ok2
 obtain ⟨a3,s3,rfl,hc3,hs3,hz3,rfl⟩:=errorString_of_trod hi hrow hp he hft hfo hs hc hcs hd3 ok3
 have b0:=(hrows a0.block a0.off (by simp [MemPlace.row])).1
 have b1:=(hrows a1.block a1.off (by simp [MemPlace.row])).1
 have b2:=(hrows a2.block a2.off (by simp [MemPlace.row])).1
 have b3:=(hrows a3.block a3.off (by simp [MemPlace.row])).1
 have row :∀(g:Nat) (v:Value) (n:String),P.globalNamed n=some g→W.var? P n=some #[v]→Zbi (Zj6 W) g 0 [v]:=fun g v n hg hv L j u hj=>by
  cases j with
  | zero=>
   simp only [List.getElem?_cons_zero,Option.some.injEq] at hj
   subst hj
   have:=ZjO (by simpa using World.var?_cell hg hv 0:W.cell? ⟨g,0,none⟩=some v)
   obtain ⟨h1,cs,T,fr,h2,h3⟩:=this
   exact ⟨h1,cs,T,fr,h2.elim .inl (fun h=>by cases h),h3⟩
  | succ j=>simp at hj
 refine ⟨fun k=>if k=0 then a0 else if k=1 then a1 else if k=2 then a2 else a3,fun k hk=>?_,fun k hk=>?_,fun i j hi' hj' hne=>?_⟩
 ·match k,hk with
  | 0,_=>exact row k0 _ _ hg0 hv0
  | 1,_=>exact row k1 _ _ hg1 hv1
  | 2,_=>exact row k2 _ _ hg2 hv2
  | 3,_=>exact row k3 _ _ hg3 hv3
 ·match k,hk with
  | 0,_=>exact b0
  | 1,_=>exact b1
  | 2,_=>exact b2
  | 3,_=>exact b3
 ·have h01:a0≠a1:=by rintro rfl;simp [MemPlace.row] at hnd
  have h02:a0≠a2:=by rintro rfl;simp [MemPlace.row] at hnd
  have h03:a0≠a3:=by rintro rfl;simp [MemPlace.row] at hnd
  have h12:a1≠a2:=by rintro rfl;simp [MemPlace.row] at hnd
  have h13:a1≠a3:=by rintro rfl;simp [MemPlace.row] at hnd
  have h23:a2≠a3:=by rintro rfl;simp [MemPlace.row] at hnd
  match i,j,hi',hj',hne with
  | 0,1,_,_,_=>exact h01
  | 0,2,_,_,_=>exact h02
  | 0,3,_,_,_=>exact h03
  | 1,0,_,_,_=>exact h01.symm
  | 1,2,_,_,_=>exact h12
  | 1,3,_,_,_=>exact h13
  | 2,0,_,_,_=>exact h02.symm
  | 2,1,_,_,_=>exact h12.symm
  | 2,3,_,_,_=>exact h23
  | 3,0,_,_,_=>exact h03.symm
  | 3,1,_,_,_=>exact h13.symm
  | 3,2,_,_,_=>exact h23.symm
  | 0,0,_,_,h=>exact (h rfl).elim
  | 1,1,_,_,h=>exact (h rfl).elim
  | 2,2,_,_,h=>exact (h rfl).elim
  | 3,3,_,_,h=>exact (h rfl).elim
end
theorem ZjP (Lk:Looks) {p:Pinned} {s:OpenSpec} {c:OpenClaim} (kinds:List LaidKind) (tests:Bool) (har:Bool × String) (lk:Bool)
  (hc:c.holds p s) (hw:c.wfByText s=true) (htie:c.laidByTextAt Lk p kinds tests)
  (hst:c.start = .entering) (hnb:c.noBlocks=false∧c.again=false) (hm:p.checked.prog.mainIs=some (har.1,har.2.toList)) (hn:(!har.1 && har.2.isEmpty && !lk)=false)
  (hl :∀f fn,p.checked.prog.funcNamed c.func=some f→p.checked.prog.funcs[f]? = some fn→lk=p.checked.prog.looks []∧∀(j:Nat) t,fn.params[j]? = some t→p.checked.prog.wantsStandIn t=false)
  (hg:true=c.goesBy p.checked.prog) :
  Claim7.holds p (.plain s) { stood:={ row:=c,standIns:=[],harness:=har,looks:=lk },kinds:=[],alts:=[],goes:=true,laidByText:=true,laidKinds:=kinds,laidTests:=tests,laidLooks:=Lk }:=by
 have h6 :∀r:OpenClaim,Claim7.isSixth { stood:={ row:=r,standIns:=[],harness:=har,looks:=lk },kinds:=[] } = false:=fun r=>by simpa [Claim7.isSixth] using hn
 refine ⟨Claim7.tied_new_at Lk kinds tests (Claim7.new_of_sixth hc har lk hst hnb hm (h6 c) hl) hw,(fun D hD=>by cases hD),htie,(fun h=>by cases h),hg⟩
end Go.BL
namespace Go.BL
open Go.Conc (G)
section
variable {P:PJ} {n:Nat} {ops:Array Oper} {i:Nat} {K:Zbl} {S:Env} {D:List Deferred} {B:Kn} {L:List Cells}
variable {dst:Option Tmp} {ty:TypeId} {pos:String} {after:Array Edge} {g:Option (Nat × Bool)}
theorem Zup {f:FuncId} {x:Operand} {cap:Array Value} {xs:List Operand} {vs:List Value} {ats:Array TypeId} {Post:Value→Kn→List Cells→Prop} (js:List Nat) {ss r:List Cells} (hp:Za0 L js=some (ss,r)) (hn:Ze4 js=true) (hg:Zm ops S g=some true) (hd:ZC n dst=true) (he:enters P f=true) (hx:ev S x=some (.func (.func f) #[] cap)) (ha:evs S xs=some vs) (hc:Zv P f (vs ++ cap.toList) B ss Post)
  (h :∀v B' Ls',B.le B'→Post v B' Ls'→K v D B' (ZcS r js Ls')):opX P n ops i ⟨dst,.call ⟨.value x,xs.toArray,ats⟩,ty,pos,after,g⟩ K S D B L:=
 Zet (o:=⟨dst,.call ⟨.value x,xs.toArray,ats⟩,ty,pos,after,g⟩) (vs:=vs ++ cap.toList) hg (fun ρ hρ Q F q=>by
   have:=ZeY (P:=P) (B:=B) (L:=L) (dst:=dst) (ty:=ty) (pos:=pos) (after:=after) (g:=g) (x:=x) (first:=#[]) (cap:=cap) (ats:=ats) he hx ha ρ hρ Q F
   exact this (by simpa using q)) hd (Ls:=ss) (Lk:=r) (ZaC js L ss r hp) hc
  fun v' B' Ls' hle hq=>⟨ZcS r js Ls',Zcr Ls' r js (Zct hn) (fun j hj=>Zcs js L ss r hp j (.inr hj)),h v' B' Ls' hle hq⟩
theorem All3.turn {α:Type} {R:ZjW α} {rows:List (List Value)} {xs:List α} {s:Cells} (h:All3 R rows xs s) {z x:α} {ex:Cells} (f:List Value→List Value) (hf :∀row li,R row x li→∃li' gl,R (f row) z li'∧(li ++ ex).Perm (li' ++ gl)) :∀{k:Nat},xs[k]? = some x→∃row s' gl,rows[k]? = some row∧All3 R (rows.set k (f row)) (xs.set k z) s'∧(s ++ ex).Perm (s' ++ gl):=by
 induction h with
 | nil=>intro k hx;simp at hx
 | @cons row0 x0 ins0 rest rows xs h1 h2 ih=>
  intro k hx
  cases k with
  | zero=>
   simp only [List.getElem?_cons_zero,Option.some.injEq] at hx
   subst hx
   obtain ⟨li',gl,e1,e2⟩:=hf _ _ h1
   refine ⟨row0,li' ++ rest,gl,rfl,.cons e1 h2,?_⟩
   have e3:(ins0 ++ rest ++ ex).Perm ((ins0 ++ ex) ++ rest):=by
    rw [List.append_assoc,List.append_assoc];exact List.Perm.append_left _ List.perm_append_comm
   refine e3.trans ((e2.append_right rest).trans ?_)
   rw [List.append_assoc,List.append_assoc];exact List.Perm.append_left _ List.perm_append_comm
  | succ k=>
   obtain ⟨row,s',gl,e1,e2,e3⟩:=ih (k:=k) (by simpa using hx)
   refine ⟨row,ins0 ++ s',gl,by simpa using e1,.cons h1 e2,?_⟩
   rw [List.append_assoc,List.append_assoc]
   exact List.Perm.append_left ins0 e3
theorem Zv0 {α:Type} {R:ZjW α} {xs:List α} {x0:α} (z:α) {t T:TypeId} {x y:Operand} {v:Value} {us:List Value} {sz k c b:Nat} (off:Nat) {l:Cells} {p:Option Addr} {inss r:List Cells} (j:Nat) (ks:List Nat) (hpk:Za0 L (j :: ks)=some (l :: inss,r)) (hnd:Ze4 (j :: ks)=true) (hv:ZcD l p c T sz R xs) (hp:p=some ⟨b,0,Option.none⟩) (hx0:xs[k]? = some x0) (hg:Zm ops S g=some true) (hd:ZC n dst=true) (hsz:Z8 P t=some us.length)
  (hx:ev S x=some (ptr ⟨b,k*sz+off,Option.none⟩)) (hy:ev S y=some v) (hvc:v.cells=us.toArray) (ho:us.all ZgT=true) (hoff:off+us.length≤sz) (hr :∀row li,R row x0 li→∃li' gl,R (Zav row off us) z li'∧(li ++ inss.flatten).Perm (li' ++ gl))
  (h :∀l',ZcD l' p c T sz R (xs.set k z)→K undef D B (ZcS r (j :: ks) (l' :: inss.map fun _=>[]))):opX P n ops i ⟨dst,.store t x y,ty,pos,after,g⟩ K S D B L:=by
 subst hp
 obtain ⟨rows,blk,ins,h1,h2,h3,hl1,⟨hc,_⟩ | ⟨b',arr,e,ha,ht,rfl,hmc⟩⟩:=hv
 ·cases hc
 ·cases e
  have hk:=(List.getElem?_eq_some_iff.1 hx0).1
  obtain ⟨row,s',gl,hrow,a1,a2⟩:=h1.turn (fun row=>Zav row off us) hr hx0
  have hw:row.length=sz:=h2 row (List.mem_of_getElem? hrow)
  have hsz1:(k+1)*sz≤xs.length*sz:=Nat.mul_le_mul_right sz hk
  have hcs:xs.length*sz≤c*sz:=Nat.mul_le_mul_right sz hmc
  rw [Nat.succ_mul] at hsz1
  have hb1:k*sz+off+us.length≤arr.length:=by omega
  have hpp:=ZaC (j :: ks) L (l :: inss) r hpk
  refine ZuJ (L':=[Zah b arr T ++ ins,inss.flatten ++ r.flatten]) (K':=fun u D' B' L₁=>u=undef∧D'=D∧B'=B∧L₁=[Zah b (Zav arr (k*sz+off) us) T ++ ins,inss.flatten ++ r.flatten]) ?_ ?_ ?_
  ·refine hpp.trans ?_
   simp only [List.flatten_cons,List.flatten_nil,List.append_nil,List.append_assoc]
   refine (h3.append_right _).trans ?_
   rw [List.append_assoc]
  ·exact ZF us 0 (Zav arr (k*sz+off) us) hg hd hsz hx hy hvc ho (T:=T) (r:=ins) rfl rfl (by rw [Nat.ble_eq];exact hb1) rfl ⟨rfl,rfl,rfl,rfl⟩
  ·rintro u D' B' L₁ hle ⟨rfl,rfl,rfl,rfl⟩
   have hnew:ZcD (Zah b (Zav arr (k*sz+off) us) T ++ s') (some ⟨b,0,Option.none⟩) c T sz R (xs.set k z):=by
    have hsl:(Zav row off us).length=sz:=by rw [Zal];exact hw
    have hwide:wide sz (rows.set k (Zav row off us)):=fun r' hr'=>by
     rcases List.mem_or_eq_of_mem_set hr' with hr' | rfl
     ·exact h2 r' hr'
     ·exact hsl
    refine ⟨rows.set k (Zav row off us),_,s',a1,hwide,.refl _,?_,.inr ⟨b,_,rfl,by rw [Zal];exact ha,?_,rfl,by rw [List.length_set];exact hmc⟩⟩
    ·rw [Zc5 hwide,List.length_set,List.length_set,h1.len]
    ·rw [List.length_set]
     have e:=Zhf (us:=us) (off:=off) h2 hrow hoff
     rw [ZiL _ _ _ _ (by omega) (by omega),ht,e]
   refine ⟨_,gl,?_,h _ hnew⟩
   have hq:=Zcr ((Zah b (Zav arr (k*sz+off) us) T ++ s') :: inss.map fun _=>[]) r (j :: ks) (Zct hnd) (fun jj hj=>Zcs (j :: ks) L (l :: inss) r hpk jj (.inr hj))
   have hnil:((inss.map fun _=>([]:Cells))).flatten=[]:=by
    clear hpk hpp hr h a2 hq
    induction inss with
    | nil=>rfl
    | cons a as ih=>simp
   rw [List.flatten_cons,hnil,List.append_nil] at hq
   refine List.Perm.trans ?_ (hq.append_right gl)
   simp only [List.flatten_cons,List.flatten_nil,List.append_nil]
   have e1:(Zah b (Zav arr (k*sz+off) us) T ++ ins ++ (inss.flatten ++ r.flatten)).Perm (Zah b (Zav arr (k*sz+off) us) T ++ ((ins ++ inss.flatten) ++ r.flatten)):=by simp only [List.append_assoc];exact .refl _
   refine (e1.trans (List.Perm.append_left _ (a2.append_right _))).trans ?_
   exact Zma fun f g h0 ha hc=>by simp only [ha];omega
end
theorem Zxj {B:Kn} {ls:List Cells} {b:Nat} {row:List Value} {T:TypeId} (k:Nat) (hk:ls[k]? = some (Zah b row T)) (hm :∀q,q∈ls.flatten→(B.add ls.flatten).mem q.1=some q.2):Zbi (B.add ls.flatten) b 0 row:=ZbY (Zrc hm k hk)
end Go.BL
namespace Go.BL
open Go.Conc (G)
@[reducible] def Zh3 (x:DMail) (v:Value):List Value:=[.int .i64 x.uid,.int .i64 x.flags,str x.text,v]
def Zh7 (Tn:TypeId):Value→List DMail→Cells→Prop
 | v,[],s=>v = .pointer none∧s=[]
 | v,x :: xs,s=>∃b nx rest,v=ptr ⟨b,0,none⟩∧s.Perm (Zah b (Zh3 x nx) Tn ++ rest)∧x.text.length≤2000000∧Zh7 Tn nx xs rest
theorem Zh7.ptr {Tn:TypeId} {v:Value} {xs:List DMail} {s:Cells} (h:Zh7 Tn v xs s) :∃p,v = .pointer p:=by
 cases xs with
 | nil=>exact ⟨none,h.1⟩
 | cons x xs=>obtain ⟨b,nx,rest,rfl,_⟩:=h;exact ⟨_,rfl⟩
theorem Zh7.more {Tn:TypeId} {p:Option Addr} {xs:List DMail} {s:Cells} (h:Zh7 Tn (.pointer p) xs s) (hp:p.isNone=false) :∃y ys b np rest,p=some ⟨b,0,none⟩∧xs=y :: ys∧s.Perm (Zah b (Zh3 y (.pointer np)) Tn ++ [rest].flatten)∧y.text.length≤2000000∧Zh7 Tn (.pointer np) ys rest:=by
 cases xs with
 | nil=>obtain ⟨h1,_⟩:=h;cases h1;cases hp
 | cons x xs=>
  obtain ⟨b,nx,rest,h1,h2,h3,h4⟩:=h
  obtain ⟨np,rfl⟩:=h4.ptr
  cases h1
  exact ⟨x,xs,b,np,rest,rfl,rfl,by simpa using h2,h3,h4⟩
theorem Zh7.done {Tn:TypeId} {p:Option Addr} {xs:List DMail} {s:Cells} (h:Zh7 Tn (.pointer p) xs s) (hp:p.isNone=true):xs=[]:=by
 cases xs with
 | nil=>rfl
 | cons x xs=>obtain ⟨b,nx,rest,h1,_⟩:=h;cases h1;cases hp
def Zlz (Tn:TypeId) (v0:Value) (bl:Nat) (x:DMail) (rest:Cells) (pre:List DMail):Prop:=
∀v xs s,Zh7 Tn v xs s→∃s0,Zh7 Tn v0 (pre ++ xs) s0∧(Zah bl (Zh3 x v) Tn ++ (rest ++ s)).Perm s0
theorem Zlz.init {Tn:TypeId} {b:Nat} {x:DMail} (hx:x.text.length≤2000000):Zlz Tn (Go.BL.ptr ⟨b,0,none⟩) b x [] [x]:=fun v xs s h=>
 ⟨Zah b (Zh3 x v) Tn ++ s,⟨b,v,s,rfl,.refl _,hx,h⟩,by simp⟩
theorem Zlz.step {Tn:TypeId} {v0:Value} {bl b:Nat} {x y:DMail} {rest:Cells} {pre:List DMail} (h:Zlz Tn v0 bl x rest pre) (hy:y.text.length≤2000000) :
  Zlz Tn v0 b y (rest ++ Zah bl (Zh3 x (Go.BL.ptr ⟨b,0,none⟩)) Tn) (pre ++ [y]):=fun v xs s hs=>by
 obtain ⟨s0,h1,h2⟩:=h (Go.BL.ptr ⟨b,0,none⟩) (y :: xs) (Zah b (Zh3 y v) Tn ++ s) ⟨b,v,s,rfl,.refl _,hy,hs⟩
 refine ⟨s0,by simpa using h1,?_⟩
 refine List.Perm.trans ?_ h2
 exact Zma fun f g h0 ha hc=>by simp only [ha];omega
def MLst (TL Tn:TypeId) (b:Nat) (xs:List DMail) (s:Cells):Prop:=
 (xs=[]∧s.Perm (Zah b [.pointer none,.pointer none,.int .i64 0] TL))∨
∃v0 bl x rest,s.Perm (Zah b [v0,ptr ⟨bl,0,none⟩,.int .i64 xs.length] TL ++ [Zah bl (Zh3 x (.pointer none)) Tn,rest].flatten)∧Zlz Tn v0 bl x rest xs
theorem MLst.nil {TL Tn:TypeId} {b:Nat} : MLst TL Tn b [] (Zah b [.pointer none,.pointer none,.int .i64 0] TL):=.inl ⟨rfl,.refl _⟩
theorem MLst.chain {TL Tn:TypeId} {b:Nat} {xs:List DMail} {s:Cells} (h:MLst TL Tn b xs s) :∃p vl s0,s.Perm (Zah b [.pointer p,vl,.int .i64 xs.length] TL ++ [s0].flatten)∧Zh7 Tn (.pointer p) xs s0:=by
 rcases h with ⟨rfl,hp⟩ | ⟨v0,bl,x,rest,hp,hh⟩
 ·exact ⟨none,.pointer none,[],by simpa using hp,rfl,rfl⟩
 ·obtain ⟨s0,h1,h2⟩:=hh (.pointer none) [] [] ⟨rfl,rfl⟩
  rw [List.append_nil] at h1
  obtain ⟨p,rfl⟩:=h1.ptr
  refine ⟨p,_,s0,hp.trans (List.Perm.append_left _ ?_),h1⟩
  simpa using h2
end Go.BL
namespace Go.BL
section
variable {P:PJ} {n:Nat} {ops:Array Oper} {i:Nat} {K:Zbl} {S:Env} {D:List Deferred} {B:Kn} {L:List Cells}
variable {dst:Option Tmp} {ty:TypeId} {pos:String} {after:Array Edge} {g:Option (Nat × Bool)}
theorem Zn5 {x y:Operand} {ats:Array TypeId} {a b:Int} {k k':IntKind} (hg:Zm ops S g=some true) (hd:ZC n dst=true) (hx:ev S x=some (.int k a)) (hy:ev S y=some (.int k' b)) (h:K (.int k (max a b)) D B L):opX P n ops i ⟨dst,.call ⟨.builtin .max,#[x,y],ats⟩,ty,pos,after,g⟩ K S D B L:=
 ZV hg hd (fun ρ hρ Q F q=>by
  have e:(if b > a then b else a)=max a b:=by rw [Int.max_def];split <;> split <;> omega
  simp only [execOp,resolve,Zk,Zr,invoke,builtin,Builtin.max_,List.map_toArray,List.map_cons,List.map_nil,hρ x _ hx,hρ y _ hy,List.foldlM_cons,List.foldlM_nil,Builtin.max2,e]
  exact q) h
theorem Zkc {x y:Operand} {ats:Array TypeId} {a b:Int} {k k':IntKind} (hg:Zm ops S g=some true) (hd:ZC n dst=true) (hx:ev S x=some (.int k a)) (hy:ev S y=some (.int k' b)) (h:K (.int k (min a b)) D B L):opX P n ops i ⟨dst,.call ⟨.builtin .min,#[x,y],ats⟩,ty,pos,after,g⟩ K S D B L:=
 ZV hg hd (fun ρ hρ Q F q=>by
  have e:(if b<a then b else a)=min a b:=by rw [Int.min_def];split <;> split <;> omega
  simp only [execOp,resolve,Zk,Zr,invoke,builtin,Builtin.min_,List.map_toArray,List.map_cons,List.map_nil,hρ x _ hx,hρ y _ hy,List.foldlM_cons,List.foldlM_nil,Builtin.min2,e]
  exact q) h
end
end Go.BL
namespace Go.BL
section
variable {P:PJ} {n:Nat} {ops:Array Oper} {i:Nat} {K:Zbl} {S:Env} {D:List Deferred} {B:Kn} {L:List Cells}
variable {dst:Option Tmp} {ty:TypeId} {pos:String} {after:Array Edge} {g:Option (Nat × Bool)}
variable {α:Type} {R:Rel α} {xs:List α}
theorem ZaQ.own {B:Kn} {L:List Cells} {l:Cells} {p:Option Addr} {m c sz:Nat} {T:TypeId} {vs:List Value} (h:Ziq l p m c T sz vs) (j:Nat) (hj:L[j]? = some l):ZaQ B L.flatten p vs:=by
 obtain ⟨h1,⟨rfl,rfl,rfl,rfl⟩ | ⟨b,arr,rfl,h2,h3,rfl,h4⟩⟩:=h
 ·exact List.eq_nil_of_length_eq_zero (by simpa using h1)
 ·intro k v hk
  have hv':arr[k]? = some v:=by
   rw [← h3,List.getElem?_take] at hk
   split at hk
   ·exact hk
   ·cases hk
  exact ZaQ.box (B:=B) j hj k v hv'
theorem Zwd {t u e:TypeId} {x y:Operand} {sz by_ m c:Nat} {p:Option Addr} {l:Cells} (j:Nat) (hj:L[j]? = some l) (hv:ZY B l p c e sz R xs) (hm:m=xs.length) (hg:Zm ops S g=some true) (hd:ZC n dst=true)
  (he:Zck P t e sz by_=true) (hu:(match P.underlying u with | some (.slice _)=>true | _=>false)=true) (hx:ev S x=some (.slice p m c)) (hy:ev S y=some (.slice p m c)) (hone :∀row y,R B row y→row.all ZgT=true∧row.length=sz) (hb1:(xs.length+xs.length)*by_≤140737488355328)
  (h :∀l' p' c',ZY B l' p' c' e sz R (xs ++ xs)→K (.slice p' (xs ++ xs).length c') D B (L.set j l')):opX P n ops i ⟨dst,.call ⟨.builtin .append,#[x,y],#[t,u]⟩,ty,pos,after,g⟩ K S D B L:=by
 obtain ⟨rows,h1,h2,h3⟩:=id hv
 have ho:rows.flatten.all ZgT=true:=by
  clear h2 h3 hb1 h hv hm
  induction h1 with
  | nil=>rfl
  | cons a b ih=>rw [List.flatten_cons,List.all_append,(hone _ _ a).1,ih];rfl
 exact Zn8 j hj hv hm hg hd he hu hx hy hm (ZaQ.own h3 j hj) ho h2 h1 hb1 h
end
end Go.BL
namespace Go.BL
theorem Zhb {P:PJ} {n:Nat} {Q:Exit→Zao} {S:Env} {D:List Deferred} {B:Kn} {L:List Cells} {c:Code} (L':List Cells) (hl:L=L') (h:wpS P n c Q S D B L'):wpS P n c Q S D B L:=by subst hl;exact h
theorem sQ:(∀(p:Prop) [Decidable p],(decide p=true)=p)∧(∀(p:Prop) [Decidable p],(decide p=false) = ¬p)∧(∀b:Bool,((!b)=true)=(b=false))∧(∀b:Bool,((!b)=false)=(b=true))∧(∀(p:Prop) [Decidable p],(decide (¬p)) = !decide p)∧(∀(p:Prop) [Decidable p],(¬¬p)=p)∧(∀a b:Int,(¬a<b)=(b≤a))∧(∀a b:Int,(¬a≤b)=(b<a)):=
 ⟨fun p _=>by simp,fun p _=>by simp,by simp,by simp,fun p _=>by simp,fun p _=>by simp,by simp,by simp⟩
end Go.BL
namespace Go.BL
section
variable {P:PJ} {n:Nat} {ops:Array Oper} {i:Nat} {K:Zbl} {S:Env} {D:List Deferred} {B:Kn} {L:List Cells}
variable {dst:Option Tmp} {ty:TypeId} {pos:String} {after:Array Edge} {g:Option (Nat × Bool)}
section
variable {t u:TypeId} {x y:Operand} {a b r:Int}
end
end
end Go.BL
namespace Go.BL
theorem om {p:Prop} (h:p:=by first | omega | (simp;done) | (simp;omega)):p:=h
theorem om2 {p:Prop} (h:p:=by first | assumption | omega | (simp;done) | (simp;omega)):p:=h
theorem oz {p:Prop} (h:p:=by omega):p:=h
theorem kr {p:Prop} (h:p:=by kernel_rfl):p:=h
theorem so {p:Prop} (h:p:=by simp only [];omega):p:=h
theorem so2 {p:Prop} (h:p:=by first | omega | (simp only [];omega)):p:=h
theorem oa {p:Prop} (h:p:=by first | assumption | omega):p:=h
theorem oy {p:Prop} (h:p:=by assumption):p:=h
theorem om3 {p:Prop} (h:p:=by first | omega | decide | (simp;done) | (simp;omega)):p:=h
theorem ob {p:Prop} (h:p:=by first | assumption | omega | (simp only [];omega) | (simp only [];assumption) | (simp;done) | (simp;omega)):p:=h
theorem ol {p:Prop} (h:p:=by first | rfl | (simp only [List.length_set];rfl)):p:=h
theorem t1 {α0:Sort _} {a0:α0} : a0=a0∧True:=⟨rfl,trivial⟩
theorem t2 {α0 α1:Sort _} {a0:α0} {a1:α1} : a0=a0∧a1=a1∧True:=⟨rfl,rfl,trivial⟩
theorem t3 {α0 α1 α2:Sort _} {a0:α0} {a1:α1} {a2:α2} : a0=a0∧a1=a1∧a2=a2∧True:=⟨rfl,rfl,rfl,trivial⟩
theorem t4 {α0 α1 α2 α3:Sort _} {a0:α0} {a1:α1} {a2:α2} {a3:α3} : a0=a0∧a1=a1∧a2=a2∧a3=a3∧True:=⟨rfl,rfl,rfl,rfl,trivial⟩
theorem t5 {α0 α1 α2 α3 α4:Sort _} {a0:α0} {a1:α1} {a2:α2} {a3:α3} {a4:α4} : a0=a0∧a1=a1∧a2=a2∧a3=a3∧a4=a4∧True:=⟨rfl,rfl,rfl,rfl,rfl,trivial⟩
theorem t6 {α0 α1 α2 α3 α4 α5:Sort _} {a0:α0} {a1:α1} {a2:α2} {a3:α3} {a4:α4} {a5:α5} : a0=a0∧a1=a1∧a2=a2∧a3=a3∧a4=a4∧a5=a5∧True:=⟨rfl,rfl,rfl,rfl,rfl,rfl,trivial⟩
theorem t7 {α0 α1 α2 α3 α4 α5 α6:Sort _} {a0:α0} {a1:α1} {a2:α2} {a3:α3} {a4:α4} {a5:α5} {a6:α6} : a0=a0∧a1=a1∧a2=a2∧a3=a3∧a4=a4∧a5=a5∧a6=a6∧True:=⟨rfl,rfl,rfl,rfl,rfl,rfl,rfl,trivial⟩
theorem t8 {α0 α1 α2 α3 α4 α5 α6 α7:Sort _} {a0:α0} {a1:α1} {a2:α2} {a3:α3} {a4:α4} {a5:α5} {a6:α6} {a7:α7} : a0=a0∧a1=a1∧a2=a2∧a3=a3∧a4=a4∧a5=a5∧a6=a6∧a7=a7∧True:=⟨rfl,rfl,rfl,rfl,rfl,rfl,rfl,rfl,trivial⟩
theorem t9 {α0 α1 α2 α3 α4 α5 α6 α7 α8:Sort _} {a0:α0} {a1:α1} {a2:α2} {a3:α3} {a4:α4} {a5:α5} {a6:α6} {a7:α7} {a8:α8} : a0=a0∧a1=a1∧a2=a2∧a3=a3∧a4=a4∧a5=a5∧a6=a6∧a7=a7∧a8=a8∧True:=⟨rfl,rfl,rfl,rfl,rfl,rfl,rfl,rfl,rfl,trivial⟩
theorem t10 {α0 α1 α2 α3 α4 α5 α6 α7 α8 α9:Sort _} {a0:α0} {a1:α1} {a2:α2} {a3:α3} {a4:α4} {a5:α5} {a6:α6} {a7:α7} {a8:α8} {a9:α9} : a0=a0∧a1=a1∧a2=a2∧a3=a3∧a4=a4∧a5=a5∧a6=a6∧a7=a7∧a8=a8∧a9=a9∧True:=⟨rfl,rfl,rfl,rfl,rfl,rfl,rfl,rfl,rfl,rfl,trivial⟩
theorem t11 {α0 α1 α2 α3 α4 α5 α6 α7 α8 α9 α10:Sort _} {a0:α0} {a1:α1} {a2:α2} {a3:α3} {a4:α4} {a5:α5} {a6:α6} {a7:α7} {a8:α8} {a9:α9} {a10:α10} : a0=a0∧a1=a1∧a2=a2∧a3=a3∧a4=a4∧a5=a5∧a6=a6∧a7=a7∧a8=a8∧a9=a9∧a10=a10∧True:=⟨rfl,rfl,rfl,rfl,rfl,rfl,rfl,rfl,rfl,rfl,rfl,trivial⟩
theorem t12 {α0 α1 α2 α3 α4 α5 α6 α7 α8 α9 α10 α11:Sort _} {a0:α0} {a1:α1} {a2:α2} {a3:α3} {a4:α4} {a5:α5} {a6:α6} {a7:α7} {a8:α8} {a9:α9} {a10:α10} {a11:α11} : a0=a0∧a1=a1∧a2=a2∧a3=a3∧a4=a4∧a5=a5∧a6=a6∧a7=a7∧a8=a8∧a9=a9∧a10=a10∧a11=a11∧True:=⟨rfl,rfl,rfl,rfl,rfl,rfl,rfl,rfl,rfl,rfl,rfl,rfl,trivial⟩
theorem t17 {α0 α1 α2 α3 α4 α5 α6 α7 α8 α9 α10 α11 α12 α13 α14 α15 α16:Sort _} {a0:α0} {a1:α1} {a2:α2} {a3:α3} {a4:α4} {a5:α5} {a6:α6} {a7:α7} {a8:α8} {a9:α9} {a10:α10} {a11:α11} {a12:α12} {a13:α13} {a14:α14} {a15:α15} {a16:α16} : a0=a0∧a1=a1∧a2=a2∧a3=a3∧a4=a4∧a5=a5∧a6=a6∧a7=a7∧a8=a8∧a9=a9∧a10=a10∧a11=a11∧a12=a12∧a13=a13∧a14=a14∧a15=a15∧a16=a16∧True:=⟨rfl,rfl,rfl,rfl,rfl,rfl,rfl,rfl,rfl,rfl,rfl,rfl,rfl,rfl,rfl,rfl,rfl,trivial⟩
section
variable {P:PJ} {n:Nat} {ops:Array Oper} {i:Nat} {K:Zao} {S:Env} {D:List Deferred} {B:Kn} {L:List Cells}
variable {dst:Option Tmp} {ty:TypeId} {pos:String} {after:Array Edge} {g:Option (Nat × Bool)} {t u:TypeId} {x y:Operand}
theorem xM {x:Operand} {v:Value} (hg:Zm ops S g=some true:=by exact rfl) (hd:ZC n dst=true:=by exact rfl) (hx:ev S x=some v:=by exact rfl) (h:K (ZbW S dst v) D B L):opW P n ops i ⟨dst,.move x,ty,pos,after,g⟩ K S D B L:=Zn (Zqh hg hd hx h)
theorem xA {x:Operand} {v:Value} (hg:Zm ops S g=some true:=by exact rfl) (hd:ZC n dst=true:=by exact rfl) (hx:ev S x=some v:=by exact rfl) (h:K (ZbW S dst v) D B L):opW P n ops i ⟨dst,.assign x,ty,pos,after,g⟩ K S D B L:=Zn (Zn7 hg hd hx h)
theorem xP  {dst:Option Tmp} {op:Op} {t:TypeId} {pos:String} {after:Array Edge} {g:Option (Nat × Bool)}   (hg:Zm ops S g=some false:=by exact rfl) (hd:ZC n dst=true:=by exact rfl) (h:K (ZbW S dst undef) D B L):opW P n ops i ⟨dst,op,t,pos,after,g⟩ K S D B L:=Zn (ZtU  hg hd h)
theorem xT  {c:Operand} {a:Operand} {b:Operand} {v:Value}   (hg:Zm ops S g=some true:=by exact rfl) (hd:ZC n dst=true:=by exact rfl) (hc:ev S c=some (.bool true):=by exact rfl) (hx:ev S a=some v:=by exact rfl) (h:K (ZbW S dst v) D B L):opW P n ops i ⟨dst,.pick c a b,ty,pos,after,g⟩ K S D B L:=Zn (Zqd  hg hd hc hx h)
theorem xF  {c:Operand} {a:Operand} {b:Operand} {v:Value}   (hg:Zm ops S g=some true:=by exact rfl) (hd:ZC n dst=true:=by exact rfl) (hc:ev S c=some (.bool false):=by exact rfl) (hx:ev S b=some v:=by exact rfl) (h:K (ZbW S dst v) D B L):opW P n ops i ⟨dst,.pick c a b,ty,pos,after,g⟩ K S D B L:=Zn (Zqe  hg hd hc hx h)
theorem xE  {x:Operand} {ix:Nat} {vs:List Value} {v:Value}   (hg:Zm ops S g=some true:=by exact rfl) (hd:ZC n dst=true:=by exact rfl) (hx:ev S x=some (.tuple vs.toArray):=by exact rfl) (hi:vs[ix]? = some v:=by exact rfl) (h:K (ZbW S dst v) D B L):opW P n ops i ⟨dst,.extract x ix,ty,pos,after,g⟩ K S D B L:=Zn (Zix  hg hd hx hi h)
theorem xN  {x:Operand} {b:Bool} {t:TypeId}   (hg:Zm ops S g=some true:=by exact rfl) (hd:ZC n dst=true:=by exact rfl) (hx:ev S x=some (.bool b):=by exact rfl) (h:K (ZbW S dst (.bool (!b))) D B L):opW P n ops i ⟨dst,.unOp .not t x,ty,pos,after,g⟩ K S D B L:=Zn (Zv2  hg hd hx h)
theorem xW  {s:TypeId} {x:Operand} {fi:Nat} {off:Nat} {a:Addr}  (hf:ZP P s fi=some off) (hg:Zm ops S g=some true:=by exact rfl) (hd:ZC n dst=true:=by exact rfl) (hx:ev S x=some (ptr a):=by exact rfl) (h:K (ZbW S dst (ptr (a.add off))) D B L):opW P n ops i ⟨dst,.fieldAddr s x fi,ty,pos,after,g⟩ K S D B L:=Zn (ZeN  hg hd hf hx h)
theorem xD  {k:IntKind} {a b r:Int}   (hg:Zm ops S g=some true:=by exact rfl) (hd:ZC n dst=true:=by exact rfl) (hx:ev S x=some (.int k a):=by exact rfl) (hy:ev S y=some (.int k b):=by exact rfl) (hr:k.wrap (a+b)=r:=by first | exact Za9 (by first | omega | (simp;done) | (simp;omega)) (by first | omega | (simp;done) | (simp;omega)) | exact rfl) (h:K (ZbW S dst (.int k r)) D B L):opW P n ops i ⟨dst,.binOp .add t x y u,ty,pos,after,g⟩ K S D B L:=Zn (Zfa  hg hd hx hy hr h)
theorem xU  {k:IntKind} {a b r:Int}   (hg:Zm ops S g=some true:=by exact rfl) (hd:ZC n dst=true:=by exact rfl) (hx:ev S x=some (.int k a):=by exact rfl) (hy:ev S y=some (.int k b):=by exact rfl) (hr:k.wrap (a - b)=r:=by first | exact Za9 (by first | omega | (simp;done) | (simp;omega)) (by first | omega | (simp;done) | (simp;omega)) | exact rfl) (h:K (ZbW S dst (.int k r)) D B L):opW P n ops i ⟨dst,.binOp .sub t x y u,ty,pos,after,g⟩ K S D B L:=Zn (ZjX  hg hd hx hy hr h)
theorem xY  {k:IntKind} {a b r:Int}   (hg:Zm ops S g=some true:=by exact rfl) (hd:ZC n dst=true:=by exact rfl) (hx:ev S x=some (.int k a):=by exact rfl) (hy:ev S y=some (.int k b):=by exact rfl) (hr:k.wrap (a*b)=r:=by first | exact Za9 (by first | omega | (simp;done) | (simp;omega)) (by first | omega | (simp;done) | (simp;omega)) | exact rfl) (h:K (ZbW S dst (.int k r)) D B L):opW P n ops i ⟨dst,.binOp .mul t x y u,ty,pos,after,g⟩ K S D B L:=Zn (ZlF  hg hd hx hy hr h)
theorem Zaf  {k:IntKind} {a b:Int}   (hg:Zm ops S g=some true:=by exact rfl) (hd:ZC n dst=true:=by exact rfl) (hx:ev S x=some (.int k a):=by exact rfl) (hy:ev S y=some (.int k b):=by exact rfl) (h:K (ZbW S dst (.bool (decide (a<b)))) D B L):opW P n ops i ⟨dst,.binOp .lss t x y u,ty,pos,after,g⟩ K S D B L:=Zn (Zv4  hg hd hx hy h)
theorem ZcU  {k:IntKind} {a b:Int}   (hg:Zm ops S g=some true:=by exact rfl) (hd:ZC n dst=true:=by exact rfl) (hx:ev S x=some (.int k a):=by exact rfl) (hy:ev S y=some (.int k b):=by exact rfl) (h:K (ZbW S dst (.bool (decide (a≤b)))) D B L):opW P n ops i ⟨dst,.binOp .leq t x y u,ty,pos,after,g⟩ K S D B L:=Zn (Zv5  hg hd hx hy h)
theorem Zbp  {k:IntKind} {a b:Int}   (hg:Zm ops S g=some true:=by exact rfl) (hd:ZC n dst=true:=by exact rfl) (hx:ev S x=some (.int k a):=by exact rfl) (hy:ev S y=some (.int k b):=by exact rfl) (h:K (ZbW S dst (.bool (decide (b<a)))) D B L):opW P n ops i ⟨dst,.binOp .gtr t x y u,ty,pos,after,g⟩ K S D B L:=Zn (Zv8  hg hd hx hy h)
theorem Zeo  {k:IntKind} {a b:Int}   (hg:Zm ops S g=some true:=by exact rfl) (hd:ZC n dst=true:=by exact rfl) (hx:ev S x=some (.int k a):=by exact rfl) (hy:ev S y=some (.int k b):=by exact rfl) (h:K (ZbW S dst (.bool (decide (b≤a)))) D B L):opW P n ops i ⟨dst,.binOp .geq t x y u,ty,pos,after,g⟩ K S D B L:=Zn (Zv9  hg hd hx hy h)
theorem ZE  {k:IntKind} {a b:Int}   (hg:Zm ops S g=some true:=by exact rfl) (hd:ZC n dst=true:=by exact rfl) (hx:ev S x=some (.int k a):=by exact rfl) (hy:ev S y=some (.int k b):=by exact rfl) (h:K (ZbW S dst (.bool (decide (a=b)))) D B L):opW P n ops i ⟨dst,.binOp .eql t x y u,ty,pos,after,g⟩ K S D B L:=Zn (Zt1  hg hd hx hy h)
theorem Zbm  {k:IntKind} {a b:Int}   (hg:Zm ops S g=some true:=by exact rfl) (hd:ZC n dst=true:=by exact rfl) (hx:ev S x=some (.int k a):=by exact rfl) (hy:ev S y=some (.int k b):=by exact rfl) (h:K (ZbW S dst (.bool (decide (a≠b)))) D B L):opW P n ops i ⟨dst,.binOp .neq t x y u,ty,pos,after,g⟩ K S D B L:=Zn (ZtX  hg hd hx hy h)
theorem ZdG  {a b:List UInt8}   (hg:Zm ops S g=some true:=by exact rfl) (hd:ZC n dst=true:=by exact rfl) (hx:ev S x=some (str a):=by exact rfl) (hy:ev S y=some (str b):=by exact rfl) (h:K (ZbW S dst (.bool (decide (a=b)))) D B L):opW P n ops i ⟨dst,.binOp .eql t x y u,ty,pos,after,g⟩ K S D B L:=Zn (Zt0  hg hd hx hy h)
theorem ZhE  {a b:List UInt8}   (hg:Zm ops S g=some true:=by exact rfl) (hd:ZC n dst=true:=by exact rfl) (hx:ev S x=some (str a):=by exact rfl) (hy:ev S y=some (str b):=by exact rfl) (h:K (ZbW S dst (.bool (decide (a≠b)))) D B L):opW P n ops i ⟨dst,.binOp .neq t x y u,ty,pos,after,g⟩ K S D B L:=Zn (ZtW  hg hd hx hy h)
theorem ZtQ  {a b:List UInt8}   (hg:Zm ops S g=some true:=by exact rfl) (hd:ZC n dst=true:=by exact rfl) (hx:ev S x=some (str a):=by exact rfl) (hy:ev S y=some (str b):=by exact rfl) (h:K (ZbW S dst (.bool (Op.bytesLess a b))) D B L):opW P n ops i ⟨dst,.binOp .lss t x y u,ty,pos,after,g⟩ K S D B L:=Zn (Zv3  hg hd hx hy h)
theorem ZvX  {a b:List UInt8}   (hg:Zm ops S g=some true:=by exact rfl) (hd:ZC n dst=true:=by exact rfl) (hx:ev S x=some (str a):=by exact rfl) (hy:ev S y=some (str b):=by exact rfl) (h:K (ZbW S dst (.bool (!Op.bytesLess a b))) D B L):opW P n ops i ⟨dst,.binOp .geq t x y u,ty,pos,after,g⟩ K S D B L:=Zn (Zqk  hg hd hx hy h)
theorem xV  {x:Operand} {t:TypeId} {e:TypeId} {p:Option Addr} {len:Nat} {cap:Nat}  (hu:P.underlying t=some (.slice e)) (hg:Zm ops S g=some true:=by exact rfl) (hd:ZC n dst=true:=by exact rfl) (hx:ev S x=some (.slice p len cap):=by exact rfl) (h:K (ZbW S dst (.int .i64 len)) D B L):opW P n ops i ⟨dst,.call ⟨.builtin .len,#[x],#[t]⟩,ty,pos,after,g⟩ K S D B L:=Zn (ZtZ  hg hd hu hx h)
theorem xVs  {x:Operand} {t:TypeId} {l:List UInt8}  (hu:P.underlying t=some .string) (hg:Zm ops S g=some true:=by exact rfl) (hd:ZC n dst=true:=by exact rfl) (hx:ev S x=some (str l):=by exact rfl) (h:K (ZbW S dst (.int .i64 l.length)) D B L):opW P n ops i ⟨dst,.call ⟨.builtin .len,#[x],#[t]⟩,ty,pos,after,g⟩ K S D B L:=Zn (Zn6  hg hd hu hx h)
theorem xNc  {x:Operand} {a:Addr}   (hg:Zm ops S g=some true:=by exact rfl) (hd:ZC n dst=true:=by exact rfl) (hx:ev S x=some (.pointer (some a)):=by exact rfl) (h:K (ZbW S dst (.pointer (some a))) D B L):opW P n ops i ⟨dst,.nilCheck x,ty,pos,after,g⟩ K S D B L:=Zn (Zkb  hg hd hx h)
theorem x1  {t:TypeId} {x:Operand} {a:Addr} {v:Value} {l:List Value} {T:TypeId} {fr:Nat × Nat} {r:Cells}  (hl:lk P t=some none) (j:Nat) (hg:Zm ops S g=some true:=by exact rfl) (hd:ZC n dst=true:=by exact rfl) (hx:ev S x=some (ptr a):=by exact rfl) (hj:L[j]? = some ((a.block,.cells l.toArray T fr) :: r):=by exact rfl) (hs:a.spot=none:=by exact rfl) (hv:l[a.off]? = some v:=by exact rfl) (h:K (ZbW S dst v) D B L):opW P n ops i ⟨dst,.load t x,ty,pos,after,g⟩ K S D B L:=Zn (Zf  hg hd hl hx (atL j hj hs hv) h)
theorem xL  {t:TypeId} {x:Operand} {a:Addr} {l:List Value} {T:TypeId} {fr:Nat × Nat} {r:Cells}  (vs:List Value) (hl:lk P t=some (some vs.length)) (j:Nat) (hg:Zm ops S g=some true:=by exact rfl) (hd:ZC n dst=true:=by exact rfl) (hx:ev S x=some (ptr a):=by exact rfl) (hj:L[j]? = some ((a.block,.cells l.toArray T fr) :: r):=by exact rfl) (hs:a.spot=none:=by exact rfl) (hv:(l.drop a.off).take vs.length=vs:=by exact rfl) (h:K (ZbW S dst (.agg vs.toArray)) D B L):opW P n ops i ⟨dst,.load t x,ty,pos,after,g⟩ K S D B L:=Zn (ZT  vs hg hd hl hx (Z9 j hj hs hv) h)
theorem y1  {t:TypeId} {x:Operand} {a:Addr} {v:Value} {b o:Nat} {row:List Value}  (hl:lk P t=some none) (hc:Zbi B b o row) (off:Nat) (hg:Zm ops S g=some true:=by exact rfl) (hd:ZC n dst=true:=by exact rfl) (hx:ev S x=some (ptr a):=by exact rfl) (ha:a=⟨b,o+off,none⟩:=by exact rfl) (hv:row[off]? = some v:=by exact rfl) (h:K (ZbW S dst v) D B L):opW P n ops i ⟨dst,.load t x,ty,pos,after,g⟩ K S D B L:=Zn (Zf  hg hd hl hx (by subst ha;exact hc _ off _ hv) h)
theorem yL  {t:TypeId} {x:Operand} {a:Addr} {b o:Nat} {row:List Value}  (vs:List Value) (hl:lk P t=some (some vs.length)) (hc:Zbi B b o row) (off:Nat) (hg:Zm ops S g=some true:=by exact rfl) (hd:ZC n dst=true:=by exact rfl) (hx:ev S x=some (ptr a):=by exact rfl) (ha:a=⟨b,o+off,none⟩:=by exact rfl) (hv:(row.drop off).take vs.length=vs:=by exact rfl) (h:K (ZbW S dst (.agg vs.toArray)) D B L):opW P n ops i ⟨dst,.load t x,ty,pos,after,g⟩ K S D B L:=Zn (ZT  vs hg hd hl hx (ZiO hc off ha hv) h)
theorem xS  {t:TypeId} {x:Operand} {y:Operand} {a:Addr} {v:Value} {l:List Value} {T:TypeId} {r:Cells}  (vs:List Value) (j:Nat) (l':List Value) (hsz:Z8 P t=some vs.length) (hg:Zm ops S g=some true:=by exact rfl) (hd:ZC n dst=true:=by exact rfl) (hx:ev S x=some (ptr a):=by exact rfl) (hy:ev S y=some v:=by exact rfl) (hv:v.cells=vs.toArray:=by exact rfl) (ho:vs.all ZgT=true:=by exact rfl) (hj:L[j]? = some ((a.block,.cells l.toArray T (0,0)) :: r):=by exact rfl) (hs:a.spot=none:=by exact rfl) (hlen:Nat.ble (a.off+vs.length) l.length=true:=by exact rfl) (hl':Zav l a.off vs=l':=by exact rfl) (h:K (ZbW S dst undef) D B (L.set j ((a.block,.cells l'.toArray T (0,0)) :: r))):opW P n ops i ⟨dst,.store t x y,ty,pos,after,g⟩ K S D B L:=Zn (ZF  vs j l' hg hd hsz hx hy hv ho hj hs hlen hl' h)
theorem xB  {t:TypeId} {z:Value} {pl:List (Nat × Nat)} {vs:List Value} (parts:List (Nat × Operand)) (zl l':List Value) (hpl:Za5 P t=some pl) (hz:ZaB P t=some z) (hg:Zm ops S g=some true:=by exact rfl) (hd:ZC n dst=true:=by exact rfl) (hzl:z.cells.toList=zl:=by exact rfl) (ha:evs S (parts.map (·.2))=some vs:=by exact rfl) (hf:Zj4 (fun i=>pl[i]?) zl ((parts.map (·.1)).zip vs)=some l':=by exact rfl) (h:K (ZbW S dst (.agg l'.toArray)) D B L):opW P n ops i ⟨dst,.build t parts.toArray,ty,pos,after,g⟩ K S D B L:=Zn (ZaG (parts:=parts) zl l' hg hd hpl hz hzl ha hf h)
theorem xAl  {t:TypeId} {z:Value} (l:List Value) (hz:ZaB P t=some z) (hg:Zm ops S g=some true:=by exact rfl) (hd:ZC n dst=true:=by exact rfl) (hl:z.cells=l.toArray:=by exact rfl) (h :∀b,K (ZbW S dst (ptr ⟨b,0,none⟩)) D B (L ++ [Zah b l t])):opW P n ops i ⟨dst,.alloc t,ty,pos,after,g⟩ K S D B L:=Zn (Zai (l:=l) hg hd hz hl h)
theorem xBx  {t:TypeId} {x:Operand} {v:Value} (l:List Value)  (hg:Zm ops S g=some true:=by exact rfl) (hd:ZC n dst=true:=by exact rfl) (hx:ev S x=some v:=by exact rfl) (hl:v.cells=l.toArray:=by exact rfl) (h :∀b,K (ZbW S dst (ptr ⟨b,0,none⟩)) D B (L ++ [Zah b l t])):opW P n ops i ⟨dst,.box t x,ty,pos,after,g⟩ K S D B L:=Zn (Zwc (l:=l) hg hd hx hl h)
theorem xIx  {t:TypeId} {e:TypeId} {x:Operand} {y:Operand} {k:IntKind} {b:Nat} {o:Nat} {len:Nat} {cap:Nat} {sz:Nat} {ix:Int}  (hu:P.underlying t=some (.slice e)) (hsz:Z8 P e=some sz) (hg:Zm ops S g=some true:=by exact rfl) (hd:ZC n dst=true:=by exact rfl) (hx:ev S x=some (.slice (some ⟨b,o,none⟩) len cap):=by exact rfl) (hy:ev S y=some (.int k ix):=by exact rfl) (h0:0≤ix:=by first | omega | (simp;done) | (simp;omega)) (h1:ix<len:=by first | omega | (simp;done) | (simp;omega)) (h:K (ZbW S dst (ptr ⟨b,o+ix.toNat*sz,none⟩)) D B L):opW P n ops i ⟨dst,.indexAddr t x y,ty,pos,after,g⟩ K S D B L:=Zn (Zv6  hg hd hu hsz hx hy h0 h1 h)
theorem xIp  {t:TypeId} {e:TypeId} {x:Operand} {y:Operand} {k:IntKind} {p:Option Addr} {b:Nat} {len:Nat} {cap:Nat} {sz:Nat} {ix:Int}  (hp:p=some ⟨b,0,none⟩) (hu:P.underlying t=some (.slice e)) (hsz:Z8 P e=some sz) (hg:Zm ops S g=some true:=by exact rfl) (hd:ZC n dst=true:=by exact rfl) (hx:ev S x=some (.slice p len cap):=by exact rfl) (hy:ev S y=some (.int k ix):=by exact rfl) (h0:0≤ix:=by first | omega | (simp;done) | (simp;omega)) (h1:ix<len:=by first | omega | (simp;done) | (simp;omega)) (h:K (ZbW S dst (ptr ⟨b,ix.toNat*sz,none⟩)) D B L):opW P n ops i ⟨dst,.indexAddr t x y,ty,pos,after,g⟩ K S D B L:=Zn (Zf1  hp hg hd hu hsz hx hy h0 h1 h)
theorem xX  {f:FuncId} {xs:List Operand} {vs:List Value} {ats:Array TypeId} {Q:Value→Cells→Prop} {s:Cells}  (j:Nat) (hj:L[j]? = some s) (he:enters P f=true) (ha:evs S xs=some vs) (hc:Ex1 P f vs B s Q) (hg:Zm ops S g=some true:=by exact rfl) (hd:ZC n dst=true:=by exact rfl) (h :∀v s',Q v s'→K (ZbW S dst v) D B (L.set j s')):opW P n ops i ⟨dst,.call ⟨.value (.func f),xs.toArray,ats⟩,ty,pos,after,g⟩ K S D B L:=Zn (ZbD  j hj hg hd he ha hc h)
theorem xR  {f:FuncId} {xs:List Operand} {vs:List Value} {ats:Array TypeId} {v:Value}  (he:enters P f=true) (ha:evs S xs=some vs) (hc:ZaM P f vs B v) (hg:Zm ops S g=some true:=by exact rfl) (hd:ZC n dst=true:=by exact rfl) (h:K (ZbW S dst v) D B L):opW P n ops i ⟨dst,.call ⟨.value (.func f),xs.toArray,ats⟩,ty,pos,after,g⟩ K S D B L:=Zn (Zbc  hg hd he ha hc h)
theorem xC  {f:FuncId} {xs:List Operand} {vs:List Value} {ats:Array TypeId} {Post:Value→Kn→List Cells→Prop}  (he:enters P f=true) (ha:evs S xs=some vs) (hc:Zv P f vs B [] Post) (hg:Zm ops S g=some true:=by exact rfl) (hd:ZC n dst=true:=by exact rfl) (h :∀v B' Ls',B.le B'→Post v B' Ls'→K (ZbW S dst v) D B' (L ++ Ls')):opW P n ops i ⟨dst,.call ⟨.value (.func f),xs.toArray,ats⟩,ty,pos,after,g⟩ K S D B L:=Zn (Zbs  hg hd he ha hc h)
theorem xQ  {f:FuncId} {xs:List Operand} {vs:List Value} {ats:Array TypeId} {Post:Value→Kn→Prop}  (he:enters P f=true) (ha:evs S xs=some vs) (hc:Zv P f vs B [] (fun v B' Ls=>Ls=[]∧Post v B')) (hg:Zm ops S g=some true:=by exact rfl) (hd:ZC n dst=true:=by exact rfl) (h :∀v B',B.le B'→Post v B'→K (ZbW S dst v) D B' L):opW P n ops i ⟨dst,.call ⟨.value (.func f),xs.toArray,ats⟩,ty,pos,after,g⟩ K S D B L:=Zn (Zef  hg hd he ha hc h)
theorem xK  {f:FuncId} {xs:List Operand} {vs:List Value} {ats:Array TypeId} {Post:Value→Kn→List Cells→Prop} {ss:List Cells} {r:List Cells}  (js:List Nat) (hp:Za0 L js=some (ss,r)) (he:enters P f=true) (ha:evs S xs=some vs) (hc:Zv P f vs B ss Post) (hn:Ze4 js=true:=by exact rfl) (hg:Zm ops S g=some true:=by exact rfl) (hd:ZC n dst=true:=by exact rfl) (h :∀v B' Ls',B.le B'→Post v B' Ls'→K (ZbW S dst v) D B' (ZcS r js Ls')):opW P n ops i ⟨dst,.call ⟨.value (.func f),xs.toArray,ats⟩,ty,pos,after,g⟩ K S D B L:=Zn (Zax  js hp hn hg hd he ha hc h)
theorem xBs  {t:TypeId} {e:TypeId} {len:Nat} {sz:Nat} {z:Value} {vs:List Value} (parts:List (Nat × Operand)) (l':List Value) (hu:P.underlying t=some (.slice e)) (hsz:Z8 P e=some sz) (hz:ZaB P e=some z) (hg:Zm ops S g=some true:=by exact rfl) (hd:ZC n dst=true:=by exact rfl) (hbig:Nat.ble (len*sz) 1024=true:=by exact rfl) (hidx:parts.map (·.1)=List.range len:=by exact rfl) (ha:evs S (parts.map (·.2))=some vs:=by exact rfl) (hall:vs.all (fun v=>Nat.beq v.cells.toList.length sz)=true:=by exact rfl) (hl':(vs.map fun v=>v.cells.toList).flatten=l':=by exact rfl) (h :∀b,K (ZbW S dst (.slice (some ⟨b,0,none⟩) len len)) D B (L ++ [Zah b l' e])):opW P n ops i ⟨dst,.buildSlice t len parts.toArray,ty,pos,after,g⟩ K S D B L:=Zn (Zu (parts:=parts) l' hg hd hu hsz hz hbig hidx ha hall hl' h)
end
section
variable {P:PJ} {n:Nat} {ops:Array Oper} {K:Zao} {S:Env} {D:List Deferred} {B:Kn} {L:List Cells}
variable {dst:Option Tmp} {ty:TypeId} {pos:String} {after:Array Edge} {g:Option (Nat × Bool)} {t u:TypeId} {x y:Operand}
theorem aT {C:Cx P} {k':List Item} {I:Kn→List Cells→Prop} {ℓ:List Nat} (i:Nat) {o:Oper} {v:Value} (hi:ops[i]? = some o) (hq:quiet P n ops I i o v (sel (o.looksAt ops) S)) (hr:(Zbd ops ℓ).contains i=true:=by kernel_rfl) (hd:ZC n o.dst=true:=by exact rfl) (hp:Zky o=false:=by rfl) (h:ZbV C k' n ops I (i :: ℓ) K (ZbW S o.dst v) D B L):ZbV C k' n ops I ℓ K S D B L:=ZtI i hi hr hd hq h hp
theorem r4 {α β γ δ:Type} {a:α} {b:β} {c:γ} {d:δ} : a=a∧b=b∧c=c∧d=d:=⟨rfl,rfl,rfl,rfl⟩
variable {C:Cx P} {k':List Item} {I:Kn→List Cells→Prop} {ℓ:List Nat}
theorem aM  {x:Operand} {v:Value} (i:Nat) (hii:ops[i]? = some ⟨dst,.move x,ty,pos,after,g⟩)  (hrr:(Zbd ops ℓ).contains i=true:=by kernel_rfl) (hdd:ZC n dst=true:=by exact rfl) (hg:Zm ops (sel ((⟨dst,.move x,ty,pos,after,g⟩:Oper).looksAt ops) S) g=some true:=by exact rfl) (hd:ZC n dst=true:=by exact rfl) (hx:ev (sel ((⟨dst,.move x,ty,pos,after,g⟩:Oper).looksAt ops) S) x=some v:=by exact rfl) (h:ZbV C k' n ops I (i :: ℓ) K (ZbW S dst v) D B L):ZbV C k' n ops I ℓ K S D B L:=ZaA i hii hrr hdd (fun _ _ _=>Zqh hg hd hx ⟨rfl,rfl,rfl,rfl⟩) h
theorem aA  {x:Operand} {v:Value} (i:Nat) (hii:ops[i]? = some ⟨dst,.assign x,ty,pos,after,g⟩)  (hrr:(Zbd ops ℓ).contains i=true:=by kernel_rfl) (hdd:ZC n dst=true:=by exact rfl) (hg:Zm ops (sel ((⟨dst,.assign x,ty,pos,after,g⟩:Oper).looksAt ops) S) g=some true:=by exact rfl) (hd:ZC n dst=true:=by exact rfl) (hx:ev (sel ((⟨dst,.assign x,ty,pos,after,g⟩:Oper).looksAt ops) S) x=some v:=by exact rfl) (h:ZbV C k' n ops I (i :: ℓ) K (ZbW S dst v) D B L):ZbV C k' n ops I ℓ K S D B L:=ZaA i hii hrr hdd (fun _ _ _=>Zn7 hg hd hx ⟨rfl,rfl,rfl,rfl⟩) h
theorem aZ  {dst:Option Tmp} {op:Op} {t:TypeId} {pos:String} {after:Array Edge} {g:Option (Nat × Bool)} (i:Nat) (hii:ops[i]? = some ⟨dst,op,t,pos,after,g⟩)  (hrr:(Zbd ops ℓ).contains i=true:=by kernel_rfl) (hdd:ZC n dst=true:=by exact rfl) (hg:Zm ops (sel ((⟨dst,op,t,pos,after,g⟩:Oper).looksAt ops) S) g=some false:=by exact rfl) (hd:ZC n dst=true:=by exact rfl) (h:ZbV C k' n ops I (i :: ℓ) K (ZbW S dst undef) D B L):ZbV C k' n ops I ℓ K S D B L:=ZaA i hii hrr hdd (fun _ _ _=>ZtU hg hd ⟨rfl,rfl,rfl,rfl⟩) h
theorem aPT  {c:Operand} {a:Operand} {b:Operand} {v:Value} (i:Nat) (hii:ops[i]? = some ⟨dst,.pick c a b,ty,pos,after,g⟩)  (hrr:(Zbd ops ℓ).contains i=true:=by kernel_rfl) (hdd:ZC n dst=true:=by exact rfl) (hg:Zm ops (sel ((⟨dst,.pick c a b,ty,pos,after,g⟩:Oper).looksAt ops) S) g=some true:=by exact rfl) (hd:ZC n dst=true:=by exact rfl) (hc:ev (sel ((⟨dst,.pick c a b,ty,pos,after,g⟩:Oper).looksAt ops) S) c=some (.bool true):=by exact rfl) (hx:ev (sel ((⟨dst,.pick c a b,ty,pos,after,g⟩:Oper).looksAt ops) S) a=some v:=by exact rfl) (h:ZbV C k' n ops I (i :: ℓ) K (ZbW S dst v) D B L):ZbV C k' n ops I ℓ K S D B L:=ZaA i hii hrr hdd (fun _ _ _=>Zqd hg hd hc hx ⟨rfl,rfl,rfl,rfl⟩) h
theorem aPF  {c:Operand} {a:Operand} {b:Operand} {v:Value} (i:Nat) (hii:ops[i]? = some ⟨dst,.pick c a b,ty,pos,after,g⟩)  (hrr:(Zbd ops ℓ).contains i=true:=by kernel_rfl) (hdd:ZC n dst=true:=by exact rfl) (hg:Zm ops (sel ((⟨dst,.pick c a b,ty,pos,after,g⟩:Oper).looksAt ops) S) g=some true:=by exact rfl) (hd:ZC n dst=true:=by exact rfl) (hc:ev (sel ((⟨dst,.pick c a b,ty,pos,after,g⟩:Oper).looksAt ops) S) c=some (.bool false):=by exact rfl) (hx:ev (sel ((⟨dst,.pick c a b,ty,pos,after,g⟩:Oper).looksAt ops) S) b=some v:=by exact rfl) (h:ZbV C k' n ops I (i :: ℓ) K (ZbW S dst v) D B L):ZbV C k' n ops I ℓ K S D B L:=ZaA i hii hrr hdd (fun _ _ _=>Zqe hg hd hc hx ⟨rfl,rfl,rfl,rfl⟩) h
theorem aE  {x:Operand} {ix:Nat} {vs:List Value} {v:Value} (i:Nat) (hii:ops[i]? = some ⟨dst,.extract x ix,ty,pos,after,g⟩)  (hrr:(Zbd ops ℓ).contains i=true:=by kernel_rfl) (hdd:ZC n dst=true:=by exact rfl) (hg:Zm ops (sel ((⟨dst,.extract x ix,ty,pos,after,g⟩:Oper).looksAt ops) S) g=some true:=by exact rfl) (hd:ZC n dst=true:=by exact rfl) (hx:ev (sel ((⟨dst,.extract x ix,ty,pos,after,g⟩:Oper).looksAt ops) S) x=some (.tuple vs.toArray):=by exact rfl) (hi:vs[ix]? = some v:=by exact rfl) (h:ZbV C k' n ops I (i :: ℓ) K (ZbW S dst v) D B L):ZbV C k' n ops I ℓ K S D B L:=ZaA i hii hrr hdd (fun _ _ _=>Zix hg hd hx hi ⟨rfl,rfl,rfl,rfl⟩) h
theorem aW  {s:TypeId} {x:Operand} {fi:Nat} {off:Nat} {a:Addr} (i:Nat) (hii:ops[i]? = some ⟨dst,.fieldAddr s x fi,ty,pos,after,g⟩) (hf:ZP P s fi=some off) (hrr:(Zbd ops ℓ).contains i=true:=by kernel_rfl) (hdd:ZC n dst=true:=by exact rfl) (hg:Zm ops (sel ((⟨dst,.fieldAddr s x fi,ty,pos,after,g⟩:Oper).looksAt ops) S) g=some true:=by exact rfl) (hd:ZC n dst=true:=by exact rfl) (hx:ev (sel ((⟨dst,.fieldAddr s x fi,ty,pos,after,g⟩:Oper).looksAt ops) S) x=some (ptr a):=by exact rfl) (h:ZbV C k' n ops I (i :: ℓ) K (ZbW S dst (ptr (a.add off))) D B L):ZbV C k' n ops I ℓ K S D B L:=ZaA i hii hrr hdd (fun _ _ _=>ZeN hg hd hf hx ⟨rfl,rfl,rfl,rfl⟩) h
theorem aN  {x:Operand} {b:Bool} {t:TypeId} (i:Nat) (hii:ops[i]? = some ⟨dst,.unOp .not t x,ty,pos,after,g⟩)  (hrr:(Zbd ops ℓ).contains i=true:=by kernel_rfl) (hdd:ZC n dst=true:=by exact rfl) (hg:Zm ops (sel ((⟨dst,.unOp .not t x,ty,pos,after,g⟩:Oper).looksAt ops) S) g=some true:=by exact rfl) (hd:ZC n dst=true:=by exact rfl) (hx:ev (sel ((⟨dst,.unOp .not t x,ty,pos,after,g⟩:Oper).looksAt ops) S) x=some (.bool b):=by exact rfl) (h:ZbV C k' n ops I (i :: ℓ) K (ZbW S dst (.bool (!b))) D B L):ZbV C k' n ops I ℓ K S D B L:=ZaA i hii hrr hdd (fun _ _ _=>Zv2 hg hd hx ⟨rfl,rfl,rfl,rfl⟩) h
theorem aNc  {x:Operand} {a:Addr} (i:Nat) (hii:ops[i]? = some ⟨dst,.nilCheck x,ty,pos,after,g⟩)  (hrr:(Zbd ops ℓ).contains i=true:=by kernel_rfl) (hdd:ZC n dst=true:=by exact rfl) (hg:Zm ops (sel ((⟨dst,.nilCheck x,ty,pos,after,g⟩:Oper).looksAt ops) S) g=some true:=by exact rfl) (hd:ZC n dst=true:=by exact rfl) (hx:ev (sel ((⟨dst,.nilCheck x,ty,pos,after,g⟩:Oper).looksAt ops) S) x=some (.pointer (some a)):=by exact rfl) (h:ZbV C k' n ops I (i :: ℓ) K (ZbW S dst (.pointer (some a))) D B L):ZbV C k' n ops I ℓ K S D B L:=ZaA i hii hrr hdd (fun _ _ _=>Zkb hg hd hx ⟨rfl,rfl,rfl,rfl⟩) h
theorem aV  {x:Operand} {t:TypeId} {e:TypeId} {p:Option Addr} {len:Nat} {cap:Nat} (i:Nat) (hii:ops[i]? = some ⟨dst,.call ⟨.builtin .len,#[x],#[t]⟩,ty,pos,after,g⟩) (hu:P.underlying t=some (.slice e)) (hrr:(Zbd ops ℓ).contains i=true:=by kernel_rfl) (hdd:ZC n dst=true:=by exact rfl) (hg:Zm ops (sel ((⟨dst,.call ⟨.builtin .len,#[x],#[t]⟩,ty,pos,after,g⟩:Oper).looksAt ops) S) g=some true:=by exact rfl) (hd:ZC n dst=true:=by exact rfl) (hx:ev (sel ((⟨dst,.call ⟨.builtin .len,#[x],#[t]⟩,ty,pos,after,g⟩:Oper).looksAt ops) S) x=some (.slice p len cap):=by exact rfl) (h:ZbV C k' n ops I (i :: ℓ) K (ZbW S dst (.int .i64 len)) D B L):ZbV C k' n ops I ℓ K S D B L:=ZaA i hii hrr hdd (fun _ _ _=>ZtZ hg hd hu hx ⟨rfl,rfl,rfl,rfl⟩) h
theorem Zse  {k:IntKind} {a b:Int} (i:Nat) (hii:ops[i]? = some ⟨dst,.binOp .lss t x y u,ty,pos,after,g⟩)  (hrr:(Zbd ops ℓ).contains i=true:=by kernel_rfl) (hdd:ZC n dst=true:=by exact rfl) (hg:Zm ops (sel ((⟨dst,.binOp .lss t x y u,ty,pos,after,g⟩:Oper).looksAt ops) S) g=some true:=by exact rfl) (hd:ZC n dst=true:=by exact rfl) (hx:ev (sel ((⟨dst,.binOp .lss t x y u,ty,pos,after,g⟩:Oper).looksAt ops) S) x=some (.int k a):=by exact rfl) (hy:ev (sel ((⟨dst,.binOp .lss t x y u,ty,pos,after,g⟩:Oper).looksAt ops) S) y=some (.int k b):=by exact rfl) (h:ZbV C k' n ops I (i :: ℓ) K (ZbW S dst (.bool (decide (a<b)))) D B L):ZbV C k' n ops I ℓ K S D B L:=ZaA i hii hrr hdd (fun _ _ _=>Zv4 hg hd hx hy ⟨rfl,rfl,rfl,rfl⟩) h
theorem ZvI  {k:IntKind} {a b:Int} (i:Nat) (hii:ops[i]? = some ⟨dst,.binOp .leq t x y u,ty,pos,after,g⟩)  (hrr:(Zbd ops ℓ).contains i=true:=by kernel_rfl) (hdd:ZC n dst=true:=by exact rfl) (hg:Zm ops (sel ((⟨dst,.binOp .leq t x y u,ty,pos,after,g⟩:Oper).looksAt ops) S) g=some true:=by exact rfl) (hd:ZC n dst=true:=by exact rfl) (hx:ev (sel ((⟨dst,.binOp .leq t x y u,ty,pos,after,g⟩:Oper).looksAt ops) S) x=some (.int k a):=by exact rfl) (hy:ev (sel ((⟨dst,.binOp .leq t x y u,ty,pos,after,g⟩:Oper).looksAt ops) S) y=some (.int k b):=by exact rfl) (h:ZbV C k' n ops I (i :: ℓ) K (ZbW S dst (.bool (decide (a≤b)))) D B L):ZbV C k' n ops I ℓ K S D B L:=ZaA i hii hrr hdd (fun _ _ _=>Zv5 hg hd hx hy ⟨rfl,rfl,rfl,rfl⟩) h
theorem Zm3  {k:IntKind} {a b:Int} (i:Nat) (hii:ops[i]? = some ⟨dst,.binOp .gtr t x y u,ty,pos,after,g⟩)  (hrr:(Zbd ops ℓ).contains i=true:=by kernel_rfl) (hdd:ZC n dst=true:=by exact rfl) (hg:Zm ops (sel ((⟨dst,.binOp .gtr t x y u,ty,pos,after,g⟩:Oper).looksAt ops) S) g=some true:=by exact rfl) (hd:ZC n dst=true:=by exact rfl) (hx:ev (sel ((⟨dst,.binOp .gtr t x y u,ty,pos,after,g⟩:Oper).looksAt ops) S) x=some (.int k a):=by exact rfl) (hy:ev (sel ((⟨dst,.binOp .gtr t x y u,ty,pos,after,g⟩:Oper).looksAt ops) S) y=some (.int k b):=by exact rfl) (h:ZbV C k' n ops I (i :: ℓ) K (ZbW S dst (.bool (decide (b<a)))) D B L):ZbV C k' n ops I ℓ K S D B L:=ZaA i hii hrr hdd (fun _ _ _=>Zv8 hg hd hx hy ⟨rfl,rfl,rfl,rfl⟩) h
theorem Zxa  {k:IntKind} {a b:Int} (i:Nat) (hii:ops[i]? = some ⟨dst,.binOp .geq t x y u,ty,pos,after,g⟩)  (hrr:(Zbd ops ℓ).contains i=true:=by kernel_rfl) (hdd:ZC n dst=true:=by exact rfl) (hg:Zm ops (sel ((⟨dst,.binOp .geq t x y u,ty,pos,after,g⟩:Oper).looksAt ops) S) g=some true:=by exact rfl) (hd:ZC n dst=true:=by exact rfl) (hx:ev (sel ((⟨dst,.binOp .geq t x y u,ty,pos,after,g⟩:Oper).looksAt ops) S) x=some (.int k a):=by exact rfl) (hy:ev (sel ((⟨dst,.binOp .geq t x y u,ty,pos,after,g⟩:Oper).looksAt ops) S) y=some (.int k b):=by exact rfl) (h:ZbV C k' n ops I (i :: ℓ) K (ZbW S dst (.bool (decide (b≤a)))) D B L):ZbV C k' n ops I ℓ K S D B L:=ZaA i hii hrr hdd (fun _ _ _=>Zv9 hg hd hx hy ⟨rfl,rfl,rfl,rfl⟩) h
theorem Zsg  {k:IntKind} {a b:Int} (i:Nat) (hii:ops[i]? = some ⟨dst,.binOp .eql t x y u,ty,pos,after,g⟩)  (hrr:(Zbd ops ℓ).contains i=true:=by kernel_rfl) (hdd:ZC n dst=true:=by exact rfl) (hg:Zm ops (sel ((⟨dst,.binOp .eql t x y u,ty,pos,after,g⟩:Oper).looksAt ops) S) g=some true:=by exact rfl) (hd:ZC n dst=true:=by exact rfl) (hx:ev (sel ((⟨dst,.binOp .eql t x y u,ty,pos,after,g⟩:Oper).looksAt ops) S) x=some (.int k a):=by exact rfl) (hy:ev (sel ((⟨dst,.binOp .eql t x y u,ty,pos,after,g⟩:Oper).looksAt ops) S) y=some (.int k b):=by exact rfl) (h:ZbV C k' n ops I (i :: ℓ) K (ZbW S dst (.bool (decide (a=b)))) D B L):ZbV C k' n ops I ℓ K S D B L:=ZaA i hii hrr hdd (fun _ _ _=>Zt1 hg hd hx hy ⟨rfl,rfl,rfl,rfl⟩) h
theorem Zw9  {k:IntKind} {a b:Int} (i:Nat) (hii:ops[i]? = some ⟨dst,.binOp .neq t x y u,ty,pos,after,g⟩)  (hrr:(Zbd ops ℓ).contains i=true:=by kernel_rfl) (hdd:ZC n dst=true:=by exact rfl) (hg:Zm ops (sel ((⟨dst,.binOp .neq t x y u,ty,pos,after,g⟩:Oper).looksAt ops) S) g=some true:=by exact rfl) (hd:ZC n dst=true:=by exact rfl) (hx:ev (sel ((⟨dst,.binOp .neq t x y u,ty,pos,after,g⟩:Oper).looksAt ops) S) x=some (.int k a):=by exact rfl) (hy:ev (sel ((⟨dst,.binOp .neq t x y u,ty,pos,after,g⟩:Oper).looksAt ops) S) y=some (.int k b):=by exact rfl) (h:ZbV C k' n ops I (i :: ℓ) K (ZbW S dst (.bool (decide (a≠b)))) D B L):ZbV C k' n ops I ℓ K S D B L:=ZaA i hii hrr hdd (fun _ _ _=>ZtX hg hd hx hy ⟨rfl,rfl,rfl,rfl⟩) h
theorem Zsf  {a b:List UInt8} (i:Nat) (hii:ops[i]? = some ⟨dst,.binOp .eql t x y u,ty,pos,after,g⟩)  (hrr:(Zbd ops ℓ).contains i=true:=by kernel_rfl) (hdd:ZC n dst=true:=by exact rfl) (hg:Zm ops (sel ((⟨dst,.binOp .eql t x y u,ty,pos,after,g⟩:Oper).looksAt ops) S) g=some true:=by exact rfl) (hd:ZC n dst=true:=by exact rfl) (hx:ev (sel ((⟨dst,.binOp .eql t x y u,ty,pos,after,g⟩:Oper).looksAt ops) S) x=some (str a):=by exact rfl) (hy:ev (sel ((⟨dst,.binOp .eql t x y u,ty,pos,after,g⟩:Oper).looksAt ops) S) y=some (str b):=by exact rfl) (h:ZbV C k' n ops I (i :: ℓ) K (ZbW S dst (.bool (decide (a=b)))) D B L):ZbV C k' n ops I ℓ K S D B L:=ZaA i hii hrr hdd (fun _ _ _=>Zt0 hg hd hx hy ⟨rfl,rfl,rfl,rfl⟩) h
theorem Zw8  {a b:List UInt8} (i:Nat) (hii:ops[i]? = some ⟨dst,.binOp .neq t x y u,ty,pos,after,g⟩)  (hrr:(Zbd ops ℓ).contains i=true:=by kernel_rfl) (hdd:ZC n dst=true:=by exact rfl) (hg:Zm ops (sel ((⟨dst,.binOp .neq t x y u,ty,pos,after,g⟩:Oper).looksAt ops) S) g=some true:=by exact rfl) (hd:ZC n dst=true:=by exact rfl) (hx:ev (sel ((⟨dst,.binOp .neq t x y u,ty,pos,after,g⟩:Oper).looksAt ops) S) x=some (str a):=by exact rfl) (hy:ev (sel ((⟨dst,.binOp .neq t x y u,ty,pos,after,g⟩:Oper).looksAt ops) S) y=some (str b):=by exact rfl) (h:ZbV C k' n ops I (i :: ℓ) K (ZbW S dst (.bool (decide (a≠b)))) D B L):ZbV C k' n ops I ℓ K S D B L:=ZaA i hii hrr hdd (fun _ _ _=>ZtW hg hd hx hy ⟨rfl,rfl,rfl,rfl⟩) h
theorem aD  {k:IntKind} {a b r:Int} (i:Nat) (hii:ops[i]? = some ⟨dst,.binOp .add t x y u,ty,pos,after,g⟩)  (hrr:(Zbd ops ℓ).contains i=true:=by kernel_rfl) (hdd:ZC n dst=true:=by exact rfl) (hg:Zm ops (sel ((⟨dst,.binOp .add t x y u,ty,pos,after,g⟩:Oper).looksAt ops) S) g=some true:=by exact rfl) (hd:ZC n dst=true:=by exact rfl) (hx:ev (sel ((⟨dst,.binOp .add t x y u,ty,pos,after,g⟩:Oper).looksAt ops) S) x=some (.int k a):=by exact rfl) (hy:ev (sel ((⟨dst,.binOp .add t x y u,ty,pos,after,g⟩:Oper).looksAt ops) S) y=some (.int k b):=by exact rfl) (hr:k.wrap (a+b)=r:=by first | exact Za9 (by first | omega | (simp;done) | (simp;omega)) (by first | omega | (simp;done) | (simp;omega)) | exact rfl) (h:ZbV C k' n ops I (i :: ℓ) K (ZbW S dst (.int k r)) D B L):ZbV C k' n ops I ℓ K S D B L:=ZaA i hii hrr hdd (fun _ _ _=>Zfa hg hd hx hy hr ⟨rfl,rfl,rfl,rfl⟩) h
theorem aU  {k:IntKind} {a b r:Int} (i:Nat) (hii:ops[i]? = some ⟨dst,.binOp .sub t x y u,ty,pos,after,g⟩)  (hrr:(Zbd ops ℓ).contains i=true:=by kernel_rfl) (hdd:ZC n dst=true:=by exact rfl) (hg:Zm ops (sel ((⟨dst,.binOp .sub t x y u,ty,pos,after,g⟩:Oper).looksAt ops) S) g=some true:=by exact rfl) (hd:ZC n dst=true:=by exact rfl) (hx:ev (sel ((⟨dst,.binOp .sub t x y u,ty,pos,after,g⟩:Oper).looksAt ops) S) x=some (.int k a):=by exact rfl) (hy:ev (sel ((⟨dst,.binOp .sub t x y u,ty,pos,after,g⟩:Oper).looksAt ops) S) y=some (.int k b):=by exact rfl) (hr:k.wrap (a - b)=r:=by first | exact Za9 (by first | omega | (simp;done) | (simp;omega)) (by first | omega | (simp;done) | (simp;omega)) | exact rfl) (h:ZbV C k' n ops I (i :: ℓ) K (ZbW S dst (.int k r)) D B L):ZbV C k' n ops I ℓ K S D B L:=ZaA i hii hrr hdd (fun _ _ _=>ZjX hg hd hx hy hr ⟨rfl,rfl,rfl,rfl⟩) h
theorem aIx  {t:TypeId} {e:TypeId} {x:Operand} {y:Operand} {k:IntKind} {b:Nat} {o:Nat} {len:Nat} {cap:Nat} {sz:Nat} {ix:Int} (i:Nat) (hii:ops[i]? = some ⟨dst,.indexAddr t x y,ty,pos,after,g⟩) (hu:P.underlying t=some (.slice e)) (hsz:Z8 P e=some sz) (hrr:(Zbd ops ℓ).contains i=true:=by kernel_rfl) (hdd:ZC n dst=true:=by exact rfl) (hg:Zm ops (sel ((⟨dst,.indexAddr t x y,ty,pos,after,g⟩:Oper).looksAt ops) S) g=some true:=by exact rfl) (hd:ZC n dst=true:=by exact rfl) (hx:ev (sel ((⟨dst,.indexAddr t x y,ty,pos,after,g⟩:Oper).looksAt ops) S) x=some (.slice (some ⟨b,o,none⟩) len cap):=by exact rfl) (hy:ev (sel ((⟨dst,.indexAddr t x y,ty,pos,after,g⟩:Oper).looksAt ops) S) y=some (.int k ix):=by exact rfl) (h0:0≤ix:=by first | omega | (simp;done) | (simp;omega)) (h1:ix<len:=by first | omega | (simp;done) | (simp;omega)) (h:ZbV C k' n ops I (i :: ℓ) K (ZbW S dst (ptr ⟨b,o+ix.toNat*sz,none⟩)) D B L):ZbV C k' n ops I ℓ K S D B L:=ZaA i hii hrr hdd (fun _ _ _=>Zv6 hg hd hu hsz hx hy h0 h1 ⟨rfl,rfl,rfl,rfl⟩) h
end
section
variable {P:PJ} {n:Nat} {Q:Exit→Zao} {S:Env} {D:List Deferred} {B:Kn} {L:List Cells}
theorem tL1 {c:Code} {x0:Cells} (h:wpS P n c Q S D B [x0]):wpS P n c Q S D B [x0]:=h
theorem tL2 {c:Code} {x0 x1:Cells} (h:wpS P n c Q S D B [x0,x1]):wpS P n c Q S D B [x0,x1]:=h
theorem tL3 {c:Code} {x0 x1 x2:Cells} (h:wpS P n c Q S D B [x0,x1,x2]):wpS P n c Q S D B [x0,x1,x2]:=h
theorem tL4 {c:Code} {x0 x1 x2 x3:Cells} (h:wpS P n c Q S D B [x0,x1,x2,x3]):wpS P n c Q S D B [x0,x1,x2,x3]:=h
theorem tL5 {c:Code} {x0 x1 x2 x3 x4:Cells} (h:wpS P n c Q S D B [x0,x1,x2,x3,x4]):wpS P n c Q S D B [x0,x1,x2,x3,x4]:=h
theorem tL6 {c:Code} {x0 x1 x2 x3 x4 x5:Cells} (h:wpS P n c Q S D B [x0,x1,x2,x3,x4,x5]):wpS P n c Q S D B [x0,x1,x2,x3,x4,x5]:=h
theorem tL7 {c:Code} {x0 x1 x2 x3 x4 x5 x6:Cells} (h:wpS P n c Q S D B [x0,x1,x2,x3,x4,x5,x6]):wpS P n c Q S D B [x0,x1,x2,x3,x4,x5,x6]:=h
theorem tL8 {c:Code} {x0 x1 x2 x3 x4 x5 x6 x7:Cells} (h:wpS P n c Q S D B [x0,x1,x2,x3,x4,x5,x6,x7]):wpS P n c Q S D B [x0,x1,x2,x3,x4,x5,x6,x7]:=h
theorem tL9 {c:Code} {x0 x1 x2 x3 x4 x5 x6 x7 x8:Cells} (h:wpS P n c Q S D B [x0,x1,x2,x3,x4,x5,x6,x7,x8]):wpS P n c Q S D B [x0,x1,x2,x3,x4,x5,x6,x7,x8]:=h
theorem ZyV {c:Code} {x0 x1 x2 x3 x4 x5 x6 x7 x8 x9 x10 x11:Cells} (h:wpS P n c Q S D B [x0,x1,x2,x3,x4,x5,x6,x7,x8,x9,x10,x11]):wpS P n c Q S D B [x0,x1,x2,x3,x4,x5,x6,x7,x8,x9,x10,x11]:=h
theorem wSk {K:Zao} (h:K S D B L):wpS P n .skip (thn K Q) S D B L:=ZL (Zj h)
theorem eR {rs:List ResultVar} {Post:Value→Kn→List Cells→Prop} {v:Value} (hr:Zc7 P S B L rs [v]) (hp:Post v B []):Zfz P rs Post .ret S [] B L:=Zvl .ret (.inl rfl) [v] hr hp
theorem eN {rs:List ResultVar} {Post:Value→Kn→List Cells→Prop} {v:Value} (js:List Nat) {ss r:List Cells} (hp:Za0 L js=some (ss,r)) (hr:Zc7 P S B L rs [v]) (hq:Post v B ss):Zfz P rs Post .ret S [] B L:=Zas .ret (.inl rfl) [v] js hp hr hq
theorem e1 {rs:List ResultVar} {Post:Value→Kn→List Cells→Prop} {v:Value} (j:Nat) {s:Cells} (hj:L[j]? = some s) (hr:Zc7 P S B L rs [v]) (hp:Post v B [s]):Zfz P rs Post .ret S [] B L:=Zsm .ret (.inl rfl) [v] j hj hr hp
end
theorem mT {α:Type} {R:Rel α} (h:Mono R:=by first | exact Zs.mono | exact Ze.mono | exact Zw.mono | exact ZN.mono | exact ZZ.mono | exact ZjU.mono | exact Zbv.mono | exact Zcf.mono):Mono R:=h
theorem up1 {B B':Kn} {α1:Type} {q1:Option Addr} {c1 w1:Nat} {R1:Rel α1} {x1:List α1} (hle:B.le B') (h1:SlK B q1 c1 w1 R1 x1) (g1:Mono R1:=by exact mT):SlK B' q1 c1 w1 R1 x1:=h1.mono g1 hle
theorem up2 {B B':Kn} {α1:Type} {q1:Option Addr} {c1 w1:Nat} {R1:Rel α1} {x1:List α1} {α2:Type} {q2:Option Addr} {c2 w2:Nat} {R2:Rel α2} {x2:List α2} (hle:B.le B') (h1:SlK B q1 c1 w1 R1 x1) (h2:SlK B q2 c2 w2 R2 x2) (g1:Mono R1:=by exact mT) (g2:Mono R2:=by exact mT):SlK B' q1 c1 w1 R1 x1∧SlK B' q2 c2 w2 R2 x2:=⟨h1.mono g1 hle,h2.mono g2 hle⟩
theorem up3 {B B':Kn} {α1:Type} {q1:Option Addr} {c1 w1:Nat} {R1:Rel α1} {x1:List α1} {α2:Type} {q2:Option Addr} {c2 w2:Nat} {R2:Rel α2} {x2:List α2} {α3:Type} {q3:Option Addr} {c3 w3:Nat} {R3:Rel α3} {x3:List α3} (hle:B.le B') (h1:SlK B q1 c1 w1 R1 x1) (h2:SlK B q2 c2 w2 R2 x2) (h3:SlK B q3 c3 w3 R3 x3) (g1:Mono R1:=by exact mT) (g2:Mono R2:=by exact mT) (g3:Mono R3:=by exact mT):SlK B' q1 c1 w1 R1 x1∧SlK B' q2 c2 w2 R2 x2∧SlK B' q3 c3 w3 R3 x3:=⟨h1.mono g1 hle,h2.mono g2 hle,h3.mono g3 hle⟩
theorem up4 {B B':Kn} {α1:Type} {q1:Option Addr} {c1 w1:Nat} {R1:Rel α1} {x1:List α1} {α2:Type} {q2:Option Addr} {c2 w2:Nat} {R2:Rel α2} {x2:List α2} {α3:Type} {q3:Option Addr} {c3 w3:Nat} {R3:Rel α3} {x3:List α3} {α4:Type} {q4:Option Addr} {c4 w4:Nat} {R4:Rel α4} {x4:List α4} (hle:B.le B') (h1:SlK B q1 c1 w1 R1 x1) (h2:SlK B q2 c2 w2 R2 x2) (h3:SlK B q3 c3 w3 R3 x3) (h4:SlK B q4 c4 w4 R4 x4) (g1:Mono R1:=by exact mT) (g2:Mono R2:=by exact mT) (g3:Mono R3:=by exact mT) (g4:Mono R4:=by exact mT):SlK B' q1 c1 w1 R1 x1∧SlK B' q2 c2 w2 R2 x2∧SlK B' q3 c3 w3 R3 x3∧SlK B' q4 c4 w4 R4 x4:=⟨h1.mono g1 hle,h2.mono g2 hle,h3.mono g3 hle,h4.mono g4 hle⟩
theorem up5 {B B':Kn} {α1:Type} {q1:Option Addr} {c1 w1:Nat} {R1:Rel α1} {x1:List α1} {α2:Type} {q2:Option Addr} {c2 w2:Nat} {R2:Rel α2} {x2:List α2} {α3:Type} {q3:Option Addr} {c3 w3:Nat} {R3:Rel α3} {x3:List α3} {α4:Type} {q4:Option Addr} {c4 w4:Nat} {R4:Rel α4} {x4:List α4} {α5:Type} {q5:Option Addr} {c5 w5:Nat} {R5:Rel α5} {x5:List α5} (hle:B.le B') (h1:SlK B q1 c1 w1 R1 x1) (h2:SlK B q2 c2 w2 R2 x2) (h3:SlK B q3 c3 w3 R3 x3) (h4:SlK B q4 c4 w4 R4 x4) (h5:SlK B q5 c5 w5 R5 x5) (g1:Mono R1:=by exact mT) (g2:Mono R2:=by exact mT) (g3:Mono R3:=by exact mT) (g4:Mono R4:=by exact mT) (g5:Mono R5:=by exact mT):SlK B' q1 c1 w1 R1 x1∧SlK B' q2 c2 w2 R2 x2∧SlK B' q3 c3 w3 R3 x3∧SlK B' q4 c4 w4 R4 x4∧SlK B' q5 c5 w5 R5 x5:=⟨h1.mono g1 hle,h2.mono g2 hle,h3.mono g3 hle,h4.mono g4 hle,h5.mono g5 hle⟩
theorem up6 {B B':Kn} {α1:Type} {q1:Option Addr} {c1 w1:Nat} {R1:Rel α1} {x1:List α1} {α2:Type} {q2:Option Addr} {c2 w2:Nat} {R2:Rel α2} {x2:List α2} {α3:Type} {q3:Option Addr} {c3 w3:Nat} {R3:Rel α3} {x3:List α3} {α4:Type} {q4:Option Addr} {c4 w4:Nat} {R4:Rel α4} {x4:List α4} {α5:Type} {q5:Option Addr} {c5 w5:Nat} {R5:Rel α5} {x5:List α5} {α6:Type} {q6:Option Addr} {c6 w6:Nat} {R6:Rel α6} {x6:List α6} (hle:B.le B') (h1:SlK B q1 c1 w1 R1 x1) (h2:SlK B q2 c2 w2 R2 x2) (h3:SlK B q3 c3 w3 R3 x3) (h4:SlK B q4 c4 w4 R4 x4) (h5:SlK B q5 c5 w5 R5 x5) (h6:SlK B q6 c6 w6 R6 x6) (g1:Mono R1:=by exact mT) (g2:Mono R2:=by exact mT) (g3:Mono R3:=by exact mT) (g4:Mono R4:=by exact mT) (g5:Mono R5:=by exact mT) (g6:Mono R6:=by exact mT):SlK B' q1 c1 w1 R1 x1∧SlK B' q2 c2 w2 R2 x2∧SlK B' q3 c3 w3 R3 x3∧SlK B' q4 c4 w4 R4 x4∧SlK B' q5 c5 w5 R5 x5∧SlK B' q6 c6 w6 R6 x6:=⟨h1.mono g1 hle,h2.mono g2 hle,h3.mono g3 hle,h4.mono g4 hle,h5.mono g5 hle,h6.mono g6 hle⟩
theorem cB {P:PJ} {f:FuncId} {fn:Func} {code:Code} {rs:List ResultVar} (n:Nat) (hf:P.funcs[f]? = some fn) (hb:fn.body=some code:=by exact rfl) (hn:fn.ntmps=n:=by exact rfl) (hrs:fn.results.toList=rs:=by exact rfl) {args:List Value} (ha:args.length≤n:=by exact Nat.le_of_ble_eq_true rfl) {B:Kn} {Ls:List Cells} {Post:Value→Kn→List Cells→Prop} (h:wpS P n code (Zfz P rs Post) (Zdd args 0) [] B Ls):Zv P f args B Ls Post:=ZeX n hf hb hn hrs ha h
end Go.BL
namespace Go.BL
open Go
def ZbN (c:UInt8):Bool:=(decide (97≤c.toNat) && decide (c.toNat≤122)) || (decide (48≤c.toNat) && decide (c.toNat≤57))
def Zaz (l:List UInt8):Bool:=l.all ZbN && decide (1≤l.length) && decide (l.length≤8)
theorem ZtJ {l:List UInt8} {k:Nat} {c:UInt8} (hc:l[k]? = some c) (h:ZbN c=false):l.all ZbN=false:=by
 rw [Bool.eq_false_iff];intro ha
 have:=List.all_eq_true.1 ha c (List.mem_of_getElem? hc)
 rw [h] at this;cases this
theorem ZoQ {l:List UInt8} {k:Nat} {c:UInt8} (hc:l[k]? = some c) (h:ZbN c=true) (ha:(l.take k).all ZbN=true):(l.take (k+1)).all ZbN=true:=by
 rw [List.take_add_one,hc];simp only [Option.toList_some,List.all_append,ha,List.all_cons,h,List.all_nil];rfl
def word (l:List UInt8) (i:Nat):List UInt8:=(l.drop i).takeWhile ZbN
def ZdZ (w:List UInt8):Bool:=decide (1≤w.length) && decide (w.length≤8)
theorem ZqH {o:Option UInt8} {f:UInt8→Bool} (h:(match o with | some c=>f c | none=>false)=true) :∃c,o=some c∧f c=true:=by
 cases o with
 | none=>cases h
 | some c=>exact ⟨c,rfl,h⟩
theorem ZbH {α:Type} {l:List α} {k:Nat} {c:α} (h:l[k]? = some c):k<l.length:=(List.getElem?_eq_some_iff.1 h).1
theorem ZgC {p:UInt8→Bool} :∀{m:List UInt8} {k:Nat},(m.take k).all p=true→(∀c,m[k]? = some c→p c=false)→m.takeWhile p=m.take k
 | [],k,_,_=>by simp
 | c :: m,0,_,h=>by simp [List.takeWhile,h c rfl]
 | c :: m,k+1,ha,h=>by
  simp only [List.take_succ_cons,List.all_cons,Bool.and_eq_true] at ha
  simp only [List.takeWhile,ha.1,List.take_succ_cons]
  rw [ZgC ha.2 (fun c hc=>h c (by simpa using hc))]
theorem Zsq {l:List UInt8} {i k:Nat} (ha:((l.drop i).take k).all ZbN=true) (h :∀c,l[i+k]? = some c→ZbN c=false):word l i=(l.drop i).take k:=
 ZgC ha (fun c hc=>h c (by simpa using hc))
theorem ZfV {l:List UInt8} {i k:Nat} : (l.take (i+k)).drop i=(l.drop i).take k:=by
 rw [List.drop_take,Nat.add_sub_cancel_left]
theorem Zkf {a b c d:Value} (h:a=c) (h':b=d):Value.tuple #[a,b]=Value.tuple #[c,d]:=by rw [h,h']
def more:Nat→List UInt8→Nat→Bool × Nat
 | 0,_,i=>(true,i)
 | n+1,l,i=>if l[i]? = some 46 then (if ZdZ (word l (i+1))=true then more n l (i+1+(word l (i+1)).length) else (false,i+1+(word l (i+1)).length)) else (true,i)
def dom (l:List UInt8) (i:Nat):Bool × Nat:=if ZdZ (word l i)=true then more 2 l (i+(word l i).length) else (false,i+(word l i).length)
def ZjJ (l:List UInt8) (i:Nat):List UInt8:=if (dom l i).1=true then (l.take (dom l i).2).drop i else []
def ZnS (l:List UInt8) (i:Nat):Bool:=(dom l i).1 && decide ((dom l i).2 - i≤20)
theorem ZnR {l:List UInt8} {i:Nat} (h:ZdZ (word l i)=false):dom l i=(false,i+(word l i).length):=by simp [dom,h]
theorem ZtA {l:List UInt8} {i:Nat} (h:ZdZ (word l i)=true):dom l i=more 2 l (i+(word l i).length):=by simp [dom,h]
theorem Zis {l:List UInt8} {i:Nat} (h:i≤l.length):i+(word l i).length≤l.length:=by
 have:=List.IsPrefix.length_le (List.takeWhile_prefix ZbN (l:=l.drop i))
 rw [List.length_drop] at this
 unfold word;omega
theorem ZiZ {l:List UInt8} {n j:Nat} (h : ¬ l[j]? = some 46):more n l j=(true,j):=by
 cases n with
 | zero=>rfl
 | succ n=>rw [more,if_neg h]
theorem ZsZ {l:List UInt8} {n j:Nat} (hn:1≤n) (h:l[j]? = some 46) (hw:ZdZ (word l (j+1))=false):more n l j=(false,j+1+(word l (j+1)).length):=by
 cases n with
 | zero=>omega
 | succ n=>rw [more,if_pos h,if_neg (by simp [hw])]
theorem Zq6 {l:List UInt8} {n j:Nat} (hn:1≤n) (h:l[j]? = some 46) (hw:ZdZ (word l (j+1))=true):more n l j=more (n - 1) l (j+1+(word l (j+1)).length):=by
 cases n with
 | zero=>omega
 | succ n=>rw [more,if_pos h,if_pos hw];rfl
theorem ZeP {p:UInt8→Bool} :∀l:List UInt8,(l.takeWhile p).length=l.length↔l.all p=true
 | []=>by simp
 | c :: l=>by
  have h:=ZeP (p:=p) l
  cases hc:p c with
  | true=>simp [List.takeWhile,hc] at h ⊢;exact h
  | false=>simp [List.takeWhile,hc]
theorem ZdM {l:List UInt8} : Zaz l=(ZdZ (word l 0) && decide ((word l 0).length=l.length)):=by
 have h:=ZeP (p:=ZbN) l
 have e:word l 0=l.takeWhile ZbN:=by simp [word]
 rw [Bool.eq_iff_iff]
 simp only [Zaz,ZdZ,e,Bool.and_eq_true,decide_eq_true_eq]
 constructor
 ·rintro ⟨⟨h1,h2⟩,h3⟩
  have:=h.2 h1
  omega
 ·rintro ⟨⟨h1,h2⟩,h3⟩
  exact ⟨⟨h.1 h3,by omega⟩,by omega⟩
theorem Zq5 {l:List UInt8} :∀(n j:Nat),j≤l.length→(more n l j).2≤l.length
 | 0,j,h=>h
 | n+1,j,h=>by
  rw [more]
  split
  ·rename_i e
   have:=ZbH e
   have h2:=Zis (l:=l) (i:=j+1) (by omega)
   split
   ·exact Zq5 n _ h2
   ·exact h2
  ·exact h
theorem ZwV {l:List UInt8} {i:Nat} (h:i≤l.length):(dom l i).2≤l.length:=by
 unfold dom
 have h2:=Zis h
 split
 ·exact Zq5 2 _ h2
 ·exact h2
def glue (a:List UInt8):List (List UInt8)→List (List UInt8)
 | []=>[a]
 | p :: ps=>(a ++ p) :: ps
def cut (x:UInt8):List UInt8→List (List UInt8)
 | []=>[[]]
 | c :: r=>if c=x then [] :: cut x r else glue [c] (cut x r)
theorem ZoO (x:UInt8) :∀l,cut x l≠[]
 | []=>by simp [cut]
 | c :: r=>by
  rw [cut]
  split
  ·simp
  ·cases cut x r <;> simp [glue]
theorem ZoE {m:List (List UInt8)} (h:m≠[]):glue [] m=m:=by
 cases m with
 | nil=>exact absurd rfl h
 | cons p ps=>rfl
theorem Zrw (a b:List UInt8) (m:List (List UInt8)):glue a (glue b m)=glue (a ++ b) m:=by
 cases m <;> simp [glue]
structure CutSt where
 i:Nat
 f:Nat
 m:Nat
 ps:List (List UInt8)
 q:Option Addr
 cp:Nat
 s:Cells
theorem Zxz {a b:UInt8} (h:(a.toNat:Int)=b.toNat):a=b:=UInt8.toNat_inj.1 (by exact_mod_cast h)
theorem ZvC {l:List UInt8} {x c:UInt8} {i:Nat} (h:l[i]? = some c) (e:c=x):cut x (l.drop i)=[] :: cut x (l.drop (i+1)):=by
 obtain ⟨hlt,he⟩:=List.getElem?_eq_some_iff.1 h
 rw [List.drop_eq_getElem_cons hlt,he,cut,if_pos e]
theorem ZtC {l:List UInt8} {x c:UInt8} {i:Nat} (h:l[i]? = some c) (e:c≠x):cut x (l.drop i)=glue [c] (cut x (l.drop (i+1))):=by
 obtain ⟨hlt,he⟩:=List.getElem?_eq_some_iff.1 h
 rw [List.drop_eq_getElem_cons hlt,he,cut,if_neg e]
theorem Zxy {a b:UInt8} (h : ¬ (a.toNat:Int)=b.toNat):a≠b:=fun e=>h (by rw [e])
theorem Zqx {l:List UInt8} {c:UInt8} {i f:Nat} (h:l[i]? = some c) (hf:f≤i):(l.take i).drop f ++ [c]=(l.take (i+1)).drop f:=by
 have hlt:=ZbH h
 rw [List.take_add_one,h]
 simp only [Option.toList_some]
 rw [List.drop_append_of_le_length (by rw [List.length_take];omega)]
theorem Zts (a:List UInt8) (m:List (List UInt8)):glue a ([] :: m)=a :: m:=by simp [glue]
def Zcp (l:List UInt8):Bool:=(cut 46 l).all Zaz && decide ((cut 46 l).length≤3) && decide (l.length≤20)
theorem Ztr {a:List UInt8} {m:List (List UInt8)} {n:Nat} (h :∀p,p∈m→p.length≤n) :∀p,p∈glue a m→p.length≤a.length+n:=by
 cases m with
 | nil=>intro p hp;simp [glue] at hp;subst hp;omega
 | cons q qs=>
  intro p hp
  simp only [glue,List.mem_cons] at hp
  rcases hp with rfl | hp
  ·rw [List.length_append];have:=h q (List.mem_cons_self ..);omega
  ·have:=h p (List.mem_cons_of_mem _ hp);omega
theorem ZnT (x:UInt8) :∀(l p:List UInt8),p∈cut x l→p.length≤l.length
 | [],p,h=>by simp [cut] at h;subst h;simp
 | c :: r,p,h=>by
  rw [cut] at h
  split at h
  ·rcases List.mem_cons.1 h with rfl | h
   ·simp
   ·have:=ZnT x r p h;simp;omega
  ·have:=Ztr (ZnT x r) p h;simp at this ⊢;omega
theorem ZmX {l:List (List UInt8)} {k:Nat} {c:List UInt8} (hc:l[k]? = some c) (h:Zaz c=false):l.all Zaz=false:=by
 rw [Bool.eq_false_iff];intro ha
 have:=List.all_eq_true.1 ha c (List.mem_of_getElem? hc)
 rw [h] at this;cases this
theorem ZjS {l:List (List UInt8)} {k:Nat} {c:List UInt8} (hc:l[k]? = some c) (h:Zaz c=true) (ha:(l.take k).all Zaz=true):(l.take (k+1)).all Zaz=true:=by
 rw [List.take_add_one,hc];simp only [Option.toList_some,List.all_append,ha,List.all_cons,h,List.all_nil];rfl
theorem ZmN (x:UInt8) :∀l:List UInt8,(cut x l).length≤l.length+1
 | []=>by simp [cut]
 | c :: r=>by
  have h:=ZmN x r
  rw [cut]
  split
  ·simp;omega
  ·cases hq:cut x r with
   | nil=>exact absurd hq (ZoO x r)
   | cons p ps=>rw [hq] at h;simp [glue] at h ⊢;omega
end Go.BL
namespace Go.BL
open Go
theorem Zlu {x:UInt8} :∀{l:List UInt8},x ∉ l→cut x l=[l]
 | [],_=>rfl
 | c :: r,h=>by
  rw [cut,if_neg (fun e=>h (by rw [e];exact List.mem_cons_self ..)),Zlu (fun hm=>h (List.mem_cons_of_mem _ hm))]
  rfl
theorem ZjK {x:UInt8} {b:List UInt8} :∀{a:List UInt8},x ∉ a→cut x (a ++ x :: b)=a :: cut x b
 | [],_=>by simp [cut]
 | c :: r,h=>by
  rw [List.cons_append,cut,if_neg (fun e=>h (by rw [e];exact List.mem_cons_self ..)),ZjK (fun hm=>h (List.mem_cons_of_mem _ hm))]
  rfl
theorem Zf8 {x:UInt8} :∀{l:List UInt8},x∈l→∃a b,l=a ++ x :: b∧x ∉ a
 | c :: r,h=>by
  by_cases e:c=x
  ·exact ⟨[],r,by simp [e],by simp⟩
  ·have hr:x∈r:=(List.mem_cons.1 h).resolve_left (Ne.symm e)
   obtain ⟨a,b,h1,h2⟩:=Zf8 hr
   exact ⟨c :: a,b,by simp [h1],by simp [Ne.symm e,h2]⟩
theorem Zj8 (l:List UInt8) (i j:Nat):word l (i+j)=word (l.drop i) j:=by
 unfold word;rw [List.drop_drop]
theorem Zkt (l:List UInt8) (i:Nat) :∀n j,more n l (i+j)=((more n (l.drop i) j).1,i+(more n (l.drop i) j).2)
 | 0,j=>rfl
 | n+1,j=>by
  simp only [more,List.getElem?_drop]
  rw [show i+j+1=i+(j+1) from by omega,Zj8]
  split
  ·split
   ·rw [show i+(j+1)+(word (l.drop i) (j+1)).length=i+(j+1+(word (l.drop i) (j+1)).length) from by omega,Zkt l i n]
   ·simp only [Prod.mk.injEq,true_and];omega
  ·rfl
theorem Zsr {l:List UInt8} (h:l.all ZbN=true):word l 0=l:=by
 have:=(ZeP (p:=ZbN) l).2 h
 have h2:=List.takeWhile_prefix ZbN (l:=l)
 simp only [word,List.drop_zero]
 exact List.IsPrefix.eq_of_length h2 this
theorem ZhG {a b:List UInt8} {x:UInt8} (hx:ZbN x=false) (h:a.all ZbN=true):word (a ++ x :: b) 0=a:=by
 simp only [word,List.drop_zero]
 induction a with
 | nil=>simp [List.takeWhile,hx]
 | cons c a ih=>
  simp only [List.all_cons,Bool.and_eq_true] at h
  simp only [List.cons_append,List.takeWhile,h.1,ih h.2]
theorem ZhF {a:List UInt8} (b:List UInt8) (h:a.all ZbN=false):(word (a ++ b) 0).length<a.length∧word (a ++ b) 0=word a 0:=by
 simp only [word,List.drop_zero]
 induction a with
 | nil=>simp at h
 | cons c a ih=>
  cases hc:ZbN c with
  | false=>simp [List.takeWhile,hc]
  | true=>
   have h':a.all ZbN=false:=by simpa [hc] using h
   have:=ih h'
   simp only [List.cons_append,List.takeWhile,hc,List.length_cons]
   exact ⟨by omega,by rw [this.2]⟩
theorem Zu5 {a:List UInt8} (b:List UInt8) {k:Nat} (h:k<a.length):(a ++ b)[k]? = a[k]?:=List.getElem?_append_left h
theorem Zjr {x:UInt8} {a:List UInt8} (h:x ∉ a) (k:Nat):a[k]?≠some x:=fun e=>h (List.mem_of_getElem? e)
theorem Zq0 :∀(n:Nat) (b:List UInt8),(ZdZ (word b 0)=true∧more n b (word b 0).length=(true,b.length))↔((cut 46 b).all Zaz=true∧(cut 46 b).length≤n+1):=by
 intro n
 induction n with
 | zero=>
  intro b
  by_cases hd:(46:UInt8)∈b
  ·obtain ⟨a,r,rfl,ha⟩:=Zf8 hd
   rw [ZjK ha]
   have hlen:(word (a ++ 46 :: r) 0).length≤a.length:=by
    cases hna:a.all ZbN with
    | true=>rw [ZhG (by decide) hna];exact Nat.le_refl _
    | false=>exact Nat.le_of_lt (ZhF _ hna).1
   constructor
   ·rintro ⟨_,h2⟩
    simp only [more,Prod.mk.injEq,true_and] at h2
    rw [List.length_append,List.length_cons] at h2
    omega
   ·rintro ⟨_,h2⟩
    have:=ZoO 46 r
    simp only [List.length_cons] at h2
    exact absurd (List.eq_nil_of_length_eq_zero (by omega)) this
  ·rw [Zlu hd]
   simp only [more,List.all_cons,List.all_nil,Bool.and_true,List.length_cons,List.length_nil,Nat.zero_add,Nat.le_refl,and_true,Prod.mk.injEq,true_and,ZdM,Bool.and_eq_true,decide_eq_true_eq]
 | succ n ih=>
  intro b
  by_cases hd:(46:UInt8)∈b
  ·obtain ⟨a,r,rfl,ha⟩:=Zf8 hd
   rw [ZjK ha]
   cases hna:a.all ZbN with
   | true=>
    rw [ZhG (by decide) hna]
    have hg:(a ++ 46 :: r)[a.length]? = some 46:=by simp
    have hdr:(a ++ 46 :: r).drop (a.length+1)=r:=by rw [List.drop_append];simp
    have hw:word (a ++ 46 :: r) (a.length+1)=word r 0:=by
     have:=Zj8 (a ++ 46 :: r) (a.length+1) 0
     rw [Nat.add_zero,hdr] at this;exact this
    have hm:more n (a ++ 46 :: r) (a.length+1+(word r 0).length)=((more n r (word r 0).length).1,a.length+1+(more n r (word r 0).length).2):=by
     rw [Zkt,hdr]
    simp only [more,hg,if_true,hw,hm,List.all_cons,Bool.and_eq_true,List.length_cons]
    have hna':Zaz a=ZdZ a:=by rw [ZdM,Zsr hna];simp
    have hi:=ih r
    constructor
    ·rintro ⟨h1,h2⟩
     split at h2
     ·rename_i h3
      simp only [Prod.mk.injEq,List.length_append,List.length_cons] at h2
      have:=hi.1 ⟨h3,by ext1;exact h2.1;simp only [];omega⟩
      exact ⟨⟨by rw [hna'];exact h1,this.1⟩,by omega⟩
     ·simp at h2
    ·rintro ⟨⟨h1,h2⟩,h3⟩
     obtain ⟨h4,h5⟩:=hi.2 ⟨h2,by omega⟩
     refine ⟨by rw [← hna'];exact h1,?_⟩
     rw [if_pos h4,h5]
     simp;omega
   | false=>
    obtain ⟨h1,h2⟩:=ZhF (46 :: r) hna
    have hne:Zaz a=false:=by simp [Zaz,hna]
    constructor
    ·rintro ⟨_,h3⟩
     rw [ZiZ (by rw [Zu5 _ h1];exact Zjr ha _)] at h3
     simp only [Prod.mk.injEq,true_and,List.length_append,List.length_cons] at h3
     omega
    ·rintro ⟨h3,_⟩
     simp [hne] at h3
  ·rw [Zlu hd]
   rw [ZiZ (Zjr hd _)]
   simp only [List.all_cons,List.all_nil,Bool.and_true,List.length_cons,List.length_nil,Prod.mk.injEq,true_and,ZdM,Bool.and_eq_true,decide_eq_true_eq]
   constructor
   ·rintro ⟨h1,h2⟩;exact ⟨⟨h1,h2⟩,by omega⟩
   ·rintro ⟨⟨h1,h2⟩,_⟩;exact ⟨h1,h2⟩
theorem ZmK (b:List UInt8):((dom b 0).1=true∧(dom b 0).2≤20∧(dom b 0).2=b.length)↔Zcp b=true:=by
 have h:=Zq0 2 b
 simp only [Zcp,Bool.and_eq_true,decide_eq_true_eq]
 constructor
 ·rintro ⟨h1,h2,h3⟩
  cases hw:ZdZ (word b 0) with
  | false=>simp [dom,hw] at h1
  | true=>
   simp only [dom,hw,if_true,Nat.zero_add] at h1 h2 h3
   have:=h.1 ⟨hw,by ext1;exact h1;exact h3⟩
   exact ⟨⟨this.1,this.2⟩,by omega⟩
 ·rintro ⟨⟨h1,h2⟩,h3⟩
  obtain ⟨h4,h5⟩:=h.2 ⟨h1,h2⟩
  simp only [dom,h4,if_true,Nat.zero_add,h5]
  exact ⟨trivial,h3,trivial⟩
end Go.BL
namespace Go.BL
open Go
theorem Zbu {α:Type} {p:α→Prop} {l:List α} {k:Nat} {x:α} (hx:l[k]? = some x) (h :∀y,y∈l.take k→p y) (hp:p x) :∀y,y∈l.take (k+1)→p y:=by
 intro y hy
 rw [List.take_add_one,hx] at hy
 simp only [Option.toList_some,List.mem_append,List.mem_singleton] at hy
 rcases hy with hy | rfl
 ·exact h y hy
 ·exact hp
def Zds (us:List DUser) (u:Str):Int:=match us.findIdx? (fun x=>decide (x.name=u)) with | some i=>i | none=>-1
theorem Zte {us:List DUser} {u:Str} {k:Nat} {x:DUser} (hx:us[k]? = some x) (he:x.name=u) (h :∀y,y∈us.take k→y.name≠u):Zds us u=k:=by
 have:us.findIdx? (fun x=>decide (x.name=u))=some k:=by
  rw [List.findIdx?_eq_some_iff_getElem]
  obtain ⟨hk,rfl⟩:=List.getElem?_eq_some_iff.1 hx
  refine ⟨hk,by simpa using he,fun j hj=>?_⟩
  have:=h us[j] (by rw [List.mem_take_iff_getElem];exact ⟨j,by omega,rfl⟩)
  simpa using this
 rw [Zds,this]
theorem Zri {us:List DUser} {u:Str} (h :∀y,y∈us→y.name≠u):Zds us u = -1:=by
 have:us.findIdx? (fun x=>decide (x.name=u))=none:=by
  rw [List.findIdx?_eq_none_iff]
  intro x hx
  simpa using h x hx
 rw [Zds,this]
theorem Zcw {α:Type} {as bs:List α} {k:Nat} {x y:α} (hx:as[k]? = some x) (hy:bs[k]? = some y) (e:x=y) (h:as.take k=bs.take k):as.take (k+1)=bs.take (k+1):=by
 rw [List.take_add_one,List.take_add_one,hx,hy,e,h]
theorem ZjE {α:Type} {as bs:List α} {inst:Decidable (as=bs)} (h : ¬ (as.length:Int)=bs.length):false=decide (as=bs):=by
 symm;rw [decide_eq_false_iff_not];intro e;exact h (by rw [e])
theorem Zg5 {α:Type} {as bs:List α} {inst:Decidable (as=bs)} {k:Nat} {x y:α} (hx:as[k]? = some x) (hy:bs[k]? = some y) (e : ¬ x=y):false=decide (as=bs):=by
 symm;rw [decide_eq_false_iff_not];intro h;rw [h,hy] at hx;exact e (Option.some.inj hx).symm
theorem eqT {α:Type} {as bs:List α} {inst:Decidable (as=bs)} {k:Nat} (hl:as.length=bs.length) (hk:k=as.length) (h:as.take k=bs.take k):true=decide (as=bs):=by
 symm;rw [decide_eq_true_eq]
 rw [List.take_of_length_le (by omega),List.take_of_length_le (by omega)] at h;exact h
theorem Zzp {α:Type} {as:List α} {x:α} {inst:Decidable (x∈as)} (h :∀y,y∈as→y≠x):false=decide (x∈as):=by
 symm;rw [decide_eq_false_iff_not];intro hx;exact h x hx rfl
theorem Zzo {α:Type} {as:List α} {x y:α} {inst:Decidable (x∈as)} {k:Nat} (hy:as[k]? = some y) (e:y=x):true=decide (x∈as):=by
 symm;rw [decide_eq_true_eq];subst e;exact List.mem_of_getElem? hy
theorem ZbO {α:Type} {p:α→Prop} {l:List α} {k:Nat} (hk : ¬ (k:Int)<l.length) (h :∀y,y∈l.take k→p y) :∀y,y∈l→p y:=by
 rwa [List.take_of_length_le (by omega)] at h
theorem Zlr {α:Type} {l:List α} {k:Nat} {x:α} (h:l[k]? = some x):l.drop k=x :: l.drop (k+1):=by
 obtain ⟨hlt,he⟩:=List.getElem?_eq_some_iff.1 h
 rw [List.drop_eq_getElem_cons hlt,he]
theorem ZrT {α:Type} {l:List α} {k:Nat} (h : ¬ (k:Int)<l.length):l.drop k=[]:=List.drop_eq_nil_of_le (by omega)
def ZcW (l:List Str):Bool:=l.all Zaz && decide l.Nodup && decide (l.length≤3)
def ZaW (x:DLetter):Bool:=Zaz x.fr && ZcW x.to_ && decide (0<x.to_.length) && decide (x.text.length≤20)
def ZcL (x:DItem):Bool:=ZaW ⟨x.fr,x.left,x.text⟩
def Zc6:Int→List DItem→Option Int
 | last,[]=>some last
 | last,x :: r=>if (last+1≤x.id∧x.id≤99)∧ZcL x=true then Zc6 x.id r else none
def Zab (q:DQueue):Bool:=match Zc6 0 q.items with
 | some last=>decide (last+1≤q.next) && decide (q.next≤100) && decide (q.items.length≤6)
 | none=>false
theorem ZqZ {α:Type} {l:List α} {k:Nat} {x:α} (hx:l[k]? = some x) (h:(l.take k).Nodup) (hn : ¬ x∈l.take k):(l.take (k+1)).Nodup:=by
 rw [List.take_add_one,hx]
 simp only [Option.toList_some]
 rw [List.nodup_append]
 exact ⟨h,by simp,fun a ha b hb=>by rw [List.mem_singleton.1 hb];exact fun e=>hn (e ▸ ha)⟩
theorem ZuO {α:Type} {l:List α} {k:Nat} {x:α} (hx:l[k]? = some x) (h:x∈l.take k) : ¬ l.Nodup:=by
 intro hn
 have e:l=l.take k ++ l.drop k:=(List.take_append_drop k l).symm
 rw [e,Zlr hx,List.nodup_append] at hn
 exact hn.2.2 x h x (List.mem_cons_self ..) rfl
theorem ZhP {l:List Str} {k:Nat} {x:Str} (hx:l[k]? = some x) (h:Zaz x=false):false=ZcW l:=by
 simp [ZcW,ZmX hx h]
theorem ZhO {l:List Str} {k:Nat} {x:Str} (hx:l[k]? = some x) (h:x∈l.take k):false=ZcW l:=by
 simp [ZcW,ZuO hx h]
theorem ZiY {l:List Str} {k:Nat} (hk : ¬ (k:Int)<l.length) (ha:(l.take k).all Zaz=true) (hn:(l.take k).Nodup):decide ((l.length:Int)≤3)=ZcW l:=by
 rw [List.take_of_length_le (by omega)] at ha hn
 rw [Bool.eq_iff_iff];simp only [ZcW,ha,decide_eq_true hn,Bool.true_and,decide_eq_true_eq];omega
def ZaI {α:Type} (p:α→Bool) (xs:List α):Int:=match xs.findIdx? p with | some i=>i | none=>-1
theorem Zii {α:Type} {p:α→Bool} {xs:List α} {k:Nat} {x:α} (hx:xs[k]? = some x) (he:p x=true) (h :∀y,y∈xs.take k→p y=false):ZaI p xs=k:=by
 have:xs.findIdx? p=some k:=by
  rw [List.findIdx?_eq_some_iff_getElem]
  obtain ⟨hk,rfl⟩:=List.getElem?_eq_some_iff.1 hx
  refine ⟨hk,he,fun j hj=>?_⟩
  have:=h xs[j] (by rw [List.mem_take_iff_getElem];exact ⟨j,by omega,rfl⟩)
  simpa using this
 rw [ZaI,this]
theorem Zfp {α:Type} {p:α→Bool} {xs:List α} (h :∀y,y∈xs→p y=false):ZaI p xs = -1:=by
 have:xs.findIdx? p=none:=by
  rw [List.findIdx?_eq_none_iff]
  intro x hx
  simpa using h x hx
 rw [ZaI,this]
theorem Zd9 {α:Type} {p:α→Bool} {xs:List α} : (0≤ZaI p xs)↔∃x,x∈xs∧p x=true:=by
 cases h:xs.findIdx? p with
 | none=>
  rw [List.findIdx?_eq_none_iff] at h
  simp only [ZaI,List.findIdx?_eq_none_iff.2 h]
  refine ⟨fun e=>absurd e (by omega),fun ⟨x,hx,hp⟩=>?_⟩
  rw [h x hx] at hp;cases hp
 | some i=>
  simp only [ZaI,h]
  rw [List.findIdx?_eq_some_iff_getElem] at h
  obtain ⟨hi,hp,_⟩:=h
  exact ⟨fun _=>⟨_,List.getElem_mem hi,hp⟩,fun _=>by omega⟩
def ZvN (xs:List Str) (v:Str):Int:=ZaI (fun x=>decide (x=v)) xs
theorem Zoz {xs:List Str} {v:Str} : (0≤ZvN xs v)↔v∈xs:=by
 rw [ZvN,Zd9];simp
theorem Zon {q:DQueue} (h:Zc6 0 q.items=none):false=Zab q:=by simp [Zab,h]
theorem Zom {q:DQueue} {last:Int} (h:Zc6 0 q.items=some last):(decide (last+1≤q.next) && decide (q.next≤100) && decide (q.items.length≤6))=Zab q:=by simp [Zab,h]
theorem ZqJ {q:DQueue} {k:Nat} {last:Int} {x:DItem} (hs:Zc6 0 q.items=Zc6 last (q.items.drop k)) (hx:q.items[k]? = some x):Zc6 0 q.items=if (last+1≤x.id∧x.id≤99)∧ZcL x=true then Zc6 x.id (q.items.drop (k+1)) else none:=by
 rw [hs,Zlr hx,Zc6]
theorem Zib {a b:DQueue} {k:Nat} {x y:DItem} (hx:a.items[k]? = some x) (hy:b.items[k]? = some y) (e : ¬ x=y):false=decide (a=b):=by
 symm;rw [decide_eq_false_iff_not];rintro rfl;rw [hx] at hy;exact e (Option.some.inj hy)
def rep (l:Str) (n:Nat):Str:=(List.replicate n l).flatten
theorem Zk3 (l:Str) (n:Nat):(rep l n).length=n*l.length:=by simp [rep]
theorem Zfm (x:DLetter):ZaW x=(Zaz x.fr && (decide (1≤x.to_.length) && ZcW x.to_) && decide ((x.text.length:Int)≤20)):=by
 rw [Bool.eq_iff_iff];simp only [ZaW,Bool.and_eq_true,decide_eq_true_eq]
 constructor
 ·rintro ⟨⟨⟨a,b⟩,c⟩,d⟩;exact ⟨⟨a,by omega,b⟩,by omega⟩
 ·rintro ⟨⟨a,c,b⟩,d⟩;exact ⟨⟨⟨a,b⟩,by omega⟩,by omega⟩
theorem Zap.mono {B B':Kn} {q:Option Addr} {m:Nat} (h:Zap B q m) (hle:B.le B'):Zap B' q m:=fun j hj=>by
 obtain ⟨a,c,h1,h2,h3⟩:=h j hj
 exact ⟨a,c,h1,h2,h3.mono hle⟩
theorem ZuD (l:Str) (n:Nat) (h:n % 2=1):rep l n=l ++ rep (l ++ l) (n / 2):=by
 obtain ⟨k,rfl⟩ :∃k,n=2*k+1:=⟨n / 2,by omega⟩
 have e:(2*k+1) / 2=k:=by omega
 rw [e]
 clear h e
 induction k with
 | zero=>simp [rep]
 | succ k ih=>
  rw [show 2*(k+1)+1=(2*k+1)+1+1 from by omega]
  simp only [rep,List.replicate_succ,List.flatten_cons] at ih ⊢
  rw [ih];simp
theorem ZsG (l:Str) (n:Nat) (h:n % 2=0):rep l n=rep (l ++ l) (n / 2):=by
 obtain ⟨k,rfl⟩ :∃k,n=2*k:=⟨n / 2,by omega⟩
 have e:2*k / 2=k:=by omega
 rw [e]
 clear h e
 induction k with
 | zero=>simp [rep]
 | succ k ih=>
  rw [show 2*(k+1)=(2*k)+1+1 from by omega]
  simp only [rep,List.replicate_succ,List.flatten_cons] at ih ⊢
  rw [ih];simp
structure Gh (α:Type) where
 k:Nat
 p:Nat
 l:Cells
 a:Option Addr
 c:Nat
 xs:List α
theorem Zay {α:Type} {l:List α} {k:Nat} {x:α} (hx:l[k]? = some x):l.take (k+1)=l.take k ++ [x]:=by
 rw [List.take_add_one,hx];rfl
def Zip (q:DQueue) (x:DLetter):DQueue × Bool:=
 if Zab q=true∧ZaW x=true then
  (if 6≤q.items.length∨99<q.next then (q,false) else (⟨q.next+1,q.items ++ [⟨q.next,x.fr,x.text,x.to_⟩]⟩,true))
 else (⟨0,[]⟩,false)
theorem Zsb {q:DQueue} {x:DLetter} (h:Zab q=false):Zip q x=(⟨0,[]⟩,false):=by simp [Zip,h]
theorem Zsa {q:DQueue} {x:DLetter} (h:ZaW x=false):Zip q x=(⟨0,[]⟩,false):=by simp [Zip,h]
theorem ZmZ {q:DQueue} {x:DLetter} (h:Zab q=true) (h':ZaW x=true) (hf:6≤q.items.length∨99<q.next):Zip q x=(q,false):=by rw [Zip,if_pos ⟨h,h'⟩,if_pos hf]
theorem ZvG {q:DQueue} {x:DLetter} (h:Zab q=true) (h':ZaW x=true) (h1 : ¬ 6≤q.items.length) (h2 : ¬ 99<q.next):Zip q x=(⟨q.next+1,q.items ++ [⟨q.next,x.fr,x.text,x.to_⟩]⟩,true):=by
 rw [Zip,if_pos ⟨h,h'⟩,if_neg (by omega)]
theorem ZqK :∀{xs:List DItem} {l r:Int},Zc6 l xs=some r→l≤r
 | [],l,r,h=>by simp only [Zc6,Option.some.injEq] at h;omega
 | x :: xs,l,r,h=>by
  rw [Zc6] at h
  split at h
  ·rename_i e;have:=ZqK h;omega
  ·cases h
theorem Zcy {q:DQueue} (h:Zab q=true):1≤q.next∧q.next≤100∧q.items.length≤6:=by
 unfold Zab at h
 split at h
 ·rename_i last e
  have:=ZqK e
  simp only [Bool.and_eq_true,decide_eq_true_eq] at h
  omega
 ·cases h
structure Gh2 (α β:Type) where
 k:Nat
 p:Nat
 l:Cells
 a:Option Addr
 c:Nat
 xs:List α
 e:β
def without (xs:List Str) (u:Str):List Str:=xs.filter fun x=>decide (x≠u)
theorem ZlE {xs:List Str} {u:Str} {k:Nat} {x:Str} (hx:xs[k]? = some x) (h : ¬ x=u):without (xs.take (k+1)) u=without (xs.take k) u ++ [x]:=by
 rw [Zay hx,without,without,List.filter_append];simp [h]
theorem ZlD {xs:List Str} {u:Str} {k:Nat} {x:Str} (hx:xs[k]? = some x) (h:x=u):without (xs.take (k+1)) u=without (xs.take k) u:=by
 rw [Zay hx,without,without,List.filter_append];simp [h]
theorem Zit (xs:List Str) (u:Str):(without xs u).length≤xs.length:=List.length_filter_le _ _
def ZbP (id:Int) (u:Str) (x:DItem):DItem:=if x.id=id∧u∈x.left then ⟨x.id,x.fr,x.text,without x.left u⟩ else x
def Ze7 (id:Int) (u:Str) (xs:List DItem):List DItem:=(xs.map (ZbP id u)).filter fun x=>decide (0<x.left.length)
def Zb5 (id:Int) (u:Str) (s:Str × Bool) (x:DItem):Str × Bool:=if x.id=id∧u∈x.left then (x.text,true) else s
def Zf7 (id:Int) (u:Str) (xs:List DItem):Str × Bool:=xs.foldl (Zb5 id u) ([],false)
theorem Zfb {id:Int} {u:Str} {x:DItem} (h:x.id=id) (h':u∈x.left):ZbP id u x=⟨x.id,x.fr,x.text,without x.left u⟩:=by rw [ZbP,if_pos ⟨h,h'⟩]
theorem ZhM {id:Int} {u:Str} {x:DItem} (h : ¬ x.id=id):ZbP id u x=x:=by rw [ZbP,if_neg (fun e=>h e.1)]
theorem ZhL {id:Int} {u:Str} {x:DItem} (h : ¬ u∈x.left):ZbP id u x=x:=by rw [ZbP,if_neg (fun e=>h e.2)]
theorem ZiF {id:Int} {u:Str} {xs:List DItem} {k:Nat} {x y:DItem} (hx:xs[k]? = some x) (e:ZbP id u x=y) (h:0<y.left.length):Ze7 id u (xs.take (k+1))=Ze7 id u (xs.take k) ++ [y]:=by
 rw [Zay hx,Ze7,Ze7,List.map_append,List.filter_append];simp [e,h]
theorem Zhd {id:Int} {u:Str} {xs:List DItem} {k:Nat} {x y:DItem} (hx:xs[k]? = some x) (e:ZbP id u x=y) (h : ¬ 0<y.left.length):Ze7 id u (xs.take (k+1))=Ze7 id u (xs.take k):=by
 rw [Zay hx,Ze7,Ze7,List.map_append,List.filter_append];simp [e,show y.left.length=0 by omega]
theorem ZlX {id:Int} {u:Str} {xs:List DItem} {k:Nat} {x:DItem} (hx:xs[k]? = some x) (h:x.id=id) (h':u∈x.left):Zf7 id u (xs.take (k+1))=(x.text,true):=by
 rw [Zay hx,Zf7,List.foldl_append];simp [Zb5,h,h']
theorem ZlW {id:Int} {u:Str} {xs:List DItem} {k:Nat} {x:DItem} (hx:xs[k]? = some x) (h : ¬ x.id=id):Zf7 id u (xs.take (k+1))=Zf7 id u (xs.take k):=by
 rw [Zay hx,Zf7,List.foldl_append];simp [Zb5,h,Zf7]
theorem ZlV {id:Int} {u:Str} {xs:List DItem} {k:Nat} {x:DItem} (hx:xs[k]? = some x) (h : ¬ u∈x.left):Zf7 id u (xs.take (k+1))=Zf7 id u (xs.take k):=by
 rw [Zay hx,Zf7,List.foldl_append];simp [Zb5,h,Zf7]
theorem ZiE (id:Int) (u:Str) (xs:List DItem):(Ze7 id u xs).length≤xs.length:=by
 unfold Ze7;exact Nat.le_trans (List.length_filter_le _ _) (by simp)
def Zba (q:DQueue) (id:Int) (u:Str):DQueue × Str × Bool:=(⟨q.next,Ze7 id u q.items⟩,(Zf7 id u q.items).1,(Zf7 id u q.items).2)
def Zac (q:DQueue) (id:Int) (u:Str):DQueue × Str × Bool:=if Zab q=true then Zba q id u else (⟨0,[]⟩,[],false)
structure GQ where
 k:Nat
 p:Nat
 l:Cells
 a:Option Addr
 c:Nat
 q:DQueue
structure GM where
 b:Nat
 p:Nat
 l:Cells
 a:Option Addr
 c:Nat
 q:DQueue
 f:Bool
theorem Zio (q:DQueue) (x:DLetter):(Zip q x).1.items.length≤q.items.length+1:=by
 unfold Zip
 split
 ·split
  ·exact Nat.le_succ _
  ·simp
 ·exact Nat.zero_le _
theorem ZiR (q:DQueue) (id:Int) (u:Str):(Zac q id u).1.items.length≤q.items.length:=by
 unfold Zac
 split
 ·exact ZiE _ _ _
 ·exact Nat.zero_le _
theorem ZrS {α:Type} {xs:List α} {j:Nat} {y:α} (h:xs[j]? = some y):xs.drop j=y :: xs.drop (j+1):=by
 obtain ⟨hj,rfl⟩:=List.getElem?_eq_some_iff.1 h
 exact List.drop_eq_getElem_cons hj
structure QOf where
 p:Option Addr
 ys:List DItem
 xs:List DItem
 l:Cells
 q:Option Addr
 c:Nat
 cells:Cells
theorem ZY.slice0 {α:Type} {B:Kn} {l:Cells} {p:Option Addr} {c:Nat} {T:TypeId} {w sz:Nat} {R:Rel α} {xs:List α} (h:ZY B l p c T w R xs):(if c=0 then p else p.map (fun a=>a.add (0*sz)))=p:=by
 obtain ⟨rows,_,_,_,⟨rfl,_,rfl,_⟩ | ⟨b,arr,rfl,_,_,_,_⟩⟩:=h
 ·rfl
 ·split
  ·rfl
  ·rw [Nat.zero_mul];simp [Addr.add_off]
theorem Zhi {q:DQueue} (h : ¬ (q.items.length≤6∧1≤q.next∧q.next≤100)):false=Zab q:=by
 symm;rw [Bool.eq_false_iff];intro hq
 have:=Zcy hq
 omega
end Go.BL
namespace Go.BL
open Go
def hat (xs:List Int) (k:Nat):Int:=xs.getD k 0
def swp (xs:List Int) (i j:Nat):List Int:=(xs.set i (hat xs j)).set j (hat xs i)
def ZdW (xs:List Int):Prop:=∀k,0<k→k<xs.length→hat xs ((k - 1) / 2)≤hat xs k
def Zgv (xs:List Int) (j:Nat):Prop:=(∀k,0<k→k<xs.length→k≠j→hat xs ((k - 1) / 2)≤hat xs k)∧(∀k,0<k→k<xs.length→(k - 1) / 2=j→0<j→hat xs ((j - 1) / 2)≤hat xs k)
theorem Zu3 {xs:List Int} {k:Nat} {a:Int} (h:xs[k]? = some a):hat xs k=a:=by simp [hat,List.getD,h]
theorem Zbh {xs:List Int} {k:Nat} (h:k<xs.length):xs[k]? = some (hat xs k):=by simp [hat,List.getD,List.getElem?_eq_getElem h]
theorem ZdK (xs:List Int) (i j:Nat):(swp xs i j).length=xs.length:=by simp [swp]
theorem Zfq {xs:List Int} {i j:Nat} (hi:i<xs.length) (hj:j<xs.length) (k:Nat):hat (swp xs i j) k=if k=j then hat xs i else if k=i then hat xs j else hat xs k:=by
 simp only [hat,swp,List.getD,List.getElem?_set]
 by_cases h1:k=j
 ·subst h1;simp [hj]
 ·have h1' : ¬j=k:=fun h=>h1 h.symm
  by_cases h2:k=i
  ·subst h2;simp [hi,h1,h1']
  ·have h2' : ¬i=k:=fun h=>h2 h.symm
   simp [h1,h1',h2,h2']
theorem ZgE {xs:List Int} {i j:Nat} (hi:i<xs.length) (hj:j<xs.length):(swp xs i j).Perm xs:=by
 rw [List.perm_iff_count]
 intro a
 unfold swp
 rw [List.count_set (by simpa using hj),List.count_set hi]
 have e1:(xs.set i (hat xs j))[j]'(by simpa using hj)=hat xs j:=by
  rw [List.getElem_set];split
  ·rfl
  ·simp [hat,List.getD,List.getElem?_eq_getElem hj]
 have e2:xs[i]=hat xs i:=by simp [hat,List.getD,List.getElem?_eq_getElem hi]
 rw [e1,e2]
 have hp :∀v,(v == a)=true→v∈xs→0<List.count a xs:=fun v hv hm=>by
  rw [beq_iff_eq] at hv;subst hv;exact List.count_pos_iff.2 hm
 have hm1:hat xs i∈xs:=by rw [← e2];exact List.getElem_mem _
 by_cases h1:(hat xs i == a)=true <;> by_cases h2:(hat xs j == a)=true <;> simp [h1,h2] <;> (try have:=hp _ h1 hm1;omega)
theorem Zus {xs:List Int} (h:Zgv xs 0):ZdW xs:=fun k h0 hk=>h.1 k h0 hk (by omega)
theorem Zuu {xs:List Int} {j:Nat} (h:Zgv xs j) (hj:hat xs ((j - 1) / 2)≤hat xs j):ZdW xs:=fun k h0 hk=>by
 by_cases e:k=j
 ·subst e;exact hj
 ·exact h.1 k h0 hk e
theorem Zut {xs:List Int} {j:Nat} (h0:0<j) (hj:j<xs.length) (h:Zgv xs j) (hlt:hat xs j<hat xs ((j - 1) / 2)):Zgv (swp xs ((j - 1) / 2) j) ((j - 1) / 2):=by
 have hi:(j - 1) / 2<xs.length:=by omega
 have H:=fun k=>Zfq hi hj k
 generalize hii:(j - 1) / 2=i at *
 refine ⟨fun k hk0 hk hne=>?_,fun k hk0 hk hpar hi0=>?_⟩
 ·rw [ZdK] at hk
  rw [H,H]
  by_cases e1:k=j
  ·subst e1
   rw [hii];rw [if_neg (by omega),if_pos rfl,if_pos rfl];omega
  ·rw [if_neg e1,if_neg hne]
   by_cases e2:(k - 1) / 2=j
   ·rw [if_pos e2];have:=h.2 k hk0 hk e2 h0;rw [hii] at this;exact this
   ·rw [if_neg e2]
    by_cases e3:(k - 1) / 2=i
    ·rw [if_pos e3];have:=h.1 k hk0 hk e1;rw [e3] at this;omega
    ·rw [if_neg e3];exact h.1 k hk0 hk e1
 ·rw [ZdK] at hk
  rw [H,H]
  have hpi:(i - 1) / 2≠i:=by omega
  have hpj:(i - 1) / 2≠j:=by omega
  rw [if_neg hpj,if_neg hpi]
  have hii2:=h.1 i hi0 hi (by omega)
  by_cases e1:k=j
  ·rw [if_pos e1];exact hii2
  ·rw [if_neg e1,if_neg (by omega)]
   have:=h.1 k hk0 hk e1;rw [hpar] at this;omega
theorem Zti {xs:List Int} (h:ZdW xs) :∀k,k<xs.length→hat xs 0≤hat xs k:=fun k=>by
 induction k using Nat.strongRecOn with
 | ind k ih=>
  intro hk
  by_cases h0:k=0
  ·subst h0;exact Int.le_refl _
  ·have h1:=ih ((k - 1) / 2) (by omega) (by omega)
   have h2:=h k (by omega) hk
   omega
def ZtO (xs:List Int) (n:Nat):Prop:=∀k,0<k→k<n→hat xs ((k - 1) / 2)≤hat xs k
def ZfC (xs:List Int) (n i:Nat):Prop:=(∀k,0<k→k<n→(k - 1) / 2≠i→hat xs ((k - 1) / 2)≤hat xs k)∧(∀k,0<k→k<n→(k - 1) / 2=i→0<i→hat xs ((i - 1) / 2)≤hat xs k)
theorem ZrV {xs:List Int} {n i:Nat} (h:ZfC xs n i) (hl:n≤2*i+1):ZtO xs n:=fun k h0 hk=>h.1 k h0 hk (by omega)
theorem ZjI {xs:List Int} {n i:Nat} (h:ZfC xs n i) (hc :∀k,0<k→k<n→(k - 1) / 2=i→hat xs i≤hat xs k):ZtO xs n:=fun k h0 hk=>by
 by_cases e:(k - 1) / 2=i
 ·rw [e];exact hc k h0 hk e
 ·exact h.1 k h0 hk e
theorem ZjH {xs:List Int} {n i j:Nat} (hn:n≤xs.length) (hj0:0<j) (hj:j<n) (hpj:(j - 1) / 2=i) (h:ZfC xs n i) (hmin :∀k,0<k→k<n→(k - 1) / 2=i→hat xs j≤hat xs k) (hlt:hat xs j<hat xs i):ZfC (swp xs i j) n j:=by
 have hi:i<xs.length:=by omega
 have hij:i≠j:=by omega
 have H:=fun k=>Zfq hi (show j<xs.length by omega) k
 refine ⟨fun k hk0 hk hne=>?_,fun k hk0 hk hpar _=>?_⟩
 ·rw [H,H,if_neg hne]
  by_cases e1:k=j
  ·subst e1;rw [if_pos hpj,if_pos rfl];omega
  ·rw [if_neg e1]
   by_cases e2:(k - 1) / 2=i
   ·rw [if_pos e2,if_neg (by omega)];exact hmin k hk0 hk e2
   ·rw [if_neg e2]
    by_cases e3:k=i
    ·rw [if_pos e3];subst e3;exact h.2 j hj0 hj hpj hk0
    ·rw [if_neg e3];exact h.1 k hk0 hk e2
 ·rw [H,H,hpj,if_neg hij,if_pos rfl,if_neg (by omega),if_neg (by omega)]
  have:=h.1 k hk0 hk (by omega)
  rwa [hpar] at this
theorem ZxA (k:Nat):Int.tdiv ((k:Int) - 1) 2=(((k - 1) / 2:Nat):Int):=by
 cases k with
 | zero=>rfl
 | succ k=>rw [show ((k+1:Nat):Int) - 1=(k:Int) from by omega,Int.tdiv_eq_ediv_of_nonneg (by omega)];simp
theorem Zrs {xs:List Int} {z:Int} {k:Nat} (h:k<xs.length):hat (xs ++ [z]) k=hat xs k:=by
 simp [hat,List.getD,List.getElem?_append_left h]
theorem ZsK {xs:List Int} {z:Int} (h:ZdW xs):Zgv (xs ++ [z]) xs.length:=by
 refine ⟨fun k h0 hk hne=>?_,fun k h0 hk hp _=>?_⟩
 ·rw [List.length_append,List.length_singleton] at hk
  rw [Zrs (by omega),Zrs (by omega)]
  exact h k h0 (by omega)
 ·rw [List.length_append,List.length_singleton] at hk
  omega
theorem ZuF {xs:List Int} (h:ZdW xs) (h0:0<xs.length):ZfC (swp xs 0 (xs.length - 1)) (xs.length - 1) 0:=by
 refine ⟨fun k hk0 hk hne=>?_,fun k hk0 hk hpar hh=>absurd hh (by omega)⟩
 rw [Zfq h0 (by omega),Zfq h0 (by omega),if_neg (by omega),if_neg (by omega),if_neg (by omega),if_neg (by omega)]
 exact h k hk0 (by omega)
theorem ZsA {xs:List Int} (h0:0<xs.length):hat (swp xs 0 (xs.length - 1)) (xs.length - 1)=hat xs 0:=by rw [Zfq h0 (by omega),if_pos rfl]
theorem ZoD {xs:List Int} {n k:Nat} (h:k<n):hat (xs.take n) k=hat xs k:=by simp [hat,List.getD,List.getElem?_take,h]
theorem ZpH {ys:List Int} {n:Nat} (h:ZtO ys n) (hn:n≤ys.length):ZdW (ys.take n):=fun k h0 hk=>by
 rw [List.length_take] at hk
 rw [ZoD (by omega),ZoD (by omega)]
 exact h k h0 (by omega)
theorem ZsN {xs ys:List Int} (h0:0<ys.length) (hp:ys.Perm xs) {z:Int} (hz:hat ys (ys.length - 1)=z):(z :: ys.take (ys.length - 1)).Perm xs:=by
 refine List.Perm.trans ?_ hp
 have e:ys=ys.take (ys.length - 1) ++ [z]:=by
  have h1:=Zay (Zbh (xs:=ys) (k:=ys.length - 1) (by omega))
  rw [show ys.length - 1+1=ys.length from by omega,List.take_length] at h1
  rw [hz] at h1;exact h1
 have h2:(z :: ys.take (ys.length - 1)).Perm (ys.take (ys.length - 1) ++ [z]):=(List.perm_append_singleton z _).symm
 rwa [← e] at h2
theorem Zth:ZdW []:=fun k h0 hk=>by simp at hk
def asc:Int→Int→List Int→Bool
 | _,_,[]=>true
 | b,l,x :: r=>decide (b<x) && decide (x≤l) && asc x l r
theorem ZnZ :∀{r:List Int} {b l z:Int},asc b l r=true→z∈r→b<z
 | [],_,_,_,_,hz=>by cases hz
 | x :: r,b,l,z,h,hz=>by
  simp only [asc,Bool.and_eq_true,decide_eq_true_eq] at h
  rcases List.mem_cons.1 hz with rfl | hz
  ·exact h.1.1
  ·have:=ZnZ h.2 hz;omega
theorem Zu2 {xs:List Int} {k:Nat} (h:k<xs.length):hat xs k∈xs:=List.mem_of_getElem? (Zbh h)
theorem ZtH {b l x:Int} {r ys:List Int} (hp:ys.Perm (x :: r)) (hh:ZdW ys) (hne:hat ys 0≠x):false=asc b l (x :: r):=by
 symm;rw [Bool.eq_false_iff]
 intro h
 have h0:0<ys.length:=by rw [hp.length_eq];simp
 have hm:=hp.mem_iff.1 (Zu2 h0)
 simp only [asc,Bool.and_eq_true,decide_eq_true_eq] at h
 rcases List.mem_cons.1 hm with e | hm
 ·exact hne e
 ·have h1:=ZnZ h.2 hm
  obtain ⟨k,hk⟩:=List.mem_iff_getElem?.1 (hp.mem_iff.2 (List.mem_cons_self (a:=x) (l:=r)))
  have h2:=Zti hh k (List.getElem?_eq_some_iff.1 hk).1
  rw [Zu3 hk] at h2
  omega
theorem ZtG {b l x:Int} {r:List Int} (h:x≤b):false=asc b l (x :: r):=by simp [asc,show ¬ b<x from by omega]
theorem ZtF {b l x:Int} {r:List Int} (h:l<x):false=asc b l (x :: r):=by simp [asc,show ¬ x≤l from by omega]
theorem Zw3 {b l x:Int} {r:List Int} (h : ¬ x≤b) (h2 : ¬ l<x):asc b l (x :: r)=asc x l r:=by simp [asc,show b<x from by omega,show x≤l from by omega]
theorem Zoh :∀{xs:List DItem} {b:Int} {l:Int},l≤99→(match Zc6 b xs with | some r=>decide (r≤l) | none=>false)=(decide (b≤l) && xs.all ZcL && asc b l (xs.map (·.id)))
 | [],b,l,_=>by simp [Zc6,asc]
 | x :: xs,b,l,hl=>by
  have ih:=Zoh (xs:=xs) (b:=x.id) hl
  rw [Zc6,List.map_cons,List.all_cons,asc]
  by_cases h1:b+1≤x.id
  ·by_cases h2:ZcL x=true
   ·by_cases h3:x.id≤99
    ·rw [if_pos ⟨⟨h1,h3⟩,h2⟩,ih,h2]
     by_cases h4:x.id≤l
     ·simp [h4,show b≤l from by omega,show b<x.id from by omega]
     ·simp [h4]
    ·rw [if_neg (fun h=>h3 h.1.2)]
     simp [show ¬ x.id≤l from by omega]
   ·rw [if_neg (fun h=>h2 h.2)]
    simp [h2]
  ·rw [if_neg (fun h=>h1 h.1.1)]
   simp [show ¬ b<x.id from by omega]
theorem ZcV (q:DQueue):Zab q=(decide (q.items.length≤6) && decide (1≤q.next) && decide (q.next≤100) && q.items.all ZcL && asc 0 (q.next - 1) (q.items.map (·.id))):=by
 by_cases h:q.next≤100
 ·have:=Zoh (xs:=q.items) (b:=0) (l:=q.next - 1) (by omega)
  unfold Zab
  cases hs:Zc6 0 q.items with
  | none=>
   rw [hs] at this
   simp only at this
   rw [Bool.eq_iff_iff]
   simp only [Bool.and_eq_true,decide_eq_true_eq,Bool.false_eq_true,false_iff]
   rintro ⟨⟨⟨⟨_,h1⟩,_⟩,h2⟩,h3⟩
   rw [h2,h3] at this
   simp at this;omega
  | some r=>
   rw [hs] at this
   simp only at this
   rw [Bool.eq_iff_iff] at this ⊢
   simp only [Bool.and_eq_true,decide_eq_true_eq] at this ⊢
   constructor
   ·rintro ⟨⟨h1,h2⟩,h3⟩
    obtain ⟨⟨a,b⟩,c⟩:=this.1 (by omega)
    exact ⟨⟨⟨⟨h3,by omega⟩,h⟩,b⟩,c⟩
   ·rintro ⟨⟨⟨⟨h1,h2⟩,h3⟩,h4⟩,h5⟩
    have:=this.2 ⟨⟨by omega,h4⟩,h5⟩
    omega
 ·unfold Zab
  cases Zc6 0 q.items <;> simp [h]
theorem Zw5 {α:Type} {p:α→Bool} {l:List α} {k:Nat} {x:α} (hx:l[k]? = some x) (h:p x=false):l.all p=false:=by
 rw [Bool.eq_false_iff];intro hp
 rw [List.all_eq_true] at hp
 have:=hp x (List.mem_of_getElem? hx)
 rw [h] at this;cases this
theorem Zw4 {α:Type} {p:α→Bool} {l:List α} {k:Nat} {x:α} (hx:l[k]? = some x) (h:p x=true) (ha:(l.take k).all p=true):(l.take (k+1)).all p=true:=by
 rw [Zay hx,List.all_append,ha];simp [h]
theorem Znp {q:DQueue} {k:Nat} {x:DItem} (hx:q.items[k]? = some x) (h:ZcL x=false):false=Zab q:=by
 rw [ZcV,Zw5 hx h];simp
theorem Zno {q:DQueue} {k:Nat} (hk : ¬ (k:Int)<q.items.length) (ha:(q.items.take k).all ZcL=true) (h6:q.items.length≤6) (h1:1≤q.next) (h2:q.next≤100):asc 0 (q.next - 1) (q.items.map (·.id))=Zab q:=by
 rw [List.take_of_length_le (by omega)] at ha
 rw [ZcV,ha];simp [h6,h1,h2]
theorem ZmY {q:DQueue} {x:DLetter} (h:(Zip q x).2=true):(Zip q x).1=⟨q.next+1,q.items ++ [⟨q.next,x.fr,x.text,x.to_⟩]⟩∧Zab q=true∧ZaW x=true∧q.items.length<6∧q.next≤99:=by
 unfold Zip at h ⊢
 by_cases h1:Zab q=true∧ZaW x=true
 ·rw [if_pos h1] at h ⊢
  by_cases h2:6≤q.items.length∨99<q.next
  ·rw [if_pos h2] at h;cases h
  ·rw [if_neg h2];exact ⟨rfl,h1.1,h1.2,by omega,by omega⟩
 ·rw [if_neg h1] at h;cases h
theorem Zoi :∀{xs:List DItem} {b r:Int} {y:DItem},Zc6 b xs=some r→r+1≤y.id→y.id≤99→ZcL y=true→Zc6 b (xs ++ [y])=some y.id
 | [],b,r,y,h,h1,h2,h3=>by
  simp only [Zc6,Option.some.injEq] at h;subst h
  simp only [List.nil_append,Zc6,if_pos (And.intro (And.intro h1 h2) h3)]
 | x :: xs,b,r,y,h,h1,h2,h3=>by
  rw [Zc6] at h
  split at h
  ·rename_i hc
   rw [List.cons_append,Zc6,if_pos hc];exact Zoi h h1 h2 h3
  ·cases h
theorem Zp1 {q:DQueue} {x:DLetter} (h:(Zip q x).2=true):Zab (Zip q x).1=true:=by
 obtain ⟨he,hq,hx,h6,h9⟩:=ZmY h
 rw [he]
 unfold Zab at hq ⊢
 split at hq
 ·rename_i last hs
  simp only [Bool.and_eq_true,decide_eq_true_eq] at hq
  have:=Zoi (y:=⟨q.next,x.fr,x.text,x.to_⟩) hs (by simp only [];omega) h9 hx
  rw [this]
  simp only [Bool.and_eq_true,decide_eq_true_eq,List.length_append,List.length_singleton]
  omega
 ·cases hq
theorem Zue :∀{ids:List Int} {b l:Int},asc b l ids=true→ids.Nodup
 | [],_,_,_=>by simp
 | x :: r,b,l,h=>by
  simp only [asc,Bool.and_eq_true,decide_eq_true_eq] at h
  rw [List.nodup_cons]
  exact ⟨fun hm=>by have:=ZnZ h.2 hm;omega,Zue h.2⟩
theorem Znn {q:DQueue} (h:Zab q=true):(q.items.map (·.id)).Nodup:=by
 rw [ZcV] at h
 simp only [Bool.and_eq_true] at h
 exact Zue h.2
theorem Zc8 {q:DQueue} (h:Zab q=true) {x:DItem} (hx:x∈q.items):ZcL x=true:=by
 rw [ZcV] at h
 simp only [Bool.and_eq_true] at h
 exact List.all_eq_true.1 h.1.2 x hx
theorem Zgh {x:DItem} (h:ZcL x=true):0<x.left.length∧x.left.Nodup:=by
 simp only [ZcL,ZaW,ZcW,Bool.and_eq_true,decide_eq_true_eq] at h
 exact ⟨h.1.2,h.1.1.2.1.2⟩
theorem ZlU {id:Int} {u:Str} {x:DItem} (h : ¬ (x.id=id∧u∈x.left)):ZbP id u x=x:=by rw [ZbP,if_neg h]
theorem ZgD {id:Int} {u:Str} :∀{xs:List DItem} {s:Str × Bool},(∀x,x∈xs→¬ (x.id=id∧u∈x.left))→xs.foldl (Zb5 id u) s=s
 | [],_,_=>rfl
 | x :: xs,s,h=>by
  rw [List.foldl_cons,Zb5,if_neg (h x (List.mem_cons_self ..))]
  exact ZgD fun y hy=>h y (List.mem_cons_of_mem _ hy)
theorem ZiD {id:Int} {u:Str} {xs:List DItem} (h :∀x,x∈xs→¬ (x.id=id∧u∈x.left)) (hl :∀x,x∈xs→0<x.left.length):Ze7 id u xs=xs:=by
 have e:xs.map (ZbP id u)=xs:=by
  conv=>rhs;rw [← List.map_id xs]
  exact List.map_congr_left fun x hx=>ZlU (h x hx)
 rw [Ze7,e]
 exact List.filter_eq_self.2 fun x hx=>by simpa using hl x hx
theorem Zh9 {q:DQueue} {id:Int} {u:Str} (hq:Zab q=true) (h :∀x,x∈q.items→¬ (x.id=id∧u∈x.left)):Zac q id u=(q,[],false):=by
 rw [Zac,if_pos hq,Zba,ZiD h (fun x hx=>(Zgh (Zc8 hq hx)).1),Zf7,ZgD h]
theorem Zje {q:DQueue} (hq:Zab q=true) {pre ys:List DItem} {y:DItem} (hs:pre ++ y :: ys=q.items):(∀x,x∈pre→x.id≠y.id)∧∀x,x∈ys→x.id≠y.id:=by
 have h:=Znn hq
 rw [← hs,List.map_append,List.map_cons,List.nodup_append] at h
 obtain ⟨_,h2,h3⟩:=h
 rw [List.nodup_cons] at h2
 refine ⟨fun x hx=>h3 _ (List.mem_map.2 ⟨x,hx,rfl⟩) _ (List.mem_cons_self ..),fun x hx e=>h2.1 (List.mem_map.2 ⟨x,hx,e⟩)⟩
theorem ZoY {q:DQueue} (hq:Zab q=true) {pre ys:List DItem} {y:DItem} (hs:pre ++ y :: ys=q.items) {u:Str} (hu : ¬ u∈y.left):Zac q y.id u=(q,[],false):=by
 obtain ⟨h1,h2⟩:=Zje hq hs
 refine Zh9 hq fun x hx ⟨e1,e2⟩=>?_
 rw [← hs] at hx
 rcases List.mem_append.1 hx with hx | hx
 ·exact h1 x hx e1
 ·rcases List.mem_cons.1 hx with rfl | hx
  ·exact hu e2
  ·exact h2 x hx e1
theorem Zf6 {q:DQueue} (hq:Zab q=true) {pre ys:List DItem} {y:DItem} (hs:pre ++ y :: ys=q.items) {u:Str} (hu:u∈y.left) :
  Zac q y.id u=(⟨q.next,pre ++ (if 0<(without y.left u).length then ⟨y.id,y.fr,y.text,without y.left u⟩ :: ys else ys)⟩,y.text,true):=by
 obtain ⟨h1,h2⟩:=Zje hq hs
 have hl :∀x,x∈q.items→0<x.left.length:=fun x hx=>(Zgh (Zc8 hq hx)).1
 have n1 :∀x,x∈pre→¬ (x.id=y.id∧u∈x.left):=fun x hx e=>h1 x hx e.1
 have n2 :∀x,x∈ys→¬ (x.id=y.id∧u∈x.left):=fun x hx e=>h2 x hx e.1
 have l1:=ZiD n1 (fun x hx=>hl x (by rw [← hs];exact List.mem_append_left _ hx))
 have l2:=ZiD n2 (fun x hx=>hl x (by rw [← hs];exact List.mem_append_right _ (List.mem_cons_of_mem _ hx)))
 rw [Zac,if_pos hq,Zba,← hs]
 unfold Ze7 at l1 l2 ⊢
 unfold Zf7
 rw [List.foldl_append,ZgD n1,List.foldl_cons,ZgD n2,Zb5,if_pos ⟨rfl,hu⟩,List.map_append,List.map_cons,List.filter_append,l1,Zfb rfl hu,List.filter_cons,l2]
 simp only [decide_eq_true_eq]
theorem Ziu :∀{xs:List Str} {u:Str} {i:Nat},xs.Nodup→xs[i]? = some u→without xs u=xs.take i ++ xs.drop (i+1)
 | [],_,_,_,h=>by simp at h
 | x :: xs,u,0,hn,h=>by
  simp only [List.getElem?_cons_zero,Option.some.injEq] at h;subst h
  rw [List.nodup_cons] at hn
  simp only [without,List.filter_cons,ne_eq,not_true_eq_false,decide_false,Bool.false_eq_true,if_false,List.take_zero,List.nil_append,Nat.zero_add,List.drop_succ_cons,List.drop_zero]
  refine List.filter_eq_self.2 fun y hy=>?_
  have hne:y≠x:=fun e=>hn.1 (e ▸ hy)
  simpa using hne
 | x :: xs,u,i+1,hn,h=>by
  rw [List.nodup_cons] at hn
  have h':xs[i]? = some u:=by simpa using h
  have hne:x≠u:=fun e=>hn.1 (e ▸ List.mem_of_getElem? h')
  have:=Ziu hn.2 h'
  unfold without at this ⊢
  simp only [List.filter_cons,ne_eq,hne,not_false_eq_true,decide_true,if_true,List.take_succ_cons,List.drop_succ_cons,List.cons_append]
  rw [← this]
theorem Ztf {xs:List Str} {u:Str} (h:0≤ZvN xs u) :∃k:Nat,ZvN xs u=k∧xs[k]? = some u:=by
 unfold ZvN ZaI at h ⊢
 cases hf:xs.findIdx? (fun x=>decide (x=u)) with
 | none=>simp only [List.findIdx?_eq_none_iff.1 hf,hf] at h;omega
 | some i=>
  refine ⟨i,rfl,?_⟩
  rw [List.findIdx?_eq_some_iff_getElem] at hf
  obtain ⟨hi,hp,_⟩:=hf
  rw [List.getElem?_eq_getElem hi]
  simpa using hp
theorem ZlT {q:DQueue} {id:Int} {u:Str} (h:(Zac q id u).2.2=true):Zab q=true∧∃pre y ys,pre ++ y :: ys=q.items∧y.id=id∧u∈y.left∧
  Zac q id u=(⟨q.next,pre ++ (if 0<(without y.left u).length then ⟨y.id,y.fr,y.text,without y.left u⟩ :: ys else ys)⟩,y.text,true):=by
 have hq:Zab q=true:=by
  cases hq:Zab q with
  | true=>rfl
  | false=>simp [Zac,hq] at h
 refine ⟨hq,?_⟩
 by_cases hx :∀x,x∈q.items→¬ (x.id=id∧u∈x.left)
 ·rw [Zh9 hq hx] at h;cases h
 ·simp only [Classical.not_forall,Classical.not_not] at hx
  obtain ⟨y,hy,hi,hu⟩:=hx
  obtain ⟨pre,ys,hs⟩:=List.append_of_mem hy
  exact ⟨pre,y,ys,hs.symm,hi,hu,by rw [← hi];exact Zf6 hq hs.symm hu⟩
theorem ZtE :∀{ids:List Int} {b b' l:Int},b'≤b→asc b l ids=true→asc b' l ids=true
 | [],_,_,_,_,_=>rfl
 | x :: r,b,b',l,hb,h=>by
  simp only [asc,Bool.and_eq_true,decide_eq_true_eq] at h ⊢
  exact ⟨⟨by omega,h.1.2⟩,h.2⟩
theorem Zr7 :∀{a c:List Int} {b l x:Int},asc b l (a ++ x :: c)=true→asc b l (a ++ c)=true
 | [],c,b,l,x,h=>by
  simp only [List.nil_append,asc,Bool.and_eq_true,decide_eq_true_eq] at h ⊢
  exact ZtE (by omega) h.2
 | y :: a,c,b,l,x,h=>by
  simp only [List.cons_append,asc,Bool.and_eq_true,decide_eq_true_eq] at h ⊢
  exact ⟨h.1,Zr7 h.2⟩
theorem ZjY {y:DItem} {u:Str} (h:ZcL y=true) (h0:0<(without y.left u).length):ZcL ⟨y.id,y.fr,y.text,without y.left u⟩=true:=by
 simp only [ZcL,ZaW,ZcW,Bool.and_eq_true,decide_eq_true_eq,List.all_eq_true] at h ⊢
 obtain ⟨⟨⟨h1,⟨h2,h3⟩,h4⟩,h5⟩,h6⟩:=h
 have:=Zit y.left u
 exact ⟨⟨⟨h1,⟨fun x hx=>h2 x (List.mem_filter.1 hx).1,h3.filter _⟩,by omega⟩,h0⟩,h6⟩
theorem Zkg {q:DQueue} {id:Int} {u:Str} (h:(Zac q id u).2.2=true):Zab (Zac q id u).1=true:=by
 obtain ⟨hq,pre,y,ys,hs,hi,hu,he⟩:=ZlT h
 rw [he]
 have hq':=hq
 rw [ZcV,← hs] at hq'
 rw [ZcV]
 simp only [Bool.and_eq_true,decide_eq_true_eq,List.length_append,List.length_cons,List.all_append,List.all_cons,List.map_append,List.map_cons] at hq' ⊢
 obtain ⟨⟨⟨⟨h6,h1⟩,h2⟩,h3,h4,h5⟩,ha⟩:=hq'
 by_cases h0:0<(without y.left u).length
 ·rw [if_pos h0]
  simp only [List.length_cons,List.all_cons,List.map_cons,Bool.and_eq_true]
  exact ⟨⟨⟨⟨by omega,h1⟩,h2⟩,h3,ZjY h4 h0,h5⟩,ha⟩
 ·rw [if_neg h0]
  exact ⟨⟨⟨⟨by omega,h1⟩,h2⟩,h3,h5⟩,Zr7 ha⟩
theorem ZoX {q:DQueue} {id:Int} {u:Str} (h:(Zac q id u).2.2=true):Zac (Zac q id u).1 id u=((Zac q id u).1,[],false):=by
 refine Zh9 (Zkg h) fun x hx=>?_
 obtain ⟨hq,pre,y,ys,hs,rfl,hu,he⟩:=ZlT h
 obtain ⟨a1,a2⟩:=Zje hq hs
 rw [he] at hx
 rintro ⟨e1,e2⟩
 rcases List.mem_append.1 hx with hx | hx
 ·exact a1 x hx e1
 ·split at hx
  ·rcases List.mem_cons.1 hx with rfl | hx
   ·simp [without] at e2
   ·exact a2 x hx e1
  ·exact a2 x hx e1
theorem Zoo {q:DQueue} {id:Int} {u:Str} (h:q.items.length≤2000000):(Zac q id u).1.items.length≤2000000:=Nat.le_trans (ZiR q id u) h
end Go.BL
namespace Go.BL
open Go
def ZbG (m:DMail):Bool:=(decide (1≤m.uid) && decide (m.uid≤99)) && (decide (0≤m.flags) && decide (m.flags≤31)) && decide (m.text.length≤20)
def scn {α β:Type} (p:β→α→Bool) (nx:β→α→β) (b0:β) (xs:List α):Bool × β:=xs.foldl (fun s x=>(s.1 && p s.2 x,nx s.2 x)) (true,b0)
theorem Zff {α β:Type} {p:β→α→Bool} {nx:β→α→β} {b0:β} {xs:List α} : scn p nx b0 (xs.take 0)=(true,b0):=by simp [scn]
theorem Zof {α β:Type} {p:β→α→Bool} {nx:β→α→β} {b0:β} {xs:List α} {k:Nat} {x:α} (hx:xs[k]? = some x):scn p nx b0 (xs.take (k+1))=((scn p nx b0 (xs.take k)).1 && p (scn p nx b0 (xs.take k)).2 x,nx (scn p nx b0 (xs.take k)).2 x):=by
 have:xs.take (k+1)=xs.take k ++ [x]:=by rw [List.take_add_one,hx];rfl
 rw [this,scn,List.foldl_append];rfl
theorem Zcg {α β:Type} {p:β→α→Bool} {nx:β→α→β} :∀(xs:List α) (b:β),(xs.foldl (fun (s:Bool × β) x=>(s.1 && p s.2 x,nx s.2 x)) (false,b)).1=false
 | [],_=>rfl
 | x :: xs,b=>by simp only [List.foldl_cons,Bool.false_and];exact Zcg xs _
theorem ZuA {α β:Type} {p:β→α→Bool} {nx:β→α→β} {b0:β} {xs:List α} {k:Nat} (h:(scn p nx b0 (xs.take k)).1=false):(scn p nx b0 xs).1=false:=by
 have e:xs=xs.take k ++ xs.drop k:=(List.take_append_drop k xs).symm
 have:scn p nx b0 xs=(xs.drop k).foldl (fun s x=>(s.1 && p s.2 x,nx s.2 x)) (scn p nx b0 (xs.take k)):=by
  conv=>lhs;rw [e,scn,List.foldl_append]
  rfl
 rw [this]
 rcases hs:scn p nx b0 (xs.take k) with ⟨b,c⟩
 rw [hs] at h
 simp only at h
 subst h
 exact Zcg _ _
theorem Zgd {α β:Type} {p:β→α→Bool} {nx:β→α→β} {b0:β} {xs:List α} {k:Nat} {x:α} (hx:xs[k]? = some x) (h:p (scn p nx b0 (xs.take k)).2 x=false):(scn p nx b0 xs).1=false:=
 ZuA (k:=k+1) (by rw [Zof hx,h,Bool.and_false])
theorem Zcm {α β:Type} {p:β→α→Bool} {nx:β→α→β} {b0 b:β} {xs:List α} {k:Nat} {x:α} (hx:xs[k]? = some x) (hs:scn p nx b0 (xs.take k)=(true,b)) (h:p b x=true):scn p nx b0 (xs.take (k+1))=(true,nx b x):=by
 rw [Zof hx,hs];simp [h]
theorem Zei {α β:Type} {p:β→α→Bool} {nx:β→α→β} {b0 b:β} {xs:List α} {k:Nat} (hs:scn p nx b0 (xs.take k)=(true,b)) (hk:xs.length≤k):scn p nx b0 xs=(true,b):=by
 rwa [List.take_of_length_le hk] at hs
def ZbU (b:Int) (m:DMail):Bool:=ZbG m && decide (b<m.uid)
def Zcn (ms:List DMail):Bool × Int:=scn ZbU (fun _ m=>m.uid) 0 ms
def Zbk (b:DBox):Bool:=(Zcn b.mail).1 && (decide ((Zcn b.mail).2+1≤b.next) && decide (b.next≤100)) && decide (b.mail.length≤10)
def Zaj (ms:List DMail):Nat:=(ms.map (·.text.length)).sum
theorem ZiI {ms:List DMail} {k:Nat} {x:DMail} (hx:ms[k]? = some x):Zaj (ms.take (k+1))=Zaj (ms.take k)+x.text.length:=by
 have:ms.take (k+1)=ms.take k ++ [x]:=by rw [List.take_add_one,hx];rfl
 simp [Zaj,this]
theorem Zg7 {b:DBox} (h:(Zcn b.mail).1=false):Zbk b=false:=by simp [Zbk,h]
theorem ZdT {b:DBox} {l:Int} (h:Zcn b.mail=(true,l)):Zbk b=((decide (l+1≤b.next) && decide (b.next≤100)) && decide (b.mail.length≤10)):=by simp [Zbk,h]
theorem Zkw {m:DMail} (h:ZbG m=true):0≤m.uid∧m.uid≤99:=by
 simp only [ZbG,Bool.and_eq_true,decide_eq_true_eq] at h;omega
theorem Zkj {ms:List DMail} {k n:Nat} (h:n=Zaj (ms.take k)) (hk:ms.length≤k):n=Zaj ms:=by rwa [List.take_of_length_le hk] at h
def Zen (b:DBox):Int:=if Zbk b then (Zaj b.mail:Int) else -1
def anyone:Str:=[97,110,121,111,110,101]
def ZcG (u:DUser):Bool:=Zaz u.name && decide (u.name≠anyone) && Zaz u.pass && (decide (0≤u.quota) && decide (u.quota≤200))
theorem Zbw :∀(a b:Str),Op.bytesLess a b = !(Op.bytesLess b a || decide (b=a))
 | [],[]=>by simp [Op.bytesLess]
 | [],_ :: _=>by simp [Op.bytesLess]
 | _ :: _,[]=>by simp [Op.bytesLess]
 | a :: x,b :: y=>by
  have ih:=Zbw x y
  simp only [Op.bytesLess,ih]
  rcases UInt8.lt_or_lt_of_ne (a:=a) (b:=b) with h
  by_cases e:a=b
  ·subst e
   have : ¬ a<a:=UInt8.lt_irrefl a
   simp [this,ih]
  ·rcases h e with h | h
   ·have h2 : ¬ b<a:=UInt8.lt_asymm h
    simp [h,h2,e,Ne.symm e]
   ·have h2 : ¬ a<b:=UInt8.lt_asymm h
    simp [h,h2,e]
def ZdJ (b:Str) (u:DUser):Bool:=ZcG u && Op.bytesLess b u.name
def Zd1 (us:List DUser):Bool × Str:=scn ZdJ (fun _ u=>u.name) [] us
def Zat (us:List DUser):Bool:=(Zd1 us).1 && (decide (1≤us.length) && decide (us.length≤4))
theorem Zf4 {us:List DUser} (h:(Zd1 us).1=false):Zat us=false:=by simp [Zat,h]
theorem ZiA {us:List DUser} {b:Str} (h:Zd1 us=(true,b)):Zat us=(decide (1≤us.length) && decide (us.length≤4)):=by simp [Zat,h]
def ZqX:DUser:=⟨[],[],0⟩
def Zgp (t:DUser→Bool) (us:List DUser):DUser × Bool:=match us.find? t with | some x=>(x,true) | none=>(ZqX,false)
theorem ZmF {α:Type} {t:α→Bool} {xs:List α} (h :∀y,y∈xs→t y=false):xs.find? t=none:=List.find?_eq_none.2 fun y hy=>by simp [h y hy]
theorem Ztu {α:Type} {t:α→Bool} {xs:List α} {k:Nat} {x:α} (hx:xs[k]? = some x) (ht:t x=true) (h :∀y,y∈xs.take k→t y=false):xs.find? t=some x:=by
 have hlt:=(List.getElem?_eq_some_iff.1 hx).1
 have e:xs=xs.take k ++ (x :: xs.drop (k+1)):=by
  rw [← (List.getElem?_eq_some_iff.1 hx).2,← List.drop_eq_getElem_cons hlt,List.take_append_drop]
 rw [e,List.find?_append,ZmF h];simp [ht]
theorem ZrH {t:DUser→Bool} {us:List DUser} {k:Nat} {x:DUser} (hx:us[k]? = some x) (ht:t x=true) (h :∀y,y∈us.take k→t y=false):Zgp t us=(x,true):=by simp [Zgp,Ztu hx ht h]
theorem ZpT {t:DUser→Bool} {us:List DUser} (h :∀y,y∈us→t y=false):Zgp t us=(ZqX,false):=by simp [Zgp,ZmF h]
theorem Zk2 {B:Kn} {b:Nat} {T:TypeId} {vs:List Value} (h :∀p,p∈Zah b vs T→B.mem p.1=some p.2):Zbi B b 0 vs:=fun L j u hu=>
 ⟨rfl,vs.toArray,T,(0,0),.inl (h (b,.cells vs.toArray T) (List.mem_singleton.2 rfl)),by simpa using hu⟩
def Za4 (us:List DUser) (n:Str):DUser × Bool:=if Zat us then Zgp (fun y=>decide (y.name=n)) us else (ZqX,false)
def inF (o n:Str) (f:DFolder):Bool:=decide (f.owner=o) && decide (f.name=n)
def Zdr (us:List DUser) (x:DItem):Bool:=(Za4 us x.fr).2 && x.left.all fun n=>(Za4 us n).2
theorem Zc4 {α:Type} {p:α→Bool} {xs:List α} {k:Nat} {x:α} (hx:xs[k]? = some x) (h:p x=false):xs.all p=false:=by
 rw [List.all_eq_false];exact ⟨x,List.mem_of_getElem? hx,by simp [h]⟩
theorem Ze0 {α:Type} {p:α→Bool} {xs:List α} (h :∀y,y∈xs→p y=true):xs.all p=true:=List.all_eq_true.2 h
def Zb7 (a b:DFolder):Bool:=Op.bytesLess a.owner b.owner || (decide (a.owner=b.owner) && Op.bytesLess a.name b.name)
theorem Zdp (a:Str):Op.bytesLess a a=false:=by
 have:=Zbw a a
 cases h:Op.bytesLess a a with
 | false=>rfl
 | true=>rw [h] at this;simp at this
end Go.BL
namespace Go.BL
open Go
inductive Prev {α β:Type} (f:α→β) (z:β) (xs:List α):Nat→β→Prop
 | zero:Prev f z xs 0 z
 | succ {k:Nat} {x:α} : xs[k]? = some x→Prev f z xs (k+1) (f x)
theorem Prev.at {α β:Type} {f:α→β} {z:β} {xs:List α} {k:Nat} {b:β} {y:α} (h:Prev f z xs k b) (hy:xs[((k:Int) - 1).toNat]? = some y) (hk:0<(k:Int)):b=f y:=by
 cases h with
 | zero=>omega
 | succ hx=>
  rename_i k x
  rw [show (((k+1:Nat):Int) - 1).toNat=k from by omega,hx] at hy
  cases hy;rfl
theorem Prev.at0 {α β:Type} {f:α→β} {z:β} {xs:List α} {k:Nat} {b:β} (h:Prev f z xs k b) (hk:(k:Int)≤0):b=z:=by
 cases h with
 | zero=>rfl
 | succ hx=>omega
theorem Zia {α β:Type} {p:β→α→Bool} {nx:β→α→β} {b0 b:β} {xs:List α} {k:Nat} {x:α} (hx:xs[k]? = some x) (hs:scn p nx b0 (xs.take k)=(true,b)) (h:p b x=false):(scn p nx b0 xs).1=false:=
 Zgd hx (by rw [congrArg Prod.snd hs];exact h)
theorem ZdI {us:List DUser} {k:Nat} {x:DUser} {nm:Str} (hx:us[k]? = some x) (hs:Zd1 (us.take k)=(true,nm)) (h:ZdJ nm x=false):Zat us=false:=
 Zf4 (Zia hx hs h)
theorem Zot {s:Str} (h:0<s.length):Op.bytesLess [] s=true:=by
 cases s with
 | nil=>cases h
 | cons a s=>rfl
theorem Zks {s:Str} (h:Zaz s=true):0<s.length:=by
 cases s with
 | nil=>simp [Zaz] at h
 | cons a s=>simp
def ZcT (b:Str) (g:DGrant):Bool:=Zaz g.user && (decide (1≤g.rights) && decide (g.rights≤63)) && Op.bytesLess b g.user
def ZdQ (gs:List DGrant):Bool × Str:=scn ZcT (fun _ g=>g.user) [] gs
def ZcR (gs:List DGrant):Bool:=(ZdQ gs).1 && decide (gs.length≤4)
theorem ZdV {gs:List DGrant} {k:Nat} {x:DGrant} {nm:Str} (hx:gs[k]? = some x) (hs:ZdQ (gs.take k)=(true,nm)) (h:ZcT nm x=false):ZcR gs=false:=by
 rw [ZcR,show (ZdQ gs).1=false from Zia hx hs h,Bool.false_and]
theorem Zm2 {gs:List DGrant} {b:Str} (h:ZdQ gs=(true,b)):ZcR gs=decide (gs.length≤4):=by rw [ZcR,h,Bool.true_and]
def DFolder.box (f:DFolder):DBox:=⟨f.next,f.mail⟩
def inbox:Str:=[105,110,98,111,120]
def Z5 (us:List DUser) (f:DFolder):Bool:=decide (0≤Zds us f.owner) && Zaz f.name && ZcR f.grants && Zbk f.box
def Zb2 (us:List DUser) (b:Option DFolder) (f:DFolder):Bool:=Z5 us f && (match b with | none=>true | some y=>Zb7 y f)
def ZdB (us:List DUser) (fs:List DFolder):Bool × Option DFolder:=scn (Zb2 us) (fun _ f=>some f) none fs
def Zcj (us:List DUser) (fs:List DFolder):Bool:=(ZdB us fs).1 && decide (fs.length≤8)
theorem ZcQ {us:List DUser} {fs:List DFolder} {k:Nat} {x:DFolder} {b:Option DFolder} (hx:fs[k]? = some x) (hs:ZdB us (fs.take k)=(true,b)) (h:Zb2 us b x=false):Zcj us fs=false:=by
 rw [Zcj,show (ZdB us fs).1=false from Zia hx hs h,Bool.false_and]
theorem Zlm {us:List DUser} {fs:List DFolder} {b:Option DFolder} (h:ZdB us fs=(true,b)):Zcj us fs=decide (fs.length≤8):=by rw [Zcj,h,Bool.true_and]
def ZaZ (fs:List DFolder) (u:Str):Nat:=(fs.map fun f=>if f.owner=u then Zaj f.mail else 0).sum
theorem Zke {fs:List DFolder} {u:Str} {k:Nat} {x:DFolder} (hx:fs[k]? = some x):ZaZ (fs.take (k+1)) u=ZaZ (fs.take k) u+if x.owner=u then Zaj x.mail else 0:=by
 have:fs.take (k+1)=fs.take k ++ [x]:=by rw [List.take_add_one,hx];rfl
 simp [ZaZ,this]
theorem Zqv {fs:List DFolder} {u:Str} {k n:Nat} (h:n=ZaZ (fs.take k) u) (hk:fs.length≤k):n=ZaZ fs u:=by rwa [List.take_of_length_le hk] at h
def ZgV (us:List DUser) (ns:List Str):Bool:=ns.all fun n=>decide (0≤Zds us n)
def Za3 (fs:List DFolder) (u:DUser):Bool:=decide (0≤ZaI (inF u.name inbox) fs) && decide ((ZaZ fs u.name:Int)≤u.quota)
def ZaR (us:List DUser) (x:DItem):Bool:=decide (0≤Zds us x.fr) && ZgV us x.left
def Zx (h:DHost):Bool:=Zcp h.domain && Zat h.users && Zab h.queue && Zcj h.users h.folders && h.users.all (Za3 h.folders) && h.queue.items.all (ZaR h.users)
theorem Z7 {B:Kn} {q:Option Addr} {cp:Nat} {ms:List DMail} (h:SlK B q cp 3 ZN ms):Zaj ms≤4000000000000:=by
 have h1 :∀m,m∈ms→m.text.length≤2000000:=fun m hm=>by
  obtain ⟨i,hi⟩:=List.mem_iff_getElem?.1 hm
  obtain ⟨b,o,row,_,h2,_⟩:=h.rows i m hi
  exact h2.2
 have h2 :∀l:List DMail,(∀m,m∈l→m.text.length≤2000000)→Zaj l≤l.length*2000000:=by
  intro l
  induction l with
  | nil=>intro _;simp [Zaj]
  | cons m l ih=>
   intro hl
   have:=ih fun y hy=>hl y (List.mem_cons_of_mem _ hy)
   have:=hl m (List.mem_cons_self ..)
   simp only [Zaj,List.map_cons,List.sum_cons,List.length_cons] at *
   omega
 have:=h2 ms h1
 have:=h.len
 omega
theorem Zjf {h:DHost} {k:Nat} {u:DUser} (hu:h.users[k]? = some u) (hf:Za3 h.folders u=false):Zx h=false:=by
 rw [Zx,Zc4 hu hf,Bool.and_false,Bool.false_and]
theorem Zji {h:DHost} {k:Nat} {y:DItem} (hy:h.queue.items[k]? = some y) (hf:ZaR h.users y=false):Zx h=false:=by
 rw [Zx,Zc4 hy hf,Bool.and_false]
theorem ZpC {h:DHost} (h1:Zcp h.domain=true) (h2:Zat h.users=true) (h3:Zab h.queue=true) (h4:Zcj h.users h.folders=true) (h5:h.users.all (Za3 h.folders)=true) (h6:h.queue.items.all (ZaR h.users)=true):Zx h=true:=by
 rw [Zx,h1,h2,h3,h4,h5,h6];rfl
theorem ZlO {fs:List DFolder} {u:DUser} (h:ZaI (inF u.name inbox) fs<0):Za3 fs u=false:=by
 rw [Za3,decide_eq_false (by omega),Bool.false_and]
theorem ZlN {fs:List DFolder} {u:DUser} (h:u.quota<ZaZ fs u.name):Za3 fs u=false:=by
 rw [Za3,decide_eq_false (p:=(ZaZ fs u.name:Int)≤u.quota) (by omega),Bool.and_false]
theorem ZlM {fs:List DFolder} {u:DUser} (h:0≤ZaI (inF u.name inbox) fs) (h':(ZaZ fs u.name:Int)≤u.quota):Za3 fs u=true:=by
 rw [Za3,decide_eq_true h,decide_eq_true h'];rfl
theorem Zle {us:List DUser} {x:DItem} (h:Zds us x.fr<0):ZaR us x=false:=by rw [ZaR,decide_eq_false (by omega),Bool.false_and]
theorem Zld {us:List DUser} {x:DItem} (h:ZgV us x.left=false):ZaR us x=false:=by rw [ZaR,h,Bool.and_false]
theorem Zlc {us:List DUser} {x:DItem} (h:0≤Zds us x.fr) (h':ZgV us x.left=true):ZaR us x=true:=by rw [ZaR,decide_eq_true h,h'];rfl
theorem Zdy :∀{a b c:Str},Op.bytesLess a b=true→Op.bytesLess b c=true→Op.bytesLess a c=true
 | [],[],_,h,_=>by simp [Op.bytesLess] at h
 | _ :: _,[],_,h,_=>by simp [Op.bytesLess] at h
 | _,_ :: _,[],_,h=>by simp [Op.bytesLess] at h
 | [],_ :: _,_ :: _,_,_=>by simp [Op.bytesLess]
 | a :: x,b :: y,c :: z,h,h'=>by
  simp only [Op.bytesLess,Bool.or_eq_true,decide_eq_true_eq,Bool.and_eq_true,beq_iff_eq] at h h' ⊢
  rcases h with h | ⟨rfl,h⟩
  ·rcases h' with h' | ⟨rfl,h'⟩
   ·exact .inl (UInt8.lt_trans h h')
   ·exact .inl h
  ·rcases h' with h' | ⟨rfl,h'⟩
   ·exact .inl h'
   ·exact .inr ⟨rfl,Zdy h h'⟩
def Zt6 (gs:List DGrant):List (Str × Int):=gs.map fun g=>(g.user,g.rights)
theorem ZhW :∀(xs:List DGrant) (b0 b:Str),xs.foldl (fun s x=>(s.1 && ZcT s.2 x,x.user)) (true,b0)=(true,b)→(∀y,y∈xs→y.user=b∨Op.bytesLess y.user b=true)∧(b=b0∨Op.bytesLess b0 b=true)
 | [],b0,b,h=>by
  cases h;exact ⟨by simp,.inl rfl⟩
 | x :: xs,b0,b,h=>by
  simp only [List.foldl_cons,Bool.true_and] at h
  cases hp:ZcT b0 x with
  | false=>
   rw [hp] at h
   have:=Zcg (p:=ZcT) (nx:=fun _ g=>g.user) xs x.user
   rw [h] at this;cases this
  | true=>
   rw [hp] at h
   obtain ⟨h1,h2⟩:=ZhW xs x.user b h
   have hl:Op.bytesLess b0 x.user=true:=by
    simp only [ZcT,Bool.and_eq_true] at hp;exact hp.2
   refine ⟨fun y hy=>?_,.inr ?_⟩
   ·rcases List.mem_cons.1 hy with rfl | hy
    ·rcases h2 with h2 | h2
     ·exact .inl h2.symm
     ·exact .inr h2
    ·exact h1 y hy
   ·rcases h2 with rfl | h2
    ·exact hl
    ·exact Zdy hl h2
theorem ZsY {kvs:List (Str × Int)} {k:Str} {v:Int} (h:k ∉ kvs.map (·.1)):mput kvs k v=kvs ++ [(k,v)]:=by
 induction kvs with
 | nil=>rfl
 | cons p r ih=>
  simp only [List.map_cons,List.mem_cons,not_or] at h
  simp only [mput,if_neg h.1,ih h.2,List.cons_append]
theorem ZuW {gs:List DGrant} {k:Nat} {m:DGrant} {nm:Str} (hm:gs[k]? = some m) (hs:ZdQ (gs.take k)=(true,nm)) (hl:Op.bytesLess nm m.user=true):mput (Zt6 (gs.take k)) m.user m.rights=Zt6 (gs.take (k+1)):=by
 have h1:=(ZhW _ _ _ hs).1
 rw [ZsY]
 ·rw [Zt6,Zt6,List.take_add_one,hm];simp
 ·intro hc
  simp only [Zt6,List.map_map,List.mem_map,Function.comp] at hc
  obtain ⟨y,hy,e⟩:=hc
  rcases h1 y hy with h | h
  ·rw [← e,h,Zdp] at hl;cases hl
  ·rw [e] at h
   have:=Zdy hl h
   rw [Zdp] at this;cases this
def Zn2 (gs:List DGrant) (B:Kn):Value→Kn→List Cells→Prop:=fun v B' Ls=>∃m l,v = .tuple #[.map m,.bool (ZcR gs)]∧Ls=[l]∧B'=B∧(ZcR gs=true→∃b,m=some b∧ZvS l b (Zt6 gs))
theorem ZjG {P:PJ} {S:Env} {B:Kn} {L:List Cells} {rs:List ResultVar} {gs:List DGrant} (e:Exit) (he:e = .ret∨e = .normal) (vs:List Value) (hr:Zc7 P S B L rs vs) (h:ZcR gs=false) (hv:ZdL vs = .tuple #[.map none,.bool false]:=by rfl):Zfz P rs (Zn2 gs B) e S [] B L:=
 Zt8 e he vs hr ⟨none,[],by rw [hv,h],rfl,rfl,fun hc=>by rw [h] at hc;cases hc⟩
theorem Zvk {P:PJ} {S:Env} {B:Kn} {L:List Cells} {rs:List ResultVar} {gs:List DGrant} (e:Exit) (he:e = .ret∨e = .normal) (vs:List Value) {b:Nat} {l:Cells} {r:List Cells} (hp:Za0 L [0]=some ([l],r)) (hr:Zc7 P S B L rs vs) (h:ZcR gs=true) (hm:ZvS l b (Zt6 gs)) (hv:ZdL vs = .tuple #[.map (some b),.bool true]:=by rfl):Zfz P rs (Zn2 gs B) e S [] B L:=
 Zas e he vs [0] hp hr ⟨some b,l,by rw [hv,h],rfl,rfl,fun _=>⟨b,rfl,hm⟩⟩
def ZwY (f:DFolder) (ow nm:Str):Int:=if Lib.compareBytes f.owner ow≠0 then Lib.compareBytes f.owner ow else Lib.compareBytes f.name nm
theorem ZmO (f g:DFolder):0≤ZwY f g.owner g.name↔Zb7 f g=false:=by
 have h1:=ZnW f.owner g.owner
 have h2:=ZnW f.name g.name
 unfold ZwY Zb7
 by_cases e:f.owner=g.owner
 ·have e0:=h1.2.2 e
  have e1:Op.bytesLess f.owner g.owner=false:=by rw [e];exact Zdp _
  rw [if_neg (fun h=>h e0),e1,decide_eq_true e,Bool.true_and,Bool.false_or,Bool.eq_false_iff,ne_eq,← h2.1];omega
 ·have e0:Lib.compareBytes f.owner g.owner≠0:=fun h=>e (h1.2.1 h)
  rw [if_pos e0,decide_eq_false e,Bool.false_and,Bool.or_false,Bool.eq_false_iff,ne_eq,← h1.1];omega
def ZfM (fs:List DFolder) (u:Str):Int:=(fs.map fun f=>if f.owner=u then Zen ⟨f.next,f.mail⟩ else 0).sum
theorem Zkd {fs:List DFolder} {u:Str} {k:Nat} {x:DFolder} (hx:fs[k]? = some x):ZfM (fs.take (k+1)) u=ZfM (fs.take k) u+if x.owner=u then Zen ⟨x.next,x.mail⟩ else 0:=by
 have:fs.take (k+1)=fs.take k ++ [x]:=by rw [List.take_add_one,hx];rfl
 simp [ZfM,this]
theorem Zqs {fs:List DFolder} {u:Str} {k:Nat} {n:Int} (h:n=ZfM (fs.take k) u) (hk:fs.length≤k):n=ZfM fs u:=by rwa [List.take_of_length_le hk] at h
theorem Zou :∀(xs:List DMail) (b0 b:Int),xs.foldl (fun s x=>(s.1 && ZbU s.2 x,x.uid)) (true,b0)=(true,b)→∀y,y∈xs→ZbG y=true
 | [],_,_,_,_,h=>by cases h
 | x :: xs,b0,b,h,y,hy=>by
  simp only [List.foldl_cons,Bool.true_and] at h
  cases hp:ZbU b0 x with
  | false=>
   rw [hp] at h
   have:=Zcg (p:=ZbU) (nx:=fun _ m=>m.uid) xs x.uid
   rw [h] at this;cases this
  | true=>
   rw [hp] at h
   rcases List.mem_cons.1 hy with rfl | hy
   ·simp only [ZbU,Bool.and_eq_true] at hp;exact hp.1
   ·exact Zou xs x.uid b h y hy
theorem ZdS {b:DBox} (h:Zbk b=true):(∀y,y∈b.mail→ZbG y=true)∧b.mail.length≤10:=by
 simp only [Zbk,Bool.and_eq_true,decide_eq_true_eq] at h
 exact ⟨Zou b.mail 0 (Zcn b.mail).2 (Prod.ext h.1.1 rfl),h.2⟩
theorem Zgb :∀l:List DMail,(∀m,m∈l→ZbG m=true)→Zaj l≤l.length*20
 | [],_=>by simp [Zaj]
 | m :: l,h=>by
  have h1:=Zgb l fun y hy=>h y (List.mem_cons_of_mem _ hy)
  have h2:=h m (List.mem_cons_self ..)
  simp only [ZbG,Bool.and_eq_true,decide_eq_true_eq] at h2
  simp only [Zaj,List.map_cons,List.sum_cons,List.length_cons] at *
  omega
theorem ZkO (b:DBox) : -1≤Zen b∧Zen b≤200:=by
 unfold Zen
 split
 ·rename_i h
  obtain ⟨h1,h2⟩:=ZdS h
  have:=Zgb _ h1
  omega
 ·omega
theorem Zsx (fs:List DFolder) (u:Str) : -1*fs.length≤ZfM fs u∧ZfM fs u≤fs.length*200:=by
 induction fs with
 | nil=>simp [ZfM]
 | cons f fs ih=>
  have:=ZkO ⟨f.next,f.mail⟩
  simp only [ZfM,List.map_cons,List.sum_cons,List.length_cons] at *
  split <;> omega
def Zco (x:DHost) (u:Str) (more:Int):Bool:=!(Za4 x.users u).2 || decide ((Za4 x.users u).1.quota<ZfM x.folders u+more)
def Zc2 (x:DHost) (w:DUser):Bool:=decide (0≤ZaI (inF w.name inbox) x.folders) && !Zco x w.name 0
theorem ZlR {x:DHost} {w:DUser} (h:ZaI (inF w.name inbox) x.folders<0):Zc2 x w=false:=by rw [Zc2,decide_eq_false (by omega),Bool.false_and]
theorem ZlQ {x:DHost} {w:DUser} (h:Zco x w.name 0=true):Zc2 x w=false:=by rw [Zc2,h];simp
theorem ZlP {x:DHost} {w:DUser} (h:0≤ZaI (inF w.name inbox) x.folders) (h':Zco x w.name 0=false):Zc2 x w=true:=by rw [Zc2,h',decide_eq_true h];rfl
def ZiB (x:DHost):Bool:=x.users.all (Zc2 x)
def ZvK:Rel Bool:=fun _ row x=>row=[.bool x]
def Zbb (us:List DUser) (f:DFolder):Bool:=(Za4 us f.owner).2 && Zaz f.name && ZcR f.grants && Zbk f.box
theorem Zid (C i:Nat):(some (ptr (Addr.add ⟨C,0,none⟩ ((i:Int).toNat*1))):Option Value)=some (ptr ⟨C,i,none⟩):=by
 rw [Addr.add_off _ _ rfl];simp
def Zsk (x:DHost) (i:Nat):Value:=.bool (match x.folders[i]? with | some m=>Zbb x.users m | none=>false)
theorem Zoa {x:DHost} {i:Nat} {m:DFolder} (h:x.folders[i]? = some m):Zsk x i = .bool (Zbb x.users m):=by simp [Zsk,h]
theorem Zqp {B:Kn} {x:DHost} {C:Nat} {T:TypeId} (hm :∀p,p∈[(C,Obj.cells ((List.range x.folders.length).map (Zsk x)).toArray T (0,0))]→B.mem p.1=some p.2) (hl:x.folders.length≤2000000):SlK B (some ⟨C,0,none⟩) (x.folders.map (Zbb x.users)).length 1 ZvK (x.folders.map (Zbb x.users)):=by
 refine ⟨fun i y hy=>⟨C,0,[.bool y],rfl,rfl,fun j u hu=>?_⟩,by simp,by simpa using hl⟩
 have hj:j=0:=by
  cases j with
  | zero=>rfl
  | succ j=>simp at hu
 subst hj
 simp only [List.getElem?_cons_zero,Option.some.injEq] at hu
 subst hu
 rw [List.getElem?_map] at hy
 obtain ⟨m,hm',rfl⟩:=Option.map_eq_some_iff.1 hy
 have hi:i<x.folders.length:=(List.getElem?_eq_some_iff.1 hm').1
 refine ⟨rfl,_,T,(0,0),.inl (hm _ (List.mem_singleton.2 rfl)),?_⟩
 simp only [Nat.mul_one,Nat.zero_add,Nat.add_zero,List.getElem?_toArray,List.getElem?_map,List.getElem?_range hi,Option.map_some,Zoa hm']
theorem Zly {us:List DUser} {fs:List DFolder} : (!decide (0≤ZaI (fun y=>decide (false=y)) (fs.map (Zbb us))))=fs.all (Zbb us):=by
 by_cases h :∀f,f∈fs→Zbb us f=true
 ·rw [List.all_eq_true.2 h,Zfp (fun y hy=>by
   obtain ⟨f,hf,rfl⟩:=List.mem_map.1 hy
   simp [h f hf])]
  rfl
 ·have h2:fs.all (Zbb us)=false:=by
   rw [Bool.eq_false_iff,ne_eq,List.all_eq_true];exact h
  rw [h2]
  have h3 :∃k,(fs.map (Zbb us)).findIdx? (fun y=>decide (false=y))=some k:=by
   cases hk:(fs.map (Zbb us)).findIdx? (fun y=>decide (false=y)) with
   | some k=>exact ⟨k,rfl⟩
   | none=>
    exfalso;apply h
    intro f hf
    have:=List.findIdx?_eq_none_iff.1 hk (Zbb us f) (List.mem_map_of_mem hf)
    cases hq:Zbb us f with
    | true=>rfl
    | false=>rw [hq] at this;simp at this
  obtain ⟨k,hk⟩:=h3
  have e:ZaI (fun y=>decide (false=y)) (fs.map (Zbb us))=(k:Int):=by unfold ZaI;rw [hk]
  rw [e];simp
def Zhc:List DFolder→Bool
 | []=>true
 | [_]=>true
 | a :: b :: r=>Zb7 a b && Zhc (b :: r)
def ZdP (x:DHost):Bool:=Zcp x.domain && Zat x.users && Zab x.queue && decide (x.folders.length≤8) && Zhc x.folders && (x.folders.all (Zbb x.users) && ZiB x && x.queue.items.all (Zdr x.users))
def ZtN (fs:List DFolder) (k:Nat):Prop:=∀i a b,i<k→fs[i]? = some a→fs[i+1]? = some b→Zb7 a b=true
theorem Zpc {fs:List DFolder} : ZtN fs 0:=fun i a b h=>by omega
theorem Zpd {fs:List DFolder} {k:Nat} {x y:DFolder} (h:ZtN fs k) (hx:fs[k]? = some x) (hy:fs[k+1]? = some y) (hl:Zb7 x y=true):ZtN fs (k+1):=fun i a b hi ha hb=>by
 rcases Nat.lt_or_ge i k with h' | h'
 ·exact h i a b h' ha hb
 ·obtain rfl:i=k:=by omega
  rw [hx] at ha;rw [hy] at hb
  cases ha;cases hb;exact hl
theorem Zie :∀(fs:List DFolder),Zhc fs=true↔∀i a b,fs[i]? = some a→fs[i+1]? = some b→Zb7 a b=true
 | []=>by simp [Zhc]
 | [_]=>by simp [Zhc]
 | x :: y :: r=>by
  rw [Zhc,Bool.and_eq_true,Zie (y :: r)]
  constructor
  ·rintro ⟨h1,h2⟩ i a b ha hb
   cases i with
   | zero=>simp at ha hb;rw [← ha,← hb];exact h1
   | succ i=>exact h2 i a b (by simpa using ha) (by simpa using hb)
  ·intro h
   exact ⟨h 0 x y rfl rfl,fun i a b ha hb=>h (i+1) a b (by simpa using ha) (by simpa using hb)⟩
theorem ZsU {fs:List DFolder} {k:Nat} {x y:DFolder} (hx:fs[k]? = some x) (hy:fs[k+1]? = some y) (hl:Zb7 x y=false):Zhc fs=false:=by
 rw [Bool.eq_false_iff,ne_eq,Zie]
 intro h
 have:=h k x y hx hy
 rw [hl] at this;cases this
theorem ZsT {fs:List DFolder} (h :∀i a b,i<fs.length - 1→fs[i]? = some a→fs[i+1]? = some b→Zb7 a b=true):Zhc fs=true:=
 (Zie fs).2 fun i a b ha hb=>h i a b (by have:=(List.getElem?_eq_some_iff.1 hb).1;omega) ha hb
theorem ZiN {α:Type} {p:Str→α→Bool} {f:α→Str} (hp :∀b x,p b x=true→Op.bytesLess b (f x)=true) :∀(xs:List α) (b0 b:Str),xs.foldl (fun s x=>(s.1 && p s.2 x,f x)) (true,b0)=(true,b)→(∀y,y∈xs→Op.bytesLess b0 (f y)=true)∧xs.Pairwise (fun x y=>Op.bytesLess (f x) (f y)=true)
 | [],_,_,_=>⟨by simp,.nil⟩
 | x :: xs,b0,b,h=>by
  simp only [List.foldl_cons,Bool.true_and] at h
  cases hq:p b0 x with
  | false=>
   rw [hq] at h
   have:=Zcg (p:=p) (nx:=fun _ g=>f g) xs (f x)
   rw [h] at this;cases this
  | true=>
   rw [hq] at h
   obtain ⟨h1,h2⟩:=ZiN hp xs (f x) b h
   refine ⟨fun y hy=>?_,.cons h1 h2⟩
   rcases List.mem_cons.1 hy with rfl | hy
   ·exact hp _ _ hq
   ·exact Zdy (hp _ _ hq) (h1 y hy)
theorem Zeg {us:List DUser} (h:Zat us=true):us.Pairwise fun x y=>Op.bytesLess x.name y.name=true:=by
 simp only [Zat,Bool.and_eq_true] at h
 exact (ZiN (p:=ZdJ) (f:=fun u=>u.name) (fun b x hq=>by simp only [ZdJ,Bool.and_eq_true] at hq;exact hq.2) us [] (Zd1 us).2 (Prod.ext h.1 rfl)).2
theorem Za6 {us:List DUser} {u:Str} : 0≤Zds us u↔∃x,x∈us∧x.name=u:=by
 unfold Zds
 cases h:us.findIdx? (fun x=>decide (x.name=u)) with
 | none=>
  have:=List.findIdx?_eq_none_iff.1 h
  simp only [decide_eq_false_iff_not] at this
  exact ⟨fun hc=>absurd hc (by simp only [];omega),fun ⟨x,hx,e⟩=>absurd e (this x hx)⟩
 | some i=>
  rw [List.findIdx?_eq_some_iff_getElem] at h
  obtain ⟨hi,h1,_⟩:=h
  exact ⟨fun _=>⟨us[i],List.getElem_mem hi,by simpa using h1⟩,fun _=>by simp only [];omega⟩
theorem ZrG {us:List DUser} {t:DUser→Bool} : (Zgp t us).2=true↔∃x,x∈us∧t x=true:=by
 unfold Zgp
 cases h:us.find? t with
 | none=>simp only [Bool.false_eq_true,false_iff];rintro ⟨x,hx,e⟩;have:=List.find?_eq_none.1 h x hx;exact this e
 | some x=>simp only [true_iff];exact ⟨x,List.mem_of_find?_eq_some h,List.find?_some h⟩
theorem Zd2 {us:List DUser} (h:Zat us=true) (n:Str):(Za4 us n).2=decide (0≤Zds us n):=by
 rw [Za4,if_pos h,Bool.eq_iff_iff,ZrG,decide_eq_true_eq,Za6];simp
theorem Zgo :∀{us:List DUser},us.Pairwise (fun x y=>Op.bytesLess x.name y.name=true)→∀w,w∈us→us.find? (fun y=>decide (y.name=w.name))=some w
 | [],_,w,h=>by cases h
 | x :: us,hp,w,h=>by
  cases hp with
  | cons h1 h2=>
   rw [List.find?_cons]
   rcases List.mem_cons.1 h with rfl | h
   ·simp
   ·have hne:x.name≠w.name:=fun e=>by
     have:=h1 w h
     rw [e,Zdp] at this;cases this
    simp only [hne,decide_false]
    exact Zgo h2 w h
theorem Zdl {us:List DUser} (h:Zat us=true) {w:DUser} (hw:w∈us):Za4 us w.name=(w,true):=by
 rw [Za4,if_pos h,Zgp,Zgo (Zeg h) w hw]
theorem ZpP {us:List DUser} (h:Zat us=true) (f:DFolder):Zbb us f=Z5 us f:=by
 rw [Zbb,Z5,Zd2 h]
theorem Ze5 {us:List DUser} :∀(fs:List DFolder) (b0:Option DFolder),(fs.foldl (fun s x=>(s.1 && Zb2 us s.2 x,some x)) (true,b0)).1=(fs.all (Z5 us) && Zhc ((match b0 with | none=>[] | some y=>[y]) ++ fs))
 | [],none=>rfl
 | [],some y=>rfl
 | x :: fs,b0=>by
  simp only [List.foldl_cons,Bool.true_and]
  have hstep:(fs.foldl (fun (s:Bool × Option DFolder) x=>(s.1 && Zb2 us s.2 x,some x)) (Zb2 us b0 x,some x)).1=(Zb2 us b0 x && (fs.all (Z5 us) && Zhc (x :: fs))):=by
   cases hq:Zb2 us b0 x with
   | false=>rw [Bool.false_and];exact Zcg (p:=Zb2 us) (nx:=fun _ f=>some f) fs (some x)
   | true=>rw [Bool.true_and];exact Ze5 fs (some x)
  rw [hstep]
  cases b0 with
  | none=>
   simp only [Zb2,Bool.and_true,List.all_cons,List.nil_append]
   cases Z5 us x <;> simp
  | some y=>
   simp only [Zb2,List.all_cons,List.cons_append,List.nil_append,Zhc]
   cases Z5 us x <;> cases Zb7 y x <;> simp
theorem ZcP {us:List DUser} {fs:List DFolder} : Zcj us fs=(fs.all (Z5 us) && Zhc fs && decide (fs.length≤8)):=by
 rw [Zcj,show (ZdB us fs).1=_ from Ze5 fs none];rfl
theorem ZkU {us:List DUser} {u:Str} :∀{fs:List DFolder},fs.all (Z5 us)=true→ZfM fs u=(ZaZ fs u:Int)
 | [],_=>rfl
 | f :: fs,h=>by
  simp only [List.all_cons,Bool.and_eq_true] at h
  have ih:=ZkU (u:=u) h.2
  have hb:Zbk ⟨f.next,f.mail⟩=true:=by
   have:=h.1;simp only [Z5,Bool.and_eq_true] at this;exact this.2
  simp only [ZfM,ZaZ,List.map_cons,List.sum_cons] at ih ⊢
  rw [ih]
  by_cases he:f.owner=u
  ·simp [he,Zen,hb]
  ·simp [he]
theorem Znb {x:DHost} (hu:Zat x.users=true) (hf:x.folders.all (Z5 x.users)=true) {w:DUser} (hw:w∈x.users):Zc2 x w=Za3 x.folders w:=by
 rw [Zc2,Za3,Zco,Zdl hu hw,ZkU hf]
 simp only [Bool.not_true,Bool.false_or,Int.add_zero]
 congr 1
 rw [Bool.eq_iff_iff];simp
theorem ZnC {us:List DUser} (h:Zat us=true) (y:DItem):Zdr us y=ZaR us y:=by
 rw [Zdr,ZaR,Zd2 h,ZgV]
 simp only [Zd2 h]
theorem Zr9 {α:Type} {p q:α→Bool} {xs:List α} (h :∀x,x∈xs→p x=q x):xs.all p=xs.all q:=by
 rw [Bool.eq_iff_iff,List.all_eq_true,List.all_eq_true]
 exact ⟨fun a x hx=>h x hx ▸ a x hx,fun a x hx=>(h x hx).symm ▸ a x hx⟩
theorem ZpD (x:DHost):ZdP x=Zx x:=by
 cases hu:Zat x.users with
 | false=>simp [ZdP,Zx,hu]
 | true=>
  have e1:x.folders.all (Zbb x.users)=x.folders.all (Z5 x.users):=Zr9 fun f _=>ZpP hu f
  have e2:x.queue.items.all (Zdr x.users)=x.queue.items.all (ZaR x.users):=Zr9 fun y _=>ZnC hu y
  rw [ZdP,Zx,hu,e1,e2,ZcP]
  cases hf:x.folders.all (Z5 x.users) with
  | false=>simp
  | true=>
   have e3:ZiB x=x.users.all (Za3 x.folders):=Zr9 fun w hw=>Znb hu hf hw
   rw [e3]
   cases Zcp x.domain <;> cases Zab x.queue <;> cases Zhc x.folders <;> cases decide (x.folders.length≤8) <;> simp
end Go.BL
namespace Go.BL
open Go
def ZeT (x:DHost) (u:Str):Int:=if Zx x=true∧0≤Zds x.users u then (ZaZ x.folders u:Int) else -1
theorem Zmu {x:DHost} {u:Str} (h:Zx x=false):ZeT x u = -1:=by simp [ZeT,h]
theorem Zmt {x:DHost} {u:Str} (h : ¬0≤Zds x.users u):ZeT x u = -1:=by rw [ZeT,if_neg (fun a=>h a.2)]
theorem ZhR {x:DHost} {u:Str} (h:Zx x=true) (h2:0≤Zds x.users u):ZeT x u=ZaZ x.folders u:=by rw [ZeT,if_pos ⟨h,h2⟩]
theorem ZbZ {x:DHost} (h:Zx x=true):Zat x.users=true:=by
 simp only [Zx,Bool.and_eq_true] at h;exact h.1.1.1.1.2
theorem Zj0 {x:DHost} (h:Zx x=true):x.folders.all (Z5 x.users)=true:=by
 simp only [Zx,Bool.and_eq_true,ZcP] at h;exact h.1.1.2.1.1
theorem Zjh {x:DHost} (h:Zx x=true) (n:Str):(Za4 x.users n).2=decide (0≤Zds x.users n):=Zd2 (ZbZ h) n
theorem ZhS {x:DHost} (h:Zx x=true) (u:Str):ZfM x.folders u=ZaZ x.folders u:=ZkU (Zj0 h)
theorem Ztt {us:List DUser} {n:Str} (h:0≤Zds us n) {x:DUser} (hx:us[(Zds us n).toNat]? = some x):Zgp (fun y=>decide (y.name=n)) us=(x,true):=by
 unfold Zds at h hx
 cases hf:us.findIdx? (fun x=>decide (x.name=n)) with
 | none=>rw [hf] at h;simp at h
 | some i=>
  rw [hf] at hx
  simp only [Int.toNat_natCast] at hx
  rw [List.findIdx?_eq_some_iff_getElem] at hf
  obtain ⟨hi,h1,h2⟩:=hf
  rw [List.getElem?_eq_getElem hi] at hx
  cases hx
  have:us.find? (fun y=>decide (y.name=n))=some us[i]:=by
   rw [List.find?_eq_some_iff_getElem]
   exact ⟨h1,i,hi,rfl,fun j hj=>by simpa using h2 j hj⟩
  rw [Zgp,this]
structure DSess where
 user:Str
 owner:Str
 name:Str
deriving DecidableEq
theorem Zrj (us:List DUser) (n:Str):Zds us n<us.length∧Zds us n ≥ -1:=by
 unfold Zds
 cases hf:us.findIdx? (fun x=>decide (x.name=n)) with
 | none=>simp only [];omega
 | some i=>
  rw [List.findIdx?_eq_some_iff_getElem] at hf
  obtain ⟨hi,_⟩:=hf
  simp only [];omega
end Go.BL
namespace Go.BL
open Go
def Zk6 (n:Str):DFolder:=⟨n,inbox,[],1,[]⟩
def ZqY (d:Str) (us:List DUser):DHost:=⟨d,us,us.map fun u=>Zk6 u.name,⟨1,[]⟩⟩
def ZaT:DHost:=⟨[],[],[],⟨0,[]⟩⟩
def Zcu (d:Str) (us:List DUser):DHost × Bool:=if Zcp d=true∧Zat us=true then (ZqY d us,true) else (ZaT,false)
theorem ZkZ {α β:Type} {p:β→α→Bool} {nx:β→α→β} :∀(xs:List α) (b:β),(xs.foldl (fun (s:Bool × β) x=>(s.1 && p s.2 x,nx s.2 x)) (true,b)).1=true→∀x,x∈xs→∃b',p b' x=true
 | [],_,_,x,hx=>by cases hx
 | x :: xs,b,h,y,hy=>by
  simp only [List.foldl_cons,Bool.true_and] at h
  cases hq:p b x with
  | false=>
   rw [hq] at h
   have:=Zcg (p:=p) (nx:=nx) xs (nx b x)
   rw [this] at h;cases h
  | true=>
   rw [hq] at h
   rcases List.mem_cons.1 hy with rfl | hy
   ·exact ⟨b,hq⟩
   ·exact ZkZ xs _ h y hy
theorem ZhJ {us:List DUser} (h:Zat us=true) {u:DUser} (hu:u∈us):ZcG u=true:=by
 simp only [Zat,Bool.and_eq_true] at h
 obtain ⟨b,hb⟩:=ZkZ (p:=ZdJ) (nx:=fun _ u=>u.name) us [] h.1 u hu
 simp only [ZdJ,Bool.and_eq_true] at hb;exact hb.1
theorem Zop :∀{us:List DUser},us.Pairwise (fun x y=>Op.bytesLess x.name y.name=true)→Zhc (us.map fun u=>Zk6 u.name)=true
 | [],_=>rfl
 | [_],_=>rfl
 | a :: b :: r,h=>by
  cases h with
  | cons h1 h2=>
   have h3:=h1 b (List.mem_cons_self ..)
   show (Zb7 (Zk6 a.name) (Zk6 b.name) && Zhc ((b :: r).map fun u=>Zk6 u.name))=true
   rw [Zop h2,Bool.and_true,Zb7]
   simp only [Zk6,h3,Bool.true_or]
theorem Zqt (us:List DUser) (n:Str):ZaZ (us.map fun u=>Zk6 u.name) n=0:=by
 induction us with
 | nil=>rfl
 | cons u us ih=>
  simp only [ZaZ,List.map_cons,List.sum_cons] at ih ⊢
  rw [ih]
  simp [Zk6,Zaj]
theorem ZuN {us:List DUser} {u:DUser} (h:u∈us):0≤ZaI (inF u.name inbox) (us.map fun u=>Zk6 u.name):=
 Zd9.2 ⟨Zk6 u.name,List.mem_map.2 ⟨u,h,rfl⟩,by simp [inF,Zk6]⟩
theorem Znt (d:Str) (us:List DUser):Zx (ZqY d us)=(Zcp d && Zat us):=by
 cases hu:Zat us with
 | false=>simp [Zx,ZqY,hu]
 | true=>
  have h1:Zcj us (us.map fun u=>Zk6 u.name)=true:=by
   rw [ZcP,Zop (Zeg hu)]
   have h2:(us.map fun u=>Zk6 u.name).all (Z5 us)=true:=by
    rw [List.all_eq_true]
    intro f hf
    obtain ⟨u,hm,rfl⟩:=List.mem_map.1 hf
    have e1:Zaz inbox=true:=by decide
    have e2:ZcR []=true:=by decide
    have e3:Zbk ⟨1,[]⟩=true:=by decide
    simp only [Z5,Zk6,DFolder.box,e1,e2,e3,Bool.and_true]
    exact decide_eq_true (Za6.2 ⟨u,hm,rfl⟩)
   have h3:us.length≤4:=by simp only [Zat,Bool.and_eq_true,decide_eq_true_eq] at hu;exact hu.2.2
   rw [h2];simp;omega
  have h4:us.all (Za3 (us.map fun u=>Zk6 u.name))=true:=by
   rw [List.all_eq_true]
   intro u hm
   have:=ZhJ hu hm
   simp only [ZcG,Bool.and_eq_true,decide_eq_true_eq] at this
   simp only [Za3,Zqt,Bool.and_eq_true,decide_eq_true_eq]
   exact ⟨ZuN hm,by omega⟩
  have h5:Zab ⟨1,[]⟩=true:=by decide
  simp only [Zx,ZqY,hu,h1,h4,h5,List.all_nil,Bool.and_true]
theorem Zjj {d:Str} {us:List DUser} (h:Zx (ZqY d us)=true):Zcu d us=(ZqY d us,true):=by
 rw [Znt,Bool.and_eq_true] at h;rw [Zcu,if_pos h]
theorem ZpE {d:Str} {us:List DUser} (h:Zx (ZqY d us)=false):Zcu d us=(ZaT,false):=by
 rw [Znt] at h;rw [Zcu,if_neg (by rw [← Bool.and_eq_true,h];exact Bool.false_ne_true)]
def Zif:DFolder:=⟨[],[],[],0,[]⟩
def Zaw (x:DHost) (o n:Str):DFolder × Bool:=if Zx x=true then (match x.folders.find? (inF o n) with | some f=>(f,true) | none=>(Zif,false)) else (Zif,false)
theorem Zj2 {x:DHost} {o n:Str} (h:Zx x=false):Zaw x o n=(Zif,false):=by simp [Zaw,h]
theorem Zjl {x:DHost} {o n:Str} (h:ZaI (inF o n) x.folders<0):Zaw x o n=(Zif,false):=by
 have:x.folders.find? (inF o n)=none:=List.find?_eq_none.2 fun y hy hp=>by have:=Zd9.2 ⟨y,hy,hp⟩;omega
 rw [Zaw,this];split <;> rfl
theorem Zjk {x:DHost} {o n:Str} (hx:Zx x=true) (h:0≤ZaI (inF o n) x.folders) {f:DFolder} (hf:x.folders[(ZaI (inF o n) x.folders).toNat]? = some f):Zaw x o n=(f,true):=by
 unfold ZaI at h hf
 cases hq:x.folders.findIdx? (inF o n) with
 | none=>rw [hq] at h;simp at h
 | some i=>
  rw [hq] at hf
  simp only [Int.toNat_natCast] at hf
  rw [List.findIdx?_eq_some_iff_getElem] at hq
  obtain ⟨hi,h1,h2⟩:=hq
  rw [List.getElem?_eq_getElem hi] at hf
  cases hf
  have:x.folders.find? (inF o n)=some x.folders[i]:=by
   rw [List.find?_eq_some_iff_getElem]
   exact ⟨h1,i,hi,rfl,fun j hj=>by simpa using h2 j hj⟩
  rw [Zaw,if_pos hx,this]
theorem ZcY {α:Type} (p:α→Bool) (xs:List α):ZaI p xs<xs.length∧ZaI p xs ≥ -1:=by
 unfold ZaI
 cases hf:xs.findIdx? p with
 | none=>simp only [];omega
 | some i=>
  rw [List.findIdx?_eq_some_iff_getElem] at hf
  obtain ⟨hi,_⟩:=hf
  simp only [];omega
end Go.BL
namespace Go.BL
open Go
end Go.BL
namespace Go.BL
open Go
def Zdx (k:Nat):Int:=([1,2,4,8,16,32]:List Int).getD k 0
theorem Zr5 {k:Nat} (h:k<6):(k=0∧Zdx k=1)∨(k=1∧Zdx k=2)∨(k=2∧Zdx k=4)∨(k=3∧Zdx k=8)∨(k=4∧Zdx k=16)∨(k=5∧Zdx k=32):=by
 have:k=0∨k=1∨k=2∨k=3∨k=4∨k=5:=by omega
 rcases this with rfl | rfl | rfl | rfl | rfl | rfl <;> simp [Zdx]
theorem Zlw {k:Nat} (h:k<6):0<Zdx k∧Zdx k≤32:=by rcases Zr5 h with h | h | h | h | h | h <;> omega
theorem Zee {α:Type} {p:α→Bool} {xs:List α} {k:Nat} {x:α} (hx:xs[k]? = some x):(xs.take (k+1)).any p=((xs.take k).any p || p x):=by
 rw [Zay hx,List.any_append];simp
theorem Zr8 {α:Type} {p:α→Bool} {xs:List α} {k:Nat} {b:Bool} (h:b=(xs.take k).any p) (hk:xs.length≤k):b=xs.any p:=by rwa [List.take_of_length_le hk] at h
def onB (u:Str) (b:Int) (g:DGrant):Bool:=(decide (g.user=u) || decide (g.user=anyone)) && decide (Int.tmod (Int.tdiv g.rights b) 2=1)
def ZfX (gs:List DGrant) (u:Str):Nat→Int
 | 0=>0
 | k+1=>if gs.any (onB u (Zdx k))=true then ZfX gs u k+Zdx k else ZfX gs u k
theorem ZjR (gs:List DGrant) (u:Str) :∀k,k≤6→0≤ZfX gs u k∧ZfX gs u k≤100*k
 | 0,_=>by simp [ZfX]
 | k+1,h=>by
  have:=ZjR gs u k (by omega)
  have:=Zlw (k:=k) (by omega)
  simp only [ZfX]
  split <;> omega
def Zd5 (gs:List DGrant) (u:Str):Int:=ZfX gs u 6
def Zp7 (f:DFolder) (u:Str) (r:Int):Bool:=decide (u=f.owner) || decide (Int.tmod (Int.tdiv (Zd5 f.grants u) r) 2=1)
def Zj5 (us:List DUser) (fs:List DFolder) (u:Str) (k:Int) (r:Int):Int:=
 if Zds us u<0∨k<0 then 1 else match fs[k.toNat]? with
  | none=>1
  | some f=>if Zp7 f u 1=false then 1 else if Zp7 f u r=false then 2 else 0
theorem Zr1 {us:List DUser} {fs:List DFolder} {u:Str} {k r:Int} (h:Zds us u<0∨k<0):Zj5 us fs u k r=1:=by rw [Zj5,if_pos h]
theorem ZvD {us:List DUser} {fs:List DFolder} {u:Str} {k r:Int} {f:DFolder} (h : ¬ (Zds us u<0∨k<0)) (hf:fs[k.toNat]? = some f):Zj5 us fs u k r=if Zp7 f u 1=false then 1 else if Zp7 f u r=false then 2 else 0:=by
 rw [Zj5,if_neg h,hf]
theorem ZeH {us:List DUser} {fs:List DFolder} {u:Str} {k r:Int} (h:Zj5 us fs u k r=0):0≤Zds us u∧0≤k∧∃f,fs[k.toNat]? = some f∧Zp7 f u 1=true∧Zp7 f u r=true:=by
 unfold Zj5 at h
 split at h
 ·cases h
 ·split at h
  ·cases h
  ·rename_i f hf
   split at h
   ·cases h
   ·split at h
    ·cases h
    ·rename_i h1 h2 h3
     exact ⟨by omega,by omega,f,hf,by simpa using h2,by simpa using h3⟩
def ZeI (b:DBox) (fl:Int) (t:Str):DBox × Bool:=if 10≤b.mail.length∨99<b.next then (b,false) else (⟨b.next+1,b.mail ++ [⟨b.next,fl,t⟩]⟩,true)
theorem Zg9 {b:DBox} {fl:Int} {t:Str} (h:10≤b.mail.length∨99<b.next):ZeI b fl t=(b,false):=by rw [ZeI,if_pos h]
theorem Zsc {b:DBox} {fl:Int} {t:Str} (h : ¬ (10≤b.mail.length∨99<b.next)):ZeI b fl t=(⟨b.next+1,b.mail ++ [⟨b.next,fl,t⟩]⟩,true):=by rw [ZeI,if_neg h]
def DFolder.withBox (f:DFolder) (b:DBox):DFolder:=⟨f.owner,f.name,f.grants,b.next,b.mail⟩
def DHost.withFolders (x:DHost) (fs:List DFolder):DHost:=⟨x.domain,x.users,fs,x.queue⟩
def DHost.withQueue (x:DHost) (q:DQueue):DHost:=⟨x.domain,x.users,x.folders,q⟩
def Zcq (us:List DUser) (n:Str):Int:=match us[(Zds us n).toNat]? with | some w=>w.quota | none=>0
def Zam (x:DHost) (k:Nat) (fl:Int) (t:Str):DHost × Int:=
 match x.folders[k]? with
 | none=>(x,0)
 | some f=>if Zcq x.users f.owner<(ZaZ x.folders f.owner:Int)+t.length then (x,3)
  else if (ZeI f.box fl t).2=true then (x.withFolders (x.folders.set k (f.withBox (ZeI f.box fl t).1)),0) else (x,4)
theorem ZeS {x:DHost} {k:Nat} {fl:Int} {t:Str} {f:DFolder} (hf:x.folders[k]? = some f) (h:Zcq x.users f.owner<(ZaZ x.folders f.owner:Int)+t.length):Zam x k fl t=(x,3):=by simp only [Zam,hf,if_pos h]
theorem Zhj {x:DHost} {k:Nat} {fl:Int} {t:Str} {f:DFolder} (hf:x.folders[k]? = some f) (h : ¬ Zcq x.users f.owner<(ZaZ x.folders f.owner:Int)+t.length) (h2:(ZeI f.box fl t).2=false):Zam x k fl t=(x,4):=by simp only [Zam,hf,if_neg h,h2];rfl
theorem ZfE {x:DHost} {k:Nat} {fl:Int} {t:Str} {f:DFolder} (hf:x.folders[k]? = some f) (h : ¬ Zcq x.users f.owner<(ZaZ x.folders f.owner:Int)+t.length) (h2:(ZeI f.box fl t).2=true):Zam x k fl t=(x.withFolders (x.folders.set k (f.withBox (ZeI f.box fl t).1)),0):=by simp only [Zam,hf,if_neg h,h2,if_true]
def ZaL (n:Int):Bool:=decide (0≤n) && decide (n≤31)
def Zlj (x:DHost) (by_ o n:Str) (fl:Int) (t:Str):DHost × Int:=
 if ¬ (Zx x=true∧ZaL fl=true∧t.length≤20) then (ZaT,5)
 else if Zj5 x.users x.folders by_ (ZaI (inF o n) x.folders) 8≠0 then (x,Zj5 x.users x.folders by_ (ZaI (inF o n) x.folders) 8)
 else Zam x (ZaI (inF o n) x.folders).toNat fl t
def Zfk (o n:Str):DFolder:=⟨o,n,[],1,[]⟩
def Zho (fs:List DFolder) (f:DFolder):Nat:=(fs.takeWhile fun y=>Zb7 y f).length
def Zh5 (fs:List DFolder) (f:DFolder):List DFolder:=fs.take (Zho fs f) ++ [f] ++ fs.drop (Zho fs f)
def Zbr (x:DHost) (u n:Str):DHost × Int:=
 if ¬ (Zx x=true∧Zaz n=true) then (ZaT,5)
 else if Zds x.users u<0 then (x,1)
 else if 0≤ZaI (inF u n) x.folders∨8≤x.folders.length then (x,4)
 else (x.withFolders (Zh5 x.folders (Zfk u n)),0)
def ZfB (u:Str) (r:Int) (s:Bool × List DGrant) (g:DGrant):Bool × List DGrant:=
 let s1:Bool × List DGrant:=if s.1=false∧Op.bytesLess g.user u=false then (true,s.2 ++ [⟨u,r⟩]) else s
 if g.user≠u then (s1.1,s1.2 ++ [g]) else s1
def Ze1 (u:Str) (r:Int) (gs:List DGrant):Bool × List DGrant:=gs.foldl (ZfB u r) (decide (r=0),[])
theorem ZcC {u:Str} {r:Int} {gs:List DGrant} {k:Nat} {x:DGrant} (hx:gs[k]? = some x):Ze1 u r (gs.take (k+1))=ZfB u r (Ze1 u r (gs.take k)) x:=by
 rw [Zay hx,Ze1,List.foldl_append];rfl
def Zha (gs:List DGrant) (u:Str) (r:Int):List DGrant:=if (Ze1 u r gs).1=true then (Ze1 u r gs).2 else (Ze1 u r gs).2 ++ [⟨u,r⟩]
def Zd4 (r:Int):Bool:=decide (0≤r) && decide (r≤63)
def Zcc (gs:List DGrant) (u:Str) (r:Int):List DGrant × Bool:=
 if ¬ (ZcR gs=true∧Zaz u=true∧Zd4 r=true) then ([],false)
 else if ZcR (Zha gs u r)=true then (Zha gs u r,true) else (gs,false)
def DFolder.withGrants (f:DFolder) (gs:List DGrant):DFolder:=⟨f.owner,f.name,gs,f.next,f.mail⟩
def Zfr (x:DHost) (k:Nat) (u:Str) (r:Int):DHost × Int:=
 match x.folders[k]? with
 | none=>(x,0)
 | some f=>if (Zcc f.grants u r).2=true then (x.withFolders (x.folders.set k (f.withGrants (Zcc f.grants u r).1)),0) else (x,4)
def Zcb (x:DHost) (by_ o n u:Str) (r:Int):DHost × Int:=
 if ¬ (Zx x=true∧Zd4 r=true) then (ZaT,5)
 else if Zj5 x.users x.folders by_ (ZaI (inF o n) x.folders) 32≠0 then (x,Zj5 x.users x.folders by_ (ZaI (inF o n) x.folders) 32)
 else if u≠anyone∧Zds x.users u<0 then (x,1)
 else Zfr x (ZaI (inF o n) x.folders).toNat u r
def Zbx (x:DHost) (l:DLetter):DHost × Int:=
 if ¬ (Zx x=true∧ZaW l=true) then (ZaT,5)
 else if Zds x.users l.fr<0∨ZgV x.users l.to_=false then (x,1)
 else if (Zip x.queue l).2=true then (x.withQueue (Zip x.queue l).1,0) else (x,4)
def Zy (x:DHost) (id:Int) (u:Str):DHost × Int:=
 if Zx x=false then (ZaT,5)
 else if (Zba x.queue id u).2.2=false then (x,1)
 else if (Zam x (ZaI (inF u inbox) x.folders).toNat 0 (Zba x.queue id u).2.1).2≠4 then
  ((Zam x (ZaI (inF u inbox) x.folders).toNat 0 (Zba x.queue id u).2.1).1.withQueue (Zba x.queue id u).1,(Zam x (ZaI (inF u inbox) x.folders).toNat 0 (Zba x.queue id u).2.1).2)
 else Zam x (ZaI (inF u inbox) x.folders).toNat 0 (Zba x.queue id u).2.1
def Zl2 (s:DSpan):Bool:=(decide (0≤s.low) && decide (s.low≤99)) && (decide (0≤s.high) && decide (s.high≤99))
def ZiJ (s:List DSpan):Bool:=s.all Zl2 && (decide (1≤s.length) && decide (s.length≤6))
def Zeh (last n:Int) (s:DSpan):Bool:=decide (min (if s.low=0 then last else s.low) (if s.high=0 then last else s.high)≤n) && decide (n≤max (if s.low=0 then last else s.low) (if s.high=0 then last else s.high))
def ZgL (s:List DSpan) (last n:Int):Bool:=s.any (Zeh last n)
def Zda (s:List DSpan) (last:Int):Nat→List Int
 | 0=>[]
 | n+1=>if ZgL s last (n+1:Nat)=true then Zda s last n ++ [((n+1:Nat):Int)] else Zda s last n
def ZaN (s:List DSpan) (last:Int):List Int:=if ZiJ s=true then Zda s (min last 99) (min last 99).toNat else []
def ZkP (n:Int) (k:Nat):Int:=Int.tmod (Int.tdiv n (Zdx k)) 2
def Zfx (fl how ot:Int) (k:Nat):Bool:=(decide (how=1) && decide (0<ZkP fl k+ZkP ot k)) || (decide (how = -1) && decide (ZkP fl k=1) && decide (ZkP ot k=0)) || (decide (how=0) && decide (ZkP ot k=1))
def ZjN (fl how ot:Int):Nat→Int
 | 0=>0
 | k+1=>if Zfx fl how ot k=true then ZjN fl how ot k+Zdx k else ZjN fl how ot k
theorem ZoP (fl how ot:Int) :∀k,k≤5→0≤ZjN fl how ot k∧ZjN fl how ot k≤100*k
 | 0,_=>by simp [ZjN]
 | k+1,h=>by
  have:=ZoP fl how ot k (by omega)
  have:=Zlw (k:=k) (by omega)
  simp only [ZjN]
  split <;> omega
def chg (fl how ot:Int):Int:=ZjN fl how ot 5
theorem Zuc (fl how ot:Int):0≤chg fl how ot∧chg fl how ot≤31:=by
 unfold chg
 simp only [ZjN,show Zdx 0=1 from rfl,show Zdx 1=2 from rfl,show Zdx 2=4 from rfl,show Zdx 3=8 from rfl,show Zdx 4=16 from rfl]
 split <;> split <;> split <;> split <;> split <;> omega
def ZqW (n:Nat) (b x:Int):Bool:=(decide (1≤x) && decide (x≤n)) && decide (b<x)
def Zd8 (n:Nat) (xs:List Int):Bool × Int:=scn (ZqW n) (fun _ x=>x) 0 xs
def Zeu (n:Nat) (xs:List Int):Bool:=(Zd8 n xs).1
def Zhu (ms:List DMail) (how fl:Int) (acc:List DMail) (n:Int):List DMail:=
 match acc[(n - 1).toNat]?,ms[(n - 1).toNat]? with
 | some a,some m=>acc.set (n - 1).toNat ⟨a.uid,chg m.flags how fl,a.text⟩
 | _,_=>acc
def Zem (ms:List DMail) (how fl:Int) (ns:List Int):List DMail:=ns.foldl (Zhu ms how fl) ms
def Zlg (how:Int):Bool:=decide (-1≤how) && decide (how≤1)
def Zbo (b:DBox) (ns:List Int) (how fl:Int):DBox × Bool:=
 if Zbk b=true∧Zeu b.mail.length ns=true∧Zlg how=true∧ZaL fl=true then (⟨b.next,Zem b.mail how fl ns⟩,true) else (⟨0,[]⟩,false)
def Zp6 (m:DMail):Bool:=decide (Int.tmod (Int.tdiv m.flags 8) 2=1)
def ZcK (ms:List DMail):List DMail:=ms.filter fun m=>!Zp6 m
def Zdu (s:Nat × List Int) (m:DMail):Nat × List Int:=if Zp6 m=true then (s.1,s.2 ++ [((s.1+1:Nat):Int)]) else (s.1+1,s.2)
def Zlk (ms:List DMail):Nat × List Int:=ms.foldl Zdu (0,[])
def expunge (b:DBox):DBox × List Int:=if Zbk b=true then (⟨b.next,ZcK b.mail⟩,(Zlk b.mail).2) else (⟨0,[]⟩,[])
def atF (x:DHost) (s:DSess) (r:Int):Int × Int:=
 if Zj5 x.users x.folders s.user (ZaI (inF s.owner s.name) x.folders) 2≠0 then (ZaI (inF s.owner s.name) x.folders,Zj5 x.users x.folders s.user (ZaI (inF s.owner s.name) x.folders) 2)
 else (ZaI (inF s.owner s.name) x.folders,Zj5 x.users x.folders s.user (ZaI (inF s.owner s.name) x.folders) r)
def Zh6 (x:DHost) (k:Nat):DBox:=match x.folders[k]? with | some f=>f.box | none=>⟨0,[]⟩
def Zkk (x:DHost) (k:Nat) (b:DBox):DHost:=match x.folders[k]? with | some f=>x.withFolders (x.folders.set k (f.withBox b)) | none=>x
def Zch (x:DHost) (s:DSess) (set:List DSpan) (how fl:Int):DHost × Int:=
 if ¬ (Zx x=true∧ZiJ set=true∧ZaL fl=true∧Zlg how=true) then (ZaT,5)
 else if (atF x s 4).2≠0 then (x,(atF x s 4).2)
 else (Zkk x (atF x s 4).1.toNat (Zbo (Zh6 x (atF x s 4).1.toNat) (ZaN set (Zh6 x (atF x s 4).1.toNat).mail.length) how fl).1,0)
def ZaX (x:DHost) (s:DSess):DHost × List Int × Int:=
 if Zx x=false then (ZaT,[],5)
 else if (atF x s 16).2≠0 then (x,[],(atF x s 16).2)
 else (Zkk x (atF x s 16).1.toNat (expunge (Zh6 x (atF x s 16).1.toNat)).1,(expunge (Zh6 x (atF x s 16).1.toNat)).2,0)
def ZbT (to:Nat) (s:DHost × Int) (m:DMail):DHost × Int:=if s.2=0 then Zam s.1 to m.flags m.text else s
def ZjL (x:DHost) (ms:List DMail) (to:Nat):DHost × Int:=ms.foldl (ZbT to) (x,0)
def Zdh (ms:List DMail) (n:Int):DMail:=match ms[(n - 1).toNat]? with | some m=>m | none=>⟨0,0,[]⟩
def ZeU (x:DHost) (s:DSess) (set:List DSpan) (o n:Str):DHost × Int:=
 if ¬ (Zx x=true∧ZiJ set=true) then (ZaT,5)
 else if (atF x s 2).2≠0 then (x,(atF x s 2).2)
 else if Zj5 x.users x.folders s.user (ZaI (inF o n) x.folders) 8≠0 then (x,Zj5 x.users x.folders s.user (ZaI (inF o n) x.folders) 8)
 else
  let ms:=(ZaN set (Zh6 x (atF x s 2).1.toNat).mail.length).map (Zdh (Zh6 x (atF x s 2).1.toNat).mail)
  if (ZjL x ms (ZaI (inF o n) x.folders).toNat).2=0 then ZjL x ms (ZaI (inF o n) x.folders).toNat else (x,(ZjL x ms (ZaI (inF o n) x.folders).toNat).2)
structure DEvent where
 kind:Int
 by_:Str
 owner:Str
 name:Str
 to_:Str
 text:Str
 a:Int
 b:Int
deriving DecidableEq
def Zij (x:DHost) (e:DEvent):DHost × Int:=
 if e.kind=1 then Zbr x e.by_ e.name
 else if e.kind=2 then Zcb x e.by_ e.owner e.name e.to_ e.a
 else if e.kind=3 then Zlj x e.by_ e.owner e.name e.a e.text
 else if e.kind=4 then Zbx x ⟨e.by_,[e.to_],e.text⟩
 else if e.kind=5 then Zy x e.a e.to_
 else if e.kind=6 then Zch x ⟨e.by_,e.owner,e.name⟩ [⟨e.a,e.a⟩] 1 e.b
 else if e.kind=7 then ((ZaX x ⟨e.by_,e.owner,e.name⟩).1,(ZaX x ⟨e.by_,e.owner,e.name⟩).2.2)
 else if e.kind=8 then ZeU x ⟨e.by_,e.owner,e.name⟩ [⟨e.a,e.a⟩] e.to_ inbox
 else (ZaT,5)
def hDo (x:DHost) (e:DEvent):DHost × Int:=if Zx x=false then (ZaT,5) else if (Zij x e).2=5 then (x,5) else Zij x e
end Go.BL
namespace Go.BL
open Go
theorem Zbe {x:DHost} : Zx x=true↔(Zcp x.domain=true∧Zat x.users=true∧Zab x.queue=true)∧((∀f,f∈x.folders→Z5 x.users f=true)∧Zhc x.folders=true∧x.folders.length≤8)∧(∀u,u∈x.users→Za3 x.folders u=true)∧(∀y,y∈x.queue.items→ZaR x.users y=true):=by
 simp only [Zx,ZcP,Bool.and_eq_true,decide_eq_true_eq,List.all_eq_true]
 constructor
 ·rintro ⟨⟨⟨⟨⟨h1,h2⟩,h3⟩,⟨h4,h5⟩,h6⟩,h7⟩,h8⟩
  exact ⟨⟨h1,h2,h3⟩,⟨h4,h5,h6⟩,h7,h8⟩
 ·rintro ⟨⟨h1,h2,h3⟩,⟨h4,h5,h6⟩,h7,h8⟩
  exact ⟨⟨⟨⟨⟨h1,h2⟩,h3⟩,⟨h4,h5⟩,h6⟩,h7⟩,h8⟩
theorem Zjq {α:Type} {fs:List α} {k i:Nat} {y g:α} (h:(fs.set k y)[i]? = some g):(i=k∧g=y∧k<fs.length)∨(i≠k∧fs[i]? = some g):=by
 have hi:=(List.getElem?_eq_some_iff.1 h).1
 rw [List.length_set] at hi
 rw [List.getElem?_set] at h
 split at h
 ·rename_i e
  subst e
  simp [hi] at h
  exact .inl ⟨rfl,h.symm,hi⟩
 ·rename_i e
  exact .inr ⟨fun e'=>e e'.symm,h⟩
theorem ZlS :∀{fs:List DFolder} {k:Nat} {f:DFolder} (f':DFolder) (u:Str),fs[k]? = some f→ZaZ (fs.set k f') u+(if f.owner=u then Zaj f.mail else 0)=ZaZ fs u+(if f'.owner=u then Zaj f'.mail else 0)
 | [],_,_,_,_,h=>by simp at h
 | g :: fs,0,f,f',u,h=>by
  simp only [List.getElem?_cons_zero,Option.some.injEq] at h
  subst h
  simp only [List.set_cons_zero,ZaZ,List.map_cons,List.sum_cons]
  omega
 | g :: fs,k+1,f,f',u,h=>by
  have:=ZlS (fs:=fs) (k:=k) f' u (by simpa using h)
  simp only [ZaZ] at this
  simp only [List.set_cons_succ,ZaZ,List.map_cons,List.sum_cons]
  omega
theorem Zmj {a b a' b':DFolder} (h1:a.owner=a'.owner) (h2:a.name=a'.name) (h3:b.owner=b'.owner) (h4:b.name=b'.name):Zb7 a b=Zb7 a' b':=by simp only [Zb7,h1,h2,h3,h4]
theorem ZsS {fs:List DFolder} {k:Nat} {f f':DFolder} (h:Zhc fs=true) (hf:fs[k]? = some f) (ho:f'.owner=f.owner) (hn:f'.name=f.name):Zhc (fs.set k f')=true:=by
 rw [Zie] at h ⊢
 intro i a b ha hb
 rcases Zjq ha with ⟨e1,e2,_⟩ | ⟨hi,ha'⟩
 ·rcases Zjq hb with ⟨e,_,_⟩ | ⟨_,hb'⟩
  ·omega
  ·rw [e2,Zmj ho hn rfl rfl];exact h i _ _ (by rw [e1];exact hf) hb'
 ·rcases Zjq hb with ⟨e,e2,_⟩ | ⟨_,hb'⟩
  ·rw [e2,Zmj rfl rfl ho hn];exact h i _ _ ha' (by rw [e];exact hf)
  ·exact h _ _ _ ha' hb'
theorem Zu0 {fs:List DFolder} {k:Nat} {f f':DFolder} {o n:Str} (hf:fs[k]? = some f) (ho:f'.owner=f.owner) (hn:f'.name=f.name) (h:0≤ZaI (inF o n) fs):0≤ZaI (inF o n) (fs.set k f'):=by
 rw [Zd9] at h ⊢
 obtain ⟨y,hy,hp⟩:=h
 obtain ⟨i,hi⟩:=List.mem_iff_getElem?.1 hy
 by_cases e:i=k
 ·subst e
  rw [hf] at hi;cases hi
  refine ⟨f',List.mem_iff_getElem?.2 ⟨i,?_⟩,by simp only [inF,ho,hn] at hp ⊢;exact hp⟩
  have:=(List.getElem?_eq_some_iff.1 hf).1
  simp [List.getElem?_set,this]
 ·exact ⟨y,List.mem_iff_getElem?.2 ⟨i,by rw [List.getElem?_set,if_neg (fun e'=>e e'.symm)];exact hi⟩,hp⟩
theorem Zhh {us:List DUser} (h:Zat us=true) {w:DUser} (hw:w∈us):Zcq us w.name=w.quota:=by
 have h0:0≤Zds us w.name:=Za6.2 ⟨w,hw,rfl⟩
 have h1:=Zrj us w.name
 obtain ⟨v,hv⟩ :∃v,us[(Zds us w.name).toNat]? = some v:=⟨_,List.getElem?_eq_getElem (by omega)⟩
 have h2:=Ztt h0 hv
 rw [Zgp,Zgo (Zeg h) w hw] at h2
 cases h2
 simp only [Zcq,hv]
theorem ZgS {us:List DUser} {f:DFolder} (h:Z5 us f=true) :∃w,w∈us∧w.name=f.owner:=by
 simp only [Z5,Bool.and_eq_true,decide_eq_true_eq] at h
 exact Za6.1 h.1.1.1
theorem Zhp {x:DHost} {k:Nat} {f f':DFolder} (h:Zx x=true) (hf:x.folders[k]? = some f) (ho:f'.owner=f.owner) (hn:f'.name=f.name) (hi:Z5 x.users f'=true)
  (hq:(ZaZ x.folders f.owner:Int)+Zaj f'.mail≤Zcq x.users f.owner+Zaj f.mail∨Zaj f'.mail≤Zaj f.mail):Zx (x.withFolders (x.folders.set k f'))=true:=by
 rw [Zbe] at h ⊢
 obtain ⟨⟨h1,h2,h3⟩,⟨h4,h5,h6⟩,h7,h8⟩:=h
 refine ⟨⟨h1,h2,h3⟩,⟨?_,ZsS h5 hf ho hn,by simpa [DHost.withFolders] using h6⟩,?_,h8⟩
 ·intro g hg
  obtain ⟨i,hg⟩:=List.mem_iff_getElem?.1 hg
  rcases Zjq hg with ⟨_,rfl,_⟩ | ⟨_,hg⟩
  ·exact hi
  ·exact h4 g (List.mem_of_getElem? hg)
 ·intro w hw
  have:=h7 w hw
  simp only [Za3,Bool.and_eq_true,decide_eq_true_eq] at this ⊢
  refine ⟨Zu0 hf ho hn this.1,?_⟩
  have hu:=ZlS f' w.name hf
  simp only [DHost.withFolders]
  by_cases e:f.owner=w.name
  ·rw [if_pos e,if_pos (ho.trans e)] at hu
   rw [e,Zhh h2 hw] at hq
   omega
  ·rw [if_neg e,if_neg (fun e'=>e (ho ▸ e'))] at hu
   omega
theorem Zoq :∀{fs:List DFolder} {f:DFolder},Zhc fs=true→(∀g,g∈fs→¬ (g.owner=f.owner∧g.name=f.name))→Zhc (Zh5 fs f)=true
 | [],f,_,_=>rfl
 | a :: r,f,h,hk=>by
  cases hl:Zb7 a f with
  | true=>
   have e:Zh5 (a :: r) f=a :: Zh5 r f:=by simp [Zh5,Zho,hl]
   have ih:=Zoq (fs:=r) (f:=f) (by cases r with | nil=>rfl | cons b r=>simp only [Zhc,Bool.and_eq_true] at h;exact h.2) (fun g hg=>hk g (List.mem_cons_of_mem _ hg))
   rw [e]
   cases r with
   | nil=>simp [Zh5,Zho,Zhc,hl]
   | cons b r=>
    simp only [Zhc,Bool.and_eq_true] at h
    cases hb:Zb7 b f with
    | true=>
     have e2:Zh5 (b :: r) f=b :: Zh5 r f:=by simp [Zh5,Zho,hb]
     rw [e2] at ih ⊢
     simp only [Zhc,h.1,Bool.true_and];exact ih
    | false=>
     have e2:Zh5 (b :: r) f=f :: b :: r:=by simp [Zh5,Zho,hb]
     rw [e2] at ih ⊢
     simp only [Zhc,hl,Bool.true_and] at ih ⊢;exact ih
  | false=>
   have e:Zh5 (a :: r) f=f :: a :: r:=by simp [Zh5,Zho,hl]
   rw [e]
   have hne:=hk a (List.mem_cons_self ..)
   have:Zb7 f a=true:=by
    unfold Zb7 at hl ⊢
    rw [Zbw f.owner a.owner,Zbw f.name a.name]
    simp only [Bool.or_eq_false_iff,Bool.and_eq_false_iff,decide_eq_false_iff_not] at hl
    by_cases e:a.owner=f.owner
    ·have e2:a.name≠f.name:=fun e2=>hne ⟨e,e2⟩
     rcases hl.2 with h2 | h2
     ·exact absurd e h2
     ·simp [e,Zdp,h2,e2]
    ·simp [hl.1,e]
   simp only [Zhc,this,Bool.true_and];exact h
theorem Zq7 {fs:List DFolder} {f g:DFolder} : g∈Zh5 fs f↔g∈fs∨g=f:=by
 have e:fs=fs.take (Zho fs f) ++ fs.drop (Zho fs f):=(List.take_append_drop _ _).symm
 constructor
 ·intro h
  simp only [Zh5,List.mem_append,List.mem_singleton] at h
  rcases h with (h | h) | h
  ·exact .inl (List.mem_of_mem_take h)
  ·exact .inr h
  ·exact .inl (List.mem_of_mem_drop h)
 ·intro h
  simp only [Zh5,List.mem_append,List.mem_singleton]
  rcases h with h | h
  ·rw [e,List.mem_append] at h
   rcases h with h | h
   ·exact .inl (.inl h)
   ·exact .inr h
  ·exact .inl (.inr h)
theorem ZiC (as bs:List DFolder) (u:Str):ZaZ (as ++ bs) u=ZaZ as u+ZaZ bs u:=by simp [ZaZ]
theorem Zqu (fs:List DFolder) (f:DFolder) (u:Str):ZaZ (Zh5 fs f) u=ZaZ fs u+(if f.owner=u then Zaj f.mail else 0):=by
 have e:ZaZ fs u=ZaZ (fs.take (Zho fs f)) u+ZaZ (fs.drop (Zho fs f)) u:=by rw [← ZiC,List.take_append_drop]
 rw [Zh5,ZiC,ZiC,e]
 simp only [ZaZ,List.map_cons,List.map_nil,List.sum_cons,List.sum_nil];omega
theorem ZuZ (fs:List DFolder) (f:DFolder):(Zh5 fs f).length=fs.length+1:=by
 have:=congrArg List.length (List.take_append_drop (Zho fs f) fs)
 simp only [List.length_append] at this
 simp only [Zh5,List.length_append,List.length_cons,List.length_nil];omega
theorem Zlh {x:DHost} {u n:Str} (h:Zx x=true) (hn:Zaz n=true) (hu : ¬ Zds x.users u<0) (hk : ¬ (0≤ZaI (inF u n) x.folders∨8≤x.folders.length)):Zx (x.withFolders (Zh5 x.folders (Zfk u n)))=true:=by
 rw [Zbe] at h ⊢
 obtain ⟨⟨h1,h2,h3⟩,⟨h4,h5,h6⟩,h7,h8⟩:=h
 refine ⟨⟨h1,h2,h3⟩,⟨?_,Zoq h5 ?_,by show (Zh5 x.folders _).length≤8;rw [ZuZ];omega⟩,?_,h8⟩
 ·intro g hg
  rcases Zq7.1 hg with hg | rfl
  ·exact h4 g hg
  ·have e2:ZcR []=true:=by decide
   have e3:Zbk ⟨1,[]⟩=true:=by decide
   simp only [Z5,Zfk,DFolder.box,e2,e3,hn,Bool.and_true]
   exact decide_eq_true (by simp only [DHost.withFolders];omega)
 ·rintro g hg ⟨e1,e2⟩
  exact hk (.inl (Zd9.2 ⟨g,hg,by simp [inF,e1,e2,Zfk]⟩))
 ·intro w hw
  have:=h7 w hw
  simp only [Za3,Bool.and_eq_true,decide_eq_true_eq] at this ⊢
  have e:ZaZ (Zh5 x.folders (Zfk u n)) w.name=ZaZ x.folders w.name:=by
   rw [Zqu];simp [Zfk,Zaj]
  obtain ⟨g,hg,hp⟩:=Zd9.1 this.1
  refine ⟨Zd9.2 ⟨g,Zq7.2 (.inl hg),hp⟩,?_⟩
  show ((ZaZ (Zh5 x.folders (Zfk u n)) w.name:Nat):Int)≤w.quota
  rw [e];exact this.2
theorem ZpO {x:DHost} {u n:Str} (h:Zx x=true):(Zbr x u n).2=5∨Zx (Zbr x u n).1=true:=by
 unfold Zbr
 split
 ·exact .inl rfl
 ·rename_i h1
  split
  ·exact .inr h
  ·rename_i h2
   split
   ·exact .inr h
   ·rename_i h3
    exact .inr (Zlh h (by simp only [h,true_and,Decidable.not_not] at h1;exact h1) h2 h3)
theorem Zmg {ms:List DMail} {b:Int} {m:DMail} (h:Zcn ms=(true,b)) (hm:ZbU b m=true):Zcn (ms ++ [m])=(true,m.uid):=by
 rw [Zcn,scn,List.foldl_append]
 have:ms.foldl (fun (s:Bool × Int) x=>(s.1 && ZbU s.2 x,x.uid)) (true,0)=(true,b):=h
 rw [this];simp [hm]
theorem ZfJ {b:DBox} (h:Zbk b=true) :∃l,Zcn b.mail=(true,l)∧l+1≤b.next∧b.next≤100∧b.mail.length≤10:=by
 simp only [Zbk,Bool.and_eq_true,decide_eq_true_eq] at h
 exact ⟨(Zcn b.mail).2,Prod.ext h.1.1 rfl,h.1.2.1,h.1.2.2,h.2⟩
theorem Zk0 :∀(xs:List DMail) (b0 b:Int),xs.foldl (fun (s:Bool × Int) x=>(s.1 && ZbU s.2 x,x.uid)) (true,b0)=(true,b)→b0≤b
 | [],b0,b,h=>by cases h;omega
 | x :: xs,b0,b,h=>by
  simp only [List.foldl_cons,Bool.true_and] at h
  cases hp:ZbU b0 x with
  | false=>
   rw [hp] at h
   have:=Zcg (p:=ZbU) (nx:=fun _ m=>m.uid) xs x.uid
   rw [h] at this;cases this
  | true=>
   rw [hp] at h
   have:=Zk0 xs x.uid b h
   simp only [ZbU,Bool.and_eq_true,decide_eq_true_eq] at hp
   omega
theorem Zp2 {b:DBox} {fl:Int} {t:Str} (h:Zbk b=true) (hf:ZaL fl=true) (ht:t.length≤20) (h2:(ZeI b fl t).2=true):Zbk (ZeI b fl t).1=true∧Zaj (ZeI b fl t).1.mail=Zaj b.mail+t.length:=by
 obtain ⟨l,hs,hl,hn,hk⟩:=ZfJ h
 have h0:=Zk0 b.mail 0 l hs
 unfold ZeI at h2 ⊢
 split at h2
 ·cases h2
 ·rename_i hc
  rw [if_neg hc]
  simp only [ZaL,Bool.and_eq_true,decide_eq_true_eq] at hf
  have hm:ZbU l ⟨b.next,fl,t⟩=true:=by
   simp only [ZbU,ZbG,Bool.and_eq_true,decide_eq_true_eq];omega
  refine ⟨?_,by simp [Zaj]⟩
  rw [ZdT (Zmg hs hm)]
  simp only [Bool.and_eq_true,decide_eq_true_eq,List.length_append,List.length_cons,List.length_nil]
  omega
theorem ZhX {us:List DUser} {f:DFolder} {b:DBox} (h:Z5 us f=true) (hb:Zbk b=true):Z5 us (f.withBox b)=true:=by
 simp only [Z5,Bool.and_eq_true,decide_eq_true_eq] at h ⊢
 exact ⟨⟨⟨h.1.1.1,h.1.1.2⟩,h.1.2⟩,hb⟩
theorem ZaK {x:DHost} {k:Nat} {f:DFolder} (h:Zx x=true) (hf:x.folders[k]? = some f):Z5 x.users f=true:=(Zbe.1 h).2.1.1 f (List.mem_of_getElem? hf)
theorem Zby {us:List DUser} {f:DFolder} (h:Z5 us f=true):Zbk f.box=true:=by simp only [Z5,Bool.and_eq_true] at h;exact h.2
theorem Zic {x:DHost} {k:Nat} {fl:Int} {t:Str} (h:Zx x=true) (hf:ZaL fl=true) (ht:t.length≤20):Zx (Zam x k fl t).1=true:=by
 unfold Zam
 split
 ·exact h
 ·rename_i f hk
  split
  ·exact h
  ·rename_i hq
   split
   ·rename_i h2
    obtain ⟨h3,h4⟩:=Zp2 (Zby (ZaK h hk)) hf ht h2
    refine Zhp h hk rfl rfl (ZhX (ZaK h hk) h3) (.inl ?_)
    show (ZaZ x.folders f.owner:Int)+Zaj (ZeI f.box fl t).1.mail≤Zcq x.users f.owner+Zaj f.mail
    rw [h4,show f.box.mail=f.mail from rfl];omega
   ·exact h
theorem ZR {x:DHost} {k:Nat} {fl:Int} {t:Str} : (Zam x k fl t).1.users=x.users∧(Zam x k fl t).1.queue=x.queue∧(Zam x k fl t).1.domain=x.domain∧(Zam x k fl t).1.folders.length=x.folders.length:=by
 unfold Zam
 split
 ·exact ⟨rfl,rfl,rfl,rfl⟩
 ·split
  ·exact ⟨rfl,rfl,rfl,rfl⟩
  ·split
   ·exact ⟨rfl,rfl,rfl,by simp [DHost.withFolders]⟩
   ·exact ⟨rfl,rfl,rfl,rfl⟩
theorem Zu4 {x:DHost} {b o n:Str} {fl:Int} {t:Str} (h:Zx x=true):(Zlj x b o n fl t).2=5∨Zx (Zlj x b o n fl t).1=true:=by
 unfold Zlj
 split
 ·exact .inl rfl
 ·rename_i h1
  simp only [h,true_and,Decidable.not_not] at h1
  split
  ·exact .inr h
  ·exact .inr (Zic h h1.1 h1.2)
theorem Zsd {gs:List DGrant} {u:Str} {r:Int} (h:(Zcc gs u r).2=true):ZcR (Zcc gs u r).1=true:=by
 unfold Zcc at h ⊢
 split
 ·rename_i h1;rw [if_pos h1] at h;cases h
 ·rename_i h1
  rw [if_neg h1] at h
  split
  ·assumption
  ·rename_i h2;rw [if_neg h2] at h;cases h
theorem Zru {x:DHost} {b o n u:Str} {r:Int} (h:Zx x=true):(Zcb x b o n u r).2=5∨Zx (Zcb x b o n u r).1=true:=by
 unfold Zcb
 split
 ·exact .inl rfl
 ·split
  ·exact .inr h
  ·split
   ·exact .inr h
   ·right
    unfold Zfr
    split
    ·exact h
    ·rename_i f hk
     split
     ·rename_i h2
      refine Zhp h hk rfl rfl ?_ (.inr (Nat.le_refl _))
      have:=ZaK h hk
      simp only [Z5,Bool.and_eq_true,decide_eq_true_eq] at this ⊢
      exact ⟨⟨⟨this.1.1.1,this.1.1.2⟩,Zsd h2⟩,this.2⟩
     ·exact h
theorem ZhT {x:DHost} {q:DQueue} (h:Zx x=true) (hq:Zab q=true) (hi :∀y,y∈q.items→ZaR x.users y=true):Zx (x.withQueue q)=true:=by
 rw [Zbe] at h ⊢
 exact ⟨⟨h.1.1,h.1.2.1,hq⟩,h.2.1,h.2.2.1,hi⟩
theorem Zbt {x:DHost} (h:Zx x=true):Zab x.queue=true:=(Zbe.1 h).1.2.2
theorem ZpN {x:DHost} {l:DLetter} (h:Zx x=true):(Zbx x l).2=5∨Zx (Zbx x l).1=true:=by
 unfold Zbx
 split
 ·exact .inl rfl
 ·split
  ·exact .inr h
  ·rename_i h2
   split
   ·rename_i h3
    refine .inr (ZhT h (Zp1 h3) fun y hy=>?_)
    rw [(ZmY h3).1] at hy
    simp only [List.mem_append,List.mem_singleton] at hy
    rcases hy with hy | rfl
    ·exact (Zbe.1 h).2.2.2 y hy
    ·simp only [not_or,Bool.not_eq_false] at h2
     simp only [ZaR,h2.2,Bool.and_true]
     exact decide_eq_true (by omega)
   ·exact .inr h
theorem ZoZ {id:Int} {u:Str} {xs:List DItem} {y:DItem} (h:y∈Ze7 id u xs) :∃z,z∈xs∧y.fr=z.fr∧(∀n,n∈y.left→n∈z.left):=by
 simp only [Ze7,List.mem_filter,List.mem_map] at h
 obtain ⟨⟨z,hz,rfl⟩,_⟩:=h
 refine ⟨z,hz,?_,?_⟩
 ·unfold ZbP;split <;> rfl
 ·intro n hn
  unfold ZbP at hn
  split at hn
  ·exact (List.mem_filter.1 hn).1
  ·exact hn
theorem Zkh :∀(xs:List DItem) {id:Int} {u:Str} (s:Str × Bool),(xs.foldl (Zb5 id u) s).2=true→s.2=true∨∃y,y∈xs∧u∈y.left
 | [],_,_,s,h=>.inl h
 | x :: xs,id,u,s,h=>by
  rcases Zkh xs (Zb5 id u s x) h with h | ⟨y,hy,hu⟩
  ·unfold Zb5 at h
   split at h
   ·rename_i hc;exact .inr ⟨x,List.mem_cons_self ..,hc.2⟩
   ·exact .inl h
  ·exact .inr ⟨y,List.mem_cons_of_mem _ hy,hu⟩
theorem ZdC {x:DHost} {id:Int} {u:Str} (h:Zx x=true) (hf:(Zba x.queue id u).2.2=true):0≤ZaI (inF u inbox) x.folders:=by
 obtain ⟨_,_,h7,h8⟩:=Zbe.1 h
 rcases Zkh x.queue.items (id:=id) (u:=u) ([],false) hf with h0 | ⟨y,hy,hu⟩
 ·cases h0
 ·have:=h8 y hy
  simp only [ZaR,ZgV,Bool.and_eq_true,List.all_eq_true,decide_eq_true_eq] at this
  obtain ⟨w,hw,rfl⟩:=Za6.1 (this.2 u hu)
  have:=h7 w hw
  simp only [Za3,Bool.and_eq_true,decide_eq_true_eq] at this
  exact this.1
theorem Zob :∀(xs:List DItem) {id:Int} {u:Str} (s:Str × Bool),s.1.length≤20→(∀y,y∈xs→ZcL y=true)→(xs.foldl (Zb5 id u) s).1.length≤20
 | [],_,_,s,h,_=>h
 | x :: xs,id,u,s,h,ha=>by
  refine Zob xs (Zb5 id u s x) ?_ fun y hy=>ha y (List.mem_cons_of_mem _ hy)
  unfold Zb5
  split
  ·have:=ha x (List.mem_cons_self ..)
   simp only [ZcL,ZaW,Bool.and_eq_true,decide_eq_true_eq] at this
   exact this.2
  ·exact h
theorem Zec {x:DHost} {id:Int} {u:Str} (h:Zx x=true):(Zba x.queue id u).2.1.length≤20:=
 Zob x.queue.items ([],false) (by simp) fun y hy=>Zc8 (Zbt h) hy
theorem Zjo {x:DHost} {id:Int} {u:Str} (h:Zx x=true):(Zy x id u).2=5∨Zx (Zy x id u).1=true:=by
 right
 unfold Zy
 rw [if_neg (show ¬ Zx x=false by simp [h])]
 split
 ·exact h
 ·rename_i hf
  have hp:Zx (Zam x (ZaI (inF u inbox) x.folders).toNat 0 (Zba x.queue id u).2.1).1=true:=Zic h (by decide) (Zec h)
  split
  ·have e:=ZR (x:=x) (k:=(ZaI (inF u inbox) x.folders).toNat) (fl:=0) (t:=(Zba x.queue id u).2.1)
   have hq:Zac x.queue id u=Zba x.queue id u:=by rw [Zac,if_pos (Zbt h)]
   refine ZhT hp ?_ fun y hy=>?_
   ·rw [← hq];exact Zkg (by rw [hq];simpa using hf)
   ·obtain ⟨z,hz,e1,e2⟩:=ZoZ (show y∈Ze7 id u x.queue.items from hy)
    have:=(Zbe.1 h).2.2.2 z hz
    simp only [ZaR,ZgV,Bool.and_eq_true,List.all_eq_true,e.1,e1] at this ⊢
    exact ⟨this.1,fun n hn=>this.2 n (e2 n hn)⟩
  ·exact hp
theorem Zl3 {x:DHost} {k:Nat} {b:DBox} (h:Zx x=true) (hb :∀f,x.folders[k]? = some f→Zbk b=true∧Zaj b.mail≤Zaj f.mail):Zx (Zkk x k b)=true:=by
 unfold Zkk
 split
 ·rename_i f hf
  exact Zhp h hf rfl rfl (ZhX (ZaK h hf) (hb f hf).1) (.inr (hb f hf).2)
 ·exact h
def Like (ms ms':List DMail):Prop:=ms'.length=ms.length∧∀(i:Nat) (a b:DMail),ms[i]? = some a→ms'[i]? = some b→b.uid=a.uid∧b.text=a.text∧(b.flags=a.flags∨(0≤b.flags∧b.flags≤31))
theorem Like.refl (ms:List DMail):Like ms ms:=⟨rfl,fun i a b h1 h2=>by rw [h1] at h2;cases h2;exact ⟨rfl,rfl,.inl rfl⟩⟩
theorem Like.set {ms acc:List DMail} {k:Nat} {a:DMail} {fl:Int} (h:Like ms acc) (ha:acc[k]? = some a) (hf:0≤fl∧fl≤31):Like ms (acc.set k ⟨a.uid,fl,a.text⟩):=by
 refine ⟨by rw [List.length_set];exact h.1,fun i c d hc hd=>?_⟩
 rcases Zjq hd with ⟨rfl,rfl,_⟩ | ⟨_,hd⟩
 ·have:=h.2 _ _ _ hc ha
  exact ⟨this.1,this.2.1,.inr hf⟩
 ·exact h.2 _ _ _ hc hd
theorem ZmE {ms acc:List DMail} {how fl n:Int} (h:Like ms acc):Like ms (Zhu ms how fl acc n):=by
 unfold Zhu
 split
 ·rename_i a m ha hm;exact h.set ha (Zuc _ _ _)
 ·exact h
theorem Zh1 {ms:List DMail} {how fl:Int} :∀(ns:List Int) {acc:List DMail},Like ms acc→Like ms (ns.foldl (Zhu ms how fl) acc)
 | [],_,h=>h
 | n :: ns,_,h=>Zh1 ns (ZmE h)
theorem Zmi :∀{ms ms':List DMail} (b0 b:Int),Like ms ms'→ms.foldl (fun (s:Bool × Int) x=>(s.1 && ZbU s.2 x,x.uid)) (true,b0)=(true,b)→ms'.foldl (fun (s:Bool × Int) x=>(s.1 && ZbU s.2 x,x.uid)) (true,b0)=(true,b)∧Zaj ms'=Zaj ms
 | [],ms',b0,b,h,hs=>by
  have:ms'=[]:=List.length_eq_zero_iff.1 h.1
  subst this;exact ⟨hs,rfl⟩
 | x :: ms,[],b0,b,h,hs=>by cases h.1
 | x :: ms,y :: ms',b0,b,h,hs=>by
  obtain ⟨h1,h2⟩:=h
  obtain ⟨e1,e2,e3⟩:=h2 0 x y rfl rfl
  simp only [List.foldl_cons,Bool.true_and] at hs ⊢
  cases hp:ZbU b0 x with
  | false=>
   rw [hp] at hs
   have:=Zcg (p:=ZbU) (nx:=fun _ m=>m.uid) ms x.uid
   rw [hs] at this;cases this
  | true=>
   rw [hp] at hs
   have hq:ZbU b0 y=true:=by
    simp only [ZbU,ZbG,Bool.and_eq_true,decide_eq_true_eq] at hp ⊢
    rw [e1,e2]
    rcases e3 with e3 | e3
    ·rw [e3];exact hp
    ·omega
   rw [hq,e1]
   obtain ⟨h3,h4⟩:=Zmi (ms:=ms) (ms':=ms') x.uid b ⟨by simpa using h1,fun i a c ha hc=>h2 (i+1) a c (by simpa using ha) (by simpa using hc)⟩ hs
   refine ⟨h3,?_⟩
   simp only [Zaj,List.map_cons,List.sum_cons,e2] at h4 ⊢
   omega
theorem Zs2 {b:DBox} {ms:List DMail} (h:Zbk b=true) (hl:Like b.mail ms):Zbk ⟨b.next,ms⟩=true∧Zaj ms=Zaj b.mail:=by
 obtain ⟨l,hs,h1,h2,h3⟩:=ZfJ h
 obtain ⟨h4,h5⟩:=Zmi 0 l hl hs
 refine ⟨?_,h5⟩
 rw [ZdT (b:=⟨b.next,ms⟩) h4]
 simp only [Bool.and_eq_true,decide_eq_true_eq,hl.1];omega
theorem Zi8 :∀(ms:List DMail) (b0 b1 b:Int),b1≤b0→ms.foldl (fun (s:Bool × Int) x=>(s.1 && ZbU s.2 x,x.uid)) (true,b0)=(true,b)→∃c,c≤b∧(ZcK ms).foldl (fun (s:Bool × Int) x=>(s.1 && ZbU s.2 x,x.uid)) (true,b1)=(true,c)∧Zaj (ZcK ms)≤Zaj ms
 | [],b0,b1,b,hb,h=>by cases h;exact ⟨b1,hb,rfl,Nat.le_refl _⟩
 | x :: ms,b0,b1,b,hb,h=>by
  simp only [List.foldl_cons,Bool.true_and] at h
  cases hp:ZbU b0 x with
  | false=>
   rw [hp] at h
   have:=Zcg (p:=ZbU) (nx:=fun _ m=>m.uid) ms x.uid
   rw [h] at this;cases this
  | true=>
   rw [hp] at h
   have hx:b0<x.uid:=by simp only [ZbU,Bool.and_eq_true,decide_eq_true_eq] at hp;exact hp.2
   cases hd:Zp6 x with
   | true=>
    obtain ⟨c,h1,h2,h3⟩:=Zi8 ms x.uid b1 b (by omega) h
    have e:ZcK (x :: ms)=ZcK ms:=by simp [ZcK,hd]
    rw [e]
    refine ⟨c,h1,h2,?_⟩
    simp only [Zaj,List.map_cons,List.sum_cons] at h3 ⊢;omega
   | false=>
    obtain ⟨c,h1,h2,h3⟩:=Zi8 ms x.uid x.uid b (by omega) h
    have e:ZcK (x :: ms)=x :: ZcK ms:=by simp [ZcK,hd]
    rw [e]
    have hq:ZbU b1 x=true:=by
     simp only [ZbU,Bool.and_eq_true,decide_eq_true_eq] at hp ⊢
     exact ⟨hp.1,by omega⟩
    refine ⟨c,h1,?_,?_⟩
    ·simp only [List.foldl_cons,Bool.true_and,hq];exact h2
    ·simp only [Zaj,List.map_cons,List.sum_cons] at h3 ⊢;omega
theorem Ztb {b:DBox} (h:Zbk b=true):Zbk ⟨b.next,ZcK b.mail⟩=true∧Zaj (ZcK b.mail)≤Zaj b.mail:=by
 obtain ⟨l,hs,h1,h2,h3⟩:=ZfJ h
 obtain ⟨c,h4,h5,h6⟩:=Zi8 b.mail 0 0 l (by omega) hs
 refine ⟨?_,h6⟩
 have:(ZcK b.mail).length≤b.mail.length:=List.length_filter_le _ _
 rw [ZdT (b:=⟨b.next,ZcK b.mail⟩) h5]
 simp only [Bool.and_eq_true,decide_eq_true_eq];omega
theorem ZdD {x:DHost} {k:Nat} {f:DFolder} (h:x.folders[k]? = some f):Zh6 x k=f.box:=by simp only [Zh6,h]
theorem Zim {x:DHost} {s:DSess} {r:Int} (h:(atF x s r).2=0):(atF x s r).1=ZaI (inF s.owner s.name) x.folders∧0≤(atF x s r).1∧0≤Zds x.users s.user∧∃f,x.folders[(atF x s r).1.toNat]? = some f∧Zp7 f s.user 1=true∧Zp7 f s.user 2=true∧Zp7 f s.user r=true:=by
 unfold atF at h ⊢
 split at h
 ·rename_i h1;exact absurd h h1
 ·rename_i h1
  rw [if_neg h1]
  obtain ⟨h2,h3,f,hf,h4,h5⟩:=ZeH h
  obtain ⟨_,_,f',hf',_,h6⟩:=ZeH (Decidable.not_not.1 h1)
  rw [hf] at hf';cases hf'
  exact ⟨rfl,h3,h2,f,hf,h4,h6,h5⟩
theorem Zrt {x:DHost} {s:DSess} {set:List DSpan} {how fl:Int} (h:Zx x=true):(Zch x s set how fl).2=5∨Zx (Zch x s set how fl).1=true∨(Zeu (Zh6 x (atF x s 4).1.toNat).mail.length (ZaN set (Zh6 x (atF x s 4).1.toNat).mail.length)=false):=by
 unfold Zch
 split
 ·exact .inl rfl
 ·rename_i h1
  split
  ·exact .inr (.inl h)
  ·rename_i h2
   cases hn:Zeu (Zh6 x (atF x s 4).1.toNat).mail.length (ZaN set (Zh6 x (atF x s 4).1.toNat).mail.length) with
   | false=>exact .inr (.inr rfl)
   | true=>
    refine .inr (.inl (Zl3 h fun f hf=>?_))
    simp only [h,true_and,Decidable.not_not] at h1
    have hb:=Zby (ZaK h hf)
    rw [ZdD hf] at hn ⊢
    rw [Zbo,if_pos ⟨hb,hn,h1.2.2,h1.2.1⟩]
    obtain ⟨h4,h5⟩:=Zs2 hb (Zh1 (how:=how) (fl:=fl) (ZaN set f.box.mail.length) (Like.refl f.box.mail))
    exact ⟨h4,Nat.le_of_eq h5⟩
theorem ZnJ {x:DHost} {s:DSess} (h:Zx x=true):(ZaX x s).2.2=5∨Zx (ZaX x s).1=true:=by
 unfold ZaX
 split
 ·exact .inl rfl
 ·split
  ·exact .inr h
  ·refine .inr (Zl3 h fun f hf=>?_)
   have hb:=Zby (ZaK h hf)
   rw [ZdD hf,expunge,if_pos hb]
   exact Ztb hb
theorem Zhl (s:List DSpan) (last:Int) :∀(n:Nat) (y:Int),y∈Zda s last n→1≤y∧y≤n
 | 0,y,h=>by cases h
 | n+1,y,h=>by
  simp only [Zda] at h
  split at h
  ·rw [List.mem_append,List.mem_singleton] at h
   rcases h with h | rfl
   ·have:=Zhl s last n y h;omega
   ·omega
  ·have:=Zhl s last n y h;omega
theorem Zmd {m:Nat} {xs:List Int} {b y:Int} (h:Zd8 m xs=(true,b)) (hy:ZqW m b y=true):Zd8 m (xs ++ [y])=(true,y):=by
 rw [Zd8,scn,List.foldl_append]
 have:xs.foldl (fun (s:Bool × Int) x=>(s.1 && ZqW m s.2 x,x)) (true,0)=(true,b):=h
 rw [this];simp [hy]
theorem ZiW (s:List DSpan) (last:Int) (m:Nat) :∀n,n≤m→∃b,Zd8 m (Zda s last n)=(true,b)∧b≤n
 | 0,_=>⟨0,rfl,by simp⟩
 | n+1,h=>by
  obtain ⟨b,h1,h2⟩:=ZiW s last m n (by omega)
  simp only [Zda]
  split
  ·exact ⟨_,Zmd h1 (by simp only [ZqW,Bool.and_eq_true,decide_eq_true_eq];omega),by omega⟩
  ·exact ⟨b,h1,by omega⟩
theorem ZqV (s:List DSpan) (m:Nat):Zeu m (ZaN s m)=true:=by
 unfold ZaN
 split
 ·obtain ⟨b,h,_⟩:=ZiW s (min (m:Int) 99) m (min (m:Int) 99).toNat (by omega)
  rw [Zeu,h]
 ·rfl
theorem Zkr {s:List DSpan} {m:Nat} {y:Int} (h:y∈ZaN s m):1≤y∧y≤m:=by
 unfold ZaN at h
 split at h
 ·have:=Zhl _ _ _ _ h;omega
 ·cases h
theorem Zkp (s:List DSpan) (last:Int) :∀n,(Zda s last n).length≤n
 | 0=>by simp [Zda]
 | n+1=>by
  have:=Zkp s last n
  simp only [Zda]
  split
  ·simp;omega
  ·omega
theorem ZnU {to:Nat} {s:DHost × Int} {m:DMail} (h:Zx s.1=true) (hm:ZbG m=true):Zx (ZbT to s m).1=true:=by
 unfold ZbT
 simp only [ZbG,Bool.and_eq_true,decide_eq_true_eq] at hm
 split
 ·exact Zic h (by simp only [ZaL,Bool.and_eq_true,decide_eq_true_eq];exact hm.1.2) hm.2
 ·exact h
theorem ZjM {to:Nat} :∀(ms:List DMail) (s:DHost × Int),Zx s.1=true→(∀m,m∈ms→ZbG m=true)→Zx (ms.foldl (ZbT to) s).1=true
 | [],_,h,_=>h
 | m :: ms,s,h,hm=>ZjM ms _ (ZnU h (hm m (List.mem_cons_self ..))) fun y hy=>hm y (List.mem_cons_of_mem _ hy)
theorem Zq8 {b:DBox} (h:Zbk b=true) {y:Int} (hy:1≤y∧y≤b.mail.length):ZbG (Zdh b.mail y)=true:=by
 unfold Zdh
 have :∃m,b.mail[(y - 1).toNat]? = some m:=⟨_,List.getElem?_eq_getElem (by omega)⟩
 obtain ⟨m,hm⟩:=this
 simp only [hm]
 exact (ZdS h).1 m (List.mem_of_getElem? hm)
theorem Zto {x:DHost} {s:DSess} {set:List DSpan} {o n:Str} (h:Zx x=true):(ZeU x s set o n).2=5∨Zx (ZeU x s set o n).1=true:=by
 unfold ZeU
 split
 ·exact .inl rfl
 ·split
  ·exact .inr h
  ·rename_i h2
   split
   ·exact .inr h
   ·obtain ⟨_,_,_,f,hf,_⟩:=Zim (Decidable.not_not.1 h2)
    have hb:=Zby (ZaK h hf)
    simp only []
    split
    ·refine .inr (ZjM _ _ h fun m hm=>?_)
     obtain ⟨y,hy,rfl⟩:=List.mem_map.1 hm
     rw [ZdD hf] at hy ⊢
     exact Zq8 hb (Zkr hy)
    ·exact .inr h
theorem Zvd {x:DHost} {e:DEvent} (h:Zx x=true):(Zij x e).2=5∨Zx (Zij x e).1=true:=by
 unfold Zij
 split
 ·exact ZpO h
 ·split
  ·exact Zru h
  ·split
   ·exact Zu4 h
   ·split
    ·exact ZpN h
    ·split
     ·exact Zjo h
     ·split
      ·rcases Zrt (x:=x) (s:=⟨e.by_,e.owner,e.name⟩) (set:=[⟨e.a,e.a⟩]) (how:=1) (fl:=e.b) h with h | h | h
       ·exact .inl h
       ·exact .inr h
       ·rw [ZqV] at h;cases h
      ·split
       ·exact ZnJ h
       ·split
        ·exact Zto h
        ·exact .inl rfl
theorem ZwC {x:DHost} {e:DEvent} (h:Zx x=true):Zx (hDo x e).1=true:=by
 unfold hDo
 rw [h]
 simp only [Bool.true_eq_false,if_false]
 split
 ·exact h
 ·rename_i h2
  rcases Zvd (e:=e) h with h3 | h3
  ·exact absurd h3 h2
  ·exact h3
end Go.BL
namespace Go.BL
open Go
theorem ZsM {k:Nat} {e:Int} (h:([1,2,4,8,16,32]:List Int)[k]? = some e):e=Zdx k:=by rw [Zdx,List.getD_eq_getElem?_getD,h];rfl
theorem ZqQ {k:Nat} {e:Int} (h:([1,2,4,8,16]:List Int)[k]? = some e):e=Zdx k:=by
 have hk:=(List.getElem?_eq_some_iff.1 h).1
 simp only [List.length_cons,List.length_nil] at hk
 have:k=0∨k=1∨k=2∨k=3∨k=4:=by omega
 rcases this with rfl | rfl | rfl | rfl | rfl <;> simp at h <;> rw [← h] <;> rfl
theorem Zko {a b:Int} (h0:0≤a) (h1:a≤1000000) (hb:0<b):IntKind.i64.wrap (Int.tdiv a b)=Int.tdiv a b:=
 Za9 (Int.le_trans (by decide) (Int.tdiv_nonneg h0 (by omega))) (Int.le_trans (Int.tdiv_le_self _ h0) (by omega))
theorem Zm1 {gs:List DGrant} (h:ZcR gs=true) :∀y,y∈gs→0≤y.rights∧y.rights≤63:=by
 intro y hy
 simp only [ZcR,Bool.and_eq_true] at h
 obtain ⟨b,hb⟩:=ZkZ (p:=ZcT) (nx:=fun _ g=>g.user) gs [] h.1 y hy
 simp only [ZcT,Bool.and_eq_true,decide_eq_true_eq] at hb;omega
def Zir (fs:List DFolder):Prop:=∀f,f∈fs→∀y,y∈f.grants→0≤y.rights∧y.rights≤63
theorem ZcM {x:DHost} (h:Zx x=true):Zir x.folders:=fun f hf=>by
 have:=(Zbe.1 h).2.1.1 f hf
 simp only [Z5,Bool.and_eq_true] at this
 exact Zm1 this.1.2
theorem Znl (gs:List DGrant) (u:Str):0≤Zd5 gs u∧Zd5 gs u≤600:=ZjR gs u 6 (Nat.le_refl _)
theorem Zqr :∀{fs:List DFolder} (us:List DUser) (u:Str),(∀f,f∈fs→Z5 us f=true)→ZaZ fs u≤fs.length*200
 | [],_,_,_=>by simp [ZaZ]
 | f :: fs,us,u,h=>by
  have ih:=Zqr us u fun g hg=>h g (List.mem_cons_of_mem _ hg)
  obtain ⟨h1,h2⟩:=ZdS (Zby (h f (List.mem_cons_self ..)))
  have h3:Zaj f.mail≤f.mail.length*20:=Zgb _ h1
  have h4:f.mail.length≤10:=h2
  simp only [ZaZ,List.map_cons,List.sum_cons,List.length_cons] at ih ⊢
  split <;> omega
theorem Zjg {x:DHost} (h:Zx x=true) (u:Str):ZaZ x.folders u≤1600:=by
 obtain ⟨_,⟨h4,_,h6⟩,_⟩:=Zbe.1 h
 have:=Zqr x.users u h4
 omega
theorem Zca {b:DBox} (h:Zbk b=true):1≤b.next∧b.next≤100∧b.mail.length≤10:=by
 obtain ⟨l,hs,h1,h2,h3⟩:=ZfJ h
 have:=Zk0 b.mail 0 l hs
 omega
structure GHC where
 q1:Option Addr
 c1:Nat
 q3:Option Addr
 c3:Nat
 b:Nat
theorem ZhK {α:Type} {p:α→Bool} :∀{fs:List α} {k:Nat},(∀y,y∈fs.take k→p y=true)→(fs.length≤k∨∃z,fs[k]? = some z∧p z=false)→k≤fs.length→(fs.takeWhile p).length=k
 | [],k,_,_,hk=>by simp at hk;subst hk;rfl
 | a :: fs,0,_,he,_=>by
  rcases he with he | ⟨z,hz,hp⟩
  ·simp at he
  ·simp at hz;subst hz;simp [hp]
 | a :: fs,k+1,ha,he,hk=>by
  have h1:p a=true:=ha a (by simp)
  have ih:=ZhK (fs:=fs) (k:=k) (fun y hy=>ha y (by simp [hy])) (by
   rcases he with he | ⟨z,hz,hp⟩
   ·exact .inl (by simpa using he)
   ·exact .inr ⟨z,by simpa using hz,hp⟩) (by simpa using hk)
  simp [h1,ih]
theorem ZcB {x:DHost} {u n:Str} {k:Nat} (h1:Zx x=true) (h2:Zaz n=true) (h3 : ¬ Zds x.users u<0) (h4 : ¬ 0≤ZaI (inF u n) x.folders) (h5 : ¬ 8≤x.folders.length) (hk:k≤x.folders.length)
  (ha :∀y,y∈x.folders.take k→Zb7 y (Zfk u n)=true) (he:x.folders.length≤k∨∃z,x.folders[k]? = some z∧Zb7 z (Zfk u n)=false) :
  Zbr x u n=(x.withFolders (((x.folders.take k).drop 0 ++ [⟨u,n,[],1,[]⟩]) ++ (x.folders.take x.folders.length).drop k),0):=by
 rw [Zbr,if_neg (fun h=>h ⟨h1,h2⟩),if_neg h3,if_neg (fun h=>h.elim h4 h5),Zh5,show Zho x.folders (Zfk u n)=k from ZhK ha he hk,List.drop_zero,List.take_length]
 rfl
theorem ZhB {gs:List DGrant} {u:Str} {r:Int} (h : ¬ (ZcR gs=true∧Zaz u=true∧Zd4 r=true)):Zcc gs u r=([],false):=by rw [Zcc,if_pos h]
theorem Zm0 {gs:List DGrant} {u:Str} {r:Int} (h:ZcR gs=true∧Zaz u=true∧Zd4 r=true) (h2:ZcR (Zha gs u r)=false):Zcc gs u r=(gs,false):=by rw [Zcc,if_neg (fun a=>a h),if_neg (by rw [h2];exact Bool.false_ne_true)]
theorem ZkR {gs:List DGrant} {u:Str} {r:Int} (h:ZcR gs=true∧Zaz u=true∧Zd4 r=true) (h2:ZcR (Zha gs u r)=true):Zcc gs u r=(Zha gs u r,true):=by rw [Zcc,if_neg (fun a=>a h),if_pos h2]
theorem ZhC {gs xs:List DGrant} {u:Str} {r:Int} (h:(true,xs)=Ze1 u r gs):Zha gs u r=xs:=by rw [Zha,← h];rfl
theorem ZhD {gs xs:List DGrant} {u:Str} {r:Int} (h:(false,xs)=Ze1 u r gs):Zha gs u r=xs ++ [⟨u,r⟩]:=by rw [Zha,← h];rfl
theorem ZjT {gs:List DGrant} (h:ZcR gs=true):gs.length≤4:=by simp only [ZcR,Bool.and_eq_true,decide_eq_true_eq] at h;exact h.2
theorem ZkC {x:DHost} {k:Nat} {f:DFolder} {u:Str} {r:Int} (hf:x.folders[k]? = some f) (h:(Zcc f.grants u r).2=false):Zfr x k u r=(x,4):=by simp only [Zfr,hf,h];rfl
theorem Zjp {x:DHost} {k:Nat} {f:DFolder} {u:Str} {r:Int} (hf:x.folders[k]? = some f) (h:(Zcc f.grants u r).2=true):Zfr x k u r=(x.withFolders (x.folders.set k (f.withGrants (Zcc f.grants u r).1)),0):=by simp only [Zfr,hf,h,if_true]
theorem Zkq {n:Nat} {xs:List Int} {k:Nat} {x b:Int} (hx:xs[k]? = some x) (hs:Zd8 n (xs.take k)=(true,b)) (h:ZqW n b x=false):Zeu n xs=false:=Zia hx hs h
theorem Zpg {n:Nat} {xs:List Int} {b:Int} (h:Zd8 n xs=(true,b)):Zeu n xs=true:=by rw [Zeu,h]
theorem Zpf {n:Nat} {xs:List Int} (h:Zeu n xs=true) :∀y,y∈xs→1≤y∧y≤n:=by
 intro y hy
 obtain ⟨b,hb⟩:=ZkZ (p:=ZqW n) (nx:=fun _ x=>x) xs 0 h y hy
 simp only [ZqW,Bool.and_eq_true,decide_eq_true_eq] at hb;omega
theorem ZmD {ms:List DMail} {how fl:Int} {ns:List Int} {k:Nat} {y:Int} {a m:DMail} (hy:ns[k]? = some y) (ha:(Zem ms how fl (ns.take k))[(y - 1).toNat]? = some a) (hm:ms[(y - 1).toNat]? = some m) :
  Zem ms how fl (ns.take (k+1))=(Zem ms how fl (ns.take k)).set (y - 1).toNat ⟨a.uid,chg m.flags how fl,a.text⟩:=by
 have e:Zem ms how fl (ns.take (k+1))=Zhu ms how fl (Zem ms how fl (ns.take k)) y:=by rw [Zay hy,Zem,List.foldl_append];rfl
 rw [e,Zhu,ha,hm]
theorem Zgr {b:DBox} (h:Zbk b=true) {m:DMail} (hm:m∈b.mail):0≤m.flags∧m.flags≤31:=by
 have:=(ZdS h).1 m hm
 simp only [ZbG,Bool.and_eq_true,decide_eq_true_eq] at this;exact this.1.2
theorem Zs9 {ms:List DMail} {k:Nat} {x:DMail} (hx:ms[k]? = some x) (h:Zp6 x=false):ZcK (ms.take (k+1))=ZcK (ms.take k) ++ [x]:=by
 rw [Zay hx,ZcK,List.filter_append];simp [ZcK,h]
theorem ZuX {ms:List DMail} {k:Nat} {x:DMail} (hx:ms[k]? = some x) (h:Zp6 x=true):ZcK (ms.take (k+1))=ZcK (ms.take k):=by
 rw [Zay hx,ZcK,List.filter_append];simp [ZcK,h]
theorem ZkD {ms:List DMail} {k:Nat} {x:DMail} (hx:ms[k]? = some x):Zlk (ms.take (k+1))=Zdu (Zlk (ms.take k)) x:=by
 rw [Zay hx,Zlk,List.foldl_append];rfl
theorem Zrv (ms:List DMail):(Zlk ms).1=(ZcK ms).length:=by
 have key :∀(ms:List DMail) (s:Nat × List Int),(ms.foldl Zdu s).1=s.1+(ZcK ms).length:=by
  intro ms
  induction ms with
  | nil=>intro s;rfl
  | cons m ms ih=>
   intro s
   rw [List.foldl_cons,ih,Zdu]
   cases hd:Zp6 m with
   | true=>simp [ZcK,hd]
   | false=>simp [ZcK,hd];omega
 rw [Zlk,key];simp
theorem Zta (ms:List DMail) (k:Nat):(ZcK (ms.take k)).length≤k:=Nat.le_trans (List.length_filter_le _ _) (by rw [List.length_take];omega)
theorem Zpe {s:List DSpan} {last:Int} {n:Nat} (h:ZgL s last (n+1:Nat)=true):Zda s last (n+1)=Zda s last n ++ [((n+1:Nat):Int)]:=by simp only [Zda,h,if_true]
theorem ZqU {s:List DSpan} {last:Int} {n:Nat} (h:ZgL s last (n+1:Nat)=false):Zda s last (n+1)=Zda s last n:=by simp only [Zda,h];rfl
theorem ZiK {x:DHost} {k:Nat} {b:DBox} {f:DFolder} (h:x.folders[k]? = some f):Zkk x k b=x.withFolders (x.folders.set k (f.withBox b)):=by simp only [Zkk,h]
theorem ZeZ {b:DBox} {ns:List Int} {how fl:Int} (h : ¬ (Zbk b=true∧Zeu b.mail.length ns=true∧Zlg how=true∧ZaL fl=true)):Zbo b ns how fl=(⟨0,[]⟩,false):=by rw [Zbo,if_neg h]
theorem ZmR {b:DBox} {ns:List Int} {how fl:Int} (h:Zbk b=true∧Zeu b.mail.length ns=true∧Zlg how=true∧ZaL fl=true):Zbo b ns how fl=(⟨b.next,Zem b.mail how fl ns⟩,true):=by rw [Zbo,if_pos h]
structure GEx where
 k:Nat
 m:Gh DMail
 n:Gh Int
structure GCp where
 k:Nat
 x:DHost
 c:Int
 q1:Option Addr
 c1:Nat
 q2:Option Addr
 c2:Nat
 q3:Option Addr
 c3:Nat
theorem Zr0 {ns:List Int} {ms:List DMail} {to k:Nat} {y:Int} {s:DHost × Int} (hy:ns[k]? = some y):((ns.take (k+1)).map (Zdh ms)).foldl (ZbT to) s=ZbT to (((ns.take k).map (Zdh ms)).foldl (ZbT to) s) (Zdh ms y):=by
 rw [Zay hy,List.map_append,List.foldl_append];rfl
theorem Zhx {to:Nat} :∀(ms:List DMail) (s:DHost × Int),s.2≠0→ms.foldl (ZbT to) s=s
 | [],_,_=>rfl
 | m :: ms,s,h=>by rw [List.foldl_cons,ZbT,if_neg h];exact Zhx ms s h
theorem ZrZ {ns:List Int} {ms:List DMail} {to k:Nat} {s:DHost × Int} {y:DHost} {c:Int} (h:(y,c)=((ns.take k).map (Zdh ms)).foldl (ZbT to) s) (hc : ¬ c=0):(y,c)=(ns.map (Zdh ms)).foldl (ZbT to) s:=by
 have e:ns=ns.take k ++ ns.drop k:=(List.take_append_drop k ns).symm
 conv=>rhs;rw [e,List.map_append,List.foldl_append,← h,Zhx _ _ hc]
theorem Zmz {x:DHost} {s:DSess} {set:List DSpan} {o n:Str} {f:DFolder} {y:DHost} {c:Int} (h : ¬ ¬ (Zx x=true∧ZiJ set=true)) (ha:(atF x s 2).2=0) (hf:x.folders[(atF x s 2).1.toNat]? = some f)
  (hr:(y,c)=((ZaN set f.mail.length).map (Zdh f.mail)).foldl (ZbT (ZaI (inF o n) x.folders).toNat) (x,Zj5 x.users x.folders s.user (ZaI (inF o n) x.folders) 8)):ZeU x s set o n=if c=0 then (y,0) else (x,c):=by
 rw [ZeU,if_neg h,if_neg (fun h=>h ha),ZdD hf]
 by_cases h8:Zj5 x.users x.folders s.user (ZaI (inF o n) x.folders) 8=0
 ·rw [if_neg (fun h=>h h8)]
  rw [h8] at hr
  have e:ZjL x ((ZaN set f.mail.length).map (Zdh f.mail)) (ZaI (inF o n) x.folders).toNat=(y,c):=hr.symm
  show (if (ZjL x ((ZaN set f.mail.length).map (Zdh f.mail)) (ZaI (inF o n) x.folders).toNat).2=0 then ZjL x ((ZaN set f.mail.length).map (Zdh f.mail)) (ZaI (inF o n) x.folders).toNat else (x,(ZjL x ((ZaN set f.mail.length).map (Zdh f.mail)) (ZaI (inF o n) x.folders).toNat).2))=_
  rw [e]
  by_cases hc:c=0
  ·simp only [hc,if_true]
  ·simp only [hc,if_false]
 ·rw [if_pos h8]
  rw [Zhx _ _ h8] at hr
  cases hr
  rw [if_neg h8]
theorem Zph (s:List DSpan) (m:Nat):(ZaN s m).length≤m:=by
 unfold ZaN
 split
 ·have:=Zkp s (min (m:Int) 99) (min (m:Int) 99).toNat
  omega
 ·simp
theorem ZfK (gs:List DGrant) (u:Str) (r:Int):(Zcc gs u r).1.length≤gs.length+4:=by
 unfold Zcc
 split
 ·simp
 ·split
  ·rename_i h;have:=ZjT h;simp only [];omega
  ·simp only [];omega
theorem ZoR (b:DBox) (fl:Int) (t:Str):(ZeI b fl t).1.mail.length≤b.mail.length+1:=by
 unfold ZeI;split <;> simp
theorem ZnP (b:DBox):(expunge b).1.mail.length≤b.mail.length∧(expunge b).2.length≤b.mail.length:=by
 unfold expunge
 split
 ·have key :∀(ms:List DMail) (s:Nat × List Int),(ms.foldl Zdu s).2.length≤s.2.length+ms.length:=by
   intro ms
   induction ms with
   | nil=>intro s;simp
   | cons m ms ih=>
    intro s
    rw [List.foldl_cons]
    cases hd:Zp6 m with
    | true=>
     have:=ih (s.1,s.2 ++ [((s.1+1:Nat):Int)])
     rw [Zdu,if_pos hd]
     simp only [List.length_append,List.length_cons,List.length_nil] at this ⊢;omega
    | false=>
     have:=ih (s.1+1,s.2)
     rw [Zdu,if_neg (by simp [hd])]
     simp only [List.length_cons] at this ⊢;omega
  have:=key b.mail (0,[])
  exact ⟨List.length_filter_le _ _,by simpa [Zlk] using this⟩
 ·simp
def ZQ (b:DBox) (fl:Int) (t:Str):DBox × Bool:=if Zbk b=true∧ZaL fl=true∧t.length≤20 then ZeI b fl t else (⟨0,[]⟩,false)
theorem Zfy {b:DBox} {fl:Int} {t:Str} (h : ¬ (Zbk b=true∧ZaL fl=true∧t.length≤20)):ZQ b fl t=(⟨0,[]⟩,false):=by rw [ZQ,if_neg h]
theorem Zlv {b:DBox} {fl:Int} {t:Str} (h:Zbk b=true∧ZaL fl=true∧t.length≤20):ZQ b fl t=ZeI b fl t:=by rw [ZQ,if_pos h]
theorem Zed (b:DBox) (fl:Int) (t:Str):0≤(ZQ b fl t).1.next∧(ZQ b fl t).1.next≤101∧(ZQ b fl t).1.mail.length≤11:=by
 unfold ZQ
 split
 ·rename_i h
  have:=Zca h.1
  unfold ZeI
  split
  ·simp only [];omega
  ·simp;omega
 ·simp
theorem ZG (b:DBox):0≤(expunge b).1.next∧(expunge b).1.next≤101∧(expunge b).1.mail.length≤10:=by
 unfold expunge
 split
 ·rename_i h
  have:=Zca h
  have:=List.length_filter_le (fun m=>!Zp6 m) b.mail
  simp only [ZcK];omega
 ·simp
theorem ZgZ {us:List DUser} {f:DFolder} (h:Z5 us f=true):f.grants.length≤4:=by
 simp only [Z5,Bool.and_eq_true] at h;exact ZjT h.1.2
theorem ZnF {x:DHost} (h:Zx x=true) :∀y,y∈x.queue.items→0<y.left.length:=fun y hy=>by
 have:=Zc8 (Zbt h) hy
 simp only [ZcL,ZaW,Bool.and_eq_true,decide_eq_true_eq] at this
 exact this.1.2
theorem ZpB {x:DHost} (h:Zx x=true):0<x.folders.length∧0<x.users.length:=by
 obtain ⟨⟨_,h2,_⟩,_,h7,_⟩:=Zbe.1 h
 simp only [Zat,Bool.and_eq_true,decide_eq_true_eq] at h2
 have hu:0<x.users.length:=by omega
 refine ⟨?_,hu⟩
 have:=h7 _ (List.getElem_mem hu)
 simp only [Za3,Bool.and_eq_true,decide_eq_true_eq] at this
 obtain ⟨f,hf,_⟩:=Zd9.1 this.1
 exact List.length_pos_of_mem hf
def ZfW (a b:Int):List DUser:=[⟨[97,109,121],[97,49],60⟩,⟨[98,111,98],[98,50],20+a⟩,⟨[99,121,100],[99,51],100+b⟩]
theorem ZrU {a b:Int} (h1:0≤a) (h2:a<60) (h3:0≤b) (h4:b<100):Zcu [104,111,115,116,46,111,114,103] (ZfW a b)=(ZqY [104,111,115,116,46,111,114,103] (ZfW a b),true)∧Zx (ZqY [104,111,115,116,46,111,114,103] (ZfW a b))=true:=by
 have hd:Zcp [104,111,115,116,46,111,114,103]=true:=by decide
 have hu:Zat (ZfW a b)=true:=by
  have e1:ZdJ [] ⟨[97,109,121],[97,49],60⟩=true:=by decide
  have e2:ZdJ [97,109,121] ⟨[98,111,98],[98,50],20+a⟩=true:=by
   have:(decide (0≤20+a) && decide (20+a≤200))=true:=by simp;omega
   simp only [ZdJ,ZcG,this,Bool.and_true];rfl
  have e3:ZdJ [98,111,98] ⟨[99,121,100],[99,51],100+b⟩=true:=by
   have:(decide (0≤100+b) && decide (100+b≤200))=true:=by simp;omega
   simp only [ZdJ,ZcG,this,Bool.and_true];rfl
  simp [Zat,Zd1,scn,ZfW,e1,e2,e3]
 have:=Znt [104,111,115,116,46,111,114,103] (ZfW a b)
 rw [hd,hu] at this
 exact ⟨Zjj this,this⟩
structure GHo where
 k:Nat
 p:Nat
 x:DHost
 q1:Option Addr
 c1:Nat
 q2:Option Addr
 c2:Nat
 q3:Option Addr
 c3:Nat
structure GBo where
 k:Nat
 p:Nat
 l:Cells
 a:Option Addr
 c:Nat
 x:DBox
structure GAc where
 k:Nat
 p:Nat
 l:Cells
 a:Option Addr
 c:Nat
 xs:List DGrant
theorem Zmc :∀{fs:List DFolder},Zhc fs=true→fs.Pairwise fun a b=>Zb7 a b=true
 | [],_=>.nil
 | [_],_=>.cons (by simp) .nil
 | a :: b :: r,h=>by
  simp only [Zhc,Bool.and_eq_true] at h
  have ih:=Zmc (fs:=b :: r) h.2
  have tr :∀c,c∈b :: r→Zb7 a c=true:=by
   intro c hc
   rcases List.mem_cons.1 hc with rfl | hc
   ·exact h.1
   ·have h2:Zb7 b c=true:=by cases ih with | cons h3 _=>exact h3 c hc
    have h1:=h.1
    simp only [Zb7,Bool.or_eq_true,Bool.and_eq_true,decide_eq_true_eq] at h1 h2 ⊢
    rcases h1 with h1 | ⟨e1,h1⟩
    ·rcases h2 with h2 | ⟨e2,h2⟩
     ·exact .inl (Zdy h1 h2)
     ·exact .inl (e2 ▸ h1)
    ·rcases h2 with h2 | ⟨e2,h2⟩
     ·exact .inl (e1 ▸ h2)
     ·exact .inr ⟨e1.trans e2,Zdy h1 h2⟩
  exact .cons tr ih
theorem Zs3 {a b:DFolder} (h:Zb7 a b=true) : ¬ (a.owner=b.owner∧a.name=b.name):=by
 rintro ⟨e1,e2⟩
 simp only [Zb7,e1,e2,Zdp,Bool.and_false,Bool.or_false] at h
 cases h
theorem ZoG :∀{fs:List DFolder},fs.Pairwise (fun a b=>Zb7 a b=true)→∀f,f∈fs→fs.find? (inF f.owner f.name)=some f
 | [],_,f,h=>by cases h
 | a :: fs,hp,f,h=>by
  cases hp with
  | cons h1 h2=>
   rw [List.find?_cons]
   rcases List.mem_cons.1 h with rfl | h
   ·simp [inF]
   ·have:=Zs3 (h1 f h)
    have e:inF f.owner f.name a=false:=by
     rw [Bool.eq_false_iff];intro hc
     simp only [inF,Bool.and_eq_true,decide_eq_true_eq] at hc
     exact this hc
    rw [e]
    exact ZoG h2 f h
theorem Zj1 {x:DHost} (h:Zx x=true) {f:DFolder} (hf:f∈x.folders):Zaw x f.owner f.name=(f,true):=by
 rw [Zaw,if_pos h,ZoG (Zmc (Zbe.1 h).2.1.2.1) f hf]
end Go.BL
namespace Go.BL
open Go
theorem Zqq {x:DHost} {u:Str} (h:Zx x=true) (hu:0≤Zds x.users u):Zaz u=true:=by
 obtain ⟨w,hw,rfl⟩:=Za6.1 hu
 have:=ZhJ (ZbZ h) hw
 simp only [ZcG,Bool.and_eq_true] at this
 exact this.1.1.1
theorem ZqR {x:DHost} {f:DFolder} (h:Zx x=true) (hf:f∈x.folders):f.owner.length≤2000000:=by
 have hi:=(Zbe.1 h).2.1.1 f hf
 simp only [Z5,Bool.and_eq_true,decide_eq_true_eq] at hi
 have h8:=Zqq h hi.1.1.1
 simp only [Zaz,Bool.and_eq_true,decide_eq_true_eq] at h8
 omega
end Go.BL
namespace Go.BL
open Go
end Go.BL
namespace Go.BL
open Go
end Go.BL
namespace Go.BL
open Go
end Go.BL
namespace Go.BL
open Go
end Go.BL
namespace Go.BL
open Go
theorem ZoA {α:Type} {p:α→Bool} {xs:List α} {x:α} (h:0≤ZaI p xs) (hx:xs[(ZaI p xs).toNat]? = some x):p x=true:=by
 unfold ZaI at h hx
 cases hq:xs.findIdx? p with
 | none=>rw [hq] at h;exact absurd h (by decide)
 | some i=>
  rw [hq] at hx
  obtain ⟨hl,hp,_⟩:=List.findIdx?_eq_some_iff_getElem.1 hq
  simp only [Int.toNat_natCast] at hx
  rw [List.getElem?_eq_getElem hl] at hx
  cases hx;exact hp
end Go.BL
namespace Go.BL
open Go
end Go.BL
namespace Go.BL
open Go
end Go.BL
namespace Go.BL
open Go
theorem Zv.perm {P:PJ} {f:FuncId} {args:List Value} {B:Kn} {Ls Ls':List Cells} {Post:Value→Kn→List Cells→Prop} (hp:Ls.flatten.Perm Ls'.flatten) (h:Zv P f args B Ls' Post):Zv P f args B Ls Post:=fun X kind c cs F hk hA=>by
 refine X.drop (r:=Ls'.flatten ++ F) (gl:=[]) ?_ (h X kind c cs F hk hA)
 rw [List.append_nil];exact hp.append_right F
theorem MLst.one {TL Tn:TypeId} {b bn:Nat} {m:DMail} {s:Cells} (hm:m.text.length≤2000000) (hp:s.Perm (Zah b [Go.BL.ptr ⟨bn,0,none⟩,Go.BL.ptr ⟨bn,0,none⟩,.int .i64 1] TL ++ Zah bn (Zh3 m (.pointer none)) Tn)):MLst TL Tn b [m] s:=
 .inr ⟨_,bn,m,[],hp.trans (by simp),Zlz.init hm⟩
theorem MLst.add {TL Tn:TypeId} {b bl bn:Nat} {v0:Value} {x m:DMail} {rest s:Cells} {xs:List DMail} {k:Int} (h:Zlz Tn v0 bl x rest xs) (hm:m.text.length≤2000000) (hk:k=xs.length+1)
  (hp:s.Perm (Zah b [v0,Go.BL.ptr ⟨bn,0,none⟩,.int .i64 k] TL ++ (Zah bn (Zh3 m (.pointer none)) Tn ++ (rest ++ Zah bl (Zh3 x (Go.BL.ptr ⟨bn,0,none⟩)) Tn)))):MLst TL Tn b (xs ++ [m]) s:=by
 refine .inr ⟨v0,bn,m,rest ++ Zah bl (Zh3 x (Go.BL.ptr ⟨bn,0,none⟩)) Tn,hp.trans ?_,h.step hm⟩
 rw [hk,List.length_append]
 simp
theorem ZyX {P:PJ} {S:Env} {B:Kn} {L:List Cells} {rs:List ResultVar} {Post:Value→Kn→List Cells→Prop} (e:Exit) (he:e = .ret∨e = .normal) (vs:List Value) (js:List Nat) {ss r:List Cells} (hp:Za0 L js=some (ss,r)) (hr:Zc7 P S B L rs vs) (hq:Post (ZdL vs) B [ss.flatten]):Zfz P rs Post e S [] B L:=
 ⟨he,rfl,vs,[ss.flatten],hr,⟨r.flatten,by simpa using ZaC js L ss r hp⟩,hq⟩
structure MOf where
 p:Option Addr
 ys:List DMail
 xs:List DMail
 l:Cells
 q:Option Addr
 c:Nat
 cells:Cells
end Go.BL
namespace Go.BL
open Go
theorem Zwr {α:Type} {xs:List α} {k:Nat} {x:α} (h:xs[k]? = some x):xs.set k x=xs:=by
 apply List.ext_getElem?
 intro i
 rw [List.getElem?_set]
 split
 ·rename_i e;subst e
  split
  ·rw [h]
  ·rename_i hl;rw [List.getElem?_eq_none (by omega)] at h;cases h
 ·rfl
theorem ZeV {x:DHost} {u:Str} {more:Int} (h:Zx x=true) (hu:0≤Zds x.users u):Zco x u more=decide (Zcq x.users u<(ZaZ x.folders u:Int)+more):=by
 obtain ⟨w,hw,rfl⟩:=Za6.1 hu
 rw [Zco,Zdl (ZbZ h) hw,Zhh (ZbZ h) hw,ZhS h]
 rfl
def ZfS (x:DHost) (k:Nat) (fl:Int) (t:Str):Nat:=
 match x.folders[k]? with
 | none=>0
 | some f=>if Zcq x.users f.owner<(ZaZ x.folders f.owner:Int)+t.length then 3 else if (ZeI f.box fl t).2=true then 0 else 4
theorem ZiS (x:DHost) (k:Nat) (fl:Int) (t:Str):((ZfS x k fl t:Nat):Int)=(Zam x k fl t).2:=by
 cases h:x.folders[k]? with
 | none=>simp only [ZfS,Zam,h];rfl
 | some f=>
  simp only [ZfS,Zam,h]
  split
  ·rfl
  ·split <;> rfl
theorem ZuE (x:DHost) (k:Nat) (fl:Int) (t:Str):ZfS x k fl t<5:=by
 unfold ZfS
 split
 ·omega
 ·split
  ·omega
  ·split <;> omega
theorem ZqP {x:DHost} {k:Nat} {fl:Int} {t:Str} {f:DFolder} (hok:Zx x=true) (hf:x.folders[k]? = some f) (h:Zco x f.owner t.length=true):ZfS x k fl t=3∧Zam x k fl t=(x,3):=by
 have ho:0≤Zds x.users f.owner:=Za6.2 (ZgS (ZaK hok hf))
 rw [ZeV hok ho,decide_eq_true_eq] at h
 have e:=ZeS (fl:=fl) hf h
 have e2:=ZiS x k fl t
 rw [e] at e2
 exact ⟨by have:((ZfS x k fl t:Nat):Int)=3:=e2;omega,e⟩
theorem ZsI {x:DHost} {k:Nat} {fl:Int} {t:Str} {f:DFolder} (hok:Zx x=true) (hf:x.folders[k]? = some f) (h:Zco x f.owner t.length=false) (h2:(ZeI f.box fl t).2=false):ZfS x k fl t=4∧Zam x k fl t=(x,4):=by
 have ho:0≤Zds x.users f.owner:=Za6.2 (ZgS (ZaK hok hf))
 rw [ZeV hok ho,decide_eq_false_iff_not] at h
 have e:=Zhj hf h h2
 have e2:=ZiS x k fl t
 rw [e] at e2
 exact ⟨by have:((ZfS x k fl t:Nat):Int)=4:=e2;omega,e⟩
theorem ZsJ {x:DHost} {k:Nat} {fl:Int} {t:Str} {f:DFolder} (hok:Zx x=true) (hf:x.folders[k]? = some f) (h:Zco x f.owner t.length=false) (h2:(ZeI f.box fl t).2=true):ZfS x k fl t=0∧Zam x k fl t=(x.withFolders (x.folders.set k (f.withBox (ZeI f.box fl t).1)),0):=by
 have ho:0≤Zds x.users f.owner:=Za6.2 (ZgS (ZaK hok hf))
 rw [ZeV hok ho,decide_eq_false_iff_not] at h
 have e:=ZfE hf h h2
 have e2:=ZiS x k fl t
 rw [e] at e2
 exact ⟨by have:((ZfS x k fl t:Nat):Int)=0:=e2;omega,e⟩
theorem Zzj {B:Kn} {L:List Cells} {b o:Nat} {row vs:List Value} {a:Addr} (hc :∀(m:Nat) (u:Value),row[m]? = some u→Zbj B L.flatten ⟨b,o+m,none⟩ u) (off:Nat) (ha:a=⟨b,o+off,none⟩) (hv:(row.drop off).take vs.length=vs):Zsi B L a vs:=by
 intro i v hi
 subst ha
 rw [Addr.add_off _ _ rfl]
 have hlt:i<vs.length:=(List.getElem?_eq_some_iff.1 hi).1
 have:row[off+i]? = some v:=by
  have e:=congrArg (fun l=>l[i]?) hv
  simp only [List.getElem?_take,if_pos hlt,List.getElem?_drop] at e
  rw [e,hi]
 have:=hc _ v this
 rwa [show o+(off+i)=o+off+i from by omega] at this
theorem ZcD.cellA {α:Type} {l:Cells} {p:Option Addr} {c:Nat} {T:TypeId} {w:Nat} {R:ZjW α} {xs:List α} (h:ZcD l p c T w R xs) {i:Nat} {x:α} (hx:xs[i]? = some x) :
∃b row li lr,p=some ⟨b,0,none⟩∧R row x li∧row.length=w∧l.Perm (li ++ lr)∧(∀(B:Kn) (L:List Cells) (j:Nat),L[j]? = some l→∀(m:Nat) (u:Value),row[m]? = some u→Zbj B L.flatten ⟨b,i*w+m,none⟩ u)∧(∀(B:Kn) (L:List Cells) (j:Nat),L[j]? = some lr→∀(m:Nat) (u:Value),row[m]? = some u→Zbj B L.flatten ⟨b,i*w+m,none⟩ u)∧∀x' li',R row x' li'→ZcD (li' ++ lr) p c T w R (xs.set i x'):=by
 obtain ⟨b,arr,row,li,lr,e1,e2,e3,e4,e5,e6⟩:=h.open1 hx
 refine ⟨b,row,li,Zah b arr T ++ lr,e1,e2,e3,e4,fun B L j hj m u hm=>⟨rfl,arr.toArray,T,(0,0),.inr ?_,by simpa using e5 m u hm⟩,fun B L j hj m u hm=>⟨rfl,arr.toArray,T,(0,0),.inr ?_,by simpa using e5 m u hm⟩,e6⟩
 ·exact List.mem_flatten.2 ⟨l,List.mem_of_getElem? hj,e4.mem_iff.2 (List.mem_append_right _ (List.mem_append_left _ (List.mem_singleton.2 rfl)))⟩
 ·exact List.mem_flatten.2 ⟨_,List.mem_of_getElem? hj,List.mem_append_left _ (List.mem_singleton.2 rfl)⟩
end Go.BL
