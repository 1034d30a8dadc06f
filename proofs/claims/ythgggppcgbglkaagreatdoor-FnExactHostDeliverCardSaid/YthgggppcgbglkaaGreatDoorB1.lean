/-
  THE WALK'S LOGIC: owned cells and known cells, goroutines started and awaited, calls, loops, data, and plain laws on lists: no program in sight.
-/
import Derived.Test.YthgggppcgbglkaaGreatDoorB0
set_option linter.unusedVariables false
set_option linter.unusedSimpArgs false
set_option linter.unusedSectionVars false
namespace Go.BL
open Go.Conc (G)
set_option linter.unusedVariables false
def zrow (z:List Value) (c:Nat):List Value:=(List.replicate c z).flatten
theorem ZbW {z:List Value} {c:Nat} : (zrow z c).length=c*z.length:=by
  induction c with
  | zero=>simp [zrow]
  | succ c ih=>
    simp only [zrow,List.replicate_succ,List.flatten_cons,List.length_append] at ih ⊢
    rw [ih,Nat.succ_mul,Nat.add_comm]
theorem ZlS {z:List Value} :∀{c i:Nat},i<c*z.length→(zrow z c)[i]? = z[i % z.length]?
  | 0,i,h=>by simp at h
  | c+1,i,h=>by
    have e:zrow z (c+1)=z ++ zrow z c:=by simp [zrow,List.replicate_succ]
    rw [e]
    by_cases hi:i<z.length
    · rw [List.getElem?_append_left hi,Nat.mod_eq_of_lt hi]
    · have hz:0<z.length:=by
        rcases Nat.eq_zero_or_pos z.length with h0 | h0
        · rw [h0] at h;simp at h
        · exact h0
      rw [List.getElem?_append_right (by omega),ZlS (by rw [Nat.succ_mul] at h;omega)]
      congr 1
      conv=>rhs;rw [show i=(i - z.length)+z.length from by omega,Nat.add_mod_right]
theorem ZnJ {z:List Value} {c:Nat} : (Array.range (c*z.length)).map (fun i=>z.toArray[i % z.toArray.size]!)=(zrow z c).toArray:=by
  apply Array.ext'
  apply List.ext_getElem?
  intro i
  simp only [Array.toList_map,Array.toList_range,List.getElem?_map,List.size_toArray]
  by_cases hi:i<c*z.length
  · have hz:0<z.length:=by
      rcases Nat.eq_zero_or_pos z.length with h0 | h0
      · rw [h0] at hi;simp at hi
      · exact h0
    rw [List.getElem?_range hi,ZlS hi,Option.map_some]
    have hm:i % z.length<z.length:=Nat.mod_lt _ hz
    rw [getElem!_pos z.toArray _ (by simpa using hm)]
    simp [List.getElem?_eq_getElem hm]
  · have h1:(List.range (c*z.length))[i]? = none:=by simp;omega
    have h2:(zrow z c)[i]? = none:=by rw [List.getElem?_eq_none_iff,ZbW];omega
    rw [h1,h2];rfl
section
variable {P:PJ} {n:Nat} {ops:Array Oper} {i:Nat} {K:ZaS} {S:Env} {D:List Deferred} {B:Kn} {L:List Cells}
variable {dst:Option Tmp} {ty:TypeId} {pos:String} {after:Array Edge} {g:Option (Nat × Bool)}
theorem Zkn {P:Program} {B:Kn} {L:Cells} {Q:Addr→Kn→Cells→Prop} {e:TypeId} {cs:Array Value} (h :∀b,Q ⟨b,0,none⟩ B ((b,.cells cs e) :: L)):hb P (newRow e cs) Q B L:=by
  simp only [newRow,Zn,Zu]
  exact ⟨rfl,fun b _ _=>h b⟩
theorem Za2 {t e:TypeId} {x y:Operand} {m c sz by_:Nat} {z:Value} (zs:List Value) (hg:Zo ops S g=some true) (hd:Zv n dst=true) (he:Zcd P t e sz by_=true) (hz:Zal P e=some z) (hzs:z.cells=zs.toArray) (hzl:zs.length=sz)
    (hx :∃k,∃q:Int,ev S x=some (.int k q)∧q=m) (hy :∃k,∃q:Int,ev S y=some (.int k q)∧q=c) (hmc:m≤c) (hfit:c*by_≤140737488355328)
    (h :∀b,K (.slice (some ⟨b,0,none⟩) m c) D B (L ++ [Z7 b (zrow zs c) e])):opX P n ops i ⟨dst,.makeSlice t x y,ty,pos,after,g⟩ K S D B L:=
  Zdi hg hd fun ρ hρ F=>by
    unfold Zcd at he
    split at he
    · rename_i e' inf hut hie
      simp only [Bool.and_eq_true,beq_iff_eq] at he
      obtain ⟨⟨⟨⟨rfl,hsz⟩,hby⟩,hpos⟩,hzz⟩:=he
      have hby0:0<by_:=by simpa using hpos
      have hsi:ZP P e'=some sz:=by simp [ZP,hie,hsz]
      obtain ⟨k1,q1,h1,rfl⟩:=hx
      obtain ⟨k2,q2,h2,rfl⟩:=hy
      have hc0:c≤140737488355328:=Nat.le_trans (Nat.le_mul_of_pos_right c hby0) hfit
      have wr :∀q:Nat,q≤140737488355328→IntKind.wrap .i64 (q:Int)=q:=fun q hq=>Zcq (by omega) (by omega)
      have t1:(decide ((c:Int)<0) || decide ((by_:Int)*(c:Int) > 2 ^ 48))=false:=by
        have:(by_:Int)*(c:Int)≤140737488355328:=by
          rw [← Int.natCast_mul]
          have:by_*c≤140737488355328:=by rw [Nat.mul_comm];exact hfit
          omega
        simp only [Bool.or_eq_false_iff,decide_eq_false_iff_not]
        refine ⟨by omega,by omega⟩
      have t2:(decide ((m:Int)<0) || decide ((m:Int) > (c:Int)))=false:=by
        simp only [Bool.or_eq_false_iff,decide_eq_false_iff_not]
        omega
      simp only [execOp,Instr.makeSlice,Zn,Zt hut,asInt,asIntOf,hρ x _ h1,hρ y _ h2,Zu,Zbs hie,hby,wr c hc0,wr m (by omega),t1,t2,Bool.false_or,Bool.or_eq_true,Bool.false_eq_true,if_false]
      rw [if_neg (by
        simp only [Bool.or_eq_false_iff] at t1 t2
        rw [t1.1,t1.2,t2.1,t2.2];simp)]
      simp only [Int.toNat_natCast,Zn]
      refine Zix ?_
      simp only [Zau hsi,Zn]
      by_cases h0:c*sz=0
      · rw [if_pos h0]
        simp only [Zn,Zu,h0]
        refine Zkn fun b=>?_
        have hzr:zrow zs c=[]:=List.eq_nil_of_length_eq_zero (by rw [ZbW,hzl];exact h0)
        refine ⟨L ++ [Z7 b (zrow zs c) e'],?_,h b⟩
        rw [hzr]
        have e0:Array.map (fun x=>(#[]:Array Value)[x % (#[]:Array Value).size]!) (Array.range 0)=([]:List Value).toArray:=by simp
        rw [e0]
        exact .of (ZdG L (Z7 b [] e') F)
      · rw [if_neg h0]
        simp only [Zn,Zbr hz,Zu,hzs]
        rw [← hzl,ZnJ]
        refine Zkn fun b=>?_
        exact ⟨L ++ [Z7 b (zrow zs c) e'],.of (ZdG L (Z7 b (zrow zs c) e') F),h b⟩
    · cases he
end
theorem ZW.zeros {α:Type} {B:Kn} {b:Nat} {T:TypeId} {R:Rel α} {zs:List Value} {d:α} {m c w:Nat} (hw:zs.length=w) (hR:R B zs d) (hmc:m≤c):ZW B (Z7 b (zrow zs c) T) (some ⟨b,0,none⟩) c T w R (List.replicate m d):=by
  refine ⟨List.replicate m zs,?_,fun r hr=>by rw [(List.mem_replicate.1 hr).2];exact hw,?_,.inr ⟨b,_,rfl,by rw [ZbW,hw],?_,rfl,by rw [List.length_replicate];exact hmc⟩⟩
  · induction m with
    | zero=>exact .nil
    | succ m ih=>rw [List.replicate_succ,List.replicate_succ];exact .cons hR (ih (by omega))
  · rw [List.length_replicate]
    exact (ZbW (z:=zs) (c:=m)).trans (by rw [hw])
  · rw [List.length_replicate]
    have e:zrow zs c=zrow zs m ++ zrow zs (c - m):=by
      simp only [zrow,← List.flatten_append,List.replicate_append_replicate]
      rw [show m+(c - m)=c from by omega]
    rw [e,List.take_append_of_le_length (by rw [ZbW,hw];exact Nat.le_refl _),List.take_of_length_le (by rw [ZbW,hw];exact Nat.le_refl _)]
    rfl
section
variable {P:PJ} {C:Cx P} {n:Nat} {k:List Item} {T:Array Value} {S:Env} {D:List Deferred} {B:Kn} {L:List Cells}
theorem ZeF {x y:Code} (h:C.X.R (G (fat C.b T D (.code x :: .code y :: k)) C.cs) B (L.flatten ++ C.F)):C.X.R (G (fat C.b T D (.code (.seq x y) :: k)) C.cs) B (L.flatten ++ C.F):=
  C.X.ctl rfl (fun w=>ZjP) h
theorem Zmy {id:Nat} {c:Code} (h:C.X.R (G (fat C.b T D (.code c :: .inBlock id :: k)) C.cs) B (L.flatten ++ C.F)):C.X.R (G (fat C.b T D (.code (.block id c) :: k)) C.cs) B (L.flatten ++ C.F):=
  C.X.ctl rfl (fun w=>ZiN) h
theorem Zns {id:Nat} (h:C.X.R (G (fat C.b T D k) C.cs) B (L.flatten ++ C.F)):C.X.R (G (fat C.b T D (.inBlock id :: k)) C.cs) B (L.flatten ++ C.F):=
  C.X.ctl rfl (fun w=>Zgg) h
theorem Zth (h:C.X.R (G (fat C.b T D k) C.cs) B (L.flatten ++ C.F)):C.X.R (G (fat C.b T D (.code .skip :: k)) C.cs) B (L.flatten ++ C.F):=
  C.X.ctl rfl (fun w=>Zog) h
theorem Zti {id:Nat} {k':List Item} (hk:exitTo id k=some k') (h:C.X.R (G (fat C.b T D k') C.cs) B (L.flatten ++ C.F)):C.X.R (G (fat C.b T D (.code (.exit id) :: k)) C.cs) B (L.flatten ++ C.F):=
  C.X.ctl rfl (fun w=>Zoh hk) h
theorem ZpL {t:Bool} {c:Operand} {x y:Code} (hc:ev S c=some (.bool t)) (hT:Ag T S) (h:C.X.R (G (fat C.b T D (.code (if t then x else y) :: k)) C.cs) B (L.flatten ++ C.F)):C.X.R (G (fat C.b T D (.code (.cond c x y) :: k)) C.cs) B (L.flatten ++ C.F):=
  C.X.ctl rfl (fun w=>Zoi (ZeE hT hc)) h
theorem Zf3 {id:Nat} {ops:Array Oper} (h:C.X.R (G (fat C.b T D (.inRegion ops (List.range ops.size) :: k)) C.cs) B (L.flatten ++ C.F)):C.X.R (G (fat C.b T D (.code (.region id ops false) :: k)) C.cs) B (L.flatten ++ C.F):=
  C.X.ctl rfl (fun w=>ZfP) h
theorem ZcM {ops:Array Oper} (h:C.X.R (G (fat C.b T D k) C.cs) B (L.flatten ++ C.F)):C.X.R (G (fat C.b T D (.inRegion ops [] :: k)) C.cs) B (L.flatten ++ C.F):=
  C.X.ctl rfl (fun w=>ZbZ) h
end
theorem ZcI {P:Program} {t:TypeId} {k:Nat} (h:ZP P t=some k) (w:World) (es:Array Event):(sizeOf t).events P w es=es:=by
  obtain ⟨i,hi,_⟩:=Option.map_eq_some_iff.1 h
  simp [sizeOf,typeInfo,Go.program,hi,Sem.events,Sem.runT,Bind.bind,Sem.bind,Pure.pure]
section
variable {P:PJ} {C:Cx P} {n:Nat} {k:List Item} {T:Array Value} {S:Env} {D:List Deferred} {B:Kn} {L:List Cells}
theorem ZiD {id:Nat} {l:List Oper} (hn:T.size=n) (hT:Ag T S) (h:ZnG P n l.toArray 0 l (fun S' D' B' L'=>∀T',T'.size=n→Ag T' S'→C.X.R (G (fat C.b T' D' k) C.cs) B' (L'.flatten ++ C.F)) S D B L):C.X.R (G (fat C.b T D (.code (.region id l.toArray false) :: k)) C.cs) B (L.flatten ++ C.F):=by
  refine C.X.ctl rfl (fun w=>ZfP) ?_
  rw [List.size_toArray,List.range_eq_range']
  exact Zgi l 0 (fun j=>by simp) h C k T hn hT fun S' D' B' L' T' hle hq hn' hT'=>C.X.ctl rfl (fun w=>ZbZ) (hq T' hn' hT')
theorem Zky {g:Goroutine} (hs:g=G g.frame g.callers) (i:Nat) {l:Cells} (hi:L[i]? = some l) (h :∀B',B.le B'→(∀p,p∈l→B'.mem p.1=some p.2)→C.X.R g B' ((L.set i []).flatten ++ C.F)):C.X.R g B (L.flatten ++ C.F):=by
  obtain ⟨r,h1,h2⟩:=ZR C.F [] hi
  exact C.X.publish hs h1 fun B' hle hm=>C.X.perm (by simpa using h2.symm) (h B' hle hm)
theorem Zxb {ops:Array Oper} {i:Nat} {todo:List Nat} {o:Oper} (ho:ops[i]? = some o) (hn:T.size=n) (hT:Ag T S) (h:opW P n ops i o (fun S' D' B' L'=>∀T',T'.size=n→Ag T' S'→C.X.R (G (fat C.b T' D' (.inRegion ops todo :: k)) C.cs) B' (L'.flatten ++ C.F)) S D B L):C.X.R (G (fat C.b T D (.inRegion ops (i :: todo) :: k)) C.cs) B (L.flatten ++ C.F):=
  h C todo k T ho hn hT fun S' D' B' L' T' _ hq hn' hT'=>hq T' hn' hT'
theorem Ag.sub' {T:Array Value} {S S':Env} (h:Ag T S) (hs:Sub S' S):Ag T S':=h.sub hs
end
end Go.BL
namespace Go.BL
set_option linter.unusedVariables false
structure SlB {α:Type} (B:Kn) (q:Option Addr) (cp w:Nat) (R:Rel α) (xs:List α):Prop where
  rows:Zc9 B q w R xs
  cap:xs.length≤cp
  len:xs.length≤140737488355328
theorem SlB.mono {α:Type} {B B':Kn} {q:Option Addr} {cp w:Nat} {R:Rel α} {xs:List α} (h:SlB B q cp w R xs) (hR:Mono R) (hle:B.le B'):SlB B' q cp w R xs:=⟨h.rows.mono hR hle,h.cap,h.len⟩
theorem SlB.base {α:Type} {B:Kn} {q:Option Addr} {cp w:Nat} {R:Rel α} {xs:List α} (h:SlB B q cp w R xs) {i:Nat} {z:α} (hz:xs[i]? = some z) :∃b o,q=some ⟨b,o,none⟩:=h.rows.base hz
theorem SlB.elem {α:Type} {B:Kn} {b o cp w:Nat} {R:Rel α} {xs:List α} (h:SlB B (some ⟨b,o,none⟩) cp w R xs) {i:Nat} {z:α} (hz:xs[i]? = some z) :∃row,R B row z∧ZaK B b (o+i*w) row:=h.rows.elem hz
theorem SlB.small {α:Type} {B:Kn} {q:Option Addr} {cp w:Nat} {R R':Rel α} {xs:List α} (h:SlB B q cp w R xs) (hl:xs.length≤2000000) (hR :∀x,x∈xs→∀row,R B row x→R' B row x):SlK B q cp w R' xs:=
  ⟨fun i x hi=>by obtain ⟨b,o,row,h1,h2,h3⟩:=h.rows i x hi;exact ⟨b,o,row,h1,hR x (List.mem_of_getElem? hi) row h2,h3⟩,h.cap,hl⟩
def ZiH:Rel Str:=fun _ row x=>row=[str x]∧x.length≤140737488355328
theorem ZiH.mono:Mono ZiH:=fun _ _ _ h=>h
def Zh2:Rel DUser:=fun _ row x=>row=[str x.name,str x.pass,.int .i64 x.quota]∧x.name.length≤140737488355328∧x.pass.length≤140737488355328
theorem Zh2.mono:Mono Zh2:=fun _ _ _ h=>h
def Zfg:Rel DGrant:=fun _ row x=>row=[str x.user,.int .i64 x.rights]∧x.user.length≤140737488355328
theorem Zfg.mono:Mono Zfg:=fun _ _ _ h=>h
def Zgy:Rel DMail:=fun _ row x=>row=[.int .i64 x.uid,.int .i64 x.flags,str x.text]∧x.text.length≤140737488355328
theorem Zgy.mono:Mono Zgy:=fun _ _ _ h=>h
def Zgz:Rel DItem:=fun B row x=>∃q cp,row=[.int .i64 x.id,str x.fr,str x.text,.slice q x.left.length cp]∧SlB B q cp 1 ZiH x.left∧x.fr.length≤140737488355328∧x.text.length≤140737488355328
theorem Zgz.mono:Mono Zgz:=by rintro B B' hle row x ⟨q,cp,h1,h2,h3,h4⟩;exact ⟨q,cp,h1,h2.mono ZiH.mono hle,h3,h4⟩
def Zdt:Rel DFolder:=fun B row x=>∃q cp q' cp',row=[str x.owner,str x.name,.slice q x.grants.length cp,.int .i64 x.next,.slice q' x.mail.length cp']∧SlB B q cp 2 Zfg x.grants∧SlB B q' cp' 3 Zgy x.mail∧x.owner.length≤140737488355328∧x.name.length≤140737488355328
theorem Zdt.mono:Mono Zdt:=by rintro B B' hle row x ⟨q,cp,q',cp',h1,h2,h3,h4⟩;exact ⟨q,cp,q',cp',h1,h2.mono Zfg.mono hle,h3.mono Zgy.mono hle,h4⟩
def szL {α:Type} (f:α→Nat) (xs:List α):Nat:=xs.length+(xs.map f).sum
def Zeq (xs:List Str):Nat:=szL List.length xs
def ZcU (u:DUser):Nat:=u.name.length+u.pass.length
def Zcg (g:DGrant):Nat:=g.user.length
def Zdd (m:DMail):Nat:=m.text.length
def Zbm (x:DItem):Nat:=x.fr.length+x.text.length+Zeq x.left
def Zaw (f:DFolder):Nat:=f.owner.length+f.name.length+szL Zcg f.grants+szL Zdd f.mail
def ZcV (h:DHost):Nat:=h.domain.length+szL ZcU h.users+szL Zaw h.folders+szL Zbm h.queue.items
def szI (left:Int) (s:Nat):Int:=if left<s then -1 else left - s
theorem ZbP {left:Int} {s:Nat} (h:left<s):szI left s = -1:=if_pos h
theorem ZlZ {left:Int} {s:Nat} (h:s≤left):szI left s=left - s:=if_neg (by omega)
theorem Zcf {left:Int} {s:Nat} (h:0≤left):szI left s<0↔left<s:=by unfold szI;split <;> omega
theorem Zcw {left:Int} {s:Nat} (h0:0≤left) (h:0≤szI left s):szI left s=left - s∧s≤left:=by unfold szI at *;split at h <;> split <;> omega
theorem ZdU {α:Type} (f:α→Nat) {xs:List α} {k:Nat} {x:α} (hx:xs[k]? = some x):((xs.take (k+1)).map f).sum=((xs.take k).map f).sum+f x:=by
  have:xs.take (k+1)=xs.take k ++ [x]:=by rw [List.take_add_one,hx];rfl
  simp [this]
theorem ZkU {α:Type} (f:α→Nat) (xs:List α) (k:Nat):((xs.take k).map f).sum≤(xs.map f).sum:=by
  conv=>rhs;rw [← List.take_append_drop k xs]
  rw [List.map_append,List.sum_append];omega
theorem Zgf {α:Type} {f:α→Nat} {xs:List α} {left:Int} (h:left<xs.length):szI left (szL f xs) = -1:=ZbP (by unfold szL;omega)
theorem Zgd {α:Type} {f:α→Nat} {xs:List α} {k:Nat} {x:α} {left l:Int} (hx:xs[k]? = some x) (hl:l=left - xs.length - ((xs.take k).map f).sum) (h:l<f x):szI left (szL f xs) = -1:=by
  have h1:=ZdU f hx
  have h2:=ZkU f xs (k+1)
  exact ZbP (by unfold szL;omega)
theorem Zge {α:Type} {f:α→Nat} {xs:List α} {k:Nat} {left l:Int} (hl:l=left - xs.length - ((xs.take k).map f).sum) (h0:0≤l) (hk:xs.length≤k):szI left (szL f xs)=l:=by
  rw [List.take_of_length_le hk] at hl
  rw [ZlZ (by unfold szL;omega)]
  unfold szL;omega
theorem Zav {α:Type} {f:α→Nat} {xs:List α} {n:Nat} (h:szL f xs≤n):xs.length≤n∧∀x,x∈xs→f x≤n:=by
  unfold szL at h
  refine ⟨by omega,fun x hx=>?_⟩
  have:f x≤(xs.map f).sum:=by
    clear h
    induction xs with
    | nil=>cases hx
    | cons y ys ih=>
      simp only [List.map_cons,List.sum_cons]
      rcases List.mem_cons.1 hx with rfl | hx
      · omega
      · have:=ih hx;omega
  omega
theorem ZsK {x:DItem} {n:Nat} (h:Zbm x≤n):Zeq x.left≤n:=by unfold Zbm at h;omega
theorem ZhF {x:DFolder} {n:Nat} (h:Zaw x≤n):szL Zcg x.grants≤n∧szL Zdd x.mail≤n:=by unfold Zaw at h;omega
theorem Zlp {x:DHost} {n:Nat} (h:ZcV x≤n):x.domain.length≤n∧szL ZcU x.users≤n∧szL Zaw x.folders≤n∧szL Zbm x.queue.items≤n:=by unfold ZcV at h;omega
theorem Zsl {xs:List Str} {n:Nat} (h:Zeq xs≤n):xs.length≤n:=(Zav h).1
theorem ZmN {B:Kn} {q:Option Addr} {cp:Nat} {xs:List Str} (h:SlB B q cp 1 ZiH xs) (hs:Zeq xs≤1048576):SlK B q cp 1 Zbv xs:=
  h.small (by have:=(Zav hs).1;omega) fun x hx row hr=>⟨hr.1,by have:=(Zav hs).2 x hx;omega⟩
theorem ZkP {B:Kn} {q:Option Addr} {cp:Nat} {xs:List DUser} (h:SlB B q cp 3 Zh2 xs) (hs:szL ZcU xs≤1048576):SlK B q cp 3 Zm xs:=
  h.small (by have:=(Zav hs).1;omega) fun x hx row hr=>by
    have:=(Zav hs).2 x hx
    unfold ZcU at this
    exact ⟨hr.1,by omega,by omega⟩
theorem Zkq {B:Kn} {q:Option Addr} {cp:Nat} {xs:List DGrant} (h:SlB B q cp 2 Zfg xs) (hs:szL Zcg xs≤1048576):SlK B q cp 2 Z5 xs:=
  h.small (by have:=(Zav hs).1;omega) fun x hx row hr=>by
    have:=(Zav hs).2 x hx
    unfold Zcg at this
    exact ⟨hr.1,by omega⟩
theorem Zlf {B:Kn} {q:Option Addr} {cp:Nat} {xs:List DMail} (h:SlB B q cp 3 Zgy xs) (hs:szL Zdd xs≤1048576):SlK B q cp 3 Z3 xs:=
  h.small (by have:=(Zav hs).1;omega) fun x hx row hr=>by
    have:=(Zav hs).2 x hx
    unfold Zdd at this
    exact ⟨hr.1,by omega⟩
theorem Zll {B:Kn} {q:Option Addr} {cp:Nat} {xs:List DItem} (h:SlB B q cp 4 Zgz xs) (hs:szL Zbm xs≤1048576):SlK B q cp 4 Zs xs:=
  h.small (by have:=(Zav hs).1;omega) fun x hx row hr=>by
    have:=(Zav hs).2 x hx
    unfold Zbm at this
    obtain ⟨q,cp,h1,h2,h3,h4⟩:=hr
    exact ⟨q,cp,h1,ZmN h2 (by omega),by omega,by omega⟩
theorem Zjc {B:Kn} {q:Option Addr} {cp:Nat} {xs:List DFolder} (h:SlB B q cp 5 Zdt xs) (hs:szL Zaw xs≤1048576):SlK B q cp 5 Zk xs:=
  h.small (by have:=(Zav hs).1;omega) fun x hx row hr=>by
    have:=(Zav hs).2 x hx
    unfold Zaw at this
    obtain ⟨q,cp,q',cp',h1,h2,h3,h4,h5⟩:=hr
    exact ⟨q,cp,q',cp',h1,Zkq h2 (by omega),Zlf h3 (by omega),by omega,by omega⟩
end Go.BL
namespace Go.BL
open Go.Conc (G)
set_option linter.unusedVariables false
def Z1 (Tg Tm:TypeId):Zf8 DFolder:=fun row x ins=>∃q c q' c' i1 i2,row=[str x.owner,str x.name,.slice q x.grants.length c,.int .i64 x.next,.slice q' x.mail.length c']∧ins=i1 ++ i2∧ZW Kn.none i1 q c Tg 2 Z5 x.grants∧ZW Kn.none i2 q' c' Tm 3 Z3 x.mail∧
  x.owner.length≤2000000∧x.name.length≤2000000∧x.grants.length≤2000000∧x.mail.length≤2000000
theorem Z1.known {Tg Tm:TypeId} {B:Kn} {row:List Value} {x:DFolder} {ins:Cells} (h:Z1 Tg Tm row x ins) (hm :∀q,q∈ins→B.mem q.1=some q.2):Zk B row x:=by
  obtain ⟨q,c,q',c',i1,i2,h1,rfl,h2,h3,h4,h5,h6,h7⟩:=h
  exact ⟨q,c,q',c',h1,⟨h2.rowsF Z5.any fun p hp=>hm p (List.mem_append.2 (.inl hp)),h2.cap,h6⟩,⟨h3.rowsF Z3.any fun p hp=>hm p (List.mem_append.2 (.inr hp)),h3.cap,h7⟩,h4,h5⟩
theorem All3.set {α:Type} {R:Zf8 α} {rows:List (List Value)} {xs:List α} {s:Cells} (h:All3 R rows xs s) {row:List Value} {z:α} {ins:Cells} (hz:R row z ins) :∀k,k<xs.length→∃s' gl,All3 R (rows.set k row) (xs.set k z) s'∧(s ++ ins).Perm (s' ++ gl):=by
  induction h with
  | nil=>intro k hk;simp at hk
  | @cons row0 x ins0 rest rows xs h1 h2 ih=>
    intro k hk
    cases k with
    | zero=>
      refine ⟨ins ++ rest,ins0,.cons hz h2,?_⟩
      exact ZhX fun f g h0 ha hc=>by simp only [ha];omega
    | succ k=>
      obtain ⟨s',gl,h3,h4⟩:=ih k (by simpa using hk)
      refine ⟨ins0 ++ s',gl,.cons h1 h3,?_⟩
      rw [List.append_assoc,List.append_assoc]
      exact List.Perm.append_left _ h4
theorem All3.zeros {α:Type} {R:Zf8 α} {row:List Value} {d:α} (h:R row d []) :∀m,All3 R (List.replicate m row) (List.replicate m d) []
  | 0=>.nil
  | m+1=>by rw [List.replicate_succ,List.replicate_succ];exact All3.cons (ins:=[]) h (All3.zeros h m)
theorem ZaP.zeros {α:Type} {b:Nat} {T:TypeId} {R:Zf8 α} {zs:List Value} {d:α} {m c w:Nat} (hw:zs.length=w) (hR:R zs d []) (hmc:m≤c):ZaP (Z7 b (zrow zs c) T) (some ⟨b,0,Option.none⟩) c T w R (List.replicate m d):=by
  refine ⟨List.replicate m zs,_,[],All3.zeros hR m,fun r hr=>by rw [(List.mem_replicate.1 hr).2];exact hw,by rw [List.append_nil],?_,.inr ⟨b,_,rfl,by rw [ZbW,hw],?_,rfl,by rw [List.length_replicate];exact hmc⟩⟩
  · rw [List.length_replicate]
    exact (ZbW (z:=zs) (c:=m)).trans (by rw [hw])
  · rw [List.length_replicate]
    have e:zrow zs c=zrow zs m ++ zrow zs (c - m):=by
      simp only [zrow,← List.flatten_append,List.replicate_append_replicate]
      rw [show m+(c - m)=c from by omega]
    rw [e,List.take_append_of_le_length (by rw [ZbW,hw];exact Nat.le_refl _),List.take_of_length_le (by rw [ZbW,hw];exact Nat.le_refl _)]
    rfl
theorem ZaP.ptr {α:Type} {l:Cells} {p:Option Addr} {c:Nat} {T:TypeId} {w:Nat} {R:Zf8 α} {xs:List α} (h:ZaP l p c T w R xs) (hx:0<xs.length) :∃b,p=some ⟨b,0,Option.none⟩:=by
  obtain ⟨rows,blk,ins,_,_,_,_,⟨_,h0,_,_⟩ | ⟨b,arr,rfl,_⟩⟩:=h
  · omega
  · exact ⟨b,rfl⟩
theorem Zgh :∀{l vs:List Value},l.length=vs.length→ZY l 0 vs=vs
  | l,[],h=>by rw [Za7];exact List.eq_nil_of_length_eq_zero h
  | [],v :: vs,h=>by simp at h
  | x :: l,v :: vs,h=>by
    have:=Zgh (l:=l) (vs:=vs) (by simpa using h)
    simp [ZY,this]
section
variable {P:PJ} {n:Nat} {ops:Array Oper} {i:Nat} {K:ZaS} {S:Env} {D:List Deferred} {B:Kn} {L:List Cells} {Q:Exit→Z9}
variable {dst:Option Tmp} {ty:TypeId} {pos:String} {after:Array Edge} {g:Option (Nat × Bool)}
theorem Zk5 {o:Oper} {L':List Cells} {K':ZaS} (hp:L.flatten.Perm L'.flatten) (h:opX P n ops i o K' S D B L') (hk :∀v D' B' L₁,B.le B'→K' v D' B' L₁→∃L₂ gl,L₁.flatten.Perm (L₂.flatten ++ gl)∧K v D' B' L₂):opX P n ops i o K S D B L:=⟨h.1,fun C todo k T ho hn hT hA=>
  C.X.perm (hp.append_right _) (h.2 C todo k T ho hn hT fun v D' B' L₁ hle hK=>by
    obtain ⟨L₂,gl,hp2,hK2⟩:=hk v D' B' L₁ hle hK
    refine C.X.drop (r:=L₂.flatten ++ C.F) (gl:=gl) ((hp2.append_right _).trans ?_) (hA v D' B' L₂ hle hK2)
    rw [List.append_assoc,List.append_assoc]
    exact List.Perm.append_left _ List.perm_append_comm)⟩
theorem Ztz {α:Type} {R:Zf8 α} {xs:List α} (z:α) {t T:TypeId} {x y:Operand} {v:Value} {row:List Value} {sz k c b:Nat} {l:Cells} {p:Option Addr} {inss r:List Cells} (j:Nat) (ks:List Nat) (hpk:ZaC L (j :: ks)=some (l :: inss,r)) (hnd:Zec (j :: ks)=true) (hv:ZaP l p c T sz R xs) (hp:p=some ⟨b,0,Option.none⟩) (hk:k<xs.length) (hg:Zo ops S g=some true) (hd:Zv n dst=true) (hsz:ZP P t=some sz)
    (hx:ev S x=some (ptr ⟨b,k*sz,Option.none⟩)) (hy:ev S y=some v) (hvc:v.cells=row.toArray) (ho:row.all Ze0=true) (hrl:row.length=sz) (ins0:Cells) (hi0:inss.flatten=ins0) (hr:R row z ins0)
    (h :∀l',ZaP l' p c T sz R (xs.set k z)→K undef D B (Zcc r (j :: ks) (l' :: inss.map fun _=>[]))):opX P n ops i ⟨dst,.store t x y,ty,pos,after,g⟩ K S D B L:=by
  subst hp
  subst hi0
  obtain ⟨rows,blk,ins,h1,h2,h3,hl1,⟨hc,_⟩ | ⟨b',arr,e,ha,ht,rfl,hmc⟩⟩:=hv
  · cases hc
  · cases e
    have hpp:=Zac (j :: ks) L (l :: inss) r hpk
    have hb1:k*sz+row.length≤arr.length:=by
      have:(k+1)*sz≤c*sz:=Nat.mul_le_mul_right sz (by omega)
      rw [Nat.succ_mul] at this;omega
    obtain ⟨s',gl,a1,a2⟩:=h1.set hr k hk
    refine Zk5 (L':=[Z7 b arr T ++ ins,inss.flatten ++ r.flatten]) (K':=fun u D' B' L₁=>u=undef∧D'=D∧B'=B∧L₁=[Z7 b (ZY arr (k*sz) row) T ++ ins,inss.flatten ++ r.flatten]) ?_ ?_ ?_
    · refine hpp.trans ?_
      simp only [List.flatten_cons,List.flatten_nil,List.append_nil,List.append_assoc]
      refine (h3.append_right _).trans ?_
      rw [List.append_assoc]
    · exact Z4 row 0 (ZY arr (k*sz) row) hg hd (by rw [hrl];exact hsz) hx hy hvc ho (T:=T) (r:=ins) rfl rfl (by rw [Nat.ble_eq];exact hb1) rfl ⟨rfl,rfl,rfl,rfl⟩
    · rintro u D' B' L₁ hle ⟨rfl,rfl,rfl,rfl⟩
      have hlen:k<rows.length:=by rw [h1.len];exact hk
      have hnew:ZaP (Z7 b (ZY arr (k*sz) row) T ++ s') (some ⟨b,0,Option.none⟩) c T sz R (xs.set k z):=by
        refine ⟨rows.set k row,_,s',a1,fun r' hr'=>?_,.refl _,?_,.inr ⟨b,_,rfl,by rw [ZV];exact ha,?_,rfl,by rw [List.length_set];exact hmc⟩⟩
        · rcases List.mem_or_eq_of_mem_set hr' with hr' | rfl
          · exact h2 r' hr'
          · exact hrl
        · rw [ZbX (w:=sz),List.length_set,List.length_set,h1.len]
          intro r' hr'
          rcases List.mem_or_eq_of_mem_set hr' with hr' | rfl
          · exact h2 r' hr'
          · exact hrl
        · rw [List.length_set]
          have hr1:rows[k]? = some rows[k]:=List.getElem?_eq_getElem hlen
          have hrow0:rows[k].length=sz:=h2 _ (List.getElem_mem hlen)
          have e:=ZcN (us:=row) (off:=0) h2 hr1 (by omega)
          rw [Zgh (by rw [hrow0,hrl]),Nat.add_zero] at e
          have hb2:k*sz+row.length≤xs.length*sz:=by
            have:(k+1)*sz≤xs.length*sz:=Nat.mul_le_mul_right sz hk
            rw [Nat.succ_mul] at this;omega
          have hb3:xs.length*sz≤arr.length:=by rw [ha];exact Nat.mul_le_mul_right sz hmc
          rw [ZcX _ _ _ _ hb2 hb3,ht,e]
      refine ⟨_,gl,?_,h _ hnew⟩
      have hq:=Zbn ((Z7 b (ZY arr (k*sz) row) T ++ s') :: inss.map fun _=>[]) r (j :: ks) (Zbp hnd) (fun jj hj=>Zbo (j :: ks) L (l :: inss) r hpk jj (.inr hj))
      have hnil:((inss.map fun _=>([]:Cells))).flatten=[]:=by
        clear hpk hpp hq hr h
        induction inss with
        | nil=>rfl
        | cons a as ih=>simp
      rw [List.flatten_cons,hnil,List.append_nil] at hq
      simp only [List.flatten_cons,List.flatten_nil,List.append_nil]
      refine List.Perm.trans ?_ (hq.append_right gl)
      have e1:(Z7 b (ZY arr (k*sz) row) T ++ ins ++ (inss.flatten ++ r.flatten)).Perm (Z7 b (ZY arr (k*sz) row) T ++ ((ins ++ inss.flatten) ++ r.flatten)):=by simp only [List.append_assoc];exact .refl _
      have e2:(Z7 b (ZY arr (k*sz) row) T ++ ((ins ++ inss.flatten) ++ r.flatten)).Perm (Z7 b (ZY arr (k*sz) row) T ++ ((s' ++ gl) ++ r.flatten)):=List.Perm.append_left _ (a2.append_right _)
      refine (e1.trans e2).trans ?_
      exact ZhX fun f g h0 ha hc=>by simp only [ha];omega
end
section
variable {P:PJ} {n:Nat} {ops:Array Oper} {i:Nat} {K:ZaS} {S:Env} {D:List Deferred} {B BV:Kn} {L:List Cells}
variable {dst:Option Tmp} {ty:TypeId} {pos:String} {after:Array Edge} {g:Option (Nat × Bool)}
theorem Zp1 {α:Type} {R:Rel α} {xs:List α} (z:α) {t T:TypeId} {x y:Operand} {v:Value} {row:List Value} {l:Cells} {p:Option Addr} {c sz k b:Nat} (j:Nat) (hj:L[j]? = some l) (hv:ZW BV l p c T sz R xs) (hp:p=some ⟨b,0,none⟩) (hk:k<xs.length) (hg:Zo ops S g=some true) (hd:Zv n dst=true) (hsz:ZP P t=some sz)
    (hx:ev S x=some (ptr ⟨b,k*sz,none⟩)) (hy:ev S y=some v) (hvc:v.cells=row.toArray) (ho:row.all Ze0=true) (hrl:row.length=sz) (hr:R BV row z)
    (h :∀l',ZW BV l' p c T sz R (xs.set k z)→K undef D B (L.set j l')):opX P n ops i ⟨dst,.store t x y,ty,pos,after,g⟩ K S D B L:=by
  obtain ⟨rows,h1,h2,h3,⟨rfl,_,_,_⟩ | ⟨b',arr,rfl,ha,ht,rfl,hmc⟩⟩:=hv
  · cases hp
  · cases hp
    have hlen:k<rows.length:=by rw [h1.len];exact hk
    have hr1:rows[k]? = some rows[k]:=List.getElem?_eq_getElem hlen
    have hrow0:rows[k].length=sz:=h2 _ (List.getElem_mem hlen)
    have hb1:k*sz+row.length≤xs.length*sz:=by
      have:(k+1)*sz≤xs.length*sz:=Nat.mul_le_mul_right sz hk
      rw [Nat.succ_mul] at this;omega
    have hb2:xs.length*sz≤arr.length:=by rw [ha];exact Nat.mul_le_mul_right sz hmc
    refine Z4 row j (ZY arr (k*sz) row) hg hd (by rw [hrl];exact hsz) hx hy hvc ho (r:=[]) hj rfl (by rw [Nat.ble_eq];show k*sz+row.length≤arr.length;omega) rfl (h _ ?_)
    have e:=ZcN (us:=row) (off:=0) h2 hr1 (by omega)
    rw [Zgh (by rw [hrow0,hrl]),Nat.add_zero] at e
    refine ⟨rows.set k row,h1.set hr k,fun r hr'=>?_,?_,.inr ⟨b,_,rfl,by rw [ZV];exact ha,?_,rfl,by rw [List.length_set];exact hmc⟩⟩
    · rcases List.mem_or_eq_of_mem_set hr' with hr' | rfl
      · exact h2 r hr'
      · exact hrl
    · rw [← e,ZV,List.length_set];exact h3
    · rw [List.length_set,ZcX _ _ _ _ hb1 hb2,ht,e]
end
theorem ZW.ptr {α:Type} {B:Kn} {l:Cells} {p:Option Addr} {c:Nat} {T:TypeId} {w:Nat} {R:Rel α} {xs:List α} (h:ZW B l p c T w R xs) (hx:0<xs.length) :∃b,p=some ⟨b,0,none⟩:=by
  obtain ⟨rows,_,_,_,⟨_,h0,_,_⟩ | ⟨b,arr,rfl,_⟩⟩:=h
  · omega
  · exact ⟨b,rfl⟩
def fill {α:Type} (xs:List α) (d:α) (k:Nat):List α:=xs.take k ++ List.replicate (xs.length - k) d
theorem ZeP {α:Type} {xs:List α} {d:α} {k:Nat} (h:k≤xs.length):(fill xs d k).length=xs.length:=by
  rw [fill,List.length_append,List.length_take,List.length_replicate];omega
theorem ZdI {α:Type} {xs:List α} {d:α} : fill xs d 0=List.replicate xs.length d:=by simp [fill]
theorem ZeQ {α:Type} {xs:List α} {d:α} {k:Nat} (h:xs.length≤k):fill xs d k=xs:=by
  rw [fill,List.take_of_length_le h,show xs.length - k=0 from by omega];simp
theorem ZdJ {α:Type} {xs:List α} {d z:α} {k:Nat} (hz:xs[k]? = some z):(fill xs d k).set k z=fill xs d (k+1):=by
  have hk:=(List.getElem?_eq_some_iff.1 hz).1
  have e1:(xs.take k).length=k:=by rw [List.length_take];omega
  rw [fill,fill,List.set_append_right _ _ (by omega),e1,Nat.sub_self,List.take_add_one,hz,show xs.length - k=(xs.length - (k+1))+1 from by omega,List.replicate_succ]
  simp
theorem Zx.borrowL {P:PJ} {f:FuncId} {args:List Value} {B:Kn} {ls Ls:List Cells} {Post:Value→Kn→List Cells→Prop}
    (h:(∀p,p∈ls.flatten→(B.add ls.flatten).mem p.1=some p.2)→Zx P f args (B.add ls.flatten) Ls Post) :
    Zx P f args B (ls ++ Ls) (fun v B' Ls'=>∃B₂ Ls₂,Ls'=ls ++ Ls₂∧B'=B₂.minus ls.flatten∧(B.add ls.flatten).le B₂∧(∀p,p∈ls.flatten→(B.add ls.flatten).mem p.1=some p.2)∧(B.add ls.flatten).minus ls.flatten=B∧Post v B₂ Ls₂):=fun X kind c cs F hk hA=>by
  have key:=Zx.borrow (l:=ls.flatten) (Ls:=Ls) h X kind c cs F hk fun v B' Ls' hle ⟨B₂,Ls₂,h1,h2,h3,h4,h5,h6⟩=>by
    have:=hA v B' (ls ++ Ls₂) hle ⟨B₂,Ls₂,rfl,h2,h3,h4,h5,h6⟩
    subst h1
    rw [List.flatten_cons]
    rwa [List.flatten_append] at this
  rw [List.flatten_cons] at key
  rwa [List.flatten_append]
section
variable {P:PJ} {C:Cx P} {k:List Item} {n:Nat} {ops:Array Oper} {i:Nat} {S:Env} {D:List Deferred} {B BV:Kn} {L:List Cells} {Q:Exit→Z9}
variable {α:Type} {xs:List α} {l:Cells} {p:Option Addr} {cp:Nat} {T:TypeId} {w:Nat}
theorem Zxg {R:Rel α} {B':Kn} (hv:ZW BV l p cp T w R xs) (hA:ZnE R) (hl:xs.length≤2000000) (hm :∀q,q∈l→B'.mem q.1=some q.2):SlK B' p cp w R xs:=⟨hv.rowsF hA hm,hv.cap,hl⟩
theorem ZrG {R:Rel α} {o:Oper} {K:Z9} (j:Nat) (hj:L[j]? = some l) (hv:ZW BV l p cp T w R xs) (hA:ZnE R) (hl:xs.length≤2000000) (h :∀B',B.le B'→SlK B' p cp w R xs→opW P n ops i o K S D B' (L.set j [])):opW P n ops i o K S D B L:=fun C todo k T ho hn hT hA'=>by
  obtain ⟨r,h1,h2⟩:=ZR C.F [] hj
  exact C.X.publish rfl h1 fun B' hle hm=>C.X.perm (by simpa using h2.symm) (h B' hle (Zxg hv hA hl hm) C todo k T ho hn hT fun S' D' B'' L' T' hle' hq=>hA' S' D' B'' L' T' (hle.trans hle') hq)
theorem Zu0 {R:Rel α} {I:Kn→List Cells→Prop} {ℓ:List Nat} {K:Z9} (j:Nat) (hj:L[j]? = some l) (hv:ZW BV l p cp T w R xs) (hA:ZnE R) (hl:xs.length≤2000000) (hI' :∀B',B.le B'→I B' (L.set j []))
    (h :∀B',B.le B'→SlK B' p cp w R xs→Zbl C k n ops I ℓ K S D B' (L.set j [])):Zbl C k n ops I ℓ K S D B L:=fun T ex pend π a1 a2 a3 a4 a5 a6 a7 a8 a9 hI hA'=>by
  obtain ⟨r,h1,h2⟩:=ZR C.F [] hj
  exact C.X.publish rfl h1 fun B' hle hm=>C.X.perm (by simpa using h2.symm) (h B' hle (Zxg hv hA hl hm) T ex pend π a1 a2 a3 a4 a5 a6 a7 a8 a9 (hI' B' hle) fun S' D' B'' L' T' hle' hq=>hA' S' D' B'' L' T' (hle.trans hle') hq)
theorem Zl8 {R:Zf8 α} {R':Rel α} {o:Oper} {K:Z9} (j:Nat) (hj:L[j]? = some l) (hv:ZaP l p cp T w R xs) (hR :∀{B:Kn} {row:List Value} {x:α} {ins:Cells},R row x ins→(∀q,q∈ins→B.mem q.1=some q.2)→R' B row x) (hM:Mono R') (hl:xs.length≤2000000)
    (h :∀B',B.le B'→SlK B' p cp w R' xs→opW P n ops i o K S D B' (L.set j [])):opW P n ops i o K S D B L:=fun C todo k T ho hn hT hA'=>by
  obtain ⟨r,h1,h2⟩:=ZR C.F [] hj
  exact C.X.publish rfl h1 fun B' hle hm=>C.X.perm (by simpa using h2.symm) (h B' hle (hv.known (fun _ _ _ a b=>hR a b) hM hm hl) C todo k T ho hn hT fun S' D' B'' L' T' hle' hq=>hA' S' D' B'' L' T' (hle.trans hle') hq)
theorem ZrY {R:Zf8 α} {R':Rel α} {I:Kn→List Cells→Prop} {ℓ:List Nat} {K:Z9} (j:Nat) (hj:L[j]? = some l) (hv:ZaP l p cp T w R xs) (hR :∀{B:Kn} {row:List Value} {x:α} {ins:Cells},R row x ins→(∀q,q∈ins→B.mem q.1=some q.2)→R' B row x) (hM:Mono R') (hl:xs.length≤2000000) (hI' :∀B',B.le B'→I B' (L.set j []))
    (h :∀B',B.le B'→SlK B' p cp w R' xs→Zbl C k n ops I ℓ K S D B' (L.set j [])):Zbl C k n ops I ℓ K S D B L:=fun T ex pend π a1 a2 a3 a4 a5 a6 a7 a8 a9 hI hA'=>by
  obtain ⟨r,h1,h2⟩:=ZR C.F [] hj
  exact C.X.publish rfl h1 fun B' hle hm=>C.X.perm (by simpa using h2.symm) (h B' hle (hv.known (fun _ _ _ a b=>hR a b) hM hm hl) T ex pend π a1 a2 a3 a4 a5 a6 a7 a8 a9 (hI' B' hle) fun S' D' B'' L' T' hle' hq=>hA' S' D' B'' L' T' (hle.trans hle') hq)
end
end Go.BL
namespace Go.BL
open Go.ChangeShapes Go.WideShapes Go.ChangeAt Go.RowKit
set_option linter.unusedVariables false
theorem Zj8 {α β:Type} {f:α→Option β} :∀{xs:List α} {ys:List β},xs.mapM f=some ys→ys.length=xs.length∧∀(i:Nat) (x:α),xs[i]? = some x→f x=ys[i]?
  | [],ys,h=>by
    simp only [List.mapM_nil,Option.pure_def,Option.some.injEq] at h
    subst h;simp
  | x :: xs,ys,h=>by
    simp only [List.mapM_cons,Option.bind_eq_bind,Option.pure_def,Option.bind_eq_some_iff,Option.some.injEq] at h
    obtain ⟨y,hy,zs,hz,rfl⟩:=h
    obtain ⟨h1,h2⟩:=Zj8 hz
    refine ⟨by simp [h1],fun i z hi=>?_⟩
    cases i with
    | zero=>simp only [List.getElem?_cons_zero,Option.some.injEq] at hi;subst hi;simpa using hy
    | succ i=>simpa using h2 i z (by simpa using hi)
theorem ZpM {w:World} {a:Addr} {n:Nat} {cs:List Value} (h:w.cells? 0 a n=some cs):cs.length=n∧∀i,i<n→w.cell? (a.add i)=cs[i]?:=by
  unfold World.cells? at h
  rw [if_pos (Nat.zero_le _)] at h
  obtain ⟨h1,h2⟩:=Zj8 h
  exact ⟨by simpa using h1,fun i hi=>h2 i i (by simp [hi])⟩
section
variable {H:Type} (enc:TypeId × Value→H) (P:Program) (W:World)
def ZdN (t:TypeId) (p:List Value→Prop):Prop:=∀(fuel:Nat) (cs:List Value) (d:DataW H) (ps:List MemPlace),DataW.trod enc P W 0 (fun _=>true) true fuel t cs=some (d,ps)→(∀m,m∈d.weights P t→m≤reachBytes)→p cs
def Zcu {α:Type} (t:TypeId) (R:Rel α):Prop:=ZdN enc P W t fun cs=>∃x,R (Zbc W) cs x
def ZdM {α:Type} (w:Nat) (R:Rel α):Rel (List α):=fun B row xs=>∃q cp,row=[.slice q xs.length cp]∧SlB B q cp w R xs
def Parts:List (List Value→Prop)→List Value→Prop
  | [],cs=>cs=[]
  | p :: ps,cs=>∃a b,cs=a ++ b∧p a∧Parts ps b
def ZeR (P:Program):List Field→Nat→Nat→Bool
  | [],off,n=>off == n
  | f :: fs,off,n=>f.offset == off && ZeR P fs (off+P.cellsOf f.type) n
end
section
variable {H:Type} {enc:TypeId × Value→H} {P:Program} {W:World}
theorem ZdN.mono {t:TypeId} {p p':List Value→Prop} (h:ZdN enc P W t p) (hp :∀cs,p cs→p' cs):ZdN enc P W t p':=fun fuel cs d ps ht hw=>hp cs (h fuel cs d ps ht hw)
theorem Zox {t:TypeId} (ht:P.underlying t=some (.int .i64)):Zcu enc P W t ZdO:=fun fuel cs d ps h _=>by
  cases fuel with
  | zero=>simp [DataW.trod] at h
  | succ n=>
    unfold DataW.trod at h
    rw [ht] at h
    split at h <;> simp_all
    rename_i he
    subst he
    exact ⟨_,rfl⟩
theorem Zow {t:TypeId} (ht:P.underlying t=some .string):Zcu enc P W t ZiH:=fun fuel cs d ps h hw=>by
  cases fuel with
  | zero=>simp [DataW.trod] at h
  | succ n=>
    unfold DataW.trod at h
    rw [ht] at h
    split at h <;> simp_all
    rename_i s
    obtain ⟨_,rfl,_⟩:=h
    have h1:=hw s.data.toList.length (by simp [DataW.weights])
    refine ⟨s.data.toList,rfl,?_⟩
    unfold reachBytes at h1
    omega
theorem Zqw {fs:List Field} {ps:List (List Value→Prop)} {n off:Nat} (hf:ZeR P fs off n=true) {cs:List Value} (hl:cs.length=n) (hlen:fs.length=ps.length)
    (h :∀(i:Nat) (f:Field) (p:List Value→Prop),fs[i]? = some f→ps[i]? = some p→p ((cs.drop f.offset).take (P.cellsOf f.type))):Parts ps (cs.drop off):=by
  induction fs generalizing ps off with
  | nil=>
    simp only [ZeR,beq_iff_eq] at hf
    cases ps with
    | nil=>show cs.drop off=[];rw [List.drop_eq_nil_iff];omega
    | cons p ps=>simp at hlen
  | cons f fs ih=>
    simp only [ZeR,Bool.and_eq_true,beq_iff_eq] at hf
    cases ps with
    | nil=>simp at hlen
    | cons p ps=>
      refine ⟨(cs.drop off).take (P.cellsOf f.type),(cs.drop off).drop (P.cellsOf f.type),(List.take_append_drop _ _).symm,?_,?_⟩
      · have:=h 0 f p rfl rfl
        rwa [hf.1] at this
      · rw [List.drop_drop]
        exact ih hf.2 (by simpa using hlen) fun i f' p' h1 h2=>h (i+1) f' p' (by simpa using h1) (by simpa using h2)
theorem ZcS :∀{ts:List TypeId} {ds:List (DataW H)} {i:Nat} {t:TypeId} {d:DataW H},ts[i]? = some t→ds[i]? = some d→∀m,m∈d.weights P t→m∈DataW.weightsEach P ts ds
  | t :: ts,d :: ds,0,t',d',h1,h2,m,hm=>by
    simp only [List.getElem?_cons_zero,Option.some.injEq] at h1 h2
    subst h1;subst h2
    simp only [DataW.weightsEach,List.mem_append];exact .inl hm
  | t :: ts,d :: ds,i+1,t',d',h1,h2,m,hm=>by
    simp only [DataW.weightsEach,List.mem_append];exact .inr (ZcS (by simpa using h1) (by simpa using h2) m hm)
  | [],_,_,_,_,h1,_,_,_=>by simp at h1
  | _ :: _,[],_,_,_,_,h2,_,_=>by simp at h2
theorem Ze5 {e:TypeId} :∀{ds:List (DataW H)} {i:Nat} {d:DataW H},ds[i]? = some d→∀m,m∈d.weights P e→m∈DataW.weightsAll P e ds
  | d :: ds,0,d',h2,m,hm=>by
    simp only [List.getElem?_cons_zero,Option.some.injEq] at h2
    subst h2
    simp only [DataW.weightsAll,List.mem_append];exact .inl hm
  | d :: ds,i+1,d',h2,m,hm=>by
    simp only [DataW.weightsAll,List.mem_append];exact .inr (Ze5 (by simpa using h2) m hm)
  | [],_,_,h2,_,_=>by simp at h2
theorem ZjY {t:TypeId} {fs:Array Field} (ht:P.underlying t=some (.struct fs)) (ps:List (List Value→Prop)) (hf:ZeR P fs.toList 0 (P.cellsOf t)=true) (hlen:fs.toList.length=ps.length)
    (h :∀(i:Nat) (f:Field) (p:List Value→Prop),fs.toList[i]? = some f→ps[i]? = some p→ZdN enc P W f.type p):ZdN enc P W t (Parts ps):=fun fuel cs d pl htr hw=>by
  obtain ⟨xs,n,rfl,hx,hl,hxl,hel⟩:=DataW.trod_struct ht htr
  simp only [Prod.mk.injEq] at hx
  obtain ⟨rfl,_⟩:=hx
  have:=Zqw (ps:=ps) hf hl hlen fun i f p h1 h2=>by
    have h3:=hel i f (by simpa using h1)
    have hi:i<xs.length:=by
      have:=(List.getElem?_eq_some_iff.1 h1).1
      simp only [Array.length_toList] at this
      omega
    rw [List.getElem?_eq_getElem hi] at h3
    rcases hxi:xs[i] with ⟨d,pl'⟩
    refine h i f p h1 h2 n _ d pl' (by rw [h3,hxi]) fun m hm=>hw m ?_
    simp only [DataW.weights,ht]
    exact ZcS (i:=i) (t:=f.type) (d:=d) (by simp [h1]) (by simp [List.getElem?_eq_getElem hi,hxi]) m hm
  simpa using this
theorem Zci {α:Type} {t e:TypeId} {w:Nat} {R:Rel α} (ht:P.underlying t=some (.slice e)) (hc:P.cellsOf e=w) (hb:0<P.bytesOf e) (hw0:0<w) (h:Zcu enc P W e R):Zcu enc P W t (ZdM w R):=fun fuel cs d pl htr hw=>by
  rcases DataW.trod_slice ht htr with ⟨rfl,_⟩ | ⟨a,len,cap,elems,rest,n,rfl,rfl,hx,_,hl,hm,hlen,hel,_,_⟩
  · exact ⟨[],none,0,rfl,⟨fun i x hi=>by simp at hi,Nat.le_refl _,Nat.zero_le _⟩⟩
  · simp only [Prod.mk.injEq] at hx
    obtain ⟨rfl,_⟩:=hx
    have hlen2:len≤140737488355328:=by
      have:=hw ((elems.length+rest.length)*P.bytesOf e) (by simp [DataW.weights,ht])
      have h2:elems.length+rest.length≤(elems.length+rest.length)*P.bytesOf e:=Nat.le_mul_of_pos_right _ hb
      unfold reachBytes at this
      omega
    have each :∀i,i<len→∃x row,R (Zbc W) row x∧row.length=w∧∀j,j<w→W.cell? ((a.add (i*w)).add j)=row[j]?:=fun i hi=>by
      have h1:=hel i hi
      have hi':i<elems.length:=by omega
      rw [List.getElem?_eq_getElem hi'] at h1
      obtain ⟨row,hr1,hr2⟩:=Option.bind_eq_some_iff.1 h1
      rw [hc] at hr1
      obtain ⟨hr3,hr4⟩:=ZpM hr1
      rcases hxi:elems[i] with ⟨d,pl'⟩
      obtain ⟨x,hx⟩:=h n row d pl' (by rw [hr2,hxi]) fun m hm=>hw m (by
        simp only [DataW.weights,ht,List.mem_cons,List.mem_append]
        exact .inr (.inl (Ze5 (i:=i) (d:=d) (by simp [List.getElem?_eq_getElem hi',hxi]) m hm)))
      exact ⟨x,row,hx,hr3,hr4⟩
    have hsp:0<len→a.spot=none:=fun h0=>by
      obtain ⟨x,row,_,hr,hj⟩:=each 0 h0
      have h1:=hj 0 hw0
      rw [List.getElem?_eq_getElem (by omega)] at h1
      have:=(ZhR h1).1
      simpa [Addr.add] using this
    refine ⟨(List.range len).attach.map fun i=>(each i.1 (List.mem_range.1 i.2)).choose,some a,cap,by simp,⟨fun i x hi=>?_,by simpa using hl,by simpa using hlen2⟩⟩
    have hi':i<len:=by
      have:=(List.getElem?_eq_some_iff.1 hi).1
      simpa using this
    have hxx:x=(each i hi').choose:=by
      simp [hi'] at hi
      exact hi.symm
    obtain ⟨row,hr1,hr2,hr3⟩:=(each i hi').choose_spec
    have hs:=hsp (by omega)
    refine ⟨a.block,a.off,row,?_,by rw [hxx];exact hr1,fun j u hj=>?_⟩
    · obtain ⟨b,o,s⟩:=a;simp only at hs;subst hs;rfl
    · have hjw:j<w:=by rw [← hr2];exact (List.getElem?_eq_some_iff.1 hj).1
      have h4:=hr3 j hjw
      rw [hj] at h4
      have:=ZhR h4
      have ea:(a.add (i*w)).add j=⟨a.block,a.off+i*w+j,none⟩:=by
        rw [Addr.add_off _ _ (by rw [Addr.add_off _ _ hs]),Addr.add_off _ _ hs]
      rwa [ea] at this
def Zrr (enc:TypeId × Value→H) (P:Program) (W:World):List Field→List (List Value→Prop)→Prop
  | [],[]=>True
  | f :: fs,p :: ps=>ZdN enc P W f.type p∧Zrr enc P W fs ps
  | _,_=>False
theorem ZjZ :∀{fs:List Field} {ps:List (List Value→Prop)},Zrr enc P W fs ps→fs.length=ps.length
  | [],[],_=>rfl
  | _ :: _,_ :: _,h=>by simp only [List.length_cons,ZjZ h.2]
  | [],_ :: _,h=>h.elim
  | _ :: _,[],h=>h.elim
theorem Zj0 :∀{fs:List Field} {ps:List (List Value→Prop)},Zrr enc P W fs ps→∀(i:Nat) (f:Field) (p:List Value→Prop),fs[i]? = some f→ps[i]? = some p→ZdN enc P W f.type p
  | _ :: _,_ :: _,h,0,f,p,h1,h2=>by
    simp only [List.getElem?_cons_zero,Option.some.injEq] at h1 h2
    subst h1;subst h2;exact h.1
  | _ :: _,_ :: _,h,i+1,f,p,h1,h2=>Zj0 h.2 i f p (by simpa using h1) (by simpa using h2)
  | [],_,_,i,f,p,h1,h2=>by simp at h1
  | _ :: _,[],h,_,_,_,_,_=>h.elim
theorem Zct {t:TypeId} {fs:Array Field} (ht:P.underlying t=some (.struct fs)) (ps:List (List Value→Prop)) (hf:ZeR P fs.toList 0 (P.cellsOf t)=true) (h:Zrr enc P W fs.toList ps):ZdN enc P W t (Parts ps):=
  ZjY ht ps hf (ZjZ h) (Zj0 h)
theorem Zmc {t:TypeId} {v:Value} {d:DataW H} {ps:List MemPlace} {p:List Value→Prop} (h:DataW.Trod enc P W 0 (fun _=>true) true t v d ps) (ho:ZdN enc P W t p) (hw :∀m,m∈d.weights P t→m≤reachBytes):p v.cells.toList:=by
  obtain ⟨n,hn⟩:=h;exact ho n _ _ _ hn hw
theorem weigh {ts:List TypeId} {ds:List (DataW H)} (h:(DataW.weightsEach P ts ds).all (·≤reachBytes)=true) {i:Nat} {t:TypeId} {d:DataW H} (h1:ts[i]? = some t) (h2:ds[i]? = some d) :∀m,m∈d.weights P t→m≤reachBytes:=fun m hm=>by
  have:=List.all_eq_true.1 h m (ZcS h1 h2 m hm)
  simpa using this
end
end Go.BL
namespace Go.BL
section
variable {P:PJ} {n:Nat} {ops:Array Oper} {i:Nat} {K:ZaS} {S:Env} {D:List Deferred} {B:Kn} {L:List Cells}
variable {dst:Option Tmp} {ty:TypeId} {pos:String} {after:Array Edge} {g:Option (Nat × Bool)}
theorem Znm {P:Program} {B:Kn} {L:Cells} {q:Addr} {cp:Nat} {b:Int} (hs:ZbG B L (some q) [.int .u8 b]) {Q:Value→Kn→Cells→Prop} (h:Q (str [UInt8.ofNat b.toNat]) B L):hb P (Conv.bytesToString (.slice (some q) 1 cp)) Q B L:=by
  simp only [Conv.bytesToString,Zn,loadCells]
  refine ZbM [.int .u8 b] 0 #[] (fun j v hj=>by simpa using hs j v hj) ?_
  have e:Q (Value.string (ByteArray.empty.push (UInt8.ofNat b.toNat))) B L:=h
  simpa [Zu,Zn] using e
theorem ZnV {s d e:TypeId} {x:Operand} {q:Addr} {cp:Nat} {b:Int} (hg:Zo ops S g=some true) (hd:Zv n dst=true) (hs:P.underlying s=some (.slice e)) (hd':P.underlying d=some .string) (he:P.underlying e=some (.int .u8))
    (hx:ev S x=some (.slice (some q) 1 cp)) (hc:ZbG B L.flatten (some q) [.int .u8 b]) (h:K (str [UInt8.ofNat b.toNat]) D B L):opX P n ops i ⟨dst,.convert s d x,ty,pos,after,g⟩ K S D B L:=
  ZM hg hd (fun ρ hρ Q F q'=>by
    simp only [execOp,convert,hρ x _ hx,Zn,Zt hs,Zt hd',Zt he]
    exact Znm hc.app q') h
end
end Go.BL
namespace Go.BL
set_option linter.unusedVariables false
theorem All3.at {α:Type} {R:Zf8 α} {rows:List (List Value)} {xs:List α} {s:Cells} (h:All3 R rows xs s) :∀{i:Nat} {x:α},xs[i]? = some x→∃row li lr,rows[i]? = some row∧R row x li∧s.Perm (li ++ lr)∧∀x' li',R row x' li'→∃s',All3 R rows (xs.set i x') s'∧s'.Perm (li' ++ lr):=by
  induction h with
  | nil=>intro i x hx;simp at hx
  | @cons row0 x0 ins0 rest rows xs h1 h2 ih=>
    intro i x hx
    cases i with
    | zero=>
      simp only [List.getElem?_cons_zero,Option.some.injEq] at hx
      subst hx
      exact ⟨row0,ins0,rest,rfl,h1,.refl _,fun x' li' hr=>⟨li' ++ rest,.cons hr h2,.refl _⟩⟩
    | succ i=>
      obtain ⟨row,li,lr,e1,e2,e3,e4⟩:=ih (by simpa using hx)
      refine ⟨row,li,ins0 ++ lr,by simpa using e1,e2,?_,fun x' li' hr=>?_⟩
      · exact (List.Perm.append_left ins0 e3).trans (by rw [← List.append_assoc,← List.append_assoc];exact List.Perm.append_right lr List.perm_append_comm)
      · obtain ⟨s',f1,f2⟩:=e4 x' li' hr
        exact ⟨ins0 ++ s',.cons h1 f1,(List.Perm.append_left ins0 f2).trans (by rw [← List.append_assoc,← List.append_assoc];exact List.Perm.append_right lr List.perm_append_comm)⟩
theorem ZaP.open1 {α:Type} {l:Cells} {p:Option Addr} {c:Nat} {T:TypeId} {w:Nat} {R:Zf8 α} {xs:List α} (h:ZaP l p c T w R xs) {i:Nat} {x:α} (hx:xs[i]? = some x) :
∃b arr row li lr,p=some ⟨b,0,none⟩∧R row x li∧row.length=w∧l.Perm (li ++ (Z7 b arr T ++ lr))∧(∀(j:Nat) (u:Value),row[j]? = some u→arr[i*w+j]? = some u)∧
∀x' li',R row x' li'→ZaP (li' ++ (Z7 b arr T ++ lr)) p c T w R (xs.set i x'):=by
  obtain ⟨rows,blk,ins,h1,h2,h3,hvl⟩:=h
  have hlt:=(List.getElem?_eq_some_iff.1 hx).1
  obtain ⟨hl0,⟨_,h0,_,_⟩ | ⟨b,arr,rfl,ha,ht,rfl,hm⟩⟩:=hvl
  · omega
  · obtain ⟨row,li,lr,e1,e2,e3,e4⟩:=h1.at hx
    refine ⟨b,arr,row,li,lr,rfl,e2,h2 row (List.mem_of_getElem? e1),?_,fun j u hj=>?_,fun x' li' hr=>?_⟩
    · refine h3.trans ((List.Perm.append_left _ e3).trans ?_)
      rw [← List.append_assoc,← List.append_assoc];exact List.Perm.append_right lr List.perm_append_comm
    · have hu:=ZfI h2 e1 hj
      rw [← ht,List.getElem?_take] at hu
      split at hu
      · exact hu
      · cases hu
    · obtain ⟨s',f1,f2⟩:=e4 x' li' hr
      refine ⟨rows,Z7 b arr T,s',f1,h2,?_,by rw [List.length_set];exact hl0,.inr ⟨b,arr,rfl,ha,by rw [List.length_set];exact ht,rfl,by rw [List.length_set];exact hm⟩⟩
      refine List.Perm.trans ?_ (List.Perm.append_left _ f2.symm)
      rw [← List.append_assoc,← List.append_assoc];exact List.Perm.append_right lr List.perm_append_comm
section
variable {P:PJ} {n:Nat} {Q:Exit→Z9} {S:Env} {D:List Deferred} {B:Kn} {L:List Cells} {c:Code}
theorem Zrw {L':List Cells} (hp:L.flatten.Perm L'.flatten) (h:wpS P n c Q S D B L'):wpS P n c Q S D B L:=fun C k T hn hT hA=>by
  refine C.X.drop (r:=L'.flatten ++ C.F) (gl:=[]) ?_ (h C k T hn hT hA)
  rw [List.append_nil];exact hp.append_right C.F
theorem Zfj {a b:Cells} (j m:Nat) (hj:L[j]? = some a) (hm:L[m]? = some b) (hne:j≠m) (h:wpS P n c Q S D B ((L.set j (b ++ a)).set m [])):wpS P n c Q S D B L:=by
  refine Zrw ?_ h
  obtain ⟨r,h1,h2⟩:=ZR [] (b ++ a) hj
  have hm':(L.set j (b ++ a))[m]? = some b:=by rw [List.getElem?_set_ne hne];exact hm
  obtain ⟨r2,h3,h4⟩:=ZR [] [] hm'
  rw [List.append_nil] at h1 h2 h3 h4
  rw [List.nil_append] at h4
  have h5:(b ++ (a ++ r)).Perm (b ++ r2):=by rw [← List.append_assoc];exact h2.symm.trans h3
  exact h1.trans (((List.perm_append_left_iff b).1 h5).trans h4.symm)
end
end Go.BL
namespace Go.BL
set_option linter.unusedVariables false
theorem All3.row {α:Type} {R:Zf8 α} {rows:List (List Value)} {xs:List α} {s:Cells} (h:All3 R rows xs s) {z x:α} (f:List Value→List Value) (hf :∀row li,R row x li→R (f row) z li) :∀{k:Nat},xs[k]? = some x→∃row,rows[k]? = some row∧All3 R (rows.set k (f row)) (xs.set k z) s:=by
  induction h with
  | nil=>intro k hx;simp at hx
  | @cons row0 x0 ins0 rest rows xs h1 h2 ih=>
    intro k hx
    cases k with
    | zero=>
      simp only [List.getElem?_cons_zero,Option.some.injEq] at hx
      subst hx
      exact ⟨row0,rfl,.cons (hf _ _ h1) h2⟩
    | succ k=>
      obtain ⟨row,e1,e2⟩:=ih (k:=k) (by simpa using hx)
      exact ⟨row,by simpa using e1,.cons h1 e2⟩
theorem ZaP.cell {α:Type} {l:Cells} {p:Option Addr} {c:Nat} {T:TypeId} {w:Nat} {R:Zf8 α} {xs:List α} (h:ZaP l p c T w R xs) {i:Nat} {x:α} (hx:xs[i]? = some x) {B:Kn} {L:List Cells} (j:Nat) (hj:L[j]? = some l) :
∃b row li lr,p=some ⟨b,0,none⟩∧R row x li∧row.length=w∧l.Perm (li ++ lr)∧(∀(m:Nat) (u:Value),row[m]? = some u→ZaL B L.flatten ⟨b,i*w+m,none⟩ u)∧∀x' li',R row x' li'→ZaP (li' ++ lr) p c T w R (xs.set i x'):=by
  obtain ⟨b,arr,row,li,lr,e1,e2,e3,e4,e5,e6⟩:=h.open1 hx
  refine ⟨b,row,li,Z7 b arr T ++ lr,e1,e2,e3,e4,fun m u hm=>⟨rfl,arr.toArray,T,(0,0),.inr ?_,by simpa using e5 m u hm⟩,e6⟩
  obtain ⟨r,h1,h2⟩:=ZR [] [] hj
  rw [List.append_nil] at h1
  rw [h1.mem_iff]
  refine List.mem_append_left _ (e4.mem_iff.2 (List.mem_append_right _ (List.mem_append_left _ ?_)))
  exact List.mem_singleton.2 rfl
section
variable {P:PJ} {n:Nat} {ops:Array Oper} {i:Nat} {K:ZaS} {S:Env} {D:List Deferred} {B:Kn} {L:List Cells}
variable {dst:Option Tmp} {ty:TypeId} {pos:String} {after:Array Edge} {g:Option (Nat × Bool)}
theorem Zh6 {α:Type} {R:Zf8 α} {xs:List α} {x0:α} (z:α) {t T:TypeId} {x y:Operand} {v:Value} {us:List Value} {sz k c b:Nat} (off:Nat) {l:Cells} {p:Option Addr} (j:Nat) (hj:L[j]? = some l) (hv:ZaP l p c T sz R xs) (hp:p=some ⟨b,0,Option.none⟩) (hx0:xs[k]? = some x0) (hg:Zo ops S g=some true) (hd:Zv n dst=true) (hsz:ZP P t=some us.length)
    (hx:ev S x=some (ptr ⟨b,k*sz+off,Option.none⟩)) (hy:ev S y=some v) (hvc:v.cells=us.toArray) (ho:us.all Ze0=true) (hoff:off+us.length≤sz) (hr :∀row li,R row x0 li→R (ZY row off us) z li)
    (h :∀l',ZaP l' p c T sz R (xs.set k z)→K undef D B (L.set j l')):opX P n ops i ⟨dst,.store t x y,ty,pos,after,g⟩ K S D B L:=by
  subst hp
  obtain ⟨rows,blk,ins,h1,h2,h3,hl1,⟨hc,_⟩ | ⟨b',arr,e,ha,ht,rfl,hmc⟩⟩:=hv
  · cases hc
  · cases e
    have hk:=(List.getElem?_eq_some_iff.1 hx0).1
    obtain ⟨row,hrow,a1⟩:=h1.row (fun row=>ZY row off us) hr hx0
    have hw:row.length=sz:=h2 row (List.mem_of_getElem? hrow)
    have hsz1:(k+1)*sz≤xs.length*sz:=Nat.mul_le_mul_right sz hk
    have hcs:xs.length*sz≤c*sz:=Nat.mul_le_mul_right sz hmc
    rw [Nat.succ_mul] at hsz1
    have hb1:k*sz+off+us.length≤arr.length:=by omega
    refine Zk5 (L':=L.set j (Z7 b arr T ++ ins)) (K':=fun u D' B' L₁=>u=undef∧D'=D∧B'=B∧L₁=(L.set j (Z7 b arr T ++ ins)).set j (Z7 b (ZY arr (k*sz+off) us) T ++ ins)) ?_ ?_ ?_
    · obtain ⟨r,e1,e2⟩:=ZR [] (Z7 b arr T ++ ins) hj
      rw [List.append_nil] at e1 e2
      exact e1.trans ((h3.append_right r).trans e2.symm)
    · have hj':(L.set j (Z7 b arr T ++ ins))[j]? = some (Z7 b arr T ++ ins):=by
        rw [List.getElem?_set_self (List.getElem?_eq_some_iff.1 hj).1]
      exact Z4 us j (ZY arr (k*sz+off) us) hg hd hsz hx hy hvc ho (T:=T) (r:=ins) hj' rfl (by rw [Nat.ble_eq];exact hb1) rfl ⟨rfl,rfl,rfl,rfl⟩
    · rintro u D' B' L₁ hle ⟨rfl,rfl,rfl,rfl⟩
      have hnew:ZaP (Z7 b (ZY arr (k*sz+off) us) T ++ ins) (some ⟨b,0,Option.none⟩) c T sz R (xs.set k z):=by
        have hsl:(ZY row off us).length=sz:=by rw [ZV];exact hw
        have hwide:wide sz (rows.set k (ZY row off us)):=fun r' hr'=>by
          rcases List.mem_or_eq_of_mem_set hr' with hr' | rfl
          · exact h2 r' hr'
          · exact hsl
        refine ⟨rows.set k (ZY row off us),_,ins,a1,hwide,.refl _,?_,.inr ⟨b,_,rfl,by rw [ZV];exact ha,?_,rfl,by rw [List.length_set];exact hmc⟩⟩
        · rw [ZbX hwide,List.length_set,List.length_set,h1.len]
        · rw [List.length_set]
          have e:=ZcN (us:=us) (off:=off) h2 hrow hoff
          rw [ZcX _ _ _ _ (by omega) (by omega),ht,e]
      refine ⟨L.set j (Z7 b (ZY arr (k*sz+off) us) T ++ ins),[],?_,h _ hnew⟩
      rw [List.set_set,List.append_nil]
end
end Go.BL
namespace Go.BL
open Go.Conc (G)
set_option linter.unusedVariables false
section
variable {P:PJ} {n:Nat} {ops:Array Oper} {i:Nat} {K:ZaS} {S:Env} {D:List Deferred} {B:Kn} {L:List Cells}
variable {dst:Option Tmp} {ty:TypeId} {pos:String} {after:Array Edge} {g:Option (Nat × Bool)}
theorem Zsa {α:Type} {R:Zf8 α} {xs:List α} (z:α) {t u e:TypeId} {x y:Operand} {sz by_ m c c2:Nat} {p q:Option Addr} {row:List Value} {l:Cells} {inss r:List Cells} (j:Nat) (ks:List Nat) (hpk:ZaC L (j :: ks)=some (l :: inss,r)) (hnd:Zec (j :: ks)=true) (hv:ZaP l p c e sz R xs) (hm:m=xs.length) (hg:Zo ops S g=some true) (hd:Zv n dst=true)
    (he:Zcd P t e sz by_=true) (hu:(match P.underlying u with | some (.slice _)=>true | _=>false)=true) (hx:ev S x=some (.slice p m c)) (hy:ev S y=some (.slice q 1 c2)) (hs:ZbG B L.flatten q row) (hone:row.all Ze0=true) (hrl:row.length=sz) (ins0:Cells) (hi0:inss.flatten=ins0) (hr:R row z ins0) (hb1:(xs.length+1)*by_≤140737488355328)
    (h :∀l' p' c',ZaP l' p' c' e sz R (xs ++ [z])→K (.slice p' (xs ++ [z]).length c') D B (Zcc r (j :: ks) (l' :: inss.map fun _=>[]))):opX P n ops i ⟨dst,.call ⟨.builtin .append,#[x,y],#[t,u]⟩,ty,pos,after,g⟩ K S D B L:=by
  subst hm
  subst hi0
  obtain ⟨rows,blk,inn,h1,h2,h3,h4⟩:=hv
  have hpp:=Zac (j :: ks) L (l :: inss) r hpk
  have p1:L.flatten.Perm (blk ++ (inn ++ (inss.flatten ++ r.flatten))):=by
    refine hpp.trans ?_
    simp only [List.flatten_cons,List.append_assoc]
    refine (h3.append_right _).trans ?_
    rw [List.append_assoc]
  refine Zmd (L':=[blk,inn ++ (inss.flatten ++ r.flatten)]) (K':=fun v D' B' L₁=>∃blk' p' c',L₁=[blk',inn ++ (inss.flatten ++ r.flatten)]∧v = .slice p' (xs.length+1) c'∧D'=D∧B'=B∧Zg0 blk' p' (xs.length+1) c' e sz (rows.flatten ++ row)) ?_ ?_ ?_
  · simpa using p1
  · refine ZeJ 0 rfl h4 hg hd he hu hx hy ?_ (by rw [hrl,Nat.one_mul]) hone hb1 fun l' p' c' hv'=>⟨l',p',c',rfl,rfl,rfl,rfl,hv'⟩
    cases q with
    | none=>exact hs
    | some a=>
      intro jj v hjj
      exact (hs jj v hjj).perm (by simpa using p1)
  · rintro v D' B' L₁ hle ⟨blk',p',c',rfl,rfl,rfl,rfl,hv'⟩
    have hnew:ZaP (blk' ++ (inn ++ inss.flatten)) p' c' e sz R (xs ++ [z]):=⟨rows ++ [row],blk',inn ++ inss.flatten,h1.snoc hr,fun r' hr'=>by
      rcases List.mem_append.1 hr' with hr' | hr'
      · exact h2 r' hr'
      · rw [List.mem_singleton.1 hr'];exact hrl,.refl _,by rw [List.length_append,List.flatten_append];simpa using hv'⟩
    refine ⟨_,?_,by have:=h _ _ _ hnew;rwa [List.length_append] at this⟩
    have hq:=Zbn ((blk' ++ (inn ++ inss.flatten)) :: inss.map fun _=>[]) r (j :: ks) (Zbp hnd) (fun jj hj=>Zbo (j :: ks) L (l :: inss) r hpk jj (.inr hj))
    have hnil:((inss.map fun _=>([]:Cells))).flatten=[]:=by
      clear hpk hpp h hnew hs h3 p1 hq
      induction inss with
      | nil=>rfl
      | cons a as ih=>simp
    rw [List.flatten_cons,hnil,List.append_nil] at hq
    refine List.Perm.trans ?_ hq
    simp only [List.flatten_cons,List.flatten_nil,List.append_nil,List.append_assoc]
    exact .refl _
theorem Zag.borrowL {f:FuncId} {args:List Value} {ls:List Cells} {v:Value} (h:(∀p,p∈ls.flatten→(B.add ls.flatten).mem p.1=some p.2)→Zag P f args (B.add ls.flatten) v):Zx P f args B ls (fun v' B' Ls=>v'=v∧B'=B∧Ls=ls):=by
  have:=(Zx.borrowL (P:=P) (Ls:=[]) h).mono (Post':=fun v' B' Ls=>v'=v∧B'=B∧Ls=ls) fun v' B' Ls' _ ⟨B₂,Ls₂,a1,a2,_,_,a3,a4,a5,a6⟩=>by subst a5;subst a6;exact ⟨a4,a2.trans a3,by rw [a1,List.append_nil]⟩
  rwa [List.append_nil] at this
theorem Ze6 {f:FuncId} {xs:List Operand} {vs:List Value} {ats:Array TypeId} {v:Value} {ls r:List Cells} (js:List Nat) (hp:ZaC L js=some (ls,r)) (hput:Zcc r js ls=L) (hn:Zec js=true) (hg:Zo ops S g=some true) (hd:Zv n dst=true) (he:enters P f=true) (ha:evs S xs=some vs)
    (hc:Zx P f vs B ls (fun v' B' Ls=>v'=v∧B'=B∧Ls=ls)) (h:K v D B L):opX P n ops i ⟨dst,.call ⟨.value (.func f),xs.toArray,ats⟩,ty,pos,after,g⟩ K S D B L:=
  Zaj js hp hn hg hd he ha hc fun v' B' Ls' hle ⟨h1,h2,h3⟩=>by subst h1;subst h2;subst h3;rw [hput];exact h
end
theorem Zx.borrowK {P:PJ} {B:Kn} {f:FuncId} {args:List Value} {Ls:List Cells} {Post:Value→Kn→List Cells→Prop} (k:Nat)
    (h:(∀p,p∈(Ls.take k).flatten→(B.add (Ls.take k).flatten).mem p.1=some p.2)→Zx P f args (B.add (Ls.take k).flatten) (Ls.drop k) Post) :
    Zx P f args B Ls (fun v B' Ls'=>∃B₂ Ls₂,Ls'=Ls.take k ++ Ls₂∧B'=B₂.minus (Ls.take k).flatten∧(B.add (Ls.take k).flatten).le B₂∧(∀p,p∈(Ls.take k).flatten→(B.add (Ls.take k).flatten).mem p.1=some p.2)∧(B.add (Ls.take k).flatten).minus (Ls.take k).flatten=B∧Post v B₂ Ls₂):=by
  have:=Zx.borrowL (P:=P) (ls:=Ls.take k) (Ls:=Ls.drop k) h
  rwa [List.take_append_drop] at this
theorem ZoP {B:Kn} {ls:List Cells} {l:Cells} (hm :∀p,p∈ls.flatten→B.mem p.1=some p.2) (k:Nat) (hk:ls[k]? = some l) :∀q,q∈l→B.mem q.1=some q.2:=fun q hq=>hm q (List.mem_flatten.2 ⟨l,List.mem_of_getElem? hk,hq⟩)
theorem ZW.lendK {α:Type} {B BV:Kn} {l:Cells} {ls:List Cells} {p:Option Addr} {c:Nat} {T:TypeId} {w:Nat} {R:Rel α} {xs:List α} (h:ZW BV l p c T w R xs) (hR:ZnE R) (k:Nat) (hk:ls[k]? = some l) (hm :∀q,q∈ls.flatten→(B.add ls.flatten).mem q.1=some q.2) (hl:xs.length≤2000000):SlK (B.add ls.flatten) p c w R xs:=⟨h.rowsF hR (ZoP hm k hk),h.cap,hl⟩
theorem ZaP.lendK {α:Type} {B:Kn} {l:Cells} {ls:List Cells} {p:Option Addr} {c:Nat} {T:TypeId} {w:Nat} {R:Zf8 α} {R':Rel α} {xs:List α} (h:ZaP l p c T w R xs) (hR :∀{B:Kn} {row:List Value} {x:α} {ins:Cells},R row x ins→(∀q,q∈ins→B.mem q.1=some q.2)→R' B row x) (hM:Mono R') (k:Nat) (hk:ls[k]? = some l) (hm :∀q,q∈ls.flatten→(B.add ls.flatten).mem q.1=some q.2) (hl:xs.length≤2000000):SlK (B.add ls.flatten) p c w R' xs:=h.known (fun _ _ _ a b=>hR a b) hM (ZoP hm k hk) hl
theorem Zub {l a lr:Cells} (h:l.Perm (a ++ lr)):l.Perm (lr ++ ([a]:List Cells).flatten):=by
  simpa using h.trans List.perm_append_comm
theorem Zou {l a b lr:Cells} (h:l.Perm (a ++ b ++ lr)):l.Perm (lr ++ ([a,b]:List Cells).flatten):=by
  simpa using h.trans List.perm_append_comm
theorem ZtO {P:PJ} {n:Nat} {Q:Exit→Z9} {S:Env} {D:List Deferred} {B:Kn} {L:List Cells} {c:Code} (es:List Cells) (he:es.flatten=[]) (h:wpS P n c Q S D B (L ++ es)):wpS P n c Q S D B L:=
  Zrw (by rw [List.flatten_append,he,List.append_nil]) h
end Go.BL
namespace Go.BL
open Go.Conc (G)
set_option linter.unusedVariables false
def errv (tE:TypeId) (a:Nat→Addr):Nat→Value
  | 0=>.nilIface
  | k+1=>.iface tE (.pointer (some (a k)))
structure ErrsB (tE:TypeId) (gs:List Nat) (B:Kn) (a:Nat→Addr):Prop where
  row :∀k,k<4→ZaK B (gs.getD k 0) 0 [.iface tE (.pointer (some (a k)))]
  cell :∀k,k<4→∃cs T,B.mem (a k).block=some (.cells cs T (0,0))
  ne :∀i j,i<4→j<4→i≠j→a i≠a j
theorem ErrsB.mono {tE:TypeId} {gs:List Nat} {B B':Kn} {a:Nat→Addr} (h:ErrsB tE gs B a) (hle:B.le B'):ErrsB tE gs B' a:=
  ⟨fun k hk=>(h.row k hk).mono hle,fun k hk=>let ⟨cs,T,e⟩:=h.cell k hk;⟨cs,T,hle _ _ e⟩,h.ne⟩
theorem ErrsB.perm {tE:TypeId} {gs:List Nat} {B:Kn} {a:Nat→Addr} (h:ErrsB tE gs B a) (p0 p1 p2 p3:Nat) (hp:(p0<4∧p1<4∧p2<4∧p3<4)∧p0≠p1∧p0≠p2∧p0≠p3∧p1≠p2∧p1≠p3∧p2≠p3) :
    ErrsB tE [gs.getD p0 0,gs.getD p1 0,gs.getD p2 0,gs.getD p3 0] B (fun k=>a (if k=0 then p0 else if k=1 then p1 else if k=2 then p2 else p3)):=by
  obtain ⟨⟨h0,h1,h2,h3⟩,e⟩:=hp
  refine ⟨fun k hk=>?_,fun k hk=>?_,fun i j hi hj hne=>?_⟩
  · match k,hk with
    | 0,_=>exact h.row p0 h0
    | 1,_=>exact h.row p1 h1
    | 2,_=>exact h.row p2 h2
    | 3,_=>exact h.row p3 h3
  · match k,hk with
    | 0,_=>exact h.cell p0 h0
    | 1,_=>exact h.cell p1 h1
    | 2,_=>exact h.cell p2 h2
    | 3,_=>exact h.cell p3 h3
  · refine h.ne _ _ ?_ ?_ ?_
    · split
      · omega
      · split
        · omega
        · split <;> omega
    · split
      · omega
      · split
        · omega
        · split <;> omega
    · intro he
      match i,j,hi,hj with
      | 0,0,_,_=>exact hne rfl
      | 0,1,_,_=>exact e.1 he
      | 0,2,_,_=>exact e.2.1 he
      | 0,3,_,_=>exact e.2.2.1 he
      | 1,0,_,_=>exact e.1 he.symm
      | 1,1,_,_=>exact hne rfl
      | 1,2,_,_=>exact e.2.2.2.1 he
      | 1,3,_,_=>exact e.2.2.2.2.1 he
      | 2,0,_,_=>exact e.2.1 he.symm
      | 2,1,_,_=>exact e.2.2.2.1 he.symm
      | 2,2,_,_=>exact hne rfl
      | 2,3,_,_=>exact e.2.2.2.2.2 he
      | 3,0,_,_=>exact e.2.2.1 he.symm
      | 3,1,_,_=>exact e.2.2.2.2.1 he.symm
      | 3,2,_,_=>exact e.2.2.2.2.2 he.symm
      | 3,3,_,_=>exact hne rfl
section
variable {P:Program}
theorem ZqX {a:Addr} {B:Kn} {L:Cells} {Q:Bool→Kn→Cells→Prop} (q:Q true B L):hb P (sameAddr a a) Q B L:=by
  have e:sameAddr a a=pure true:=by simp [sameAddr]
  rw [e];exact q
theorem ZgJ {x:Addr} {cx:Array Value} {tx:TypeId} {B:Kn} {L:Cells} {Q:Bool→Kn→Cells→Prop} (hx:ZiI B L x.block (.cells cx tx (0,0))) (q:Q false B L):hb P (stringish x) Q B L:=by
  unfold stringish
  rw [Zn]
  refine ⟨_,hx,?_⟩
  simp only [ZbB,Zu,Zbi,Nat.not_lt_zero,decide_false,Bool.and_false,Bool.false_eq_true,if_false]
  rw [Zn]
  refine ⟨_,hx,?_⟩
  simp only [ZiP,Zu,Zbi]
  refine ⟨_,hx,?_⟩
  simp only [ZbB,Nat.not_lt_zero,decide_false,Bool.and_false]
  exact q
theorem Zkm {x:Addr} {cx:Array Value} {tx:TypeId} {B:Kn} {L:Cells} {Q:Unit→Kn→Cells→Prop} (hx:ZiI B L x.block (.cells cx tx (0,0))) (q:Q () B L):hb P (noView x) Q B L:=by
  unfold noView viewAt
  simp only [Zn]
  refine ⟨_,hx,?_⟩
  simp only [ZiP,Option.isSome_some,if_true,Zu,Zbi]
  exact q
theorem ZqY {a b:Addr} {ca cb:Array Value} {ta tb:TypeId} {B:Kn} {L:Cells} {Q:Bool→Kn→Cells→Prop} (hne:a≠b) (ha:ZiI B L a.block (.cells ca ta (0,0))) (hb':ZiI B L b.block (.cells cb tb (0,0))) (q:Q false B L):hb P (sameAddr a b) Q B L:=by
  unfold sameAddr
  by_cases h:a.block=b.block
  · have e1:(a.block == b.block)=true:=by simpa using h
    have e2:(a == b)=false:=by simpa using hne
    simp only [e1,if_true,e2];exact q
  · have e1:(a.block == b.block)=false:=by simpa using h
    simp only [e1,Bool.false_eq_true,if_false,Zn]
    refine ⟨_,ha,?_⟩
    have f1:ZbB a.off (.cells ca ta (0,0))=false:=by simp [ZbB]
    simp only [f1,Zu,Zbi,Bool.false_eq_true,if_false,Bool.false_and,Zn]
    refine ⟨_,hb',?_⟩
    simp only [Zu,Zbi,Zn]
    refine Zkm ha ?_
    rw [Zn]
    refine Zkm hb' ?_
    unfold mayBeOne
    simp only [Zn]
    refine ZgJ ha ?_
    rw [Zn]
    refine ZgJ hb' ?_
    simp only [Zn]
    refine ⟨_,ha,?_⟩
    simp only [Zu,Zbi,Zn]
    refine ⟨_,hb',?_⟩
    simp only [Bool.false_and,Bool.or_false,Bool.false_eq_true,if_false,Zu,Zbi]
    exact q
theorem Zus {tI tE te:TypeId} {ms:Array (String × TypeId)} {i:TypeInfo} {d:Nat} {x y:Addr} {B:Kn} {L:Cells} {Q:Bool→Kn→Cells→Prop} (hi:P.underlying tI=some (.interface ms)) (hp:P.underlying tE=some (.pointer te)) (hinfo:P.info? tE=some i) (hc:i.comparable=true) (hs:ZP P te=some (d+1))
    (h:hb P (sameAddr x y) Q B L):hb P (Op.equal tI (.iface tE (.pointer (some x))) (.iface tE (.pointer (some y)))) Q B L:=by
  show hb P (Op.equalIn (9999+1) tI _ _) Q B L
  rw [Op.equalIn,Zn,Zt hi]
  simp only [ne_eq,not_true_eq_false,if_false,Zn,Zbs hinfo,hc,Bool.not_true,Bool.false_eq_true]
  show hb P (Op.equalIn (9998+1) tE _ _) Q B L
  rw [Op.equalIn,Zn,Zt hp]
  simp only [Zn,Zau hs,ne_eq,Nat.add_eq_zero_iff,Nat.one_ne_zero,and_false,not_false_eq_true,if_true]
  exact h
theorem Zpu {tE:TypeId} {gs:List Nat} {B:Kn} {a:Nat→Addr} (h:ErrsB tE gs B a) {k:Nat} (hk:k<4) (L:Cells) :∃cs T,ZiI B L (a k).block (.cells cs T (0,0)):=
  let ⟨cs,T,e⟩:=h.cell k hk;⟨cs,T,.inl e⟩
theorem Zut {tI tE te:TypeId} {ms:Array (String × TypeId)} {i:TypeInfo} {d:Nat} {c k:Nat} {gs:List Nat} {a:Nat→Addr} {B:Kn} {L:Cells} {Q:Bool→Kn→Cells→Prop} (hE:ErrsB tE gs B a) (hcb:c<5) (hkb:k<4) (hi:P.underlying tI=some (.interface ms)) (hp:P.underlying tE=some (.pointer te)) (hinfo:P.info? tE=some i) (hc:i.comparable=true) (hs:ZP P te=some (d+1))
    (h:Q (decide (c=k+1)) B L):hb P (Op.equal tI (errv tE a c) (errv tE a (k+1))) Q B L:=by
  cases c with
  | zero=>
    show hb P (Op.equalIn (9999+1) tI .nilIface _) Q B L
    rw [Op.equalIn,Zn,Zt hi]
    simp only [errv,Zu]
    simpa using h
  | succ c=>
    refine Zus hi hp hinfo hc hs ?_
    by_cases e:c=k
    · subst e
      exact ZqX (by simpa using h)
    · obtain ⟨cs,T,h1⟩:=Zpu hE (k:=c) (by omega) L
      obtain ⟨cs',T',h2⟩:=Zpu hE hkb L
      exact ZqY (hE.ne c k (by omega) hkb e) h1 h2 (by simpa [e] using h)
end
section
variable {P:PJ} {n:Nat} {ops:Array Oper} {i:Nat} {K:ZaS} {S:Env} {D:List Deferred} {B:Kn} {L:List Cells}
variable {dst:Option Tmp} {ty:TypeId} {pos:String} {after:Array Edge} {g:Option (Nat × Bool)}
theorem Zg5 {t u:TypeId} {x:Operand} {tE:TypeId} {a:Nat→Addr} {c:Nat} {ms:Array (String × TypeId)} (hg:Zo ops S g=some true) (hd:Zv n dst=true) (hu:P.underlying t=some (.interface ms)) (hx:ev S x=some (errv tE a c)) (h:K (.bool (decide (c=0))) D B L):opX P n ops i ⟨dst,.binOp .eql t x (.const .nilIface) u,ty,pos,after,g⟩ K S D B L:=
  ZM hg hd (fun ρ hρ Q F q=>by
    have e0:ρ (.const .nilIface) = .nilIface:=hρ (.const .nilIface) _ rfl
    simp only [execOp,hρ x _ hx,e0,Zn]
    cases c with
    | zero=>
      simp only [errv,eqGuard,binOp,Bool.not_true,Bool.false_eq_true,if_false,Bool.or_true,if_true,Zu,Zn]
      show hb P (Op.equalIn (9999+1) t .nilIface .nilIface) _ B _
      rw [Op.equalIn,Zn,Zt hu]
      simp only [Zu]
      simpa using q
    | succ c=>
      simp only [errv,eqGuard,binOp,Bool.not_true,Bool.false_eq_true,if_false,Bool.or_true,if_true,Zu,Zn]
      show hb P (Op.equalIn (9999+1) t (.iface tE _) .nilIface) _ B _
      rw [Op.equalIn,Zn,Zt hu]
      simp only [Zu]
      simpa using q) h
theorem ZnU {t u:TypeId} {x y:Operand} {tE te:TypeId} {gs:List Nat} {a:Nat→Addr} {c k:Nat} {ms:Array (String × TypeId)} (hE:ErrsB tE gs B a) (hcb:c<5) (hkb:k<4) (hg:Zo ops S g=some true) (hd:Zv n dst=true) (hu:P.underlying t=some (.interface ms)) (hp:P.underlying tE=some (.pointer te)) (hinf:(P.info? tE).map (·.comparable)=some true) (hs:ZP P te=some 1)
    (hx:ev S x=some (errv tE a c)) (hy:ev S y=some (errv tE a (k+1))) (h:K (.bool (decide (c=k+1))) D B L):opX P n ops i ⟨dst,.binOp .eql t x y u,ty,pos,after,g⟩ K S D B L:=
  ZM hg hd (fun ρ hρ Q F q=>by
    obtain ⟨inf,hinfo,hc⟩:=Option.map_eq_some_iff.1 hinf
    have hpl:Zgs (errv tE a c) (errv tE a (k+1))=true:=by cases c <;> rfl
    simp only [execOp,hρ x _ hx,hρ y _ hy,Zn,Zfv hpl,ZkD (.inl hpl)]
    exact Zut hE hcb hkb hu hp hinfo hc hs q) h
theorem Zg6 {x:Operand} {xt t asserted:TypeId} {v:Value} {want:Array (String × TypeId)} (hg:Zo ops S g=some true) (hd:Zv n dst=true) (hu:P.underlying asserted=some (.interface want)) (hl:(P.info? t).map (fun i=>(lacking want i.methods).isEmpty)=some false) (hz:Zal P asserted=some .nilIface)
    (hx:ev S x=some (.iface t v)) (h:K (.tuple #[.nilIface,.bool false]) D B L):opX P n ops i ⟨dst,.typeAssert x xt asserted true,ty,pos,after,g⟩ K S D B L:=
  ZM hg hd (fun ρ hρ Q F q=>by
    obtain ⟨j,hj,hm⟩:=Option.map_eq_some_iff.1 hl
    obtain ⟨m,hm⟩:=missingMethod_some (want:=want) (got:=j.methods) (fun e=>by rw [e] at hm;cases hm)
    simp only [execOp,Instr.typeAssert,hρ x _ hx,Zn,Zt hu,Zbs hj,hm,if_true,Zbr hz,Zu]
    exact q) h
theorem ZtN {f:FuncId} {fn:Func} {ext:Array Value→Sem Value} {x:Operand} {ats:Array TypeId} {v r:Value} (hg:Zo ops S g=some true) (hd:Zv n dst=true) (hf:P.funcs[f]? = some fn) (hname:(fn.name == "runtime.NumGoroutine")=false) (hb0:fn.body.isNone=true) (hn:Extern.findNext fn=none) (he:Extern.find fn=some ext)
    (hx:ev S x=some v) (hr :∀(Q:Value→Kn→Cells→Prop) B L,hb P (ext #[v]) Q B L=Q r B L) (h:K r D B L):opX P n ops i ⟨dst,.call ⟨.value (.func f),#[x],ats⟩,ty,pos,after,g⟩ K S D B L:=
  Zdi hg hd fun ρ hρ F=>by
    have e0:ρ (.func f) = .func (.func f) #[] #[]:=hρ (.func f) _ rfl
    simp only [execOp,resolve,e0,Deferred.ofValue,Zn,Zu,invoke,List.map_toArray,List.map_cons,List.map_nil,hρ x _ hx]
    have e:(#[] ++ #[v]:Array Value) ++ #[] = #[v]:=by simp
    rw [e]
    simp only [callFunc,Zn,ZbV,hf,hname,Bool.false_eq_true,if_false,hb0,if_true,hn,he]
    refine ⟨rfl,?_⟩
    simp only [Zbi,Zu,Zn,hr]
    exact ⟨L,.of (.refl _),h⟩
theorem ZtK {f:FuncId} {fn:Func} {ext:Array Value→Sem Value} {x:Operand} {t:TypeId} {name:String} {ats:Array TypeId} {v u r:Value} (hg:Zo ops S g=some true) (hd:Zv n dst=true) (hf:P.funcs[f]? = some fn) (hname:(fn.name == "runtime.NumGoroutine")=false) (hb0:fn.body.isNone=true) (hn:Extern.findNext fn=none) (he:Extern.find fn=some ext)
    (hx:ev S x=some (.iface t v)) (hm :∀(k:Nat) (Q:FuncId × Value→Kn→Cells→Prop) B L,hb P (method (k+1) t v name) Q B L=Q (f,u) B L) (hr :∀(Q:Value→Kn→Cells→Prop) B L,hb P (ext #[u]) Q B L=Q r B L) (h:K r D B L):opX P n ops i ⟨dst,.call ⟨.invoke x name,#[],ats⟩,ty,pos,after,g⟩ K S D B L:=
  Zdi hg hd fun ρ hρ F=>by
    have e1:(#[Value.iface t v] ++ #[])[0]? = some (.iface t v):=by simp
    have e2:(#[Value.iface t v] ++ #[]).extract 1 (#[Value.iface t v] ++ #[]).size = #[]:=by apply Array.ext';simp
    have e3 : #[u] ++ #[] = #[u]:=by simp
    simp only [execOp,resolve,hρ x _ hx,Zn,Zu,invoke,List.map_toArray,List.map_nil,e1,e2,callMethod,ZbV]
    have hpos:0<Made.depth:=by decide
    obtain ⟨d,hd'⟩ :∃d,P.types.size+Made.depth=d+1:=⟨P.types.size+Made.depth - 1,by omega⟩
    rw [hd',hm]
    simp only [e3,callFunc,Zn,ZbV,hf,hname,Bool.false_eq_true,if_false,hb0,if_true,hn,he]
    refine ⟨rfl,?_⟩
    simp only [Zbi,Zu,Zn,hr]
    exact ⟨L,.of (.refl _),h⟩
end
end Go.BL
namespace Go.BL
open Go.ChangeShapes Go.WideShapes Go.ChangeAt Go.RowKit Go.Conc
set_option linter.unusedVariables false
section
variable {H:Type} {enc:TypeId × Value→H} {P:Program}
theorem ZmH {t:TypeId} {ms:Array (String × TypeId)} (hu:P.underlying t=some (.interface ms)) {W W':World} {sp sp':Nat→Bool} {fuel:Nat} {cs:List Value} : DataW.trod enc P W 0 sp true fuel t cs=DataW.trod enc P W' 0 sp' true fuel t cs:=by
  cases fuel with
  | zero=>simp [DataW.trod]
  | succ n=>
    cases cs with
    | nil=>simp [DataW.trod,hu]
    | cons x xs=>
      cases xs with
      | nil=>cases x <;> simp [DataW.trod,hu]
      | cons y ys=>cases x <;> simp [DataW.trod,hu]
theorem Zp6 {W W':World} (hk:Kept W W') {n:String} {g:Nat} {cs:Array Value} (hg:P.globalNamed n=some g) (hlt:g<W.heap.size) (h:W.var? P n=some cs):W'.var? P n=some cs:=by
  simp only [World.var?,hg,Option.bind_some] at h ⊢
  rw [hk.1 g hlt];exact h
theorem ZjT {W W':World} (hk:Kept W W') {sp sp':Nat→Bool} :∀{ns:List String} {gs:List (DataW H)} {ps:List MemPlace},(∀n,n∈ns→∀g t,P.globalNamed n=some g→(P.globals[g]?).map (·.type)=some t→∃ms,P.underlying t=some (.interface ms))→
    DataW.TrodVars enc P W sp ns gs ps→(∀n,n∈ns→∀g,P.globalNamed n=some g→g<W.heap.size)→DataW.TrodVars enc P W' sp' ns gs ps
  | [],[],_,_,h,_=>h
  | n :: ns,d :: ds,ps,ht,⟨g,t,cs,fuel,p,q,hg,hty,hv,hd,hr,e⟩,hlt=>by
    obtain ⟨ms,hu⟩:=ht n (List.mem_cons_self ..) g t hg hty
    exact ⟨g,t,cs,fuel,p,q,hg,hty,Zp6 hk hg (hlt n (List.mem_cons_self ..) g hg) hv,(ZmH hu).trans hd,
      ZjT hk (fun n hn=>ht n (List.mem_cons_of_mem _ hn)) hr (fun n hn=>hlt n (List.mem_cons_of_mem _ hn)),e⟩
  | [],_ :: _,_,_,h,_=>h.elim
  | _ :: _,[],_,_,h,_=>h.elim
theorem ZnW {W:World} {sp:Nat→Bool} :∀{ns:List String} {gs:List (DataW H)} {ps:List MemPlace},DataW.TrodVars enc P W sp ns gs ps→∀n,n∈ns→∀g,P.globalNamed n=some g→g<W.heap.size
  | [],_,_,_,n,hn,_,_=>by cases hn
  | m :: ns,d :: ds,ps,⟨g,t,cs,fuel,p,q,hg,hty,hv,hd,hr,e⟩,n,hn,g',hg'=>by
    rcases List.mem_cons.1 hn with rfl | hn
    · obtain rfl:=Option.some.inj (hg.symm.trans hg')
      simp only [World.var?,hg,Option.bind_some] at hv
      rcases Nat.lt_or_ge g W.heap.size with h | h
      · exact h
      · rw [Array.getElem?_eq_none h] at hv;cases hv
    · exact ZnW hr n hn g' hg'
  | _ :: _,[],_,h,_,_,_,_=>h.elim
theorem ZlU {W:World} {sp:Nat→Bool} :∀{ns:List String} {gs:List (DataW H)} {ps:List MemPlace},DataW.TrodVars enc P W sp ns gs ps→gs.length=ns.length
  | [],[],_,_=>rfl
  | n :: ns,d :: ds,ps,⟨g,t,cs,fuel,p,q,hg,hty,hv,hd,hr,e⟩=>by rw [List.length_cons,List.length_cons,ZlU hr]
  | [],_ :: _,_,h=>h.elim
  | _ :: _,[],_,h=>h.elim
theorem ZoQ {f:Func} {s:ChangeSpec} {apart fresh handsOn again:Bool} {W W':World} {args:Array Value} {ds gs:List (DataW H)} {before:List MemPlace} {tb:TypeId}
    (hl:laidOutB P=true) (hts:(f.params.toList.all fun t=>P.readableRec t && decide (t<P.types.size))=true) (hres:f.resultTypes.toList=[tb]) (hb:P.underlying tb=some .bool)
    (hvars :∀n,n∈s.vars→∀g t,P.globalNamed n=some g→(P.globals[g]?).map (·.type)=some t→∃ms,P.underlying t=some (.interface ms))
    (hW:DataW.Whole enc P f.params.toList s.vars apart W args.toList ds gs before) (hfn :∀ds' gs',gs'.length=s.vars.length→ds'.length=f.params.toList.length→s.fn H (ds' ++ gs') = { results:=[.lit (.bool true)],args:=ds',vars:=gs' })
    (hk:Kept W W'):s.post enc P f apart fresh handsOn again W args (.bool true) W':=by
  have hlt:=hW.lt
  have hW':=hW
  obtain ⟨p,q,hA0,hV,rfl,hfz,hnd⟩:=hW
  have hlen:=(trodAll_length hA0).2
  have hvl:gs.length=s.vars.length:=ZlU hV
  have hf2:=hfn ds gs hvl hlen
  have hr2:f.resultTypes = #[tb]:=by apply Array.ext';rw [hres]
  refine post_of_same (pa:=p) (pv:=q) hW' (fun b sp hd=>?_) (fun sp hsp=>?_) (fun sp hsp=>?_) rfl (hk.2.frame _) hk.2.2.1 ?_
  · rw [hf2,hr2]
    exact trodAll_cons_mk (shut_bool hb _) trodAll_mk0
  · rw [hf2]
    exact Zl5 hl hk hts hA0 (fun x hx=>hlt x (List.mem_append_left _ hx)) (fun x hx=>hsp x (List.mem_append_left _ hx))
  · rw [hf2]
    exact ZjT hk hvars hV (ZnW hV)
  · intro j t r h1 h2
    rw [hr2] at h1 h2
    cases j with
    | zero=>
      simp only [List.getElem?_toArray,List.getElem?_cons_zero,Option.some.injEq] at h1
      simp [Value.resultList] at h2
      subst h1;subst h2
      exact okWide_bool_mk hb _
    | succ j=>simp at h1
theorem ZkO {ns:List String} (h:(ns.all fun n=>match P.globalNamed n with | some g=>(match (P.globals[g]?).map (·.type) with | some t=>(match P.underlying t with | some (.interface _)=>true | _=>false) | none=>true) | none=>true)=true) :
∀n,n∈ns→∀g t,P.globalNamed n=some g→(P.globals[g]?).map (·.type)=some t→∃ms,P.underlying t=some (.interface ms):=fun n hn g t hg ht=>by
  have h1:=List.all_eq_true.1 h n hn
  simp only [hg,ht] at h1
  split at h1
  · exact ⟨_,by assumption⟩
  · cases h1
theorem Zqk {ts:Array TypeId} (h:(ts.toList.all fun t=>!P.wantsStandIn t)=true) {j:Nat} {t:TypeId} (ht:ts[j]? = some t):P.wantsStandIn t=false:=by
  have:=List.all_eq_true.1 h t (by
    rw [← Array.getElem?_toList] at ht
    exact List.mem_of_getElem? ht)
  simpa using this
theorem ZjV {a:Assume} {C:Checked} {os:Os} {f:FuncId} {fn:Func} {s:ChangeSpec} {conds:List PathCond} {apart fresh handsOn again:Bool} {laid:List (String × DataW Unit)}
    (own:ownKnob C.prog.godebug=none) (started:os.Started) (hfn:C.prog.funcs[f]? = some fn)
    (witness :∃(w:World) (tape:Tape) (i:Input),w.os=os∧(w.forCall tape i).Shaped C.prog∧i.vars=[]∧Input.okWide C.prog (w.forCall tape i) .any w.heap.size f i∧
      ((s.pre enc C.prog fn conds apart (w.forCall tape i).memory i.args∧laidMetH C.prog laid (w.forCall tape i).memory)∧sizedMet enc C.prog fn (OpenSpec.ofChange s) apart (w.forCall tape i).memory i.args)∧a.holds C.prog (lone (Frame.enter C.prog f i.args .normal) [] (w.forCall tape i)))
    (runs :∀(W:World) (base:Nat) (args:Array Value) (ds gs:List (DataW H)) (before:List MemPlace),
      (∀(j:Nat) t v,fn.params[j]? = some t→args[j]? = some v→Value.okWide C.prog W .any base t v)→
      DataW.Whole enc C.prog fn.params.toList s.vars apart W args.toList ds gs before→
      (DataW.weightsEach C.prog (fn.params.toList ++ s.plain.varTypes C.prog) (ds ++ gs)).all (·≤reachBytes)=true→
      laidMetH C.prog laid W→
∃M last o w' t',runNT C.prog (M+1) (solo (G (Frame.enter C.prog f args .normal) []) W) #[]=(.ended o w',t')∧runN C.prog M (solo (G (Frame.enter C.prog f args .normal) []) W) = .next last∧
        step C.prog last = .ended o w'∧Conc.Good C.prog (fun v W'=>s.post enc C.prog fn apart fresh handsOn again W args v W') last o w' t') :
    ReturnsInLeavingWide a C os f .any (fun w args=>(s.pre enc C.prog fn conds apart w args∧laidMetH C.prog laid w)∧sizedMet enc C.prog fn (OpenSpec.ofChange s) apart w args) (s.post enc C.prog fn apart fresh handsOn again):=by
  refine returnsInLeavingWide_of_good own started witness ?_
  intro w tape i _ _ _ hok hpre hholds
  obtain ⟨_,_,_,fn',hfn',_,_,_,_,hval⟩:=hok
  have e:fn'=fn:=Option.some.inj (hfn'.symm.trans hfn)
  subst e
  obtain ⟨⟨⟨ds,gs,before,hw,hc⟩,hL⟩,hz⟩:=hpre
  have hw':=DataW.Whole.of_heap (w':=w.forCall tape i) (by rfl) hw
  have hL':=hL.of_heap (w':=w.forCall tape i) (by rfl)
  obtain ⟨M,last,o,w',t',h1,h2,h3,h4⟩:=runs (w.forCall tape i) w.heap.size i.args ds gs before hval hw' (hz.weights hw) hL'
  exact ⟨M,last,o,w',t',h1,h2,h3,h4.mono fun v hp=>ChangeSpec.post_blind hp⟩
theorem Zpv {n0 n1 n2 n3 nm:String} {x0 x1 x2 x3:List UInt8} {r:List (String × DataW Unit)} {W:World} {k0 k1 k2 k3:Nat} {ti tp te ts:TypeId} {ms:Array (String × TypeId)} {f:Field}
    (h:laidMet P ((n0,.iface nm (.ptr (.agg [.lit (.string x0)]))) :: (n1,.iface nm (.ptr (.agg [.lit (.string x1)]))) :: (n2,.iface nm (.ptr (.agg [.lit (.string x2)]))) :: (n3,.iface nm (.ptr (.agg [.lit (.string x3)]))) :: r) W)
    (hg0:P.globalNamed n0=some k0) (hg1:P.globalNamed n1=some k1) (hg2:P.globalNamed n2=some k2) (hg3:P.globalNamed n3=some k3) (hy0:(P.globals[k0]?).map (·.type)=some ti) (hy1:(P.globals[k1]?).map (·.type)=some ti) (hy2:(P.globals[k2]?).map (·.type)=some ti) (hy3:(P.globals[k3]?).map (·.type)=some ti)
    (hi:P.underlying ti=some (.interface ms)) (hrow :∀u,P.typeName? 3 u=some nm→u=tp)
    (hp:P.underlying tp=some (.pointer te)) (he:P.underlying te=some (.struct #[f])) (hft:f.type=ts) (hfo:f.offset=0) (hs:P.underlying ts=some .string) (hc:P.cellsOf te=1) (hcs:P.cellsOf ts=1) :
∃a:Nat→Addr,ErrsB tp [k0,k1,k2,k3] (Zbc W) a:=by
  obtain ⟨ps,⟨g0,t0,cs0,f0,p0,q0,hg0',ht0',hv0,hd0,⟨g1,t1,cs1,f1,p1,q1,hg1',ht1',hv1,hd1,⟨g2,t2,cs2,f2,p2,q2,hg2',ht2',hv2,hd2,⟨g3,t3,cs3,f3,p3,q3,hg3',ht3',hv3,hd3,_,e3⟩,e2⟩,e1⟩,e0⟩,hnd,hrows⟩:=h
  obtain rfl:=Option.some.inj (hg0.symm.trans hg0')
  obtain rfl:=Option.some.inj (hg1.symm.trans hg1')
  obtain rfl:=Option.some.inj (hg2.symm.trans hg2')
  obtain rfl:=Option.some.inj (hg3.symm.trans hg3')
  obtain rfl:=Option.some.inj (hy0.symm.trans ht0')
  obtain rfl:=Option.some.inj (hy1.symm.trans ht1')
  obtain rfl:=Option.some.inj (hy2.symm.trans ht2')
  obtain rfl:=Option.some.inj (hy3.symm.trans ht3')
  subst e3
  subst e2
  subst e1
  subst e0
  obtain ⟨l0⟩:=cs0
  obtain ⟨l1⟩:=cs1
  obtain ⟨l2⟩:=cs2
  obtain ⟨l3⟩:=cs3
  have ok0 :∀u v,l0=[.iface u v]→Value.okWide P W .any 0 u v:=fun u v e=>by
    subst e
    exact (hrows k0 0 (by simp [MemPlace.row])).2 u v (by simpa using World.var?_cell hg0' hv0 0)
  have ok1 :∀u v,l1=[.iface u v]→Value.okWide P W .any 0 u v:=fun u v e=>by
    subst e
    exact (hrows k1 0 (by simp [MemPlace.row])).2 u v (by simpa using World.var?_cell hg1' hv1 0)
  have ok2 :∀u v,l2=[.iface u v]→Value.okWide P W .any 0 u v:=fun u v e=>by
    subst e
    exact (hrows k2 0 (by simp [MemPlace.row])).2 u v (by simpa using World.var?_cell hg2' hv2 0)
  have ok3 :∀u v,l3=[.iface u v]→Value.okWide P W .any 0 u v:=fun u v e=>by
    subst e
    exact (hrows k3 0 (by simp [MemPlace.row])).2 u v (by simpa using World.var?_cell hg3' hv3 0)
  obtain ⟨a0,s0,rfl,hc0,hs0,hz0,rfl⟩:=errorString_of_trod hi hrow hp he hft hfo hs hc hcs hd0 ok0
  obtain ⟨a1,s1,rfl,hc1,hs1,hz1,rfl⟩:=errorString_of_trod hi hrow hp he hft hfo hs hc hcs hd1 ok1
  obtain ⟨a2,s2,rfl,hc2,hs2,hz2,rfl⟩:=errorString_of_trod hi hrow hp he hft hfo hs hc hcs hd2 ok2
  obtain ⟨a3,s3,rfl,hc3,hs3,hz3,rfl⟩:=errorString_of_trod hi hrow hp he hft hfo hs hc hcs hd3 ok3
  have b0:=(hrows a0.block a0.off (by simp [MemPlace.row])).1
  have b1:=(hrows a1.block a1.off (by simp [MemPlace.row])).1
  have b2:=(hrows a2.block a2.off (by simp [MemPlace.row])).1
  have b3:=(hrows a3.block a3.off (by simp [MemPlace.row])).1
  have row :∀(g:Nat) (v:Value) (n:String),P.globalNamed n=some g→W.var? P n=some #[v]→ZaK (Zbc W) g 0 [v]:=fun g v n hg hv L j u hj=>by
    cases j with
    | zero=>
      simp only [List.getElem?_cons_zero,Option.some.injEq] at hj
      subst hj
      have:=ZhR (by simpa using World.var?_cell hg hv 0:W.cell? ⟨g,0,none⟩=some v)
      obtain ⟨h1,cs,T,fr,h2,h3⟩:=this
      exact ⟨h1,cs,T,fr,h2.elim .inl (fun h=>by cases h),h3⟩
    | succ j=>simp at hj
  refine ⟨fun k=>if k=0 then a0 else if k=1 then a1 else if k=2 then a2 else a3,fun k hk=>?_,fun k hk=>?_,fun i j hi' hj' hne=>?_⟩
  · match k,hk with
    | 0,_=>exact row k0 _ _ hg0 hv0
    | 1,_=>exact row k1 _ _ hg1 hv1
    | 2,_=>exact row k2 _ _ hg2 hv2
    | 3,_=>exact row k3 _ _ hg3 hv3
  · match k,hk with
    | 0,_=>exact b0
    | 1,_=>exact b1
    | 2,_=>exact b2
    | 3,_=>exact b3
  · have h01:a0≠a1:=by rintro rfl;simp [MemPlace.row] at hnd
    have h02:a0≠a2:=by rintro rfl;simp [MemPlace.row] at hnd
    have h03:a0≠a3:=by rintro rfl;simp [MemPlace.row] at hnd
    have h12:a1≠a2:=by rintro rfl;simp [MemPlace.row] at hnd
    have h13:a1≠a3:=by rintro rfl;simp [MemPlace.row] at hnd
    have h23:a2≠a3:=by rintro rfl;simp [MemPlace.row] at hnd
    match i,j,hi',hj',hne with
    | 0,1,_,_,_=>exact h01
    | 0,2,_,_,_=>exact h02
    | 0,3,_,_,_=>exact h03
    | 1,0,_,_,_=>exact h01.symm
    | 1,2,_,_,_=>exact h12
    | 1,3,_,_,_=>exact h13
    | 2,0,_,_,_=>exact h02.symm
    | 2,1,_,_,_=>exact h12.symm
    | 2,3,_,_,_=>exact h23
    | 3,0,_,_,_=>exact h03.symm
    | 3,1,_,_,_=>exact h13.symm
    | 3,2,_,_,_=>exact h23.symm
    | 0,0,_,_,h=>exact (h rfl).elim
    | 1,1,_,_,h=>exact (h rfl).elim
    | 2,2,_,_,h=>exact (h rfl).elim
    | 3,3,_,_,h=>exact (h rfl).elim
end
theorem ZpN (Lk:Looks) {p:Pinned} {s:OpenSpec} {c:OpenClaim} (kinds:List LaidKind) (tests:Bool) (har:Bool × String) (lk:Bool)
    (hc:c.holds p s) (hw:c.wfByText s=true) (htie:c.laidByTextAt Lk p kinds tests)
    (hst:c.start = .entering) (hnb:c.noBlocks=false∧c.again=false) (hm:p.checked.prog.mainIs=some (har.1,har.2.toList)) (hn:(!har.1 && har.2.isEmpty && !lk)=false)
    (hl :∀f fn,p.checked.prog.funcNamed c.func=some f→p.checked.prog.funcs[f]? = some fn→lk=p.checked.prog.looks []∧∀(j:Nat) t,fn.params[j]? = some t→p.checked.prog.wantsStandIn t=false)
    (hg:true=c.goesBy p.checked.prog) :
    Claim7.holds p (.plain s) { stood:={ row:=c,standIns:=[],harness:=har,looks:=lk },kinds:=[],alts:=[],goes:=true,laidByText:=true,laidKinds:=kinds,laidTests:=tests,laidLooks:=Lk }:=by
  have h6 :∀r:OpenClaim,Claim7.isSixth { stood:={ row:=r,standIns:=[],harness:=har,looks:=lk },kinds:=[] } = false:=fun r=>by simpa [Claim7.isSixth] using hn
  refine ⟨Claim7.tied_new_at Lk kinds tests (Claim7.new_of_sixth hc har lk hst hnb hm (h6 c) hl) hw,(fun D hD=>by cases hD),htie,(fun h=>by cases h),hg⟩
end Go.BL
namespace Go.BL
open Go.Conc (G)
set_option linter.unusedVariables false
section
variable {P:PJ} {n:Nat} {ops:Array Oper} {i:Nat} {K:ZaS} {S:Env} {D:List Deferred} {B:Kn} {L:List Cells}
variable {dst:Option Tmp} {ty:TypeId} {pos:String} {after:Array Edge} {g:Option (Nat × Bool)}
theorem Zr8 {f:FuncId} {x:Operand} {cap:Array Value} {xs:List Operand} {vs:List Value} {ats:Array TypeId} {Post:Value→Kn→List Cells→Prop} (js:List Nat) {ss r:List Cells} (hp:ZaC L js=some (ss,r)) (hn:Zec js=true) (hg:Zo ops S g=some true) (hd:Zv n dst=true) (he:enters P f=true) (hx:ev S x=some (.func (.func f) #[] cap)) (ha:evs S xs=some vs) (hc:Zx P f (vs ++ cap.toList) B ss Post)
    (h :∀v B' Ls',B.le B'→Post v B' Ls'→K v D B' (Zcc r js Ls')):opX P n ops i ⟨dst,.call ⟨.value x,xs.toArray,ats⟩,ty,pos,after,g⟩ K S D B L:=
  Zdz (o:=⟨dst,.call ⟨.value x,xs.toArray,ats⟩,ty,pos,after,g⟩) (vs:=vs ++ cap.toList) hg (fun ρ hρ Q F q=>by
      have:=Zea (P:=P) (B:=B) (L:=L) (dst:=dst) (ty:=ty) (pos:=pos) (after:=after) (g:=g) (x:=x) (first:=#[]) (cap:=cap) (ats:=ats) he hx ha ρ hρ Q F
      exact this (by simpa using q)) hd (Ls:=ss) (Lk:=r) (Zac js L ss r hp) hc
    fun v' B' Ls' hle hq=>⟨Zcc r js Ls',Zbn Ls' r js (Zbp hn) (fun j hj=>Zbo js L ss r hp j (.inr hj)),h v' B' Ls' hle hq⟩
theorem All3.turn {α:Type} {R:Zf8 α} {rows:List (List Value)} {xs:List α} {s:Cells} (h:All3 R rows xs s) {z x:α} {ex:Cells} (f:List Value→List Value) (hf :∀row li,R row x li→∃li' gl,R (f row) z li'∧(li ++ ex).Perm (li' ++ gl)) :∀{k:Nat},xs[k]? = some x→∃row s' gl,rows[k]? = some row∧All3 R (rows.set k (f row)) (xs.set k z) s'∧(s ++ ex).Perm (s' ++ gl):=by
  induction h with
  | nil=>intro k hx;simp at hx
  | @cons row0 x0 ins0 rest rows xs h1 h2 ih=>
    intro k hx
    cases k with
    | zero=>
      simp only [List.getElem?_cons_zero,Option.some.injEq] at hx
      subst hx
      obtain ⟨li',gl,e1,e2⟩:=hf _ _ h1
      refine ⟨row0,li' ++ rest,gl,rfl,.cons e1 h2,?_⟩
      have e3:(ins0 ++ rest ++ ex).Perm ((ins0 ++ ex) ++ rest):=by
        rw [List.append_assoc,List.append_assoc];exact List.Perm.append_left _ List.perm_append_comm
      refine e3.trans ((e2.append_right rest).trans ?_)
      rw [List.append_assoc,List.append_assoc];exact List.Perm.append_left _ List.perm_append_comm
    | succ k=>
      obtain ⟨row,s',gl,e1,e2,e3⟩:=ih (k:=k) (by simpa using hx)
      refine ⟨row,ins0 ++ s',gl,by simpa using e1,.cons h1 e2,?_⟩
      rw [List.append_assoc,List.append_assoc]
      exact List.Perm.append_left ins0 e3
theorem Zty {α:Type} {R:Zf8 α} {xs:List α} {x0:α} (z:α) {t T:TypeId} {x y:Operand} {v:Value} {us:List Value} {sz k c b:Nat} (off:Nat) {l:Cells} {p:Option Addr} {inss r:List Cells} (j:Nat) (ks:List Nat) (hpk:ZaC L (j :: ks)=some (l :: inss,r)) (hnd:Zec (j :: ks)=true) (hv:ZaP l p c T sz R xs) (hp:p=some ⟨b,0,Option.none⟩) (hx0:xs[k]? = some x0) (hg:Zo ops S g=some true) (hd:Zv n dst=true) (hsz:ZP P t=some us.length)
    (hx:ev S x=some (ptr ⟨b,k*sz+off,Option.none⟩)) (hy:ev S y=some v) (hvc:v.cells=us.toArray) (ho:us.all Ze0=true) (hoff:off+us.length≤sz) (hr :∀row li,R row x0 li→∃li' gl,R (ZY row off us) z li'∧(li ++ inss.flatten).Perm (li' ++ gl))
    (h :∀l',ZaP l' p c T sz R (xs.set k z)→K undef D B (Zcc r (j :: ks) (l' :: inss.map fun _=>[]))):opX P n ops i ⟨dst,.store t x y,ty,pos,after,g⟩ K S D B L:=by
  subst hp
  obtain ⟨rows,blk,ins,h1,h2,h3,hl1,⟨hc,_⟩ | ⟨b',arr,e,ha,ht,rfl,hmc⟩⟩:=hv
  · cases hc
  · cases e
    have hk:=(List.getElem?_eq_some_iff.1 hx0).1
    obtain ⟨row,s',gl,hrow,a1,a2⟩:=h1.turn (fun row=>ZY row off us) hr hx0
    have hw:row.length=sz:=h2 row (List.mem_of_getElem? hrow)
    have hsz1:(k+1)*sz≤xs.length*sz:=Nat.mul_le_mul_right sz hk
    have hcs:xs.length*sz≤c*sz:=Nat.mul_le_mul_right sz hmc
    rw [Nat.succ_mul] at hsz1
    have hb1:k*sz+off+us.length≤arr.length:=by omega
    have hpp:=Zac (j :: ks) L (l :: inss) r hpk
    refine Zk5 (L':=[Z7 b arr T ++ ins,inss.flatten ++ r.flatten]) (K':=fun u D' B' L₁=>u=undef∧D'=D∧B'=B∧L₁=[Z7 b (ZY arr (k*sz+off) us) T ++ ins,inss.flatten ++ r.flatten]) ?_ ?_ ?_
    · refine hpp.trans ?_
      simp only [List.flatten_cons,List.flatten_nil,List.append_nil,List.append_assoc]
      refine (h3.append_right _).trans ?_
      rw [List.append_assoc]
    · exact Z4 us 0 (ZY arr (k*sz+off) us) hg hd hsz hx hy hvc ho (T:=T) (r:=ins) rfl rfl (by rw [Nat.ble_eq];exact hb1) rfl ⟨rfl,rfl,rfl,rfl⟩
    · rintro u D' B' L₁ hle ⟨rfl,rfl,rfl,rfl⟩
      have hnew:ZaP (Z7 b (ZY arr (k*sz+off) us) T ++ s') (some ⟨b,0,Option.none⟩) c T sz R (xs.set k z):=by
        have hsl:(ZY row off us).length=sz:=by rw [ZV];exact hw
        have hwide:wide sz (rows.set k (ZY row off us)):=fun r' hr'=>by
          rcases List.mem_or_eq_of_mem_set hr' with hr' | rfl
          · exact h2 r' hr'
          · exact hsl
        refine ⟨rows.set k (ZY row off us),_,s',a1,hwide,.refl _,?_,.inr ⟨b,_,rfl,by rw [ZV];exact ha,?_,rfl,by rw [List.length_set];exact hmc⟩⟩
        · rw [ZbX hwide,List.length_set,List.length_set,h1.len]
        · rw [List.length_set]
          have e:=ZcN (us:=us) (off:=off) h2 hrow hoff
          rw [ZcX _ _ _ _ (by omega) (by omega),ht,e]
      refine ⟨_,gl,?_,h _ hnew⟩
      have hq:=Zbn ((Z7 b (ZY arr (k*sz+off) us) T ++ s') :: inss.map fun _=>[]) r (j :: ks) (Zbp hnd) (fun jj hj=>Zbo (j :: ks) L (l :: inss) r hpk jj (.inr hj))
      have hnil:((inss.map fun _=>([]:Cells))).flatten=[]:=by
        clear hpk hpp hr h a2 hq
        induction inss with
        | nil=>rfl
        | cons a as ih=>simp
      rw [List.flatten_cons,hnil,List.append_nil] at hq
      refine List.Perm.trans ?_ (hq.append_right gl)
      simp only [List.flatten_cons,List.flatten_nil,List.append_nil]
      have e1:(Z7 b (ZY arr (k*sz+off) us) T ++ ins ++ (inss.flatten ++ r.flatten)).Perm (Z7 b (ZY arr (k*sz+off) us) T ++ ((ins ++ inss.flatten) ++ r.flatten)):=by simp only [List.append_assoc];exact .refl _
      refine (e1.trans (List.Perm.append_left _ (a2.append_right _))).trans ?_
      exact ZhX fun f g h0 ha hc=>by simp only [ha];omega
end
theorem Zve {B:Kn} {ls:List Cells} {b:Nat} {row:List Value} {T:TypeId} (k:Nat) (hk:ls[k]? = some (Z7 b row T)) (hm :∀q,q∈ls.flatten→(B.add ls.flatten).mem q.1=some q.2):ZaK (B.add ls.flatten) b 0 row:=Zb1 (ZoP hm k hk)
end Go.BL
namespace Go.BL
open Go.Conc (G)
set_option linter.unusedVariables false
@[reducible] def ZgO (x:DMail) (v:Value):List Value:=[.int .i64 x.uid,.int .i64 x.flags,str x.text,v]
def ZgQ (Tn:TypeId):Value→List DMail→Cells→Prop
  | v,[],s=>v = .pointer none∧s=[]
  | v,x :: xs,s=>∃b nx rest,v=ptr ⟨b,0,none⟩∧s.Perm (Z7 b (ZgO x nx) Tn ++ rest)∧x.text.length≤2000000∧ZgQ Tn nx xs rest
theorem ZgQ.ptr {Tn:TypeId} {v:Value} {xs:List DMail} {s:Cells} (h:ZgQ Tn v xs s) :∃p,v = .pointer p:=by
  cases xs with
  | nil=>exact ⟨none,h.1⟩
  | cons x xs=>obtain ⟨b,nx,rest,rfl,_⟩:=h;exact ⟨_,rfl⟩
theorem ZgQ.more {Tn:TypeId} {p:Option Addr} {xs:List DMail} {s:Cells} (h:ZgQ Tn (.pointer p) xs s) (hp:p.isNone=false) :∃y ys b np rest,p=some ⟨b,0,none⟩∧xs=y :: ys∧s.Perm (Z7 b (ZgO y (.pointer np)) Tn ++ [rest].flatten)∧y.text.length≤2000000∧ZgQ Tn (.pointer np) ys rest:=by
  cases xs with
  | nil=>obtain ⟨h1,_⟩:=h;cases h1;cases hp
  | cons x xs=>
    obtain ⟨b,nx,rest,h1,h2,h3,h4⟩:=h
    obtain ⟨np,rfl⟩:=h4.ptr
    cases h1
    exact ⟨x,xs,b,np,rest,rfl,rfl,by simpa using h2,h3,h4⟩
theorem ZgQ.done {Tn:TypeId} {p:Option Addr} {xs:List DMail} {s:Cells} (h:ZgQ Tn (.pointer p) xs s) (hp:p.isNone=true):xs=[]:=by
  cases xs with
  | nil=>rfl
  | cons x xs=>obtain ⟨b,nx,rest,h1,_⟩:=h;cases h1;cases hp
def ZhW (Tn:TypeId) (v0:Value) (bl:Nat) (x:DMail) (rest:Cells) (pre:List DMail):Prop:=
∀v xs s,ZgQ Tn v xs s→∃s0,ZgQ Tn v0 (pre ++ xs) s0∧(Z7 bl (ZgO x v) Tn ++ (rest ++ s)).Perm s0
theorem ZhW.init {Tn:TypeId} {b:Nat} {x:DMail} (hx:x.text.length≤2000000):ZhW Tn (Go.BL.ptr ⟨b,0,none⟩) b x [] [x]:=fun v xs s h=>
  ⟨Z7 b (ZgO x v) Tn ++ s,⟨b,v,s,rfl,.refl _,hx,h⟩,by simp⟩
theorem ZhW.step {Tn:TypeId} {v0:Value} {bl b:Nat} {x y:DMail} {rest:Cells} {pre:List DMail} (h:ZhW Tn v0 bl x rest pre) (hy:y.text.length≤2000000) :
    ZhW Tn v0 b y (rest ++ Z7 bl (ZgO x (Go.BL.ptr ⟨b,0,none⟩)) Tn) (pre ++ [y]):=fun v xs s hs=>by
  obtain ⟨s0,h1,h2⟩:=h (Go.BL.ptr ⟨b,0,none⟩) (y :: xs) (Z7 b (ZgO y v) Tn ++ s) ⟨b,v,s,rfl,.refl _,hy,hs⟩
  refine ⟨s0,by simpa using h1,?_⟩
  refine List.Perm.trans ?_ h2
  exact ZhX fun f g h0 ha hc=>by simp only [ha];omega
def MLst (TL Tn:TypeId) (b:Nat) (xs:List DMail) (s:Cells):Prop:=
  (xs=[]∧s.Perm (Z7 b [.pointer none,.pointer none,.int .i64 0] TL))∨
∃v0 bl x rest,s.Perm (Z7 b [v0,ptr ⟨bl,0,none⟩,.int .i64 xs.length] TL ++ [Z7 bl (ZgO x (.pointer none)) Tn,rest].flatten)∧ZhW Tn v0 bl x rest xs
theorem MLst.nil {TL Tn:TypeId} {b:Nat} : MLst TL Tn b [] (Z7 b [.pointer none,.pointer none,.int .i64 0] TL):=.inl ⟨rfl,.refl _⟩
theorem MLst.chain {TL Tn:TypeId} {b:Nat} {xs:List DMail} {s:Cells} (h:MLst TL Tn b xs s) :∃p vl s0,s.Perm (Z7 b [.pointer p,vl,.int .i64 xs.length] TL ++ [s0].flatten)∧ZgQ Tn (.pointer p) xs s0:=by
  rcases h with ⟨rfl,hp⟩ | ⟨v0,bl,x,rest,hp,hh⟩
  · exact ⟨none,.pointer none,[],by simpa using hp,rfl,rfl⟩
  · obtain ⟨s0,h1,h2⟩:=hh (.pointer none) [] [] ⟨rfl,rfl⟩
    rw [List.append_nil] at h1
    obtain ⟨p,rfl⟩:=h1.ptr
    refine ⟨p,_,s0,hp.trans (List.Perm.append_left _ ?_),h1⟩
    simpa using h2
end Go.BL
namespace Go.BL
section
variable {P:PJ} {n:Nat} {ops:Array Oper} {i:Nat} {K:ZaS} {S:Env} {D:List Deferred} {B:Kn} {L:List Cells}
variable {dst:Option Tmp} {ty:TypeId} {pos:String} {after:Array Edge} {g:Option (Nat × Bool)}
end
end Go.BL
namespace Go.BL
section
variable {P:PJ} {n:Nat} {ops:Array Oper} {i:Nat} {K:ZaS} {S:Env} {D:List Deferred} {B:Kn} {L:List Cells}
variable {dst:Option Tmp} {ty:TypeId} {pos:String} {after:Array Edge} {g:Option (Nat × Bool)}
variable {α:Type} {R:Rel α} {xs:List α}
theorem ZbG.own {B:Kn} {L:List Cells} {l:Cells} {p:Option Addr} {m c sz:Nat} {T:TypeId} {vs:List Value} (h:Zg0 l p m c T sz vs) (j:Nat) (hj:L[j]? = some l):ZbG B L.flatten p vs:=by
  obtain ⟨h1,⟨rfl,rfl,rfl,rfl⟩ | ⟨b,arr,rfl,h2,h3,rfl,h4⟩⟩:=h
  · exact List.eq_nil_of_length_eq_zero (by simpa using h1)
  · intro k v hk
    have hv':arr[k]? = some v:=by
      rw [← h3,List.getElem?_take] at hk
      split at hk
      · exact hk
      · cases hk
    exact ZbG.box (B:=B) j hj k v hv'
end
end Go.BL
namespace Go.BL
theorem ZB {P:PJ} {n:Nat} {Q:Exit→Z9} {S:Env} {D:List Deferred} {B:Kn} {L:List Cells} {c:Code} (L':List Cells) (hl:L=L') (h:wpS P n c Q S D B L'):wpS P n c Q S D B L:=by subst hl;exact h
theorem sQ:(∀(p:Prop) [Decidable p],(decide p=true)=p)∧(∀(p:Prop) [Decidable p],(decide p=false) = ¬p)∧(∀b:Bool,((!b)=true)=(b=false))∧(∀b:Bool,((!b)=false)=(b=true))∧(∀(p:Prop) [Decidable p],(decide (¬p)) = !decide p)∧(∀(p:Prop) [Decidable p],(¬¬p)=p)∧(∀a b:Int,(¬a<b)=(b≤a))∧(∀a b:Int,(¬a≤b)=(b<a)):=
  ⟨fun p _=>by simp,fun p _=>by simp,by simp,by simp,fun p _=>by simp,fun p _=>by simp,by simp,by simp⟩
end Go.BL
namespace Go.BL
section
variable {P:PJ} {n:Nat} {ops:Array Oper} {i:Nat} {K:ZaS} {S:Env} {D:List Deferred} {B:Kn} {L:List Cells}
variable {dst:Option Tmp} {ty:TypeId} {pos:String} {after:Array Edge} {g:Option (Nat × Bool)}
section
variable {t u:TypeId} {x y:Operand} {a b r:Int}
end
end
end Go.BL
namespace Go.BL
theorem om {p:Prop} (h:p:=by first | omega | (simp;done) | (simp;omega)):p:=h
theorem om2 {p:Prop} (h:p:=by first | assumption | omega | (simp;done) | (simp;omega)):p:=h
theorem oz {p:Prop} (h:p:=by omega):p:=h
theorem kr {p:Prop} (h:p:=by kernel_rfl):p:=h
theorem so {p:Prop} (h:p:=by simp only [];omega):p:=h
theorem so2 {p:Prop} (h:p:=by first | omega | (simp only [];omega)):p:=h
theorem oa {p:Prop} (h:p:=by first | assumption | omega):p:=h
theorem oy {p:Prop} (h:p:=by assumption):p:=h
theorem om3 {p:Prop} (h:p:=by first | omega | decide | (simp;done) | (simp;omega)):p:=h
theorem t1 {α0:Sort _} {a0:α0} : a0=a0∧True:=⟨rfl,trivial⟩
theorem t2 {α0 α1:Sort _} {a0:α0} {a1:α1} : a0=a0∧a1=a1∧True:=⟨rfl,rfl,trivial⟩
theorem t3 {α0 α1 α2:Sort _} {a0:α0} {a1:α1} {a2:α2} : a0=a0∧a1=a1∧a2=a2∧True:=⟨rfl,rfl,rfl,trivial⟩
theorem t4 {α0 α1 α2 α3:Sort _} {a0:α0} {a1:α1} {a2:α2} {a3:α3} : a0=a0∧a1=a1∧a2=a2∧a3=a3∧True:=⟨rfl,rfl,rfl,rfl,trivial⟩
theorem t5 {α0 α1 α2 α3 α4:Sort _} {a0:α0} {a1:α1} {a2:α2} {a3:α3} {a4:α4} : a0=a0∧a1=a1∧a2=a2∧a3=a3∧a4=a4∧True:=⟨rfl,rfl,rfl,rfl,rfl,trivial⟩
theorem t6 {α0 α1 α2 α3 α4 α5:Sort _} {a0:α0} {a1:α1} {a2:α2} {a3:α3} {a4:α4} {a5:α5} : a0=a0∧a1=a1∧a2=a2∧a3=a3∧a4=a4∧a5=a5∧True:=⟨rfl,rfl,rfl,rfl,rfl,rfl,trivial⟩
theorem t7 {α0 α1 α2 α3 α4 α5 α6:Sort _} {a0:α0} {a1:α1} {a2:α2} {a3:α3} {a4:α4} {a5:α5} {a6:α6} : a0=a0∧a1=a1∧a2=a2∧a3=a3∧a4=a4∧a5=a5∧a6=a6∧True:=⟨rfl,rfl,rfl,rfl,rfl,rfl,rfl,trivial⟩
theorem t8 {α0 α1 α2 α3 α4 α5 α6 α7:Sort _} {a0:α0} {a1:α1} {a2:α2} {a3:α3} {a4:α4} {a5:α5} {a6:α6} {a7:α7} : a0=a0∧a1=a1∧a2=a2∧a3=a3∧a4=a4∧a5=a5∧a6=a6∧a7=a7∧True:=⟨rfl,rfl,rfl,rfl,rfl,rfl,rfl,rfl,trivial⟩
theorem t10 {α0 α1 α2 α3 α4 α5 α6 α7 α8 α9:Sort _} {a0:α0} {a1:α1} {a2:α2} {a3:α3} {a4:α4} {a5:α5} {a6:α6} {a7:α7} {a8:α8} {a9:α9} : a0=a0∧a1=a1∧a2=a2∧a3=a3∧a4=a4∧a5=a5∧a6=a6∧a7=a7∧a8=a8∧a9=a9∧True:=⟨rfl,rfl,rfl,rfl,rfl,rfl,rfl,rfl,rfl,rfl,trivial⟩
theorem t11 {α0 α1 α2 α3 α4 α5 α6 α7 α8 α9 α10:Sort _} {a0:α0} {a1:α1} {a2:α2} {a3:α3} {a4:α4} {a5:α5} {a6:α6} {a7:α7} {a8:α8} {a9:α9} {a10:α10} : a0=a0∧a1=a1∧a2=a2∧a3=a3∧a4=a4∧a5=a5∧a6=a6∧a7=a7∧a8=a8∧a9=a9∧a10=a10∧True:=⟨rfl,rfl,rfl,rfl,rfl,rfl,rfl,rfl,rfl,rfl,rfl,trivial⟩
section
variable {P:PJ} {n:Nat} {ops:Array Oper} {i:Nat} {K:Z9} {S:Env} {D:List Deferred} {B:Kn} {L:List Cells}
variable {dst:Option Tmp} {ty:TypeId} {pos:String} {after:Array Edge} {g:Option (Nat × Bool)} {t u:TypeId} {x y:Operand}
theorem xM {x:Operand} {v:Value} (hg:Zo ops S g=some true:=by exact rfl) (hd:Zv n dst=true:=by exact rfl) (hx:ev S x=some v:=by exact rfl) (h:K (ZbI S dst v) D B L):opW P n ops i ⟨dst,.move x,ty,pos,after,g⟩ K S D B L:=Zp (ZrA hg hd hx h)
theorem xA {x:Operand} {v:Value} (hg:Zo ops S g=some true:=by exact rfl) (hd:Zv n dst=true:=by exact rfl) (hx:ev S x=some v:=by exact rfl) (h:K (ZbI S dst v) D B L):opW P n ops i ⟨dst,.assign x,ty,pos,after,g⟩ K S D B L:=Zp (ZlT hg hd hx h)
theorem xP  {dst:Option Tmp} {op:Op} {t:TypeId} {pos:String} {after:Array Edge} {g:Option (Nat × Bool)}   (hg:Zo ops S g=some false:=by exact rfl) (hd:Zv n dst=true:=by exact rfl) (h:K (ZbI S dst undef) D B L):opW P n ops i ⟨dst,op,t,pos,after,g⟩ K S D B L:=Zp (Zrx  hg hd h)
theorem xT  {c:Operand} {a:Operand} {b:Operand} {v:Value}   (hg:Zo ops S g=some true:=by exact rfl) (hd:Zv n dst=true:=by exact rfl) (hc:ev S c=some (.bool true):=by exact rfl) (hx:ev S a=some v:=by exact rfl) (h:K (ZbI S dst v) D B L):opW P n ops i ⟨dst,.pick c a b,ty,pos,after,g⟩ K S D B L:=Zp (ZnP  hg hd hc hx h)
theorem xF  {c:Operand} {a:Operand} {b:Operand} {v:Value}   (hg:Zo ops S g=some true:=by exact rfl) (hd:Zv n dst=true:=by exact rfl) (hc:ev S c=some (.bool false):=by exact rfl) (hx:ev S b=some v:=by exact rfl) (h:K (ZbI S dst v) D B L):opW P n ops i ⟨dst,.pick c a b,ty,pos,after,g⟩ K S D B L:=Zp (ZnQ  hg hd hc hx h)
theorem xE  {x:Operand} {ix:Nat} {vs:List Value} {v:Value}   (hg:Zo ops S g=some true:=by exact rfl) (hd:Zv n dst=true:=by exact rfl) (hx:ev S x=some (.tuple vs.toArray):=by exact rfl) (hi:vs[ix]? = some v:=by exact rfl) (h:K (ZbI S dst v) D B L):opW P n ops i ⟨dst,.extract x ix,ty,pos,after,g⟩ K S D B L:=Zp (Zjx  hg hd hx hi h)
theorem xN  {x:Operand} {b:Bool} {t:TypeId}   (hg:Zo ops S g=some true:=by exact rfl) (hd:Zv n dst=true:=by exact rfl) (hx:ev S x=some (.bool b):=by exact rfl) (h:K (ZbI S dst (.bool (!b))) D B L):opW P n ops i ⟨dst,.unOp .not t x,ty,pos,after,g⟩ K S D B L:=Zp (ZtC  hg hd hx h)
theorem xW  {s:TypeId} {x:Operand} {fi:Nat} {off:Nat} {a:Addr}  (hf:Zy P s fi=some off) (hg:Zo ops S g=some true:=by exact rfl) (hd:Zv n dst=true:=by exact rfl) (hx:ev S x=some (ptr a):=by exact rfl) (h:K (ZbI S dst (ptr (a.add off))) D B L):opW P n ops i ⟨dst,.fieldAddr s x fi,ty,pos,after,g⟩ K S D B L:=Zp (Zg4  hg hd hf hx h)
theorem xD  {k:IntKind} {a b r:Int}   (hg:Zo ops S g=some true:=by exact rfl) (hd:Zv n dst=true:=by exact rfl) (hx:ev S x=some (.int k a):=by exact rfl) (hy:ev S y=some (.int k b):=by exact rfl) (hr:k.wrap (a+b)=r:=by first | exact Zcq (by first | omega | (simp;done) | (simp;omega)) (by first | omega | (simp;done) | (simp;omega)) | exact rfl) (h:K (ZbI S dst (.int k r)) D B L):opW P n ops i ⟨dst,.binOp .add t x y u,ty,pos,after,g⟩ K S D B L:=Zp (ZgN  hg hd hx hy hr h)
theorem xU  {k:IntKind} {a b r:Int}   (hg:Zo ops S g=some true:=by exact rfl) (hd:Zv n dst=true:=by exact rfl) (hx:ev S x=some (.int k a):=by exact rfl) (hy:ev S y=some (.int k b):=by exact rfl) (hr:k.wrap (a - b)=r:=by first | exact Zcq (by first | omega | (simp;done) | (simp;omega)) (by first | omega | (simp;done) | (simp;omega)) | exact rfl) (h:K (ZbI S dst (.int k r)) D B L):opW P n ops i ⟨dst,.binOp .sub t x y u,ty,pos,after,g⟩ K S D B L:=Zp (ZiJ  hg hd hx hy hr h)
theorem ZI  {k:IntKind} {a b:Int}   (hg:Zo ops S g=some true:=by exact rfl) (hd:Zv n dst=true:=by exact rfl) (hx:ev S x=some (.int k a):=by exact rfl) (hy:ev S y=some (.int k b):=by exact rfl) (h:K (ZbI S dst (.bool (decide (a<b)))) D B L):opW P n ops i ⟨dst,.binOp .lss t x y u,ty,pos,after,g⟩ K S D B L:=Zp (ZtG  hg hd hx hy h)
theorem Zce  {k:IntKind} {a b:Int}   (hg:Zo ops S g=some true:=by exact rfl) (hd:Zv n dst=true:=by exact rfl) (hx:ev S x=some (.int k a):=by exact rfl) (hy:ev S y=some (.int k b):=by exact rfl) (h:K (ZbI S dst (.bool (decide (a≤b)))) D B L):opW P n ops i ⟨dst,.binOp .leq t x y u,ty,pos,after,g⟩ K S D B L:=Zp (ZtH  hg hd hx hy h)
theorem Zdb  {k:IntKind} {a b:Int}   (hg:Zo ops S g=some true:=by exact rfl) (hd:Zv n dst=true:=by exact rfl) (hx:ev S x=some (.int k a):=by exact rfl) (hy:ev S y=some (.int k b):=by exact rfl) (h:K (ZbI S dst (.bool (decide (b<a)))) D B L):opW P n ops i ⟨dst,.binOp .gtr t x y u,ty,pos,after,g⟩ K S D B L:=Zp (ZtL  hg hd hx hy h)
theorem Zel  {k:IntKind} {a b:Int}   (hg:Zo ops S g=some true:=by exact rfl) (hd:Zv n dst=true:=by exact rfl) (hx:ev S x=some (.int k a):=by exact rfl) (hy:ev S y=some (.int k b):=by exact rfl) (h:K (ZbI S dst (.bool (decide (b≤a)))) D B L):opW P n ops i ⟨dst,.binOp .geq t x y u,ty,pos,after,g⟩ K S D B L:=Zp (ZtM  hg hd hx hy h)
theorem Zh3  {k:IntKind} {a b:Int}   (hg:Zo ops S g=some true:=by exact rfl) (hd:Zv n dst=true:=by exact rfl) (hx:ev S x=some (.int k a):=by exact rfl) (hy:ev S y=some (.int k b):=by exact rfl) (h:K (ZbI S dst (.bool (decide (a=b)))) D B L):opW P n ops i ⟨dst,.binOp .eql t x y u,ty,pos,after,g⟩ K S D B L:=Zp (ZrE  hg hd hx hy h)
theorem ZaT  {k:IntKind} {a b:Int}   (hg:Zo ops S g=some true:=by exact rfl) (hd:Zv n dst=true:=by exact rfl) (hx:ev S x=some (.int k a):=by exact rfl) (hy:ev S y=some (.int k b):=by exact rfl) (h:K (ZbI S dst (.bool (decide (a≠b)))) D B L):opW P n ops i ⟨dst,.binOp .neq t x y u,ty,pos,after,g⟩ K S D B L:=Zp (Zrz  hg hd hx hy h)
theorem Zem  {a b:List UInt8}   (hg:Zo ops S g=some true:=by exact rfl) (hd:Zv n dst=true:=by exact rfl) (hx:ev S x=some (str a):=by exact rfl) (hy:ev S y=some (str b):=by exact rfl) (h:K (ZbI S dst (.bool (decide (a=b)))) D B L):opW P n ops i ⟨dst,.binOp .eql t x y u,ty,pos,after,g⟩ K S D B L:=Zp (ZrD  hg hd hx hy h)
theorem Zek  {a b:List UInt8}   (hg:Zo ops S g=some true:=by exact rfl) (hd:Zv n dst=true:=by exact rfl) (hx:ev S x=some (str a):=by exact rfl) (hy:ev S y=some (str b):=by exact rfl) (h:K (ZbI S dst (.bool (decide (a≠b)))) D B L):opW P n ops i ⟨dst,.binOp .neq t x y u,ty,pos,after,g⟩ K S D B L:=Zp (Zry  hg hd hx hy h)
theorem Zrt  {a b:List UInt8}   (hg:Zo ops S g=some true:=by exact rfl) (hd:Zv n dst=true:=by exact rfl) (hx:ev S x=some (str a):=by exact rfl) (hy:ev S y=some (str b):=by exact rfl) (h:K (ZbI S dst (.bool (Op.bytesLess a b))) D B L):opW P n ops i ⟨dst,.binOp .lss t x y u,ty,pos,after,g⟩ K S D B L:=Zp (ZtF  hg hd hx hy h)
theorem xV  {x:Operand} {t:TypeId} {e:TypeId} {p:Option Addr} {len:Nat} {cap:Nat}  (hu:P.underlying t=some (.slice e)) (hg:Zo ops S g=some true:=by exact rfl) (hd:Zv n dst=true:=by exact rfl) (hx:ev S x=some (.slice p len cap):=by exact rfl) (h:K (ZbI S dst (.int .i64 len)) D B L):opW P n ops i ⟨dst,.call ⟨.builtin .len,#[x],#[t]⟩,ty,pos,after,g⟩ K S D B L:=Zp (ZtI  hg hd hu hx h)
theorem xVs  {x:Operand} {t:TypeId} {l:List UInt8}  (hu:P.underlying t=some .string) (hg:Zo ops S g=some true:=by exact rfl) (hd:Zv n dst=true:=by exact rfl) (hx:ev S x=some (str l):=by exact rfl) (h:K (ZbI S dst (.int .i64 l.length)) D B L):opW P n ops i ⟨dst,.call ⟨.builtin .len,#[x],#[t]⟩,ty,pos,after,g⟩ K S D B L:=Zp (ZnT  hg hd hu hx h)
theorem xNc  {x:Operand} {a:Addr}   (hg:Zo ops S g=some true:=by exact rfl) (hd:Zv n dst=true:=by exact rfl) (hx:ev S x=some (.pointer (some a)):=by exact rfl) (h:K (ZbI S dst (.pointer (some a))) D B L):opW P n ops i ⟨dst,.nilCheck x,ty,pos,after,g⟩ K S D B L:=Zp (Zh8  hg hd hx h)
theorem x1  {t:TypeId} {x:Operand} {a:Addr} {v:Value} {l:List Value} {T:TypeId} {fr:Nat × Nat} {r:Cells}  (hl:lk P t=some none) (j:Nat) (hg:Zo ops S g=some true:=by exact rfl) (hd:Zv n dst=true:=by exact rfl) (hx:ev S x=some (ptr a):=by exact rfl) (hj:L[j]? = some ((a.block,.cells l.toArray T fr) :: r):=by exact rfl) (hs:a.spot=none:=by exact rfl) (hv:l[a.off]? = some v:=by exact rfl) (h:K (ZbI S dst v) D B L):opW P n ops i ⟨dst,.load t x,ty,pos,after,g⟩ K S D B L:=Zp (Zr  hg hd hl hx (atL j hj hs hv) h)
theorem xL  {t:TypeId} {x:Operand} {a:Addr} {l:List Value} {T:TypeId} {fr:Nat × Nat} {r:Cells}  (vs:List Value) (hl:lk P t=some (some vs.length)) (j:Nat) (hg:Zo ops S g=some true:=by exact rfl) (hd:Zv n dst=true:=by exact rfl) (hx:ev S x=some (ptr a):=by exact rfl) (hj:L[j]? = some ((a.block,.cells l.toArray T fr) :: r):=by exact rfl) (hs:a.spot=none:=by exact rfl) (hv:(l.drop a.off).take vs.length=vs:=by exact rfl) (h:K (ZbI S dst (.agg vs.toArray)) D B L):opW P n ops i ⟨dst,.load t x,ty,pos,after,g⟩ K S D B L:=Zp (Zab  vs hg hd hl hx (ZbH j hj hs hv) h)
theorem y1  {t:TypeId} {x:Operand} {a:Addr} {v:Value} {b o:Nat} {row:List Value}  (hl:lk P t=some none) (hc:ZaK B b o row) (off:Nat) (hg:Zo ops S g=some true:=by exact rfl) (hd:Zv n dst=true:=by exact rfl) (hx:ev S x=some (ptr a):=by exact rfl) (ha:a=⟨b,o+off,none⟩:=by exact rfl) (hv:row[off]? = some v:=by exact rfl) (h:K (ZbI S dst v) D B L):opW P n ops i ⟨dst,.load t x,ty,pos,after,g⟩ K S D B L:=Zp (Zr  hg hd hl hx (by subst ha;exact hc _ off _ hv) h)
theorem yL  {t:TypeId} {x:Operand} {a:Addr} {b o:Nat} {row:List Value}  (vs:List Value) (hl:lk P t=some (some vs.length)) (hc:ZaK B b o row) (off:Nat) (hg:Zo ops S g=some true:=by exact rfl) (hd:Zv n dst=true:=by exact rfl) (hx:ev S x=some (ptr a):=by exact rfl) (ha:a=⟨b,o+off,none⟩:=by exact rfl) (hv:(row.drop off).take vs.length=vs:=by exact rfl) (h:K (ZbI S dst (.agg vs.toArray)) D B L):opW P n ops i ⟨dst,.load t x,ty,pos,after,g⟩ K S D B L:=Zp (Zab  vs hg hd hl hx (Zl7 hc off ha hv) h)
theorem xS  {t:TypeId} {x:Operand} {y:Operand} {a:Addr} {v:Value} {l:List Value} {T:TypeId} {r:Cells}  (vs:List Value) (j:Nat) (l':List Value) (hsz:ZP P t=some vs.length) (hg:Zo ops S g=some true:=by exact rfl) (hd:Zv n dst=true:=by exact rfl) (hx:ev S x=some (ptr a):=by exact rfl) (hy:ev S y=some v:=by exact rfl) (hv:v.cells=vs.toArray:=by exact rfl) (ho:vs.all Ze0=true:=by exact rfl) (hj:L[j]? = some ((a.block,.cells l.toArray T (0,0)) :: r):=by exact rfl) (hs:a.spot=none:=by exact rfl) (hlen:Nat.ble (a.off+vs.length) l.length=true:=by exact rfl) (hl':ZY l a.off vs=l':=by exact rfl) (h:K (ZbI S dst undef) D B (L.set j ((a.block,.cells l'.toArray T (0,0)) :: r))):opW P n ops i ⟨dst,.store t x y,ty,pos,after,g⟩ K S D B L:=Zp (Z4  vs j l' hg hd hsz hx hy hv ho hj hs hlen hl' h)
theorem xB  {t:TypeId} {z:Value} {pl:List (Nat × Nat)} {vs:List Value} (parts:List (Nat × Operand)) (zl l':List Value) (hpl:Zby P t=some pl) (hz:Zal P t=some z) (hg:Zo ops S g=some true:=by exact rfl) (hd:Zv n dst=true:=by exact rfl) (hzl:z.cells.toList=zl:=by exact rfl) (ha:evs S (parts.map (·.2))=some vs:=by exact rfl) (hf:Zh1 (fun i=>pl[i]?) zl ((parts.map (·.1)).zip vs)=some l':=by exact rfl) (h:K (ZbI S dst (.agg l'.toArray)) D B L):opW P n ops i ⟨dst,.build t parts.toArray,ty,pos,after,g⟩ K S D B L:=Zp (ZaB (parts:=parts) zl l' hg hd hpl hz hzl ha hf h)
theorem xAl  {t:TypeId} {z:Value} (l:List Value) (hz:Zal P t=some z) (hg:Zo ops S g=some true:=by exact rfl) (hd:Zv n dst=true:=by exact rfl) (hl:z.cells=l.toArray:=by exact rfl) (h :∀b,K (ZbI S dst (ptr ⟨b,0,none⟩)) D B (L ++ [Z7 b l t])):opW P n ops i ⟨dst,.alloc t,ty,pos,after,g⟩ K S D B L:=Zp (ZaY (l:=l) hg hd hz hl h)
theorem xBx  {t:TypeId} {x:Operand} {v:Value} (l:List Value)  (hg:Zo ops S g=some true:=by exact rfl) (hd:Zv n dst=true:=by exact rfl) (hx:ev S x=some v:=by exact rfl) (hl:v.cells=l.toArray:=by exact rfl) (h :∀b,K (ZbI S dst (ptr ⟨b,0,none⟩)) D B (L ++ [Z7 b l t])):opW P n ops i ⟨dst,.box t x,ty,pos,after,g⟩ K S D B L:=Zp (ZtQ (l:=l) hg hd hx hl h)
theorem xIx  {t:TypeId} {e:TypeId} {x:Operand} {y:Operand} {k:IntKind} {b:Nat} {o:Nat} {len:Nat} {cap:Nat} {sz:Nat} {ix:Int}  (hu:P.underlying t=some (.slice e)) (hsz:ZP P e=some sz) (hg:Zo ops S g=some true:=by exact rfl) (hd:Zv n dst=true:=by exact rfl) (hx:ev S x=some (.slice (some ⟨b,o,none⟩) len cap):=by exact rfl) (hy:ev S y=some (.int k ix):=by exact rfl) (h0:0≤ix:=by first | omega | (simp;done) | (simp;omega)) (h1:ix<len:=by first | omega | (simp;done) | (simp;omega)) (h:K (ZbI S dst (ptr ⟨b,o+ix.toNat*sz,none⟩)) D B L):opW P n ops i ⟨dst,.indexAddr t x y,ty,pos,after,g⟩ K S D B L:=Zp (ZtJ  hg hd hu hsz hx hy h0 h1 h)
theorem xIp  {t:TypeId} {e:TypeId} {x:Operand} {y:Operand} {k:IntKind} {p:Option Addr} {b:Nat} {len:Nat} {cap:Nat} {sz:Nat} {ix:Int}  (hp:p=some ⟨b,0,none⟩) (hu:P.underlying t=some (.slice e)) (hsz:ZP P e=some sz) (hg:Zo ops S g=some true:=by exact rfl) (hd:Zv n dst=true:=by exact rfl) (hx:ev S x=some (.slice p len cap):=by exact rfl) (hy:ev S y=some (.int k ix):=by exact rfl) (h0:0≤ix:=by first | omega | (simp;done) | (simp;omega)) (h1:ix<len:=by first | omega | (simp;done) | (simp;omega)) (h:K (ZbI S dst (ptr ⟨b,ix.toNat*sz,none⟩)) D B L):opW P n ops i ⟨dst,.indexAddr t x y,ty,pos,after,g⟩ K S D B L:=Zp (ZmF  hp hg hd hu hsz hx hy h0 h1 h)
theorem xR  {f:FuncId} {xs:List Operand} {vs:List Value} {ats:Array TypeId} {v:Value}  (he:enters P f=true) (ha:evs S xs=some vs) (hc:Zag P f vs B v) (hg:Zo ops S g=some true:=by exact rfl) (hd:Zv n dst=true:=by exact rfl) (h:K (ZbI S dst v) D B L):opW P n ops i ⟨dst,.call ⟨.value (.func f),xs.toArray,ats⟩,ty,pos,after,g⟩ K S D B L:=Zp (Zak  hg hd he ha hc h)
theorem xBs  {t:TypeId} {e:TypeId} {len:Nat} {sz:Nat} {z:Value} {vs:List Value} (parts:List (Nat × Operand)) (l':List Value) (hu:P.underlying t=some (.slice e)) (hsz:ZP P e=some sz) (hz:Zal P e=some z) (hg:Zo ops S g=some true:=by exact rfl) (hd:Zv n dst=true:=by exact rfl) (hbig:Nat.ble (len*sz) 1024=true:=by exact rfl) (hidx:parts.map (·.1)=List.range len:=by exact rfl) (ha:evs S (parts.map (·.2))=some vs:=by exact rfl) (hall:vs.all (fun v=>Nat.beq v.cells.toList.length sz)=true:=by exact rfl) (hl':(vs.map fun v=>v.cells.toList).flatten=l':=by exact rfl) (h :∀b,K (ZbI S dst (.slice (some ⟨b,0,none⟩) len len)) D B (L ++ [Z7 b l' e])):opW P n ops i ⟨dst,.buildSlice t len parts.toArray,ty,pos,after,g⟩ K S D B L:=Zp (ZK (parts:=parts) l' hg hd hu hsz hz hbig hidx ha hall hl' h)
end
section
variable {P:PJ} {n:Nat} {ops:Array Oper} {K:Z9} {S:Env} {D:List Deferred} {B:Kn} {L:List Cells}
variable {dst:Option Tmp} {ty:TypeId} {pos:String} {after:Array Edge} {g:Option (Nat × Bool)} {t u:TypeId} {x y:Operand}
theorem aT {C:Cx P} {k':List Item} {I:Kn→List Cells→Prop} {ℓ:List Nat} (i:Nat) {o:Oper} {v:Value} (hi:ops[i]? = some o) (hq:quiet P n ops I i o v (sel (o.looksAt ops) S)) (hr:(ZaM ops ℓ).contains i=true:=by kernel_rfl) (hd:Zv n o.dst=true:=by exact rfl) (hp:Ziu o=false:=by rfl) (h:Zbl C k' n ops I (i :: ℓ) K (ZbI S o.dst v) D B L):Zbl C k' n ops I ℓ K S D B L:=Zrk i hi hr hd hq h hp
theorem r4 {α β γ δ:Type} {a:α} {b:β} {c:γ} {d:δ} : a=a∧b=b∧c=c∧d=d:=⟨rfl,rfl,rfl,rfl⟩
variable {C:Cx P} {k':List Item} {I:Kn→List Cells→Prop} {ℓ:List Nat}
theorem aM  {x:Operand} {v:Value} (i:Nat) (hii:ops[i]? = some ⟨dst,.move x,ty,pos,after,g⟩)  (hrr:(ZaM ops ℓ).contains i=true:=by kernel_rfl) (hdd:Zv n dst=true:=by exact rfl) (hg:Zo ops (sel ((⟨dst,.move x,ty,pos,after,g⟩:Oper).looksAt ops) S) g=some true:=by exact rfl) (hd:Zv n dst=true:=by exact rfl) (hx:ev (sel ((⟨dst,.move x,ty,pos,after,g⟩:Oper).looksAt ops) S) x=some v:=by exact rfl) (h:Zbl C k' n ops I (i :: ℓ) K (ZbI S dst v) D B L):Zbl C k' n ops I ℓ K S D B L:=Zai i hii hrr hdd (fun _ _ _=>ZrA hg hd hx ⟨rfl,rfl,rfl,rfl⟩) h
theorem aA  {x:Operand} {v:Value} (i:Nat) (hii:ops[i]? = some ⟨dst,.assign x,ty,pos,after,g⟩)  (hrr:(ZaM ops ℓ).contains i=true:=by kernel_rfl) (hdd:Zv n dst=true:=by exact rfl) (hg:Zo ops (sel ((⟨dst,.assign x,ty,pos,after,g⟩:Oper).looksAt ops) S) g=some true:=by exact rfl) (hd:Zv n dst=true:=by exact rfl) (hx:ev (sel ((⟨dst,.assign x,ty,pos,after,g⟩:Oper).looksAt ops) S) x=some v:=by exact rfl) (h:Zbl C k' n ops I (i :: ℓ) K (ZbI S dst v) D B L):Zbl C k' n ops I ℓ K S D B L:=Zai i hii hrr hdd (fun _ _ _=>ZlT hg hd hx ⟨rfl,rfl,rfl,rfl⟩) h
theorem aZ  {dst:Option Tmp} {op:Op} {t:TypeId} {pos:String} {after:Array Edge} {g:Option (Nat × Bool)} (i:Nat) (hii:ops[i]? = some ⟨dst,op,t,pos,after,g⟩)  (hrr:(ZaM ops ℓ).contains i=true:=by kernel_rfl) (hdd:Zv n dst=true:=by exact rfl) (hg:Zo ops (sel ((⟨dst,op,t,pos,after,g⟩:Oper).looksAt ops) S) g=some false:=by exact rfl) (hd:Zv n dst=true:=by exact rfl) (h:Zbl C k' n ops I (i :: ℓ) K (ZbI S dst undef) D B L):Zbl C k' n ops I ℓ K S D B L:=Zai i hii hrr hdd (fun _ _ _=>Zrx hg hd ⟨rfl,rfl,rfl,rfl⟩) h
theorem aPT  {c:Operand} {a:Operand} {b:Operand} {v:Value} (i:Nat) (hii:ops[i]? = some ⟨dst,.pick c a b,ty,pos,after,g⟩)  (hrr:(ZaM ops ℓ).contains i=true:=by kernel_rfl) (hdd:Zv n dst=true:=by exact rfl) (hg:Zo ops (sel ((⟨dst,.pick c a b,ty,pos,after,g⟩:Oper).looksAt ops) S) g=some true:=by exact rfl) (hd:Zv n dst=true:=by exact rfl) (hc:ev (sel ((⟨dst,.pick c a b,ty,pos,after,g⟩:Oper).looksAt ops) S) c=some (.bool true):=by exact rfl) (hx:ev (sel ((⟨dst,.pick c a b,ty,pos,after,g⟩:Oper).looksAt ops) S) a=some v:=by exact rfl) (h:Zbl C k' n ops I (i :: ℓ) K (ZbI S dst v) D B L):Zbl C k' n ops I ℓ K S D B L:=Zai i hii hrr hdd (fun _ _ _=>ZnP hg hd hc hx ⟨rfl,rfl,rfl,rfl⟩) h
theorem aPF  {c:Operand} {a:Operand} {b:Operand} {v:Value} (i:Nat) (hii:ops[i]? = some ⟨dst,.pick c a b,ty,pos,after,g⟩)  (hrr:(ZaM ops ℓ).contains i=true:=by kernel_rfl) (hdd:Zv n dst=true:=by exact rfl) (hg:Zo ops (sel ((⟨dst,.pick c a b,ty,pos,after,g⟩:Oper).looksAt ops) S) g=some true:=by exact rfl) (hd:Zv n dst=true:=by exact rfl) (hc:ev (sel ((⟨dst,.pick c a b,ty,pos,after,g⟩:Oper).looksAt ops) S) c=some (.bool false):=by exact rfl) (hx:ev (sel ((⟨dst,.pick c a b,ty,pos,after,g⟩:Oper).looksAt ops) S) b=some v:=by exact rfl) (h:Zbl C k' n ops I (i :: ℓ) K (ZbI S dst v) D B L):Zbl C k' n ops I ℓ K S D B L:=Zai i hii hrr hdd (fun _ _ _=>ZnQ hg hd hc hx ⟨rfl,rfl,rfl,rfl⟩) h
theorem aE  {x:Operand} {ix:Nat} {vs:List Value} {v:Value} (i:Nat) (hii:ops[i]? = some ⟨dst,.extract x ix,ty,pos,after,g⟩)  (hrr:(ZaM ops ℓ).contains i=true:=by kernel_rfl) (hdd:Zv n dst=true:=by exact rfl) (hg:Zo ops (sel ((⟨dst,.extract x ix,ty,pos,after,g⟩:Oper).looksAt ops) S) g=some true:=by exact rfl) (hd:Zv n dst=true:=by exact rfl) (hx:ev (sel ((⟨dst,.extract x ix,ty,pos,after,g⟩:Oper).looksAt ops) S) x=some (.tuple vs.toArray):=by exact rfl) (hi:vs[ix]? = some v:=by exact rfl) (h:Zbl C k' n ops I (i :: ℓ) K (ZbI S dst v) D B L):Zbl C k' n ops I ℓ K S D B L:=Zai i hii hrr hdd (fun _ _ _=>Zjx hg hd hx hi ⟨rfl,rfl,rfl,rfl⟩) h
theorem aW  {s:TypeId} {x:Operand} {fi:Nat} {off:Nat} {a:Addr} (i:Nat) (hii:ops[i]? = some ⟨dst,.fieldAddr s x fi,ty,pos,after,g⟩) (hf:Zy P s fi=some off) (hrr:(ZaM ops ℓ).contains i=true:=by kernel_rfl) (hdd:Zv n dst=true:=by exact rfl) (hg:Zo ops (sel ((⟨dst,.fieldAddr s x fi,ty,pos,after,g⟩:Oper).looksAt ops) S) g=some true:=by exact rfl) (hd:Zv n dst=true:=by exact rfl) (hx:ev (sel ((⟨dst,.fieldAddr s x fi,ty,pos,after,g⟩:Oper).looksAt ops) S) x=some (ptr a):=by exact rfl) (h:Zbl C k' n ops I (i :: ℓ) K (ZbI S dst (ptr (a.add off))) D B L):Zbl C k' n ops I ℓ K S D B L:=Zai i hii hrr hdd (fun _ _ _=>Zg4 hg hd hf hx ⟨rfl,rfl,rfl,rfl⟩) h
theorem aN  {x:Operand} {b:Bool} {t:TypeId} (i:Nat) (hii:ops[i]? = some ⟨dst,.unOp .not t x,ty,pos,after,g⟩)  (hrr:(ZaM ops ℓ).contains i=true:=by kernel_rfl) (hdd:Zv n dst=true:=by exact rfl) (hg:Zo ops (sel ((⟨dst,.unOp .not t x,ty,pos,after,g⟩:Oper).looksAt ops) S) g=some true:=by exact rfl) (hd:Zv n dst=true:=by exact rfl) (hx:ev (sel ((⟨dst,.unOp .not t x,ty,pos,after,g⟩:Oper).looksAt ops) S) x=some (.bool b):=by exact rfl) (h:Zbl C k' n ops I (i :: ℓ) K (ZbI S dst (.bool (!b))) D B L):Zbl C k' n ops I ℓ K S D B L:=Zai i hii hrr hdd (fun _ _ _=>ZtC hg hd hx ⟨rfl,rfl,rfl,rfl⟩) h
theorem aNc  {x:Operand} {a:Addr} (i:Nat) (hii:ops[i]? = some ⟨dst,.nilCheck x,ty,pos,after,g⟩)  (hrr:(ZaM ops ℓ).contains i=true:=by kernel_rfl) (hdd:Zv n dst=true:=by exact rfl) (hg:Zo ops (sel ((⟨dst,.nilCheck x,ty,pos,after,g⟩:Oper).looksAt ops) S) g=some true:=by exact rfl) (hd:Zv n dst=true:=by exact rfl) (hx:ev (sel ((⟨dst,.nilCheck x,ty,pos,after,g⟩:Oper).looksAt ops) S) x=some (.pointer (some a)):=by exact rfl) (h:Zbl C k' n ops I (i :: ℓ) K (ZbI S dst (.pointer (some a))) D B L):Zbl C k' n ops I ℓ K S D B L:=Zai i hii hrr hdd (fun _ _ _=>Zh8 hg hd hx ⟨rfl,rfl,rfl,rfl⟩) h
theorem Zrp  {k:IntKind} {a b:Int} (i:Nat) (hii:ops[i]? = some ⟨dst,.binOp .lss t x y u,ty,pos,after,g⟩)  (hrr:(ZaM ops ℓ).contains i=true:=by kernel_rfl) (hdd:Zv n dst=true:=by exact rfl) (hg:Zo ops (sel ((⟨dst,.binOp .lss t x y u,ty,pos,after,g⟩:Oper).looksAt ops) S) g=some true:=by exact rfl) (hd:Zv n dst=true:=by exact rfl) (hx:ev (sel ((⟨dst,.binOp .lss t x y u,ty,pos,after,g⟩:Oper).looksAt ops) S) x=some (.int k a):=by exact rfl) (hy:ev (sel ((⟨dst,.binOp .lss t x y u,ty,pos,after,g⟩:Oper).looksAt ops) S) y=some (.int k b):=by exact rfl) (h:Zbl C k' n ops I (i :: ℓ) K (ZbI S dst (.bool (decide (a<b)))) D B L):Zbl C k' n ops I ℓ K S D B L:=Zai i hii hrr hdd (fun _ _ _=>ZtG hg hd hx hy ⟨rfl,rfl,rfl,rfl⟩) h
theorem Ztm  {k:IntKind} {a b:Int} (i:Nat) (hii:ops[i]? = some ⟨dst,.binOp .leq t x y u,ty,pos,after,g⟩)  (hrr:(ZaM ops ℓ).contains i=true:=by kernel_rfl) (hdd:Zv n dst=true:=by exact rfl) (hg:Zo ops (sel ((⟨dst,.binOp .leq t x y u,ty,pos,after,g⟩:Oper).looksAt ops) S) g=some true:=by exact rfl) (hd:Zv n dst=true:=by exact rfl) (hx:ev (sel ((⟨dst,.binOp .leq t x y u,ty,pos,after,g⟩:Oper).looksAt ops) S) x=some (.int k a):=by exact rfl) (hy:ev (sel ((⟨dst,.binOp .leq t x y u,ty,pos,after,g⟩:Oper).looksAt ops) S) y=some (.int k b):=by exact rfl) (h:Zbl C k' n ops I (i :: ℓ) K (ZbI S dst (.bool (decide (a≤b)))) D B L):Zbl C k' n ops I ℓ K S D B L:=Zai i hii hrr hdd (fun _ _ _=>ZtH hg hd hx hy ⟨rfl,rfl,rfl,rfl⟩) h
theorem ZnA  {k:IntKind} {a b:Int} (i:Nat) (hii:ops[i]? = some ⟨dst,.binOp .gtr t x y u,ty,pos,after,g⟩)  (hrr:(ZaM ops ℓ).contains i=true:=by kernel_rfl) (hdd:Zv n dst=true:=by exact rfl) (hg:Zo ops (sel ((⟨dst,.binOp .gtr t x y u,ty,pos,after,g⟩:Oper).looksAt ops) S) g=some true:=by exact rfl) (hd:Zv n dst=true:=by exact rfl) (hx:ev (sel ((⟨dst,.binOp .gtr t x y u,ty,pos,after,g⟩:Oper).looksAt ops) S) x=some (.int k a):=by exact rfl) (hy:ev (sel ((⟨dst,.binOp .gtr t x y u,ty,pos,after,g⟩:Oper).looksAt ops) S) y=some (.int k b):=by exact rfl) (h:Zbl C k' n ops I (i :: ℓ) K (ZbI S dst (.bool (decide (b<a)))) D B L):Zbl C k' n ops I ℓ K S D B L:=Zai i hii hrr hdd (fun _ _ _=>ZtL hg hd hx hy ⟨rfl,rfl,rfl,rfl⟩) h
theorem Zxd  {k:IntKind} {a b:Int} (i:Nat) (hii:ops[i]? = some ⟨dst,.binOp .geq t x y u,ty,pos,after,g⟩)  (hrr:(ZaM ops ℓ).contains i=true:=by kernel_rfl) (hdd:Zv n dst=true:=by exact rfl) (hg:Zo ops (sel ((⟨dst,.binOp .geq t x y u,ty,pos,after,g⟩:Oper).looksAt ops) S) g=some true:=by exact rfl) (hd:Zv n dst=true:=by exact rfl) (hx:ev (sel ((⟨dst,.binOp .geq t x y u,ty,pos,after,g⟩:Oper).looksAt ops) S) x=some (.int k a):=by exact rfl) (hy:ev (sel ((⟨dst,.binOp .geq t x y u,ty,pos,after,g⟩:Oper).looksAt ops) S) y=some (.int k b):=by exact rfl) (h:Zbl C k' n ops I (i :: ℓ) K (ZbI S dst (.bool (decide (b≤a)))) D B L):Zbl C k' n ops I ℓ K S D B L:=Zai i hii hrr hdd (fun _ _ _=>ZtM hg hd hx hy ⟨rfl,rfl,rfl,rfl⟩) h
theorem Zu3  {k:IntKind} {a b:Int} (i:Nat) (hii:ops[i]? = some ⟨dst,.binOp .eql t x y u,ty,pos,after,g⟩)  (hrr:(ZaM ops ℓ).contains i=true:=by kernel_rfl) (hdd:Zv n dst=true:=by exact rfl) (hg:Zo ops (sel ((⟨dst,.binOp .eql t x y u,ty,pos,after,g⟩:Oper).looksAt ops) S) g=some true:=by exact rfl) (hd:Zv n dst=true:=by exact rfl) (hx:ev (sel ((⟨dst,.binOp .eql t x y u,ty,pos,after,g⟩:Oper).looksAt ops) S) x=some (.int k a):=by exact rfl) (hy:ev (sel ((⟨dst,.binOp .eql t x y u,ty,pos,after,g⟩:Oper).looksAt ops) S) y=some (.int k b):=by exact rfl) (h:Zbl C k' n ops I (i :: ℓ) K (ZbI S dst (.bool (decide (a=b)))) D B L):Zbl C k' n ops I ℓ K S D B L:=Zai i hii hrr hdd (fun _ _ _=>ZrE hg hd hx hy ⟨rfl,rfl,rfl,rfl⟩) h
theorem Zu1  {k:IntKind} {a b:Int} (i:Nat) (hii:ops[i]? = some ⟨dst,.binOp .neq t x y u,ty,pos,after,g⟩)  (hrr:(ZaM ops ℓ).contains i=true:=by kernel_rfl) (hdd:Zv n dst=true:=by exact rfl) (hg:Zo ops (sel ((⟨dst,.binOp .neq t x y u,ty,pos,after,g⟩:Oper).looksAt ops) S) g=some true:=by exact rfl) (hd:Zv n dst=true:=by exact rfl) (hx:ev (sel ((⟨dst,.binOp .neq t x y u,ty,pos,after,g⟩:Oper).looksAt ops) S) x=some (.int k a):=by exact rfl) (hy:ev (sel ((⟨dst,.binOp .neq t x y u,ty,pos,after,g⟩:Oper).looksAt ops) S) y=some (.int k b):=by exact rfl) (h:Zbl C k' n ops I (i :: ℓ) K (ZbI S dst (.bool (decide (a≠b)))) D B L):Zbl C k' n ops I ℓ K S D B L:=Zai i hii hrr hdd (fun _ _ _=>Zrz hg hd hx hy ⟨rfl,rfl,rfl,rfl⟩) h
theorem Zu2  {a b:List UInt8} (i:Nat) (hii:ops[i]? = some ⟨dst,.binOp .eql t x y u,ty,pos,after,g⟩)  (hrr:(ZaM ops ℓ).contains i=true:=by kernel_rfl) (hdd:Zv n dst=true:=by exact rfl) (hg:Zo ops (sel ((⟨dst,.binOp .eql t x y u,ty,pos,after,g⟩:Oper).looksAt ops) S) g=some true:=by exact rfl) (hd:Zv n dst=true:=by exact rfl) (hx:ev (sel ((⟨dst,.binOp .eql t x y u,ty,pos,after,g⟩:Oper).looksAt ops) S) x=some (str a):=by exact rfl) (hy:ev (sel ((⟨dst,.binOp .eql t x y u,ty,pos,after,g⟩:Oper).looksAt ops) S) y=some (str b):=by exact rfl) (h:Zbl C k' n ops I (i :: ℓ) K (ZbI S dst (.bool (decide (a=b)))) D B L):Zbl C k' n ops I ℓ K S D B L:=Zai i hii hrr hdd (fun _ _ _=>ZrD hg hd hx hy ⟨rfl,rfl,rfl,rfl⟩) h
theorem Zfe  {a b:List UInt8} (i:Nat) (hii:ops[i]? = some ⟨dst,.binOp .neq t x y u,ty,pos,after,g⟩)  (hrr:(ZaM ops ℓ).contains i=true:=by kernel_rfl) (hdd:Zv n dst=true:=by exact rfl) (hg:Zo ops (sel ((⟨dst,.binOp .neq t x y u,ty,pos,after,g⟩:Oper).looksAt ops) S) g=some true:=by exact rfl) (hd:Zv n dst=true:=by exact rfl) (hx:ev (sel ((⟨dst,.binOp .neq t x y u,ty,pos,after,g⟩:Oper).looksAt ops) S) x=some (str a):=by exact rfl) (hy:ev (sel ((⟨dst,.binOp .neq t x y u,ty,pos,after,g⟩:Oper).looksAt ops) S) y=some (str b):=by exact rfl) (h:Zbl C k' n ops I (i :: ℓ) K (ZbI S dst (.bool (decide (a≠b)))) D B L):Zbl C k' n ops I ℓ K S D B L:=Zai i hii hrr hdd (fun _ _ _=>Zry hg hd hx hy ⟨rfl,rfl,rfl,rfl⟩) h
theorem aD  {k:IntKind} {a b r:Int} (i:Nat) (hii:ops[i]? = some ⟨dst,.binOp .add t x y u,ty,pos,after,g⟩)  (hrr:(ZaM ops ℓ).contains i=true:=by kernel_rfl) (hdd:Zv n dst=true:=by exact rfl) (hg:Zo ops (sel ((⟨dst,.binOp .add t x y u,ty,pos,after,g⟩:Oper).looksAt ops) S) g=some true:=by exact rfl) (hd:Zv n dst=true:=by exact rfl) (hx:ev (sel ((⟨dst,.binOp .add t x y u,ty,pos,after,g⟩:Oper).looksAt ops) S) x=some (.int k a):=by exact rfl) (hy:ev (sel ((⟨dst,.binOp .add t x y u,ty,pos,after,g⟩:Oper).looksAt ops) S) y=some (.int k b):=by exact rfl) (hr:k.wrap (a+b)=r:=by first | exact Zcq (by first | omega | (simp;done) | (simp;omega)) (by first | omega | (simp;done) | (simp;omega)) | exact rfl) (h:Zbl C k' n ops I (i :: ℓ) K (ZbI S dst (.int k r)) D B L):Zbl C k' n ops I ℓ K S D B L:=Zai i hii hrr hdd (fun _ _ _=>ZgN hg hd hx hy hr ⟨rfl,rfl,rfl,rfl⟩) h
theorem aU  {k:IntKind} {a b r:Int} (i:Nat) (hii:ops[i]? = some ⟨dst,.binOp .sub t x y u,ty,pos,after,g⟩)  (hrr:(ZaM ops ℓ).contains i=true:=by kernel_rfl) (hdd:Zv n dst=true:=by exact rfl) (hg:Zo ops (sel ((⟨dst,.binOp .sub t x y u,ty,pos,after,g⟩:Oper).looksAt ops) S) g=some true:=by exact rfl) (hd:Zv n dst=true:=by exact rfl) (hx:ev (sel ((⟨dst,.binOp .sub t x y u,ty,pos,after,g⟩:Oper).looksAt ops) S) x=some (.int k a):=by exact rfl) (hy:ev (sel ((⟨dst,.binOp .sub t x y u,ty,pos,after,g⟩:Oper).looksAt ops) S) y=some (.int k b):=by exact rfl) (hr:k.wrap (a - b)=r:=by first | exact Zcq (by first | omega | (simp;done) | (simp;omega)) (by first | omega | (simp;done) | (simp;omega)) | exact rfl) (h:Zbl C k' n ops I (i :: ℓ) K (ZbI S dst (.int k r)) D B L):Zbl C k' n ops I ℓ K S D B L:=Zai i hii hrr hdd (fun _ _ _=>ZiJ hg hd hx hy hr ⟨rfl,rfl,rfl,rfl⟩) h
theorem aIx  {t:TypeId} {e:TypeId} {x:Operand} {y:Operand} {k:IntKind} {b:Nat} {o:Nat} {len:Nat} {cap:Nat} {sz:Nat} {ix:Int} (i:Nat) (hii:ops[i]? = some ⟨dst,.indexAddr t x y,ty,pos,after,g⟩) (hu:P.underlying t=some (.slice e)) (hsz:ZP P e=some sz) (hrr:(ZaM ops ℓ).contains i=true:=by kernel_rfl) (hdd:Zv n dst=true:=by exact rfl) (hg:Zo ops (sel ((⟨dst,.indexAddr t x y,ty,pos,after,g⟩:Oper).looksAt ops) S) g=some true:=by exact rfl) (hd:Zv n dst=true:=by exact rfl) (hx:ev (sel ((⟨dst,.indexAddr t x y,ty,pos,after,g⟩:Oper).looksAt ops) S) x=some (.slice (some ⟨b,o,none⟩) len cap):=by exact rfl) (hy:ev (sel ((⟨dst,.indexAddr t x y,ty,pos,after,g⟩:Oper).looksAt ops) S) y=some (.int k ix):=by exact rfl) (h0:0≤ix:=by first | omega | (simp;done) | (simp;omega)) (h1:ix<len:=by first | omega | (simp;done) | (simp;omega)) (h:Zbl C k' n ops I (i :: ℓ) K (ZbI S dst (ptr ⟨b,o+ix.toNat*sz,none⟩)) D B L):Zbl C k' n ops I ℓ K S D B L:=Zai i hii hrr hdd (fun _ _ _=>ZtJ hg hd hu hsz hx hy h0 h1 ⟨rfl,rfl,rfl,rfl⟩) h
end
end Go.BL
namespace Go.BL
open Go
set_option linter.unusedVariables false
set_option linter.unusedSimpArgs false
def Zbg (c:UInt8):Bool:=(decide (97≤c.toNat) && decide (c.toNat≤122)) || (decide (48≤c.toNat) && decide (c.toNat≤57))
def ZaG (l:List UInt8):Bool:=l.all Zbg && decide (1≤l.length) && decide (l.length≤8)
theorem Zrl {l:List UInt8} {k:Nat} {c:UInt8} (hc:l[k]? = some c) (h:Zbg c=false):l.all Zbg=false:=by
  rw [Bool.eq_false_iff];intro ha
  have:=List.all_eq_true.1 ha c (List.mem_of_getElem? hc)
  rw [h] at this;cases this
theorem ZmA {l:List UInt8} {k:Nat} {c:UInt8} (hc:l[k]? = some c) (h:Zbg c=true) (ha:(l.take k).all Zbg=true):(l.take (k+1)).all Zbg=true:=by
  rw [List.take_add_one,hc];simp only [Option.toList_some,List.all_append,ha,List.all_cons,h,List.all_nil];rfl
def word (l:List UInt8) (i:Nat):List UInt8:=(l.drop i).takeWhile Zbg
def Zdc (w:List UInt8):Bool:=decide (1≤w.length) && decide (w.length≤8)
theorem Zol {o:Option UInt8} {f:UInt8→Bool} (h:(match o with | some c=>f c | none=>false)=true) :∃c,o=some c∧f c=true:=by
  cases o with
  | none=>cases h
  | some c=>exact ⟨c,rfl,h⟩
theorem Za9 {α:Type} {l:List α} {k:Nat} {c:α} (h:l[k]? = some c):k<l.length:=(List.getElem?_eq_some_iff.1 h).1
theorem ZfM {p:UInt8→Bool} :∀{m:List UInt8} {k:Nat},(m.take k).all p=true→(∀c,m[k]? = some c→p c=false)→m.takeWhile p=m.take k
  | [],k,_,_=>by simp
  | c :: m,0,_,h=>by simp [List.takeWhile,h c rfl]
  | c :: m,k+1,ha,h=>by
    simp only [List.take_succ_cons,List.all_cons,Bool.and_eq_true] at ha
    simp only [List.takeWhile,ha.1,List.take_succ_cons]
    rw [ZfM ha.2 (fun c hc=>h c (by simpa using hc))]
theorem ZpZ {l:List UInt8} {i k:Nat} (ha:((l.drop i).take k).all Zbg=true) (h :∀c,l[i+k]? = some c→Zbg c=false):word l i=(l.drop i).take k:=
  ZfM ha (fun c hc=>h c (by simpa using hc))
theorem Zfb {l:List UInt8} {i k:Nat} : (l.take (i+k)).drop i=(l.drop i).take k:=by
  rw [List.drop_take,Nat.add_sub_cancel_left]
theorem Zib {a b c d:Value} (h:a=c) (h':b=d):Value.tuple #[a,b]=Value.tuple #[c,d]:=by rw [h,h']
def more:Nat→List UInt8→Nat→Bool × Nat
  | 0,_,i=>(true,i)
  | n+1,l,i=>if l[i]? = some 46 then (if Zdc (word l (i+1))=true then more n l (i+1+(word l (i+1)).length) else (false,i+1+(word l (i+1)).length)) else (true,i)
def dom (l:List UInt8) (i:Nat):Bool × Nat:=if Zdc (word l i)=true then more 2 l (i+(word l i).length) else (false,i+(word l i).length)
def ZhP (l:List UInt8) (i:Nat):List UInt8:=if (dom l i).1=true then (l.take (dom l i).2).drop i else []
def ZlG (l:List UInt8) (i:Nat):Bool:=(dom l i).1 && decide ((dom l i).2 - i≤20)
theorem ZlF {l:List UInt8} {i:Nat} (h:Zdc (word l i)=false):dom l i=(false,i+(word l i).length):=by simp [dom,h]
theorem Zrd {l:List UInt8} {i:Nat} (h:Zdc (word l i)=true):dom l i=more 2 l (i+(word l i).length):=by simp [dom,h]
theorem Zg1 {l:List UInt8} {i:Nat} (h:i≤l.length):i+(word l i).length≤l.length:=by
  have:=List.IsPrefix.length_le (List.takeWhile_prefix Zbg (l:=l.drop i))
  rw [List.length_drop] at this
  unfold word;omega
theorem Zhr {l:List UInt8} {n j:Nat} (h : ¬ l[j]? = some 46):more n l j=(true,j):=by
  cases n with
  | zero=>rfl
  | succ n=>rw [more,if_neg h]
theorem ZqI {l:List UInt8} {n j:Nat} (hn:1≤n) (h:l[j]? = some 46) (hw:Zdc (word l (j+1))=false):more n l j=(false,j+1+(word l (j+1)).length):=by
  cases n with
  | zero=>omega
  | succ n=>rw [more,if_pos h,if_neg (by simp [hw])]
theorem ZoK {l:List UInt8} {n j:Nat} (hn:1≤n) (h:l[j]? = some 46) (hw:Zdc (word l (j+1))=true):more n l j=more (n - 1) l (j+1+(word l (j+1)).length):=by
  cases n with
  | zero=>omega
  | succ n=>rw [more,if_pos h,if_pos hw];rfl
theorem ZdT {p:UInt8→Bool} :∀l:List UInt8,(l.takeWhile p).length=l.length↔l.all p=true
  | []=>by simp
  | c :: l=>by
    have h:=ZdT (p:=p) l
    cases hc:p c with
    | true=>simp [List.takeWhile,hc] at h ⊢;exact h
    | false=>simp [List.takeWhile,hc]
theorem ZcZ {l:List UInt8} : ZaG l=(Zdc (word l 0) && decide ((word l 0).length=l.length)):=by
  have h:=ZdT (p:=Zbg) l
  have e:word l 0=l.takeWhile Zbg:=by simp [word]
  rw [Bool.eq_iff_iff]
  simp only [ZaG,Zdc,e,Bool.and_eq_true,decide_eq_true_eq]
  constructor
  · rintro ⟨⟨h1,h2⟩,h3⟩
    have:=h.2 h1
    omega
  · rintro ⟨⟨h1,h2⟩,h3⟩
    exact ⟨⟨h.1 h3,by omega⟩,by omega⟩
theorem ZoJ {l:List UInt8} :∀(n j:Nat),j≤l.length→(more n l j).2≤l.length
  | 0,j,h=>h
  | n+1,j,h=>by
    rw [more]
    split
    · rename_i e
      have:=Za9 e
      have h2:=Zg1 (l:=l) (i:=j+1) (by omega)
      split
      · exact ZoJ n _ h2
      · exact h2
    · exact h
theorem ZuO {l:List UInt8} {i:Nat} (h:i≤l.length):(dom l i).2≤l.length:=by
  unfold dom
  have h2:=Zg1 h
  split
  · exact ZoJ 2 _ h2
  · exact h2
def glue (a:List UInt8):List (List UInt8)→List (List UInt8)
  | []=>[a]
  | p :: ps=>(a ++ p) :: ps
def cut (x:UInt8):List UInt8→List (List UInt8)
  | []=>[[]]
  | c :: r=>if c=x then [] :: cut x r else glue [c] (cut x r)
theorem Zmz (x:UInt8) :∀l,cut x l≠[]
  | []=>by simp [cut]
  | c :: r=>by
    rw [cut]
    split
    · simp
    · cases cut x r <;> simp [glue]
theorem Zmq {m:List (List UInt8)} (h:m≠[]):glue [] m=m:=by
  cases m with
  | nil=>exact absurd rfl h
  | cons p ps=>rfl
theorem Zpa (a b:List UInt8) (m:List (List UInt8)):glue a (glue b m)=glue (a ++ b) m:=by
  cases m <;> simp [glue]
structure CutSt where
  i:Nat
  f:Nat
  m:Nat
  ps:List (List UInt8)
  q:Option Addr
  cp:Nat
  s:Cells
theorem Zvw {a b:UInt8} (h:(a.toNat:Int)=b.toNat):a=b:=UInt8.toNat_inj.1 (by exact_mod_cast h)
theorem Ztj {l:List UInt8} {x c:UInt8} {i:Nat} (h:l[i]? = some c) (e:c=x):cut x (l.drop i)=[] :: cut x (l.drop (i+1)):=by
  obtain ⟨hlt,he⟩:=List.getElem?_eq_some_iff.1 h
  rw [List.drop_eq_getElem_cons hlt,he,cut,if_pos e]
theorem Zrf {l:List UInt8} {x c:UInt8} {i:Nat} (h:l[i]? = some c) (e:c≠x):cut x (l.drop i)=glue [c] (cut x (l.drop (i+1))):=by
  obtain ⟨hlt,he⟩:=List.getElem?_eq_some_iff.1 h
  rw [List.drop_eq_getElem_cons hlt,he,cut,if_neg e]
theorem Zvv {a b:UInt8} (h : ¬ (a.toNat:Int)=b.toNat):a≠b:=fun e=>h (by rw [e])
theorem Zn8 {l:List UInt8} {c:UInt8} {i f:Nat} (h:l[i]? = some c) (hf:f≤i):(l.take i).drop f ++ [c]=(l.take (i+1)).drop f:=by
  have hlt:=Za9 h
  rw [List.take_add_one,h]
  simp only [Option.toList_some]
  rw [List.drop_append_of_le_length (by rw [List.length_take];omega)]
theorem Zq3 (a:List UInt8) (m:List (List UInt8)):glue a ([] :: m)=a :: m:=by simp [glue]
def Zcy (l:List UInt8):Bool:=(cut 46 l).all ZaG && decide ((cut 46 l).length≤3) && decide (l.length≤20)
theorem Zq2 {a:List UInt8} {m:List (List UInt8)} {n:Nat} (h :∀p,p∈m→p.length≤n) :∀p,p∈glue a m→p.length≤a.length+n:=by
  cases m with
  | nil=>intro p hp;simp [glue] at hp;subst hp;omega
  | cons q qs=>
    intro p hp
    simp only [glue,List.mem_cons] at hp
    rcases hp with rfl | hp
    · rw [List.length_append];have:=h q (List.mem_cons_self ..);omega
    · have:=h p (List.mem_cons_of_mem _ hp);omega
theorem ZlH (x:UInt8) :∀(l p:List UInt8),p∈cut x l→p.length≤l.length
  | [],p,h=>by simp [cut] at h;subst h;simp
  | c :: r,p,h=>by
    rw [cut] at h
    split at h
    · rcases List.mem_cons.1 h with rfl | h
      · simp
      · have:=ZlH x r p h;simp;omega
    · have:=Zq2 (ZlH x r) p h;simp at this ⊢;omega
theorem ZkH {l:List (List UInt8)} {k:Nat} {c:List UInt8} (hc:l[k]? = some c) (h:ZaG c=false):l.all ZaG=false:=by
  rw [Bool.eq_false_iff];intro ha
  have:=List.all_eq_true.1 ha c (List.mem_of_getElem? hc)
  rw [h] at this;cases this
theorem ZhV {l:List (List UInt8)} {k:Nat} {c:List UInt8} (hc:l[k]? = some c) (h:ZaG c=true) (ha:(l.take k).all ZaG=true):(l.take (k+1)).all ZaG=true:=by
  rw [List.take_add_one,hc];simp only [Option.toList_some,List.all_append,ha,List.all_cons,h,List.all_nil];rfl
theorem Zkz (x:UInt8) :∀l:List UInt8,(cut x l).length≤l.length+1
  | []=>by simp [cut]
  | c :: r=>by
    have h:=Zkz x r
    rw [cut]
    split
    · simp;omega
    · cases hq:cut x r with
      | nil=>exact absurd hq (Zmz x r)
      | cons p ps=>rw [hq] at h;simp [glue] at h ⊢;omega
end Go.BL
namespace Go.BL
open Go
set_option linter.unusedVariables false
set_option linter.unusedSimpArgs false
theorem Zjn {x:UInt8} :∀{l:List UInt8},x ∉ l→cut x l=[l]
  | [],_=>rfl
  | c :: r,h=>by
    rw [cut,if_neg (fun e=>h (by rw [e];exact List.mem_cons_self ..)),Zjn (fun hm=>h (List.mem_cons_of_mem _ hm))]
    rfl
theorem ZhQ {x:UInt8} {b:List UInt8} :∀{a:List UInt8},x ∉ a→cut x (a ++ x :: b)=a :: cut x b
  | [],_=>by simp [cut]
  | c :: r,h=>by
    rw [List.cons_append,cut,if_neg (fun e=>h (by rw [e];exact List.mem_cons_self ..)),ZhQ (fun hm=>h (List.mem_cons_of_mem _ hm))]
    rfl
theorem Zfm {x:UInt8} :∀{l:List UInt8},x∈l→∃a b,l=a ++ x :: b∧x ∉ a
  | c :: r,h=>by
    by_cases e:c=x
    · exact ⟨[],r,by simp [e],by simp⟩
    · have hr:x∈r:=(List.mem_cons.1 h).resolve_left (Ne.symm e)
      obtain ⟨a,b,h1,h2⟩:=Zfm hr
      exact ⟨c :: a,b,by simp [h1],by simp [Ne.symm e,h2]⟩
theorem Zh4 (l:List UInt8) (i j:Nat):word l (i+j)=word (l.drop i) j:=by
  unfold word;rw [List.drop_drop]
theorem Zil (l:List UInt8) (i:Nat) :∀n j,more n l (i+j)=((more n (l.drop i) j).1,i+(more n (l.drop i) j).2)
  | 0,j=>rfl
  | n+1,j=>by
    simp only [more,List.getElem?_drop]
    rw [show i+j+1=i+(j+1) from by omega,Zh4]
    split
    · split
      · rw [show i+(j+1)+(word (l.drop i) (j+1)).length=i+(j+1+(word (l.drop i) (j+1)).length) from by omega,Zil l i n]
      · simp only [Prod.mk.injEq,true_and];omega
    · rfl
theorem Zp0 {l:List UInt8} (h:l.all Zbg=true):word l 0=l:=by
  have:=(ZdT (p:=Zbg) l).2 h
  have h2:=List.takeWhile_prefix Zbg (l:=l)
  simp only [word,List.drop_zero]
  exact List.IsPrefix.eq_of_length h2 this
theorem ZgB {a b:List UInt8} {x:UInt8} (hx:Zbg x=false) (h:a.all Zbg=true):word (a ++ x :: b) 0=a:=by
  simp only [word,List.drop_zero]
  induction a with
  | nil=>simp [List.takeWhile,hx]
  | cons c a ih=>
    simp only [List.all_cons,Bool.and_eq_true] at h
    simp only [List.cons_append,List.takeWhile,h.1,ih h.2]
theorem ZgA {a:List UInt8} (b:List UInt8) (h:a.all Zbg=false):(word (a ++ b) 0).length<a.length∧word (a ++ b) 0=word a 0:=by
  simp only [word,List.drop_zero]
  induction a with
  | nil=>simp at h
  | cons c a ih=>
    cases hc:Zbg c with
    | false=>simp [List.takeWhile,hc]
    | true=>
      have h':a.all Zbg=false:=by simpa [hc] using h
      have:=ih h'
      simp only [List.cons_append,List.takeWhile,hc,List.length_cons]
      exact ⟨by omega,by rw [this.2]⟩
theorem ZsP {a:List UInt8} (b:List UInt8) {k:Nat} (h:k<a.length):(a ++ b)[k]? = a[k]?:=List.getElem?_append_left h
theorem ZhD {x:UInt8} {a:List UInt8} (h:x ∉ a) (k:Nat):a[k]?≠some x:=fun e=>h (List.mem_of_getElem? e)
theorem ZoE :∀(n:Nat) (b:List UInt8),(Zdc (word b 0)=true∧more n b (word b 0).length=(true,b.length))↔((cut 46 b).all ZaG=true∧(cut 46 b).length≤n+1):=by
  intro n
  induction n with
  | zero=>
    intro b
    by_cases hd:(46:UInt8)∈b
    · obtain ⟨a,r,rfl,ha⟩:=Zfm hd
      rw [ZhQ ha]
      have hlen:(word (a ++ 46 :: r) 0).length≤a.length:=by
        cases hna:a.all Zbg with
        | true=>rw [ZgB (by decide) hna];exact Nat.le_refl _
        | false=>exact Nat.le_of_lt (ZgA _ hna).1
      constructor
      · rintro ⟨_,h2⟩
        simp only [more,Prod.mk.injEq,true_and] at h2
        rw [List.length_append,List.length_cons] at h2
        omega
      · rintro ⟨_,h2⟩
        have:=Zmz 46 r
        simp only [List.length_cons] at h2
        exact absurd (List.eq_nil_of_length_eq_zero (by omega)) this
    · rw [Zjn hd]
      simp only [more,List.all_cons,List.all_nil,Bool.and_true,List.length_cons,List.length_nil,Nat.zero_add,Nat.le_refl,and_true,Prod.mk.injEq,true_and,ZcZ,Bool.and_eq_true,decide_eq_true_eq]
  | succ n ih=>
    intro b
    by_cases hd:(46:UInt8)∈b
    · obtain ⟨a,r,rfl,ha⟩:=Zfm hd
      rw [ZhQ ha]
      cases hna:a.all Zbg with
      | true=>
        rw [ZgB (by decide) hna]
        have hg:(a ++ 46 :: r)[a.length]? = some 46:=by simp
        have hdr:(a ++ 46 :: r).drop (a.length+1)=r:=by rw [List.drop_append];simp
        have hw:word (a ++ 46 :: r) (a.length+1)=word r 0:=by
          have:=Zh4 (a ++ 46 :: r) (a.length+1) 0
          rw [Nat.add_zero,hdr] at this;exact this
        have hm:more n (a ++ 46 :: r) (a.length+1+(word r 0).length)=((more n r (word r 0).length).1,a.length+1+(more n r (word r 0).length).2):=by
          rw [Zil,hdr]
        simp only [more,hg,if_true,hw,hm,List.all_cons,Bool.and_eq_true,List.length_cons]
        have hna':ZaG a=Zdc a:=by rw [ZcZ,Zp0 hna];simp
        have hi:=ih r
        constructor
        · rintro ⟨h1,h2⟩
          split at h2
          · rename_i h3
            simp only [Prod.mk.injEq,List.length_append,List.length_cons] at h2
            have:=hi.1 ⟨h3,by ext1;exact h2.1;simp only [];omega⟩
            exact ⟨⟨by rw [hna'];exact h1,this.1⟩,by omega⟩
          · simp at h2
        · rintro ⟨⟨h1,h2⟩,h3⟩
          obtain ⟨h4,h5⟩:=hi.2 ⟨h2,by omega⟩
          refine ⟨by rw [← hna'];exact h1,?_⟩
          rw [if_pos h4,h5]
          simp;omega
      | false=>
        obtain ⟨h1,h2⟩:=ZgA (46 :: r) hna
        have hne:ZaG a=false:=by simp [ZaG,hna]
        constructor
        · rintro ⟨_,h3⟩
          rw [Zhr (by rw [ZsP _ h1];exact ZhD ha _)] at h3
          simp only [Prod.mk.injEq,true_and,List.length_append,List.length_cons] at h3
          omega
        · rintro ⟨h3,_⟩
          simp [hne] at h3
    · rw [Zjn hd]
      rw [Zhr (ZhD hd _)]
      simp only [List.all_cons,List.all_nil,Bool.and_true,List.length_cons,List.length_nil,Prod.mk.injEq,true_and,ZcZ,Bool.and_eq_true,decide_eq_true_eq]
      constructor
      · rintro ⟨h1,h2⟩;exact ⟨⟨h1,h2⟩,by omega⟩
      · rintro ⟨⟨h1,h2⟩,_⟩;exact ⟨h1,h2⟩
theorem Zkv (b:List UInt8):((dom b 0).1=true∧(dom b 0).2≤20∧(dom b 0).2=b.length)↔Zcy b=true:=by
  have h:=ZoE 2 b
  simp only [Zcy,Bool.and_eq_true,decide_eq_true_eq]
  constructor
  · rintro ⟨h1,h2,h3⟩
    cases hw:Zdc (word b 0) with
    | false=>simp [dom,hw] at h1
    | true=>
      simp only [dom,hw,if_true,Nat.zero_add] at h1 h2 h3
      have:=h.1 ⟨hw,by ext1;exact h1;exact h3⟩
      exact ⟨⟨this.1,this.2⟩,by omega⟩
  · rintro ⟨⟨h1,h2⟩,h3⟩
    obtain ⟨h4,h5⟩:=h.2 ⟨h1,h2⟩
    simp only [dom,h4,if_true,Nat.zero_add,h5]
    exact ⟨trivial,h3,trivial⟩
end Go.BL
namespace Go.BL
open Go
set_option linter.unusedVariables false
set_option linter.unusedSimpArgs false
theorem Zbj {α:Type} {p:α→Prop} {l:List α} {k:Nat} {x:α} (hx:l[k]? = some x) (h :∀y,y∈l.take k→p y) (hp:p x) :∀y,y∈l.take (k+1)→p y:=by
  intro y hy
  rw [List.take_add_one,hx] at hy
  simp only [Option.toList_some,List.mem_append,List.mem_singleton] at hy
  rcases hy with hy | rfl
  · exact h y hy
  · exact hp
def ZfG (us:List DUser) (u:Str):Int:=match us.findIdx? (fun x=>decide (x.name=u)) with | some i=>i | none=>-1
theorem ZqP {us:List DUser} {u:Str} {k:Nat} {x:DUser} (hx:us[k]? = some x) (he:x.name=u) (h :∀y,y∈us.take k→y.name≠u):ZfG us u=k:=by
  have:us.findIdx? (fun x=>decide (x.name=u))=some k:=by
    rw [List.findIdx?_eq_some_iff_getElem]
    obtain ⟨hk,rfl⟩:=List.getElem?_eq_some_iff.1 hx
    refine ⟨hk,by simpa using he,fun j hj=>?_⟩
    have:=h us[j] (by rw [List.mem_take_iff_getElem];exact ⟨j,by omega,rfl⟩)
    simpa using this
  rw [ZfG,this]
theorem Zo1 {us:List DUser} {u:Str} (h :∀y,y∈us→y.name≠u):ZfG us u = -1:=by
  have:us.findIdx? (fun x=>decide (x.name=u))=none:=by
    rw [List.findIdx?_eq_none_iff]
    intro x hx
    simpa using h x hx
  rw [ZfG,this]
theorem ZbS {α:Type} {as bs:List α} {k:Nat} {x y:α} (hx:as[k]? = some x) (hy:bs[k]? = some y) (e:x=y) (h:as.take k=bs.take k):as.take (k+1)=bs.take (k+1):=by
  rw [List.take_add_one,List.take_add_one,hx,hy,e,h]
theorem Zgt {α:Type} {as bs:List α} {inst:Decidable (as=bs)} (h : ¬ (as.length:Int)=bs.length):false=decide (as=bs):=by
  symm;rw [decide_eq_false_iff_not];intro e;exact h (by rw [e])
theorem ZeT {α:Type} {as bs:List α} {inst:Decidable (as=bs)} {k:Nat} {x y:α} (hx:as[k]? = some x) (hy:bs[k]? = some y) (e : ¬ x=y):false=decide (as=bs):=by
  symm;rw [decide_eq_false_iff_not];intro h;rw [h,hy] at hx;exact e (Option.some.inj hx).symm
theorem eqT {α:Type} {as bs:List α} {inst:Decidable (as=bs)} {k:Nat} (hl:as.length=bs.length) (hk:k=as.length) (h:as.take k=bs.take k):true=decide (as=bs):=by
  symm;rw [decide_eq_true_eq]
  rw [List.take_of_length_le (by omega),List.take_of_length_le (by omega)] at h;exact h
theorem ZxI {α:Type} {as:List α} {x:α} {inst:Decidable (x∈as)} (h :∀y,y∈as→y≠x):false=decide (x∈as):=by
  symm;rw [decide_eq_false_iff_not];intro hx;exact h x hx rfl
theorem ZxH {α:Type} {as:List α} {x y:α} {inst:Decidable (x∈as)} {k:Nat} (hy:as[k]? = some y) (e:y=x):true=decide (x∈as):=by
  symm;rw [decide_eq_true_eq];subst e;exact List.mem_of_getElem? hy
theorem Zbw {α:Type} {p:α→Prop} {l:List α} {k:Nat} (hk : ¬ (k:Int)<l.length) (h :∀y,y∈l.take k→p y) :∀y,y∈l→p y:=by
  rwa [List.take_of_length_le (by omega)] at h
theorem Zjj {α:Type} {l:List α} {k:Nat} {x:α} (h:l[k]? = some x):l.drop k=x :: l.drop (k+1):=by
  obtain ⟨hlt,he⟩:=List.getElem?_eq_some_iff.1 h
  rw [List.drop_eq_getElem_cons hlt,he]
theorem ZpG {α:Type} {l:List α} {k:Nat} (h : ¬ (k:Int)<l.length):l.drop k=[]:=List.drop_eq_nil_of_le (by omega)
def Zcz (l:List Str):Bool:=l.all ZaG && decide l.Nodup && decide (l.length≤3)
def Zb3 (x:DLetter):Bool:=ZaG x.fr && Zcz x.to_ && decide (0<x.to_.length) && decide (x.text.length≤20)
def Zdj (x:DItem):Bool:=Zb3 ⟨x.fr,x.left,x.text⟩
def Zdx:Int→List DItem→Option Int
  | last,[]=>some last
  | last,x :: r=>if (last+1≤x.id∧x.id≤99)∧Zdj x=true then Zdx x.id r else none
def Zar (q:DQueue):Bool:=match Zdx 0 q.items with
  | some last=>decide (last+1≤q.next) && decide (q.next≤100) && decide (q.items.length≤6)
  | none=>false
theorem ZoD {α:Type} {l:List α} {k:Nat} {x:α} (hx:l[k]? = some x) (h:(l.take k).Nodup) (hn : ¬ x∈l.take k):(l.take (k+1)).Nodup:=by
  rw [List.take_add_one,hx]
  simp only [Option.toList_some]
  rw [List.nodup_append]
  exact ⟨h,by simp,fun a ha b hb=>by rw [List.mem_singleton.1 hb];exact fun e=>hn (e ▸ ha)⟩
theorem ZsB {α:Type} {l:List α} {k:Nat} {x:α} (hx:l[k]? = some x) (h:x∈l.take k) : ¬ l.Nodup:=by
  intro hn
  have e:l=l.take k ++ l.drop k:=(List.take_append_drop k l).symm
  rw [e,Zjj hx,List.nodup_append] at hn
  exact hn.2.2 x h x (List.mem_cons_self ..) rfl
theorem ZgI {l:List Str} {k:Nat} {x:Str} (hx:l[k]? = some x) (h:ZaG x=false):false=Zcz l:=by
  simp [Zcz,ZkH hx h]
theorem ZgH {l:List Str} {k:Nat} {x:Str} (hx:l[k]? = some x) (h:x∈l.take k):false=Zcz l:=by
  simp [Zcz,ZsB hx h]
theorem Zhq {l:List Str} {k:Nat} (hk : ¬ (k:Int)<l.length) (ha:(l.take k).all ZaG=true) (hn:(l.take k).Nodup):decide ((l.length:Int)≤3)=Zcz l:=by
  rw [List.take_of_length_le (by omega)] at ha hn
  rw [Bool.eq_iff_iff];simp only [Zcz,ha,decide_eq_true hn,Bool.true_and,decide_eq_true_eq];omega
def Zb4 {α:Type} (p:α→Bool) (xs:List α):Int:=match xs.findIdx? p with | some i=>i | none=>-1
theorem ZgX {α:Type} {p:α→Bool} {xs:List α} {k:Nat} {x:α} (hx:xs[k]? = some x) (he:p x=true) (h :∀y,y∈xs.take k→p y=false):Zb4 p xs=k:=by
  have:xs.findIdx? p=some k:=by
    rw [List.findIdx?_eq_some_iff_getElem]
    obtain ⟨hk,rfl⟩:=List.getElem?_eq_some_iff.1 hx
    refine ⟨hk,he,fun j hj=>?_⟩
    have:=h xs[j] (by rw [List.mem_take_iff_getElem];exact ⟨j,by omega,rfl⟩)
    simpa using this
  rw [Zb4,this]
theorem Zey {α:Type} {p:α→Bool} {xs:List α} (h :∀y,y∈xs→p y=false):Zb4 p xs = -1:=by
  have:xs.findIdx? p=none:=by
    rw [List.findIdx?_eq_none_iff]
    intro x hx
    simpa using h x hx
  rw [Zb4,this]
theorem ZqR {α:Type} {p:α→Bool} {xs:List α} : (0≤Zb4 p xs)↔∃x,x∈xs∧p x=true:=by
  cases h:xs.findIdx? p with
  | none=>
    rw [List.findIdx?_eq_none_iff] at h
    simp only [Zb4,List.findIdx?_eq_none_iff.2 h]
    refine ⟨fun e=>absurd e (by omega),fun ⟨x,hx,hp⟩=>?_⟩
    rw [h x hx] at hp;cases hp
  | some i=>
    simp only [Zb4,h]
    rw [List.findIdx?_eq_some_iff_getElem] at h
    obtain ⟨hi,hp,_⟩:=h
    exact ⟨fun _=>⟨_,List.getElem_mem hi,hp⟩,fun _=>by omega⟩
def Ztq (xs:List Str) (v:Str):Int:=Zb4 (fun x=>decide (x=v)) xs
theorem Zmn {xs:List Str} {v:Str} : (0≤Ztq xs v)↔v∈xs:=by
  rw [Ztq,ZqR];simp
theorem Zma {q:DQueue} (h:Zdx 0 q.items=none):false=Zar q:=by simp [Zar,h]
theorem Zl9 {q:DQueue} {last:Int} (h:Zdx 0 q.items=some last):(decide (last+1≤q.next) && decide (q.next≤100) && decide (q.items.length≤6))=Zar q:=by simp [Zar,h]
theorem Zoo {q:DQueue} {k:Nat} {last:Int} {x:DItem} (hs:Zdx 0 q.items=Zdx last (q.items.drop k)) (hx:q.items[k]? = some x):Zdx 0 q.items=if (last+1≤x.id∧x.id≤99)∧Zdj x=true then Zdx x.id (q.items.drop (k+1)) else none:=by
  rw [hs,Zjj hx,Zdx]
theorem Zew (x:DLetter):Zb3 x=(ZaG x.fr && (decide (1≤x.to_.length) && Zcz x.to_) && decide ((x.text.length:Int)≤20)):=by
  rw [Bool.eq_iff_iff];simp only [Zb3,Bool.and_eq_true,decide_eq_true_eq]
  constructor
  · rintro ⟨⟨⟨a,b⟩,c⟩,d⟩;exact ⟨⟨a,by omega,b⟩,by omega⟩
  · rintro ⟨⟨a,c,b⟩,d⟩;exact ⟨⟨⟨a,b⟩,by omega⟩,by omega⟩
theorem Zdu.mono {B B':Kn} {q:Option Addr} {m:Nat} (h:Zdu B q m) (hle:B.le B'):Zdu B' q m:=fun j hj=>by
  obtain ⟨a,c,h1,h2,h3⟩:=h j hj
  exact ⟨a,c,h1,h2,h3.mono hle⟩
structure Gh (α:Type) where
  k:Nat
  p:Nat
  l:Cells
  a:Option Addr
  c:Nat
  xs:List α
theorem ZaF {α:Type} {l:List α} {k:Nat} {x:α} (hx:l[k]? = some x):l.take (k+1)=l.take k ++ [x]:=by
  rw [List.take_add_one,hx];rfl
theorem Zop :∀{xs:List DItem} {l r:Int},Zdx l xs=some r→l≤r
  | [],l,r,h=>by simp only [Zdx,Option.some.injEq] at h;omega
  | x :: xs,l,r,h=>by
    rw [Zdx] at h
    split at h
    · rename_i e;have:=Zop h;omega
    · cases h
theorem Zdg {q:DQueue} (h:Zar q=true):1≤q.next∧q.next≤100∧q.items.length≤6:=by
  unfold Zar at h
  split at h
  · rename_i last e
    have:=Zop e
    simp only [Bool.and_eq_true,decide_eq_true_eq] at h
    omega
  · cases h
structure Gh2 (α β:Type) where
  k:Nat
  p:Nat
  l:Cells
  a:Option Addr
  c:Nat
  xs:List α
  e:β
def without (xs:List Str) (u:Str):List Str:=xs.filter fun x=>decide (x≠u)
theorem Zjv {xs:List Str} {u:Str} {k:Nat} {x:Str} (hx:xs[k]? = some x) (h : ¬ x=u):without (xs.take (k+1)) u=without (xs.take k) u ++ [x]:=by
  rw [ZaF hx,without,without,List.filter_append];simp [h]
theorem Zju {xs:List Str} {u:Str} {k:Nat} {x:Str} (hx:xs[k]? = some x) (h:x=u):without (xs.take (k+1)) u=without (xs.take k) u:=by
  rw [ZaF hx,without,without,List.filter_append];simp [h]
theorem ZkK (xs:List Str) (u:Str):(without xs u).length≤xs.length:=List.length_filter_le _ _
def Zbh (id:Int) (u:Str) (x:DItem):DItem:=if x.id=id∧u∈x.left then ⟨x.id,x.fr,x.text,without x.left u⟩ else x
def ZeZ (id:Int) (u:Str) (xs:List DItem):List DItem:=(xs.map (Zbh id u)).filter fun x=>decide (0<x.left.length)
def Zbx (id:Int) (u:Str) (s:Str × Bool) (x:DItem):Str × Bool:=if x.id=id∧u∈x.left then (x.text,true) else s
def Zfl (id:Int) (u:Str) (xs:List DItem):Str × Bool:=xs.foldl (Zbx id u) ([],false)
theorem Zeo {id:Int} {u:Str} {x:DItem} (h:x.id=id) (h':u∈x.left):Zbh id u x=⟨x.id,x.fr,x.text,without x.left u⟩:=by rw [Zbh,if_pos ⟨h,h'⟩]
theorem ZgE {id:Int} {u:Str} {x:DItem} (h : ¬ x.id=id):Zbh id u x=x:=by rw [Zbh,if_neg (fun e=>h e.1)]
theorem ZgD {id:Int} {u:Str} {x:DItem} (h : ¬ u∈x.left):Zbh id u x=x:=by rw [Zbh,if_neg (fun e=>h e.2)]
theorem Zhd {id:Int} {u:Str} {xs:List DItem} {k:Nat} {x y:DItem} (hx:xs[k]? = some x) (e:Zbh id u x=y) (h:0<y.left.length):ZeZ id u (xs.take (k+1))=ZeZ id u (xs.take k) ++ [y]:=by
  rw [ZaF hx,ZeZ,ZeZ,List.map_append,List.filter_append];simp [e,h]
theorem Zgc {id:Int} {u:Str} {xs:List DItem} {k:Nat} {x y:DItem} (hx:xs[k]? = some x) (e:Zbh id u x=y) (h : ¬ 0<y.left.length):ZeZ id u (xs.take (k+1))=ZeZ id u (xs.take k):=by
  rw [ZaF hx,ZeZ,ZeZ,List.map_append,List.filter_append];simp [e,show y.left.length=0 by omega]
theorem ZjN {id:Int} {u:Str} {xs:List DItem} {k:Nat} {x:DItem} (hx:xs[k]? = some x) (h:x.id=id) (h':u∈x.left):Zfl id u (xs.take (k+1))=(x.text,true):=by
  rw [ZaF hx,Zfl,List.foldl_append];simp [Zbx,h,h']
theorem ZjM {id:Int} {u:Str} {xs:List DItem} {k:Nat} {x:DItem} (hx:xs[k]? = some x) (h : ¬ x.id=id):Zfl id u (xs.take (k+1))=Zfl id u (xs.take k):=by
  rw [ZaF hx,Zfl,List.foldl_append];simp [Zbx,h,Zfl]
theorem ZjL {id:Int} {u:Str} {xs:List DItem} {k:Nat} {x:DItem} (hx:xs[k]? = some x) (h : ¬ u∈x.left):Zfl id u (xs.take (k+1))=Zfl id u (xs.take k):=by
  rw [ZaF hx,Zfl,List.foldl_append];simp [Zbx,h,Zfl]
theorem Zhc (id:Int) (u:Str) (xs:List DItem):(ZeZ id u xs).length≤xs.length:=by
  unfold ZeZ;exact Nat.le_trans (List.length_filter_le _ _) (by simp)
def ZaZ (q:DQueue) (id:Int) (u:Str):DQueue × Str × Bool:=(⟨q.next,ZeZ id u q.items⟩,(Zfl id u q.items).1,(Zfl id u q.items).2)
def Zas (q:DQueue) (id:Int) (u:Str):DQueue × Str × Bool:=if Zar q=true then ZaZ q id u else (⟨0,[]⟩,[],false)
structure GQ where
  k:Nat
  p:Nat
  l:Cells
  a:Option Addr
  c:Nat
  q:DQueue
structure GM where
  b:Nat
  p:Nat
  l:Cells
  a:Option Addr
  c:Nat
  q:DQueue
  f:Bool
theorem ZpF {α:Type} {xs:List α} {j:Nat} {y:α} (h:xs[j]? = some y):xs.drop j=y :: xs.drop (j+1):=by
  obtain ⟨hj,rfl⟩:=List.getElem?_eq_some_iff.1 h
  exact List.drop_eq_getElem_cons hj
structure QOf where
  p:Option Addr
  ys:List DItem
  xs:List DItem
  l:Cells
  q:Option Addr
  c:Nat
  cells:Cells
theorem ZW.slice0 {α:Type} {B:Kn} {l:Cells} {p:Option Addr} {c:Nat} {T:TypeId} {w sz:Nat} {R:Rel α} {xs:List α} (h:ZW B l p c T w R xs):(if c=0 then p else p.map (fun a=>a.add (0*sz)))=p:=by
  obtain ⟨rows,_,_,_,⟨rfl,_,rfl,_⟩ | ⟨b,arr,rfl,_,_,_,_⟩⟩:=h
  · rfl
  · split
    · rfl
    · rw [Nat.zero_mul];simp [Addr.add_off]
theorem Zgj {q:DQueue} (h : ¬ (q.items.length≤6∧1≤q.next∧q.next≤100)):false=Zar q:=by
  symm;rw [Bool.eq_false_iff];intro hq
  have:=Zdg hq
  omega
end Go.BL
namespace Go.BL
open Go
set_option linter.unusedVariables false
set_option linter.unusedSimpArgs false
def hat (xs:List Int) (k:Nat):Int:=xs.getD k 0
def swp (xs:List Int) (i j:Nat):List Int:=(xs.set i (hat xs j)).set j (hat xs i)
def Zda (xs:List Int):Prop:=∀k,0<k→k<xs.length→hat xs ((k - 1) / 2)≤hat xs k
def ZfE (xs:List Int) (j:Nat):Prop:=(∀k,0<k→k<xs.length→k≠j→hat xs ((k - 1) / 2)≤hat xs k)∧(∀k,0<k→k<xs.length→(k - 1) / 2=j→0<j→hat xs ((j - 1) / 2)≤hat xs k)
theorem ZsN {xs:List Int} {k:Nat} {a:Int} (h:xs[k]? = some a):hat xs k=a:=by simp [hat,List.getD,h]
theorem ZaO {xs:List Int} {k:Nat} (h:k<xs.length):xs[k]? = some (hat xs k):=by simp [hat,List.getD,List.getElem?_eq_getElem h]
theorem ZcW (xs:List Int) (i j:Nat):(swp xs i j).length=xs.length:=by simp [swp]
theorem ZeA {xs:List Int} {i j:Nat} (hi:i<xs.length) (hj:j<xs.length) (k:Nat):hat (swp xs i j) k=if k=j then hat xs i else if k=i then hat xs j else hat xs k:=by
  simp only [hat,swp,List.getD,List.getElem?_set]
  by_cases h1:k=j
  · subst h1;simp [hj]
  · have h1' : ¬j=k:=fun h=>h1 h.symm
    by_cases h2:k=i
    · subst h2;simp [hi,h1,h1']
    · have h2' : ¬i=k:=fun h=>h2 h.symm
      simp [h1,h1',h2,h2']
theorem ZfO {xs:List Int} {i j:Nat} (hi:i<xs.length) (hj:j<xs.length):(swp xs i j).Perm xs:=by
  rw [List.perm_iff_count]
  intro a
  unfold swp
  rw [List.count_set (by simpa using hj),List.count_set hi]
  have e1:(xs.set i (hat xs j))[j]'(by simpa using hj)=hat xs j:=by
    rw [List.getElem_set];split
    · rfl
    · simp [hat,List.getD,List.getElem?_eq_getElem hj]
  have e2:xs[i]=hat xs i:=by simp [hat,List.getD,List.getElem?_eq_getElem hi]
  rw [e1,e2]
  have hp :∀v,(v == a)=true→v∈xs→0<List.count a xs:=fun v hv hm=>by
    rw [beq_iff_eq] at hv;subst hv;exact List.count_pos_iff.2 hm
  have hm1:hat xs i∈xs:=by rw [← e2];exact List.getElem_mem _
  by_cases h1:(hat xs i == a)=true <;> by_cases h2:(hat xs j == a)=true <;> simp [h1,h2] <;> (try have:=hp _ h1 hm1;omega)
theorem Zsc {xs:List Int} (h:ZfE xs 0):Zda xs:=fun k h0 hk=>h.1 k h0 hk (by omega)
theorem Zse {xs:List Int} {j:Nat} (h:ZfE xs j) (hj:hat xs ((j - 1) / 2)≤hat xs j):Zda xs:=fun k h0 hk=>by
  by_cases e:k=j
  · subst e;exact hj
  · exact h.1 k h0 hk e
theorem Zsd {xs:List Int} {j:Nat} (h0:0<j) (hj:j<xs.length) (h:ZfE xs j) (hlt:hat xs j<hat xs ((j - 1) / 2)):ZfE (swp xs ((j - 1) / 2) j) ((j - 1) / 2):=by
  have hi:(j - 1) / 2<xs.length:=by omega
  have H:=fun k=>ZeA hi hj k
  generalize hii:(j - 1) / 2=i at *
  refine ⟨fun k hk0 hk hne=>?_,fun k hk0 hk hpar hi0=>?_⟩
  · rw [ZcW] at hk
    rw [H,H]
    by_cases e1:k=j
    · subst e1
      rw [hii];rw [if_neg (by omega),if_pos rfl,if_pos rfl];omega
    · rw [if_neg e1,if_neg hne]
      by_cases e2:(k - 1) / 2=j
      · rw [if_pos e2];have:=h.2 k hk0 hk e2 h0;rw [hii] at this;exact this
      · rw [if_neg e2]
        by_cases e3:(k - 1) / 2=i
        · rw [if_pos e3];have:=h.1 k hk0 hk e1;rw [e3] at this;omega
        · rw [if_neg e3];exact h.1 k hk0 hk e1
  · rw [ZcW] at hk
    rw [H,H]
    have hpi:(i - 1) / 2≠i:=by omega
    have hpj:(i - 1) / 2≠j:=by omega
    rw [if_neg hpj,if_neg hpi]
    have hii2:=h.1 i hi0 hi (by omega)
    by_cases e1:k=j
    · rw [if_pos e1];exact hii2
    · rw [if_neg e1,if_neg (by omega)]
      have:=h.1 k hk0 hk e1;rw [hpar] at this;omega
theorem ZqU {xs:List Int} (h:Zda xs) :∀k,k<xs.length→hat xs 0≤hat xs k:=fun k=>by
  induction k using Nat.strongRecOn with
  | ind k ih=>
    intro hk
    by_cases h0:k=0
    · subst h0;exact Int.le_refl _
    · have h1:=ih ((k - 1) / 2) (by omega) (by omega)
      have h2:=h k (by omega) hk
      omega
def Zrs (xs:List Int) (n:Nat):Prop:=∀k,0<k→k<n→hat xs ((k - 1) / 2)≤hat xs k
def ZeI (xs:List Int) (n i:Nat):Prop:=(∀k,0<k→k<n→(k - 1) / 2≠i→hat xs ((k - 1) / 2)≤hat xs k)∧(∀k,0<k→k<n→(k - 1) / 2=i→0<i→hat xs ((i - 1) / 2)≤hat xs k)
theorem ZpH {xs:List Int} {n i:Nat} (h:ZeI xs n i) (hl:n≤2*i+1):Zrs xs n:=fun k h0 hk=>h.1 k h0 hk (by omega)
theorem ZhO {xs:List Int} {n i:Nat} (h:ZeI xs n i) (hc :∀k,0<k→k<n→(k - 1) / 2=i→hat xs i≤hat xs k):Zrs xs n:=fun k h0 hk=>by
  by_cases e:(k - 1) / 2=i
  · rw [e];exact hc k h0 hk e
  · exact h.1 k h0 hk e
theorem ZhN {xs:List Int} {n i j:Nat} (hn:n≤xs.length) (hj0:0<j) (hj:j<n) (hpj:(j - 1) / 2=i) (h:ZeI xs n i) (hmin :∀k,0<k→k<n→(k - 1) / 2=i→hat xs j≤hat xs k) (hlt:hat xs j<hat xs i):ZeI (swp xs i j) n j:=by
  have hi:i<xs.length:=by omega
  have hij:i≠j:=by omega
  have H:=fun k=>ZeA hi (show j<xs.length by omega) k
  refine ⟨fun k hk0 hk hne=>?_,fun k hk0 hk hpar _=>?_⟩
  · rw [H,H,if_neg hne]
    by_cases e1:k=j
    · subst e1;rw [if_pos hpj,if_pos rfl];omega
    · rw [if_neg e1]
      by_cases e2:(k - 1) / 2=i
      · rw [if_pos e2,if_neg (by omega)];exact hmin k hk0 hk e2
      · rw [if_neg e2]
        by_cases e3:k=i
        · rw [if_pos e3];subst e3;exact h.2 j hj0 hj hpj hk0
        · rw [if_neg e3];exact h.1 k hk0 hk e2
  · rw [H,H,hpj,if_neg hij,if_pos rfl,if_neg (by omega),if_neg (by omega)]
    have:=h.1 k hk0 hk (by omega)
    rwa [hpar] at this
theorem Zvx (k:Nat):Int.tdiv ((k:Int) - 1) 2=(((k - 1) / 2:Nat):Int):=by
  cases k with
  | zero=>rfl
  | succ k=>rw [show ((k+1:Nat):Int) - 1=(k:Int) from by omega,Int.tdiv_eq_ediv_of_nonneg (by omega)];simp
theorem Zo9 {xs:List Int} {z:Int} {k:Nat} (h:k<xs.length):hat (xs ++ [z]) k=hat xs k:=by
  simp [hat,List.getD,List.getElem?_append_left h]
theorem Zqs {xs:List Int} {z:Int} (h:Zda xs):ZfE (xs ++ [z]) xs.length:=by
  refine ⟨fun k h0 hk hne=>?_,fun k h0 hk hp _=>?_⟩
  · rw [List.length_append,List.length_singleton] at hk
    rw [Zo9 (by omega),Zo9 (by omega)]
    exact h k h0 (by omega)
  · rw [List.length_append,List.length_singleton] at hk
    omega
theorem Zss {xs:List Int} (h:Zda xs) (h0:0<xs.length):ZeI (swp xs 0 (xs.length - 1)) (xs.length - 1) 0:=by
  refine ⟨fun k hk0 hk hne=>?_,fun k hk0 hk hpar hh=>absurd hh (by omega)⟩
  rw [ZeA h0 (by omega),ZeA h0 (by omega),if_neg (by omega),if_neg (by omega),if_neg (by omega),if_neg (by omega)]
  exact h k hk0 (by omega)
theorem Zqj {xs:List Int} (h0:0<xs.length):hat (swp xs 0 (xs.length - 1)) (xs.length - 1)=hat xs 0:=by rw [ZeA h0 (by omega),if_pos rfl]
theorem Zmp {xs:List Int} {n k:Nat} (h:k<n):hat (xs.take n) k=hat xs k:=by simp [hat,List.getD,List.getElem?_take,h]
theorem Znh {ys:List Int} {n:Nat} (h:Zrs ys n) (hn:n≤ys.length):Zda (ys.take n):=fun k h0 hk=>by
  rw [List.length_take] at hk
  rw [Zmp (by omega),Zmp (by omega)]
  exact h k h0 (by omega)
theorem Zqu {xs ys:List Int} (h0:0<ys.length) (hp:ys.Perm xs) {z:Int} (hz:hat ys (ys.length - 1)=z):(z :: ys.take (ys.length - 1)).Perm xs:=by
  refine List.Perm.trans ?_ hp
  have e:ys=ys.take (ys.length - 1) ++ [z]:=by
    have h1:=ZaF (ZaO (xs:=ys) (k:=ys.length - 1) (by omega))
    rw [show ys.length - 1+1=ys.length from by omega,List.take_length] at h1
    rw [hz] at h1;exact h1
  have h2:(z :: ys.take (ys.length - 1)).Perm (ys.take (ys.length - 1) ++ [z]):=(List.perm_append_singleton z _).symm
  rwa [← e] at h2
theorem ZqT:Zda []:=fun k h0 hk=>by simp at hk
def asc:Int→Int→List Int→Bool
  | _,_,[]=>true
  | b,l,x :: r=>decide (b<x) && decide (x≤l) && asc x l r
theorem ZlM :∀{r:List Int} {b l z:Int},asc b l r=true→z∈r→b<z
  | [],_,_,_,_,hz=>by cases hz
  | x :: r,b,l,z,h,hz=>by
    simp only [asc,Bool.and_eq_true,decide_eq_true_eq] at h
    rcases List.mem_cons.1 hz with rfl | hz
    · exact h.1.1
    · have:=ZlM h.2 hz;omega
theorem ZsM {xs:List Int} {k:Nat} (h:k<xs.length):hat xs k∈xs:=List.mem_of_getElem? (ZaO h)
theorem Zrj {b l x:Int} {r ys:List Int} (hp:ys.Perm (x :: r)) (hh:Zda ys) (hne:hat ys 0≠x):false=asc b l (x :: r):=by
  symm;rw [Bool.eq_false_iff]
  intro h
  have h0:0<ys.length:=by rw [hp.length_eq];simp
  have hm:=hp.mem_iff.1 (ZsM h0)
  simp only [asc,Bool.and_eq_true,decide_eq_true_eq] at h
  rcases List.mem_cons.1 hm with e | hm
  · exact hne e
  · have h1:=ZlM h.2 hm
    obtain ⟨k,hk⟩:=List.mem_iff_getElem?.1 (hp.mem_iff.2 (List.mem_cons_self (a:=x) (l:=r)))
    have h2:=ZqU hh k (List.getElem?_eq_some_iff.1 hk).1
    rw [ZsN hk] at h2
    omega
theorem Zri {b l x:Int} {r:List Int} (h:x≤b):false=asc b l (x :: r):=by simp [asc,show ¬ b<x from by omega]
theorem Zrh {b l x:Int} {r:List Int} (h:l<x):false=asc b l (x :: r):=by simp [asc,show ¬ x≤l from by omega]
theorem ZuW {b l x:Int} {r:List Int} (h : ¬ x≤b) (h2 : ¬ l<x):asc b l (x :: r)=asc x l r:=by simp [asc,show b<x from by omega,show x≤l from by omega]
theorem Zl4 :∀{xs:List DItem} {b:Int} {l:Int},l≤99→(match Zdx b xs with | some r=>decide (r≤l) | none=>false)=(decide (b≤l) && xs.all Zdj && asc b l (xs.map (·.id)))
  | [],b,l,_=>by simp [Zdx,asc]
  | x :: xs,b,l,hl=>by
    have ih:=Zl4 (xs:=xs) (b:=x.id) hl
    rw [Zdx,List.map_cons,List.all_cons,asc]
    by_cases h1:b+1≤x.id
    · by_cases h2:Zdj x=true
      · by_cases h3:x.id≤99
        · rw [if_pos ⟨⟨h1,h3⟩,h2⟩,ih,h2]
          by_cases h4:x.id≤l
          · simp [h4,show b≤l from by omega,show b<x.id from by omega]
          · simp [h4]
        · rw [if_neg (fun h=>h3 h.1.2)]
          simp [show ¬ x.id≤l from by omega]
      · rw [if_neg (fun h=>h2 h.2)]
        simp [h2]
    · rw [if_neg (fun h=>h1 h.1.1)]
      simp [show ¬ b<x.id from by omega]
theorem ZdZ (q:DQueue):Zar q=(decide (q.items.length≤6) && decide (1≤q.next) && decide (q.next≤100) && q.items.all Zdj && asc 0 (q.next - 1) (q.items.map (·.id))):=by
  by_cases h:q.next≤100
  · have:=Zl4 (xs:=q.items) (b:=0) (l:=q.next - 1) (by omega)
    unfold Zar
    cases hs:Zdx 0 q.items with
    | none=>
      rw [hs] at this
      simp only at this
      rw [Bool.eq_iff_iff]
      simp only [Bool.and_eq_true,decide_eq_true_eq,Bool.false_eq_true,false_iff]
      rintro ⟨⟨⟨⟨_,h1⟩,_⟩,h2⟩,h3⟩
      rw [h2,h3] at this
      simp at this;omega
    | some r=>
      rw [hs] at this
      simp only at this
      rw [Bool.eq_iff_iff] at this ⊢
      simp only [Bool.and_eq_true,decide_eq_true_eq] at this ⊢
      constructor
      · rintro ⟨⟨h1,h2⟩,h3⟩
        obtain ⟨⟨a,b⟩,c⟩:=this.1 (by omega)
        exact ⟨⟨⟨⟨h3,by omega⟩,h⟩,b⟩,c⟩
      · rintro ⟨⟨⟨⟨h1,h2⟩,h3⟩,h4⟩,h5⟩
        have:=this.2 ⟨⟨by omega,h4⟩,h5⟩
        omega
  · unfold Zar
    cases Zdx 0 q.items <;> simp [h]
theorem ZuY {α:Type} {p:α→Bool} {l:List α} {k:Nat} {x:α} (hx:l[k]? = some x) (h:p x=false):l.all p=false:=by
  rw [Bool.eq_false_iff];intro hp
  rw [List.all_eq_true] at hp
  have:=hp x (List.mem_of_getElem? hx)
  rw [h] at this;cases this
theorem ZuX {α:Type} {p:α→Bool} {l:List α} {k:Nat} {x:α} (hx:l[k]? = some x) (h:p x=true) (ha:(l.take k).all p=true):(l.take (k+1)).all p=true:=by
  rw [ZaF hx,List.all_append,ha];simp [h]
theorem Zk3 {q:DQueue} {k:Nat} {x:DItem} (hx:q.items[k]? = some x) (h:Zdj x=false):false=Zar q:=by
  rw [ZdZ,ZuY hx h];simp
theorem Zk2 {q:DQueue} {k:Nat} (hk : ¬ (k:Int)<q.items.length) (ha:(q.items.take k).all Zdj=true) (h6:q.items.length≤6) (h1:1≤q.next) (h2:q.next≤100):asc 0 (q.next - 1) (q.items.map (·.id))=Zar q:=by
  rw [List.take_of_length_le (by omega)] at ha
  rw [ZdZ,ha];simp [h6,h1,h2]
structure QLf where
  p:Option Addr
  ys:List DItem
  xs:List DItem
  cells:Cells
theorem ZrX :∀{ids:List Int} {b l:Int},asc b l ids=true→ids.Nodup
  | [],_,_,_=>by simp
  | x :: r,b,l,h=>by
    simp only [asc,Bool.and_eq_true,decide_eq_true_eq] at h
    rw [List.nodup_cons]
    exact ⟨fun hm=>by have:=ZlM h.2 hm;omega,ZrX h.2⟩
theorem Zk1 {q:DQueue} (h:Zar q=true):(q.items.map (·.id)).Nodup:=by
  rw [ZdZ] at h
  simp only [Bool.and_eq_true] at h
  exact ZrX h.2
theorem Zdh {q:DQueue} (h:Zar q=true) {x:DItem} (hx:x∈q.items):Zdj x=true:=by
  rw [ZdZ] at h
  simp only [Bool.and_eq_true] at h
  exact List.all_eq_true.1 h.1.2 x hx
theorem Zft {x:DItem} (h:Zdj x=true):0<x.left.length∧x.left.Nodup:=by
  simp only [Zdj,Zb3,Zcz,Bool.and_eq_true,decide_eq_true_eq] at h
  exact ⟨h.1.2,h.1.1.2.1.2⟩
theorem ZjK {id:Int} {u:Str} {x:DItem} (h : ¬ (x.id=id∧u∈x.left)):Zbh id u x=x:=by rw [Zbh,if_neg h]
theorem ZfN {id:Int} {u:Str} :∀{xs:List DItem} {s:Str × Bool},(∀x,x∈xs→¬ (x.id=id∧u∈x.left))→xs.foldl (Zbx id u) s=s
  | [],_,_=>rfl
  | x :: xs,s,h=>by
    rw [List.foldl_cons,Zbx,if_neg (h x (List.mem_cons_self ..))]
    exact ZfN fun y hy=>h y (List.mem_cons_of_mem _ hy)
theorem Zhb {id:Int} {u:Str} {xs:List DItem} (h :∀x,x∈xs→¬ (x.id=id∧u∈x.left)) (hl :∀x,x∈xs→0<x.left.length):ZeZ id u xs=xs:=by
  have e:xs.map (Zbh id u)=xs:=by
    conv=>rhs;rw [← List.map_id xs]
    exact List.map_congr_left fun x hx=>ZjK (h x hx)
  rw [ZeZ,e]
  exact List.filter_eq_self.2 fun x hx=>by simpa using hl x hx
theorem ZlY {q:DQueue} {id:Int} {u:Str} (hq:Zar q=true) (h :∀x,x∈q.items→¬ (x.id=id∧u∈x.left)):Zas q id u=(q,[],false):=by
  rw [Zas,if_pos hq,ZaZ,Zhb h (fun x hx=>(Zft (Zdh hq hx)).1),Zfl,ZfN h]
theorem Zki {q:DQueue} (hq:Zar q=true) {pre ys:List DItem} {y:DItem} (hs:pre ++ y :: ys=q.items):(∀x,x∈pre→x.id≠y.id)∧∀x,x∈ys→x.id≠y.id:=by
  have h:=Zk1 hq
  rw [← hs,List.map_append,List.map_cons,List.nodup_append] at h
  obtain ⟨_,h2,h3⟩:=h
  rw [List.nodup_cons] at h2
  refine ⟨fun x hx=>h3 _ (List.mem_map.2 ⟨x,hx,rfl⟩) _ (List.mem_cons_self ..),fun x hx e=>h2.1 (List.mem_map.2 ⟨x,hx,e⟩)⟩
theorem ZmK {q:DQueue} (hq:Zar q=true) {pre ys:List DItem} {y:DItem} (hs:pre ++ y :: ys=q.items) {u:Str} (hu : ¬ u∈y.left):Zas q y.id u=(q,[],false):=by
  obtain ⟨h1,h2⟩:=Zki hq hs
  refine ZlY hq fun x hx ⟨e1,e2⟩=>?_
  rw [← hs] at hx
  rcases List.mem_append.1 hx with hx | hx
  · exact h1 x hx e1
  · rcases List.mem_cons.1 hx with rfl | hx
    · exact hu e2
    · exact h2 x hx e1
theorem Zha {q:DQueue} (hq:Zar q=true) {pre ys:List DItem} {y:DItem} (hs:pre ++ y :: ys=q.items) {u:Str} (hu:u∈y.left) :
    Zas q y.id u=(⟨q.next,pre ++ (if 0<(without y.left u).length then ⟨y.id,y.fr,y.text,without y.left u⟩ :: ys else ys)⟩,y.text,true):=by
  obtain ⟨h1,h2⟩:=Zki hq hs
  have hl :∀x,x∈q.items→0<x.left.length:=fun x hx=>(Zft (Zdh hq hx)).1
  have n1 :∀x,x∈pre→¬ (x.id=y.id∧u∈x.left):=fun x hx e=>h1 x hx e.1
  have n2 :∀x,x∈ys→¬ (x.id=y.id∧u∈x.left):=fun x hx e=>h2 x hx e.1
  have l1:=Zhb n1 (fun x hx=>hl x (by rw [← hs];exact List.mem_append_left _ hx))
  have l2:=Zhb n2 (fun x hx=>hl x (by rw [← hs];exact List.mem_append_right _ (List.mem_cons_of_mem _ hx)))
  rw [Zas,if_pos hq,ZaZ,← hs]
  unfold ZeZ at l1 l2 ⊢
  unfold Zfl
  rw [List.foldl_append,ZfN n1,List.foldl_cons,ZfN n2,Zbx,if_pos ⟨rfl,hu⟩,List.map_append,List.map_cons,List.filter_append,l1,Zeo rfl hu,List.filter_cons,l2]
  simp only [decide_eq_true_eq]
theorem Zg2 :∀{xs:List Str} {u:Str} {i:Nat},xs.Nodup→xs[i]? = some u→without xs u=xs.take i ++ xs.drop (i+1)
  | [],_,_,_,h=>by simp at h
  | x :: xs,u,0,hn,h=>by
    simp only [List.getElem?_cons_zero,Option.some.injEq] at h;subst h
    rw [List.nodup_cons] at hn
    simp only [without,List.filter_cons,ne_eq,not_true_eq_false,decide_false,Bool.false_eq_true,if_false,List.take_zero,List.nil_append,Nat.zero_add,List.drop_succ_cons,List.drop_zero]
    refine List.filter_eq_self.2 fun y hy=>?_
    have hne:y≠x:=fun e=>hn.1 (e ▸ hy)
    simpa using hne
  | x :: xs,u,i+1,hn,h=>by
    rw [List.nodup_cons] at hn
    have h':xs[i]? = some u:=by simpa using h
    have hne:x≠u:=fun e=>hn.1 (e ▸ List.mem_of_getElem? h')
    have:=Zg2 hn.2 h'
    unfold without at this ⊢
    simp only [List.filter_cons,ne_eq,hne,not_false_eq_true,decide_true,if_true,List.take_succ_cons,List.drop_succ_cons,List.cons_append]
    rw [← this]
theorem ZqQ {xs:List Str} {u:Str} (h:0≤Ztq xs u) :∃k:Nat,Ztq xs u=k∧xs[k]? = some u:=by
  unfold Ztq Zb4 at h ⊢
  cases hf:xs.findIdx? (fun x=>decide (x=u)) with
  | none=>simp only [List.findIdx?_eq_none_iff.1 hf,hf] at h;omega
  | some i=>
    refine ⟨i,rfl,?_⟩
    rw [List.findIdx?_eq_some_iff_getElem] at hf
    obtain ⟨hi,hp,_⟩:=hf
    rw [List.getElem?_eq_getElem hi]
    simpa using hp
structure QN where
  k:Nat
  a:Option Addr
  c:Nat
end Go.BL
namespace Go.BL
open Go
set_option linter.unusedVariables false
set_option linter.unusedSimpArgs false
def ZcE (m:DMail):Bool:=(decide (1≤m.uid) && decide (m.uid≤99)) && (decide (0≤m.flags) && decide (m.flags≤31)) && decide (m.text.length≤20)
def scn {α β:Type} (p:β→α→Bool) (nx:β→α→β) (b0:β) (xs:List α):Bool × β:=xs.foldl (fun s x=>(s.1 && p s.2 x,nx s.2 x)) (true,b0)
theorem Zfp {α β:Type} {p:β→α→Bool} {nx:β→α→β} {b0:β} {xs:List α} : scn p nx b0 (xs.take 0)=(true,b0):=by simp [scn]
theorem Zl1 {α β:Type} {p:β→α→Bool} {nx:β→α→β} {b0:β} {xs:List α} {k:Nat} {x:α} (hx:xs[k]? = some x):scn p nx b0 (xs.take (k+1))=((scn p nx b0 (xs.take k)).1 && p (scn p nx b0 (xs.take k)).2 x,nx (scn p nx b0 (xs.take k)).2 x):=by
  have:xs.take (k+1)=xs.take k ++ [x]:=by rw [List.take_add_one,hx];rfl
  rw [this,scn,List.foldl_append];rfl
theorem Zcr {α β:Type} {p:β→α→Bool} {nx:β→α→β} :∀(xs:List α) (b:β),(xs.foldl (fun (s:Bool × β) x=>(s.1 && p s.2 x,nx s.2 x)) (false,b)).1=false
  | [],_=>rfl
  | x :: xs,b=>by simp only [List.foldl_cons,Bool.false_and];exact Zcr xs _
theorem Zsn {α β:Type} {p:β→α→Bool} {nx:β→α→β} {b0:β} {xs:List α} {k:Nat} (h:(scn p nx b0 (xs.take k)).1=false):(scn p nx b0 xs).1=false:=by
  have e:xs=xs.take k ++ xs.drop k:=(List.take_append_drop k xs).symm
  have:scn p nx b0 xs=(xs.drop k).foldl (fun s x=>(s.1 && p s.2 x,nx s.2 x)) (scn p nx b0 (xs.take k)):=by
    conv=>lhs;rw [e,scn,List.foldl_append]
    rfl
  rw [this]
  rcases hs:scn p nx b0 (xs.take k) with ⟨b,c⟩
  rw [hs] at h
  simp only at h
  subst h
  exact Zcr _ _
theorem Zfq {α β:Type} {p:β→α→Bool} {nx:β→α→β} {b0:β} {xs:List α} {k:Nat} {x:α} (hx:xs[k]? = some x) (h:p (scn p nx b0 (xs.take k)).2 x=false):(scn p nx b0 xs).1=false:=
  Zsn (k:=k+1) (by rw [Zl1 hx,h,Bool.and_false])
theorem Zcp {α β:Type} {p:β→α→Bool} {nx:β→α→β} {b0 b:β} {xs:List α} {k:Nat} {x:α} (hx:xs[k]? = some x) (hs:scn p nx b0 (xs.take k)=(true,b)) (h:p b x=true):scn p nx b0 (xs.take (k+1))=(true,nx b x):=by
  rw [Zl1 hx,hs];simp [h]
theorem ZdY {α β:Type} {p:β→α→Bool} {nx:β→α→β} {b0 b:β} {xs:List α} {k:Nat} (hs:scn p nx b0 (xs.take k)=(true,b)) (hk:xs.length≤k):scn p nx b0 xs=(true,b):=by
  rwa [List.take_of_length_le hk] at hs
def Zd1 (b:Int) (m:DMail):Bool:=ZcE m && decide (b<m.uid)
def ZcJ (ms:List DMail):Bool × Int:=scn Zd1 (fun _ m=>m.uid) 0 ms
def ZdL (b:DBox):Bool:=(ZcJ b.mail).1 && (decide ((ZcJ b.mail).2+1≤b.next) && decide (b.next≤100)) && decide (b.mail.length≤10)
def ZbC (ms:List DMail):Nat:=(ms.map (·.text.length)).sum
theorem Zhf {ms:List DMail} {k:Nat} {x:DMail} (hx:ms[k]? = some x):ZbC (ms.take (k+1))=ZbC (ms.take k)+x.text.length:=by
  have:ms.take (k+1)=ms.take k ++ [x]:=by rw [List.take_add_one,hx];rfl
  simp [ZbC,this]
theorem Zf5 {b:DBox} (h:(ZcJ b.mail).1=false):ZdL b=false:=by simp [ZdL,h]
theorem Zf4 {b:DBox} {l:Int} (h:ZcJ b.mail=(true,l)):ZdL b=((decide (l+1≤b.next) && decide (b.next≤100)) && decide (b.mail.length≤10)):=by simp [ZdL,h]
theorem Zip {m:DMail} (h:ZcE m=true):0≤m.uid∧m.uid≤99:=by
  simp only [ZcE,Bool.and_eq_true,decide_eq_true_eq] at h;omega
theorem Zid {ms:List DMail} {k n:Nat} (h:n=ZbC (ms.take k)) (hk:ms.length≤k):n=ZbC ms:=by rwa [List.take_of_length_le hk] at h
def Zds (b:DBox):Int:=if ZdL b then (ZbC b.mail:Int) else -1
def anyone:Str:=[97,110,121,111,110,101]
def ZcD (u:DUser):Bool:=ZaG u.name && decide (u.name≠anyone) && ZaG u.pass && (decide (0≤u.quota) && decide (u.quota≤200))
theorem Zbz :∀(a b:Str),Op.bytesLess a b = !(Op.bytesLess b a || decide (b=a))
  | [],[]=>by simp [Op.bytesLess]
  | [],_ :: _=>by simp [Op.bytesLess]
  | _ :: _,[]=>by simp [Op.bytesLess]
  | a :: x,b :: y=>by
    have ih:=Zbz x y
    simp only [Op.bytesLess,ih]
    rcases UInt8.lt_or_lt_of_ne (a:=a) (b:=b) with h
    by_cases e:a=b
    · subst e
      have : ¬ a<a:=UInt8.lt_irrefl a
      simp [this,ih]
    · rcases h e with h | h
      · have h2 : ¬ b<a:=UInt8.lt_asymm h
        simp [h,h2,e,Ne.symm e]
      · have h2 : ¬ a<b:=UInt8.lt_asymm h
        simp [h,h2,e]
def Zeg (b:Str) (u:DUser):Bool:=ZcD u && Op.bytesLess b u.name
def ZdS (us:List DUser):Bool × Str:=scn Zeg (fun _ u=>u.name) [] us
def Zax (us:List DUser):Bool:=(ZdS us).1 && (decide (1≤us.length) && decide (us.length≤4))
theorem Zfk {us:List DUser} (h:(ZdS us).1=false):Zax us=false:=by simp [Zax,h]
theorem Zg7 {us:List DUser} {b:Str} (h:ZdS us=(true,b)):Zax us=(decide (1≤us.length) && decide (us.length≤4)):=by simp [Zax,h]
def ZoC:DUser:=⟨[],[],0⟩
def Zfz (t:DUser→Bool) (us:List DUser):DUser × Bool:=match us.find? t with | some x=>(x,true) | none=>(ZoC,false)
theorem Zks {α:Type} {t:α→Bool} {xs:List α} (h :∀y,y∈xs→t y=false):xs.find? t=none:=List.find?_eq_none.2 fun y hy=>by simp [h y hy]
theorem Zq5 {α:Type} {t:α→Bool} {xs:List α} {k:Nat} {x:α} (hx:xs[k]? = some x) (ht:t x=true) (h :∀y,y∈xs.take k→t y=false):xs.find? t=some x:=by
  have hlt:=(List.getElem?_eq_some_iff.1 hx).1
  have e:xs=xs.take k ++ (x :: xs.drop (k+1)):=by
    rw [← (List.getElem?_eq_some_iff.1 hx).2,← List.drop_eq_getElem_cons hlt,List.take_append_drop]
  rw [e,List.find?_append,Zks h];simp [ht]
theorem Zps {t:DUser→Bool} {us:List DUser} {k:Nat} {x:DUser} (hx:us[k]? = some x) (ht:t x=true) (h :∀y,y∈us.take k→t y=false):Zfz t us=(x,true):=by simp [Zfz,Zq5 hx ht h]
theorem Zno {t:DUser→Bool} {us:List DUser} (h :∀y,y∈us→t y=false):Zfz t us=(ZoC,false):=by simp [Zfz,Zks h]
theorem ZiS {B:Kn} {b:Nat} {T:TypeId} {vs:List Value} (h :∀p,p∈Z7 b vs T→B.mem p.1=some p.2):ZaK B b 0 vs:=fun L j u hu=>
  ⟨rfl,vs.toArray,T,(0,0),.inl (h (b,.cells vs.toArray T) (List.mem_singleton.2 rfl)),by simpa using hu⟩
def ZaU (us:List DUser) (n:Str):DUser × Bool:=if Zax us then Zfz (fun y=>decide (y.name=n)) us else (ZoC,false)
def inF (o n:Str) (f:DFolder):Bool:=decide (f.owner=o) && decide (f.name=n)
def ZcK (us:List DUser) (x:DItem):Bool:=(ZaU us x.fr).2 && x.left.all fun n=>(ZaU us n).2
theorem Zdn {α:Type} {p:α→Bool} {xs:List α} {k:Nat} {x:α} (hx:xs[k]? = some x) (h:p x=false):xs.all p=false:=by
  rw [List.all_eq_false];exact ⟨x,List.mem_of_getElem? hx,by simp [h]⟩
theorem ZeX {α:Type} {p:α→Bool} {xs:List α} (h :∀y,y∈xs→p y=true):xs.all p=true:=List.all_eq_true.2 h
def ZfX (a b:DFolder):Bool:=Op.bytesLess a.owner b.owner || (decide (a.owner=b.owner) && Op.bytesLess a.name b.name)
theorem Zd2 (a:Str):Op.bytesLess a a=false:=by
  have:=Zbz a a
  cases h:Op.bytesLess a a with
  | false=>rfl
  | true=>rw [h] at this;simp at this
end Go.BL
namespace Go.BL
open Go
set_option linter.unusedVariables false
set_option linter.unusedSimpArgs false
inductive Prev {α β:Type} (f:α→β) (z:β) (xs:List α):Nat→β→Prop
  | zero:Prev f z xs 0 z
  | succ {k:Nat} {x:α} : xs[k]? = some x→Prev f z xs (k+1) (f x)
theorem Prev.at {α β:Type} {f:α→β} {z:β} {xs:List α} {k:Nat} {b:β} {y:α} (h:Prev f z xs k b) (hy:xs[((k:Int) - 1).toNat]? = some y) (hk:0<(k:Int)):b=f y:=by
  cases h with
  | zero=>omega
  | succ hx=>
    rename_i k x
    rw [show (((k+1:Nat):Int) - 1).toNat=k from by omega,hx] at hy
    cases hy;rfl
theorem Prev.at0 {α β:Type} {f:α→β} {z:β} {xs:List α} {k:Nat} {b:β} (h:Prev f z xs k b) (hk:(k:Int)≤0):b=z:=by
  cases h with
  | zero=>rfl
  | succ hx=>omega
theorem ZiQ {α β:Type} {p:β→α→Bool} {nx:β→α→β} {b0 b:β} {xs:List α} {k:Nat} {x:α} (hx:xs[k]? = some x) (hs:scn p nx b0 (xs.take k)=(true,b)) (h:p b x=false):(scn p nx b0 xs).1=false:=
  Zfq hx (by rw [congrArg Prod.snd hs];exact h)
theorem ZcT {us:List DUser} {k:Nat} {x:DUser} {nm:Str} (hx:us[k]? = some x) (hs:ZdS (us.take k)=(true,nm)) (h:Zeg nm x=false):Zax us=false:=
  Zfk (ZiQ hx hs h)
theorem Zmf {s:Str} (h:0<s.length):Op.bytesLess [] s=true:=by
  cases s with
  | nil=>cases h
  | cons a s=>rfl
theorem Zik {s:Str} (h:ZaG s=true):0<s.length:=by
  cases s with
  | nil=>simp [ZaG] at h
  | cons a s=>simp
def ZcF (b:Str) (g:DGrant):Bool:=ZaG g.user && (decide (1≤g.rights) && decide (g.rights≤63)) && Op.bytesLess b g.user
def Zc2 (gs:List DGrant):Bool × Str:=scn ZcF (fun _ g=>g.user) [] gs
def Zgx (gs:List DGrant):Bool:=(Zc2 gs).1 && decide (gs.length≤4)
theorem Zc8 {gs:List DGrant} {k:Nat} {x:DGrant} {nm:Str} (hx:gs[k]? = some x) (hs:Zc2 (gs.take k)=(true,nm)) (h:ZcF nm x=false):Zgx gs=false:=by
  rw [Zgx,show (Zc2 gs).1=false from ZiQ hx hs h,Bool.false_and]
theorem ZkI {gs:List DGrant} {b:Str} (h:Zc2 gs=(true,b)):Zgx gs=decide (gs.length≤4):=by rw [Zgx,h,Bool.true_and]
def DFolder.box (f:DFolder):DBox:=⟨f.next,f.mail⟩
def inbox:Str:=[105,110,98,111,120]
def Z8 (us:List DUser) (f:DFolder):Bool:=decide (0≤ZfG us f.owner) && ZaG f.name && Zgx f.grants && ZdL f.box
def Zbt (us:List DUser) (b:Option DFolder) (f:DFolder):Bool:=Z8 us f && (match b with | none=>true | some y=>ZfX y f)
def ZcQ (us:List DUser) (fs:List DFolder):Bool × Option DFolder:=scn (Zbt us) (fun _ f=>some f) none fs
def Zb8 (us:List DUser) (fs:List DFolder):Bool:=(ZcQ us fs).1 && decide (fs.length≤8)
theorem Zb7 {us:List DUser} {fs:List DFolder} {k:Nat} {x:DFolder} {b:Option DFolder} (hx:fs[k]? = some x) (hs:ZcQ us (fs.take k)=(true,b)) (h:Zbt us b x=false):Zb8 us fs=false:=by
  rw [Zb8,show (ZcQ us fs).1=false from ZiQ hx hs h,Bool.false_and]
theorem Zje {us:List DUser} {fs:List DFolder} {b:Option DFolder} (h:ZcQ us fs=(true,b)):Zb8 us fs=decide (fs.length≤8):=by rw [Zb8,h,Bool.true_and]
def Zcv (fs:List DFolder) (u:Str):Nat:=(fs.map fun f=>if f.owner=u then ZbC f.mail else 0).sum
theorem Zia {fs:List DFolder} {u:Str} {k:Nat} {x:DFolder} (hx:fs[k]? = some x):Zcv (fs.take (k+1)) u=Zcv (fs.take k) u+if x.owner=u then ZbC x.mail else 0:=by
  have:fs.take (k+1)=fs.take k ++ [x]:=by rw [List.take_add_one,hx];rfl
  simp [Zcv,this]
theorem Zn1 {fs:List DFolder} {u:Str} {k n:Nat} (h:n=Zcv (fs.take k) u) (hk:fs.length≤k):n=Zcv fs u:=by rwa [List.take_of_length_le hk] at h
def Zit (us:List DUser) (ns:List Str):Bool:=ns.all fun n=>decide (0≤ZfG us n)
def Za3 (fs:List DFolder) (u:DUser):Bool:=decide (0≤Zb4 (inF u.name inbox) fs) && decide ((Zcv fs u.name:Int)≤u.quota)
def ZaN (us:List DUser) (x:DItem):Bool:=decide (0≤ZfG us x.fr) && Zit us x.left
def Zad (h:DHost):Bool:=Zcy h.domain && Zax h.users && Zar h.queue && Zb8 h.users h.folders && h.users.all (Za3 h.folders) && h.queue.items.all (ZaN h.users)
theorem Zay {B:Kn} {q:Option Addr} {cp:Nat} {ms:List DMail} (h:SlK B q cp 3 Z3 ms):ZbC ms≤4000000000000:=by
  have h1 :∀m,m∈ms→m.text.length≤2000000:=fun m hm=>by
    obtain ⟨i,hi⟩:=List.mem_iff_getElem?.1 hm
    obtain ⟨b,o,row,_,h2,_⟩:=h.rows i m hi
    exact h2.2
  have h2 :∀l:List DMail,(∀m,m∈l→m.text.length≤2000000)→ZbC l≤l.length*2000000:=by
    intro l
    induction l with
    | nil=>intro _;simp [ZbC]
    | cons m l ih=>
      intro hl
      have:=ih fun y hy=>hl y (List.mem_cons_of_mem _ hy)
      have:=hl m (List.mem_cons_self ..)
      simp only [ZbC,List.map_cons,List.sum_cons,List.length_cons] at *
      omega
  have:=h2 ms h1
  have:=h.len
  omega
theorem Zhz {h:DHost} {k:Nat} {u:DUser} (hu:h.users[k]? = some u) (hf:Za3 h.folders u=false):Zad h=false:=by
  rw [Zad,Zdn hu hf,Bool.and_false,Bool.false_and]
theorem ZhA {h:DHost} {k:Nat} {y:DItem} (hy:h.queue.items[k]? = some y) (hf:ZaN h.users y=false):Zad h=false:=by
  rw [Zad,Zdn hy hf,Bool.and_false]
theorem Znc {h:DHost} (h1:Zcy h.domain=true) (h2:Zax h.users=true) (h3:Zar h.queue=true) (h4:Zb8 h.users h.folders=true) (h5:h.users.all (Za3 h.folders)=true) (h6:h.queue.items.all (ZaN h.users)=true):Zad h=true:=by
  rw [Zad,h1,h2,h3,h4,h5,h6];rfl
theorem ZjG {fs:List DFolder} {u:DUser} (h:Zb4 (inF u.name inbox) fs<0):Za3 fs u=false:=by
  rw [Za3,decide_eq_false (by omega),Bool.false_and]
theorem ZjF {fs:List DFolder} {u:DUser} (h:u.quota<Zcv fs u.name):Za3 fs u=false:=by
  rw [Za3,decide_eq_false (p:=(Zcv fs u.name:Int)≤u.quota) (by omega),Bool.and_false]
theorem ZjE {fs:List DFolder} {u:DUser} (h:0≤Zb4 (inF u.name inbox) fs) (h':(Zcv fs u.name:Int)≤u.quota):Za3 fs u=true:=by
  rw [Za3,decide_eq_true h,decide_eq_true h'];rfl
theorem Zi7 {us:List DUser} {x:DItem} (h:ZfG us x.fr<0):ZaN us x=false:=by rw [ZaN,decide_eq_false (by omega),Bool.false_and]
theorem Zi6 {us:List DUser} {x:DItem} (h:Zit us x.left=false):ZaN us x=false:=by rw [ZaN,h,Bool.and_false]
theorem Zi5 {us:List DUser} {x:DItem} (h:0≤ZfG us x.fr) (h':Zit us x.left=true):ZaN us x=true:=by rw [ZaN,decide_eq_true h,h'];rfl
theorem ZeM :∀{a b c:Str},Op.bytesLess a b=true→Op.bytesLess b c=true→Op.bytesLess a c=true
  | [],[],_,h,_=>by simp [Op.bytesLess] at h
  | _ :: _,[],_,h,_=>by simp [Op.bytesLess] at h
  | _,_ :: _,[],_,h=>by simp [Op.bytesLess] at h
  | [],_ :: _,_ :: _,_,_=>by simp [Op.bytesLess]
  | a :: x,b :: y,c :: z,h,h'=>by
    simp only [Op.bytesLess,Bool.or_eq_true,decide_eq_true_eq,Bool.and_eq_true,beq_iff_eq] at h h' ⊢
    rcases h with h | ⟨rfl,h⟩
    · rcases h' with h' | ⟨rfl,h'⟩
      · exact .inl (UInt8.lt_trans h h')
      · exact .inl h
    · rcases h' with h' | ⟨rfl,h'⟩
      · exact .inl h'
      · exact .inr ⟨rfl,ZeM h h'⟩
def ZrK (gs:List DGrant):List (Str × Int):=gs.map fun g=>(g.user,g.rights)
theorem ZgK :∀(xs:List DGrant) (b0 b:Str),xs.foldl (fun s x=>(s.1 && ZcF s.2 x,x.user)) (true,b0)=(true,b)→(∀y,y∈xs→y.user=b∨Op.bytesLess y.user b=true)∧(b=b0∨Op.bytesLess b0 b=true)
  | [],b0,b,h=>by
    cases h;exact ⟨by simp,.inl rfl⟩
  | x :: xs,b0,b,h=>by
    simp only [List.foldl_cons,Bool.true_and] at h
    cases hp:ZcF b0 x with
    | false=>
      rw [hp] at h
      have:=Zcr (p:=ZcF) (nx:=fun _ g=>g.user) xs x.user
      rw [h] at this;cases this
    | true=>
      rw [hp] at h
      obtain ⟨h1,h2⟩:=ZgK xs x.user b h
      have hl:Op.bytesLess b0 x.user=true:=by
        simp only [ZcF,Bool.and_eq_true] at hp;exact hp.2
      refine ⟨fun y hy=>?_,.inr ?_⟩
      · rcases List.mem_cons.1 hy with rfl | hy
        · rcases h2 with h2 | h2
          · exact .inl h2.symm
          · exact .inr h2
        · exact h1 y hy
      · rcases h2 with rfl | h2
        · exact hl
        · exact ZeM hl h2
theorem ZqH {kvs:List (Str × Int)} {k:Str} {v:Int} (h:k ∉ kvs.map (·.1)):mput kvs k v=kvs ++ [(k,v)]:=by
  induction kvs with
  | nil=>rfl
  | cons p r ih=>
    simp only [List.map_cons,List.mem_cons,not_or] at h
    simp only [mput,if_neg h.1,ih h.2,List.cons_append]
theorem ZsG {gs:List DGrant} {k:Nat} {m:DGrant} {nm:Str} (hm:gs[k]? = some m) (hs:Zc2 (gs.take k)=(true,nm)) (hl:Op.bytesLess nm m.user=true):mput (ZrK (gs.take k)) m.user m.rights=ZrK (gs.take (k+1)):=by
  have h1:=(ZgK _ _ _ hs).1
  rw [ZqH]
  · rw [ZrK,ZrK,List.take_add_one,hm];simp
  · intro hc
    simp only [ZrK,List.map_map,List.mem_map,Function.comp] at hc
    obtain ⟨y,hy,e⟩:=hc
    rcases h1 y hy with h | h
    · rw [← e,h,Zd2] at hl;cases hl
    · rw [e] at h
      have:=ZeM hl h
      rw [Zd2] at this;cases this
def ZlP (gs:List DGrant) (B:Kn):Value→Kn→List Cells→Prop:=fun v B' Ls=>∃m l,v = .tuple #[.map m,.bool (Zgx gs)]∧Ls=[l]∧B'=B∧(Zgx gs=true→∃b,m=some b∧Ztu l b (ZrK gs))
theorem ZhM {P:PJ} {S:Env} {B:Kn} {L:List Cells} {rs:List ResultVar} {gs:List DGrant} (e:Exit) (he:e = .ret∨e = .normal) (vs:List Value) (hr:Zdf P S B L rs vs) (h:Zgx gs=false) (hv:ZcY vs = .tuple #[.map none,.bool false]:=by rfl):ZhU P rs (ZlP gs B) e S [] B L:=
  Zxs e he vs hr ⟨none,[],by rw [hv,h],rfl,rfl,fun hc=>by rw [h] at hc;cases hc⟩
theorem Zs7 {P:PJ} {S:Env} {B:Kn} {L:List Cells} {rs:List ResultVar} {gs:List DGrant} (e:Exit) (he:e = .ret∨e = .normal) (vs:List Value) {b:Nat} {l:Cells} {r:List Cells} (hp:ZaC L [0]=some ([l],r)) (hr:Zdf P S B L rs vs) (h:Zgx gs=true) (hm:Ztu l b (ZrK gs)) (hv:ZcY vs = .tuple #[.map (some b),.bool true]:=by rfl):ZhU P rs (ZlP gs B) e S [] B L:=
  ZaW e he vs [0] hp hr ⟨some b,l,by rw [hv,h],rfl,rfl,fun _=>⟨b,rfl,hm⟩⟩
def ZuR (f:DFolder) (ow nm:Str):Int:=if Lib.compareBytes f.owner ow≠0 then Lib.compareBytes f.owner ow else Lib.compareBytes f.name nm
theorem ZkA (f g:DFolder):0≤ZuR f g.owner g.name↔ZfX f g=false:=by
  have h1:=ZlJ f.owner g.owner
  have h2:=ZlJ f.name g.name
  unfold ZuR ZfX
  by_cases e:f.owner=g.owner
  · have e0:=h1.2.2 e
    have e1:Op.bytesLess f.owner g.owner=false:=by rw [e];exact Zd2 _
    rw [if_neg (fun h=>h e0),e1,decide_eq_true e,Bool.true_and,Bool.false_or,Bool.eq_false_iff,ne_eq,← h2.1];omega
  · have e0:Lib.compareBytes f.owner g.owner≠0:=fun h=>e (h1.2.1 h)
    rw [if_pos e0,decide_eq_false e,Bool.false_and,Bool.or_false,Bool.eq_false_iff,ne_eq,← h1.1];omega
def ZeY (fs:List DFolder) (u:Str):Int:=(fs.map fun f=>if f.owner=u then Zds ⟨f.next,f.mail⟩ else 0).sum
theorem Zh9 {fs:List DFolder} {u:Str} {k:Nat} {x:DFolder} (hx:fs[k]? = some x):ZeY (fs.take (k+1)) u=ZeY (fs.take k) u+if x.owner=u then Zds ⟨x.next,x.mail⟩ else 0:=by
  have:fs.take (k+1)=fs.take k ++ [x]:=by rw [List.take_add_one,hx];rfl
  simp [ZeY,this]
theorem Zn0 {fs:List DFolder} {u:Str} {k:Nat} {n:Int} (h:n=ZeY (fs.take k) u) (hk:fs.length≤k):n=ZeY fs u:=by rwa [List.take_of_length_le hk] at h
theorem Zmi :∀(xs:List DMail) (b0 b:Int),xs.foldl (fun s x=>(s.1 && Zd1 s.2 x,x.uid)) (true,b0)=(true,b)→∀y,y∈xs→ZcE y=true
  | [],_,_,_,_,h=>by cases h
  | x :: xs,b0,b,h,y,hy=>by
    simp only [List.foldl_cons,Bool.true_and] at h
    cases hp:Zd1 b0 x with
    | false=>
      rw [hp] at h
      have:=Zcr (p:=Zd1) (nx:=fun _ m=>m.uid) xs x.uid
      rw [h] at this;cases this
    | true=>
      rw [hp] at h
      rcases List.mem_cons.1 hy with rfl | hy
      · simp only [Zd1,Bool.and_eq_true] at hp;exact hp.1
      · exact Zmi xs x.uid b h y hy
theorem ZhT {b:DBox} (h:ZdL b=true):(∀y,y∈b.mail→ZcE y=true)∧b.mail.length≤10:=by
  simp only [ZdL,Bool.and_eq_true,decide_eq_true_eq] at h
  exact ⟨Zmi b.mail 0 (ZcJ b.mail).2 (Prod.ext h.1.1 rfl),h.2⟩
theorem Zfn :∀l:List DMail,(∀m,m∈l→ZcE m=true)→ZbC l≤l.length*20
  | [],_=>by simp [ZbC]
  | m :: l,h=>by
    have h1:=Zfn l fun y hy=>h y (List.mem_cons_of_mem _ hy)
    have h2:=h m (List.mem_cons_self ..)
    simp only [ZcE,Bool.and_eq_true,decide_eq_true_eq] at h2
    simp only [ZbC,List.map_cons,List.sum_cons,List.length_cons] at *
    omega
theorem ZiF (b:DBox) : -1≤Zds b∧Zds b≤200:=by
  unfold Zds
  split
  · rename_i h
    obtain ⟨h1,h2⟩:=ZhT h
    have:=Zfn _ h1
    omega
  · omega
theorem Zp7 (fs:List DFolder) (u:Str) : -1*fs.length≤ZeY fs u∧ZeY fs u≤fs.length*200:=by
  induction fs with
  | nil=>simp [ZeY]
  | cons f fs ih=>
    have:=ZiF ⟨f.next,f.mail⟩
    simp only [ZeY,List.map_cons,List.sum_cons,List.length_cons] at *
    split <;> omega
def ZbN (x:DHost) (u:Str) (more:Int):Bool:=!(ZaU x.users u).2 || decide ((ZaU x.users u).1.quota<ZeY x.folders u+more)
def Zco (x:DHost) (w:DUser):Bool:=decide (0≤Zb4 (inF w.name inbox) x.folders) && !ZbN x w.name 0
theorem ZjJ {x:DHost} {w:DUser} (h:Zb4 (inF w.name inbox) x.folders<0):Zco x w=false:=by rw [Zco,decide_eq_false (by omega),Bool.false_and]
theorem ZjI {x:DHost} {w:DUser} (h:ZbN x w.name 0=true):Zco x w=false:=by rw [Zco,h];simp
theorem ZjH {x:DHost} {w:DUser} (h:0≤Zb4 (inF w.name inbox) x.folders) (h':ZbN x w.name 0=false):Zco x w=true:=by rw [Zco,h',decide_eq_true h];rfl
def Zg8 (x:DHost):Bool:=x.users.all (Zco x)
def ZlR:Rel Bool:=fun _ row x=>row=[.bool x]
theorem ZlR.mono:Mono ZlR:=fun _ _ _ h=>h
theorem ZlR.one {B:Kn} :∀row y,ZlR B row y→row.all Ze0=true∧row.length=1:=by rintro _ y rfl;exact ⟨rfl,rfl⟩
def ZaH (us:List DUser) (f:DFolder):Bool:=(ZaU us f.owner).2 && ZaG f.name && Zgx f.grants && ZdL f.box
theorem ZgT (C i:Nat):(some (ptr (Addr.add ⟨C,0,none⟩ ((i:Int).toNat*1))):Option Value)=some (ptr ⟨C,i,none⟩):=by
  rw [Addr.add_off _ _ rfl];simp
def ZpX (x:DHost) (i:Nat):Value:=.bool (match x.folders[i]? with | some m=>ZaH x.users m | none=>false)
theorem ZlV {x:DHost} {i:Nat} {m:DFolder} (h:x.folders[i]? = some m):ZpX x i = .bool (ZaH x.users m):=by simp [ZpX,h]
theorem ZnX {B:Kn} {x:DHost} {C:Nat} {T:TypeId} (hm :∀p,p∈[(C,Obj.cells ((List.range x.folders.length).map (ZpX x)).toArray T (0,0))]→B.mem p.1=some p.2) (hl:x.folders.length≤2000000):SlK B (some ⟨C,0,none⟩) (x.folders.map (ZaH x.users)).length 1 ZlR (x.folders.map (ZaH x.users)):=by
  refine ⟨fun i y hy=>⟨C,0,[.bool y],rfl,rfl,fun j u hu=>?_⟩,by simp,by simpa using hl⟩
  have hj:j=0:=by
    cases j with
    | zero=>rfl
    | succ j=>simp at hu
  subst hj
  simp only [List.getElem?_cons_zero,Option.some.injEq] at hu
  subst hu
  rw [List.getElem?_map] at hy
  obtain ⟨m,hm',rfl⟩:=Option.map_eq_some_iff.1 hy
  have hi:i<x.folders.length:=(List.getElem?_eq_some_iff.1 hm').1
  refine ⟨rfl,_,T,(0,0),.inl (hm _ (List.mem_singleton.2 rfl)),?_⟩
  simp only [Nat.mul_one,Nat.zero_add,Nat.add_zero,List.getElem?_toArray,List.getElem?_map,List.getElem?_range hi,Option.map_some,ZlV hm']
theorem Zjp {us:List DUser} {fs:List DFolder} : (!decide (0≤Zb4 (fun y=>decide (false=y)) (fs.map (ZaH us))))=fs.all (ZaH us):=by
  by_cases h :∀f,f∈fs→ZaH us f=true
  · rw [List.all_eq_true.2 h,Zey (fun y hy=>by
      obtain ⟨f,hf,rfl⟩:=List.mem_map.1 hy
      simp [h f hf])]
    rfl
  · have h2:fs.all (ZaH us)=false:=by
      rw [Bool.eq_false_iff,ne_eq,List.all_eq_true];exact h
    rw [h2]
    have h3 :∃k,(fs.map (ZaH us)).findIdx? (fun y=>decide (false=y))=some k:=by
      cases hk:(fs.map (ZaH us)).findIdx? (fun y=>decide (false=y)) with
      | some k=>exact ⟨k,rfl⟩
      | none=>
        exfalso;apply h
        intro f hf
        have:=List.findIdx?_eq_none_iff.1 hk (ZaH us f) (List.mem_map_of_mem hf)
        cases hq:ZaH us f with
        | true=>rfl
        | false=>rw [hq] at this;simp at this
    obtain ⟨k,hk⟩:=h3
    have e:Zb4 (fun y=>decide (false=y)) (fs.map (ZaH us))=(k:Int):=by unfold Zb4;rw [hk]
    rw [e];simp
def Zmb:List DFolder→Bool
  | []=>true
  | [_]=>true
  | a :: b :: r=>ZfX a b && Zmb (b :: r)
def Zc1 (x:DHost):Bool:=Zcy x.domain && Zax x.users && Zar x.queue && decide (x.folders.length≤8) && Zmb x.folders && (x.folders.all (ZaH x.users) && Zg8 x && x.queue.items.all (ZcK x.users))
def Zrq (fs:List DFolder) (k:Nat):Prop:=∀i a b,i<k→fs[i]? = some a→fs[i+1]? = some b→ZfX a b=true
theorem ZmY {fs:List DFolder} : Zrq fs 0:=fun i a b h=>by omega
theorem ZmZ {fs:List DFolder} {k:Nat} {x y:DFolder} (h:Zrq fs k) (hx:fs[k]? = some x) (hy:fs[k+1]? = some y) (hl:ZfX x y=true):Zrq fs (k+1):=fun i a b hi ha hb=>by
  rcases Nat.lt_or_ge i k with h' | h'
  · exact h i a b h' ha hb
  · obtain rfl:i=k:=by omega
    rw [hx] at ha;rw [hy] at hb
    cases ha;cases hb;exact hl
theorem ZiV :∀(fs:List DFolder),Zmb fs=true↔∀i a b,fs[i]? = some a→fs[i+1]? = some b→ZfX a b=true
  | []=>by simp [Zmb]
  | [_]=>by simp [Zmb]
  | x :: y :: r=>by
    rw [Zmb,Bool.and_eq_true,ZiV (y :: r)]
    constructor
    · rintro ⟨h1,h2⟩ i a b ha hb
      cases i with
      | zero=>simp at ha hb;rw [← ha,← hb];exact h1
      | succ i=>exact h2 i a b (by simpa using ha) (by simpa using hb)
    · intro h
      exact ⟨h 0 x y rfl rfl,fun i a b ha hb=>h (i+1) a b (by simpa using ha) (by simpa using hb)⟩
theorem Zqy {fs:List DFolder} {k:Nat} {x y:DFolder} (hx:fs[k]? = some x) (hy:fs[k+1]? = some y) (hl:ZfX x y=false):Zmb fs=false:=by
  rw [Bool.eq_false_iff,ne_eq,ZiV]
  intro h
  have:=h k x y hx hy
  rw [hl] at this;cases this
theorem Zqx {fs:List DFolder} (h :∀i a b,i<fs.length - 1→fs[i]? = some a→fs[i+1]? = some b→ZfX a b=true):Zmb fs=true:=
  (ZiV fs).2 fun i a b ha hb=>h i a b (by have:=(List.getElem?_eq_some_iff.1 hb).1;omega) ha hb
theorem Zhh {α:Type} {p:Str→α→Bool} {f:α→Str} (hp :∀b x,p b x=true→Op.bytesLess b (f x)=true) :∀(xs:List α) (b0 b:Str),xs.foldl (fun s x=>(s.1 && p s.2 x,f x)) (true,b0)=(true,b)→(∀y,y∈xs→Op.bytesLess b0 (f y)=true)∧xs.Pairwise (fun x y=>Op.bytesLess (f x) (f y)=true)
  | [],_,_,_=>⟨by simp,.nil⟩
  | x :: xs,b0,b,h=>by
    simp only [List.foldl_cons,Bool.true_and] at h
    cases hq:p b0 x with
    | false=>
      rw [hq] at h
      have:=Zcr (p:=p) (nx:=fun _ g=>f g) xs (f x)
      rw [h] at this;cases this
    | true=>
      rw [hq] at h
      obtain ⟨h1,h2⟩:=Zhh hp xs (f x) b h
      refine ⟨fun y hy=>?_,.cons h1 h2⟩
      rcases List.mem_cons.1 hy with rfl | hy
      · exact hp _ _ hq
      · exact ZeM (hp _ _ hq) (h1 y hy)
theorem Ze7 {us:List DUser} (h:Zax us=true):us.Pairwise fun x y=>Op.bytesLess x.name y.name=true:=by
  simp only [Zax,Bool.and_eq_true] at h
  exact (Zhh (p:=Zeg) (f:=fun u=>u.name) (fun b x hq=>by simp only [Zeg,Bool.and_eq_true] at hq;exact hq.2) us [] (ZdS us).2 (Prod.ext h.1 rfl)).2
theorem ZaX {us:List DUser} {u:Str} : 0≤ZfG us u↔∃x,x∈us∧x.name=u:=by
  unfold ZfG
  cases h:us.findIdx? (fun x=>decide (x.name=u)) with
  | none=>
    have:=List.findIdx?_eq_none_iff.1 h
    simp only [decide_eq_false_iff_not] at this
    exact ⟨fun hc=>absurd hc (by simp only [];omega),fun ⟨x,hx,e⟩=>absurd e (this x hx)⟩
  | some i=>
    rw [List.findIdx?_eq_some_iff_getElem] at h
    obtain ⟨hi,h1,_⟩:=h
    exact ⟨fun _=>⟨us[i],List.getElem_mem hi,by simpa using h1⟩,fun _=>by simp only [];omega⟩
theorem Zpr {us:List DUser} {t:DUser→Bool} : (Zfz t us).2=true↔∃x,x∈us∧t x=true:=by
  unfold Zfz
  cases h:us.find? t with
  | none=>simp only [Bool.false_eq_true,false_iff];rintro ⟨x,hx,e⟩;have:=List.find?_eq_none.1 h x hx;exact this e
  | some x=>simp only [true_iff];exact ⟨x,List.mem_of_find?_eq_some h,List.find?_some h⟩
theorem Zen {us:List DUser} (h:Zax us=true) (n:Str):(ZaU us n).2=decide (0≤ZfG us n):=by
  rw [ZaU,if_pos h,Bool.eq_iff_iff,Zpr,decide_eq_true_eq,ZaX];simp
theorem Zfy :∀{us:List DUser},us.Pairwise (fun x y=>Op.bytesLess x.name y.name=true)→∀w,w∈us→us.find? (fun y=>decide (y.name=w.name))=some w
  | [],_,w,h=>by cases h
  | x :: us,hp,w,h=>by
    cases hp with
    | cons h1 h2=>
      rw [List.find?_cons]
      rcases List.mem_cons.1 h with rfl | h
      · simp
      · have hne:x.name≠w.name:=fun e=>by
          have:=h1 w h
          rw [e,Zd2] at this;cases this
        simp only [hne,decide_false]
        exact Zfy h2 w h
theorem ZfL {us:List DUser} (h:Zax us=true) {w:DUser} (hw:w∈us):ZaU us w.name=(w,true):=by
  rw [ZaU,if_pos h,Zfz,Zfy (Ze7 h) w hw]
theorem Znn {us:List DUser} (h:Zax us=true) (f:DFolder):ZaH us f=Z8 us f:=by
  rw [ZaH,Z8,Zen h]
theorem Zee {us:List DUser} :∀(fs:List DFolder) (b0:Option DFolder),(fs.foldl (fun s x=>(s.1 && Zbt us s.2 x,some x)) (true,b0)).1=(fs.all (Z8 us) && Zmb ((match b0 with | none=>[] | some y=>[y]) ++ fs))
  | [],none=>rfl
  | [],some y=>rfl
  | x :: fs,b0=>by
    simp only [List.foldl_cons,Bool.true_and]
    have hstep:(fs.foldl (fun (s:Bool × Option DFolder) x=>(s.1 && Zbt us s.2 x,some x)) (Zbt us b0 x,some x)).1=(Zbt us b0 x && (fs.all (Z8 us) && Zmb (x :: fs))):=by
      cases hq:Zbt us b0 x with
      | false=>rw [Bool.false_and];exact Zcr (p:=Zbt us) (nx:=fun _ f=>some f) fs (some x)
      | true=>rw [Bool.true_and];exact Zee fs (some x)
    rw [hstep]
    cases b0 with
    | none=>
      simp only [Zbt,Bool.and_true,List.all_cons,List.nil_append]
      cases Z8 us x <;> simp
    | some y=>
      simp only [Zbt,List.all_cons,List.cons_append,List.nil_append,Zmb]
      cases Z8 us x <;> cases ZfX y x <;> simp
theorem Zc3 {us:List DUser} {fs:List DFolder} : Zb8 us fs=(fs.all (Z8 us) && Zmb fs && decide (fs.length≤8)):=by
  rw [Zb8,show (ZcQ us fs).1=_ from Zee fs none];rfl
theorem ZiL {us:List DUser} {u:Str} :∀{fs:List DFolder},fs.all (Z8 us)=true→ZeY fs u=(Zcv fs u:Int)
  | [],_=>rfl
  | f :: fs,h=>by
    simp only [List.all_cons,Bool.and_eq_true] at h
    have ih:=ZiL (u:=u) h.2
    have hb:ZdL ⟨f.next,f.mail⟩=true:=by
      have:=h.1;simp only [Z8,Bool.and_eq_true] at this;exact this.2
    simp only [ZeY,Zcv,List.map_cons,List.sum_cons] at ih ⊢
    rw [ih]
    by_cases he:f.owner=u
    · simp [he,Zds,hb]
    · simp [he]
theorem ZkR {x:DHost} (hu:Zax x.users=true) (hf:x.folders.all (Z8 x.users)=true) {w:DUser} (hw:w∈x.users):Zco x w=Za3 x.folders w:=by
  rw [Zco,Za3,ZbN,ZfL hu hw,ZiL hf]
  simp only [Bool.not_true,Bool.false_or,Int.add_zero]
  congr 1
  rw [Bool.eq_iff_iff];simp
theorem Zlm {us:List DUser} (h:Zax us=true) (y:DItem):ZcK us y=ZaN us y:=by
  rw [ZcK,ZaN,Zen h,Zit]
  simp only [Zen h]
theorem ZpS {α:Type} {p q:α→Bool} {xs:List α} (h :∀x,x∈xs→p x=q x):xs.all p=xs.all q:=by
  rw [Bool.eq_iff_iff,List.all_eq_true,List.all_eq_true]
  exact ⟨fun a x hx=>h x hx ▸ a x hx,fun a x hx=>(h x hx).symm ▸ a x hx⟩
theorem Znd (x:DHost):Zc1 x=Zad x:=by
  cases hu:Zax x.users with
  | false=>simp [Zc1,Zad,hu]
  | true=>
    have e1:x.folders.all (ZaH x.users)=x.folders.all (Z8 x.users):=ZpS fun f _=>Znn hu f
    have e2:x.queue.items.all (ZcK x.users)=x.queue.items.all (ZaN x.users):=ZpS fun y _=>Zlm hu y
    rw [Zc1,Zad,hu,e1,e2,Zc3]
    cases hf:x.folders.all (Z8 x.users) with
    | false=>simp
    | true=>
      have e3:Zg8 x=x.users.all (Za3 x.folders):=ZpS fun w hw=>ZkR hu hf hw
      rw [e3]
      cases Zcy x.domain <;> cases Zar x.queue <;> cases Zmb x.folders <;> cases decide (x.folders.length≤8) <;> simp
end Go.BL
namespace Go.BL
open Go
set_option linter.unusedVariables false
set_option linter.unusedSimpArgs false
theorem Zez {x:DHost} (h:Zad x=true):Zax x.users=true:=by
  simp only [Zad,Bool.and_eq_true] at h;exact h.1.1.1.1.2
theorem ZhZ {x:DHost} (h:Zad x=true):x.folders.all (Z8 x.users)=true:=by
  simp only [Zad,Bool.and_eq_true,Zc3] at h;exact h.1.1.2.1.1
theorem Zkj {x:DHost} (h:Zad x=true) (u:Str):ZeY x.folders u=Zcv x.folders u:=ZiL (ZhZ h)
theorem Zq4 {us:List DUser} {n:Str} (h:0≤ZfG us n) {x:DUser} (hx:us[(ZfG us n).toNat]? = some x):Zfz (fun y=>decide (y.name=n)) us=(x,true):=by
  unfold ZfG at h hx
  cases hf:us.findIdx? (fun x=>decide (x.name=n)) with
  | none=>rw [hf] at h;simp at h
  | some i=>
    rw [hf] at hx
    simp only [Int.toNat_natCast] at hx
    rw [List.findIdx?_eq_some_iff_getElem] at hf
    obtain ⟨hi,h1,h2⟩:=hf
    rw [List.getElem?_eq_getElem hi] at hx
    cases hx
    have:us.find? (fun y=>decide (y.name=n))=some us[i]:=by
      rw [List.find?_eq_some_iff_getElem]
      exact ⟨h1,i,hi,rfl,fun j hj=>by simpa using h2 j hj⟩
    rw [Zfz,this]
structure DSess where
  user:Str
  owner:Str
  name:Str
deriving DecidableEq
theorem Zo2 (us:List DUser) (n:Str):ZfG us n<us.length∧ZfG us n ≥ -1:=by
  unfold ZfG
  cases hf:us.findIdx? (fun x=>decide (x.name=n)) with
  | none=>simp only [];omega
  | some i=>
    rw [List.findIdx?_eq_some_iff_getElem] at hf
    obtain ⟨hi,_⟩:=hf
    simp only [];omega
end Go.BL
namespace Go.BL
open Go
set_option linter.unusedVariables false
set_option linter.unusedSimpArgs false
def Zho:DHost:=⟨[],[],[],⟨0,[]⟩⟩
theorem Zon {α β:Type} {p:β→α→Bool} {nx:β→α→β} :∀(xs:List α) (b:β),(xs.foldl (fun (s:Bool × β) x=>(s.1 && p s.2 x,nx s.2 x)) (true,b)).1=true→∀x,x∈xs→∃b',p b' x=true
  | [],_,_,x,hx=>by cases hx
  | x :: xs,b,h,y,hy=>by
    simp only [List.foldl_cons,Bool.true_and] at h
    cases hq:p b x with
    | false=>
      rw [hq] at h
      have:=Zcr (p:=p) (nx:=nx) xs (nx b x)
      rw [this] at h;cases h
    | true=>
      rw [hq] at h
      rcases List.mem_cons.1 hy with rfl | hy
      · exact ⟨b,hq⟩
      · exact Zon xs _ h y hy
theorem ZjC {us:List DUser} (h:Zax us=true) {u:DUser} (hu:u∈us):ZcD u=true:=by
  simp only [Zax,Bool.and_eq_true] at h
  obtain ⟨b,hb⟩:=Zon (p:=Zeg) (nx:=fun _ u=>u.name) us [] h.1 u hu
  simp only [Zeg,Bool.and_eq_true] at hb;exact hb.1
theorem Zo3 {α:Type} (p:α→Bool) (xs:List α):Zb4 p xs<xs.length∧Zb4 p xs ≥ -1:=by
  unfold Zb4
  cases hf:xs.findIdx? p with
  | none=>simp only [];omega
  | some i=>
    rw [List.findIdx?_eq_some_iff_getElem] at hf
    obtain ⟨hi,_⟩:=hf
    simp only [];omega
end Go.BL
namespace Go.BL
open Go
set_option linter.unusedVariables false
set_option linter.unusedSimpArgs false
def dig (k:Nat):Str:=[UInt8.ofNat (IntKind.u8.wrap (48+((k % 10:Nat):Int))).toNat]
def digs (k:Nat):Str:=if h:k=0 then [] else digs (k / 10) ++ dig k
termination_by k
decreasing_by omega
theorem Zkw:digs 0=[]:=by unfold digs;rfl
theorem Zmx {k:Nat} (h:0<k):digs k=digs (k / 10) ++ dig k:=by
  conv=>lhs;unfold digs
  rw [dif_neg (by omega)]
theorem Zjk :∀(n k:Nat),k<10 ^ n→(digs k).length≤n
  | n,0,_=>by rw [Zkw];simp
  | 0,k+1,h=>by simp at h
  | n+1,k+1,h=>by
    rw [Zmx (by omega),List.length_append]
    have h1:(k+1) / 10<10 ^ n:=by rw [Nat.pow_succ] at h;omega
    have:=Zjk n _ h1
    simp only [dig,List.length_cons,List.length_nil];omega
def ZU (k:Nat):Str:=if k=0 then [109,48] else 109 :: digs k
theorem Zb2 {k:Nat} (h:k≤1000000000000000):(ZU k).length≤20:=by
  unfold ZU
  split
  · simp
  · have:=Zjk 16 k (by omega)
    simp only [List.length_cons];omega
theorem ZpI {k0 k:Nat} {t:Str} (h:digs k0=digs k ++ t) (hk:0<k):digs k0=digs (k / 10) ++ (dig k ++ t):=by
  rw [h,Zmx hk,List.append_assoc]
theorem Ztf {k0 k:Nat} {t:Str} (h0:k0≤1000000000000000) (h:digs k0=digs k ++ t):t.length≤16:=by
  have h1:=Zjk 16 k0 (by omega)
  rw [h,List.length_append] at h1;omega
theorem Zb0 {α:Type} {ys:List α} {i:Nat} {c:α} (h:i<ys.length):(ys.set i c).take (i+1)=ys.take i ++ [c]:=by
  rw [List.take_add_one,List.getElem?_set_self h,List.take_set_of_le (Nat.le_refl _)];rfl
def ZbQ (k n:Nat):List DMail:=(List.range n).map fun i=>⟨((k+3*i:Nat):Int),((k+3*i+1:Nat):Int),ZU (k+3*i+1+1)⟩
theorem ZaD (k n:Nat):(ZbQ k n).length=n:=by simp [ZbQ]
theorem Zj3 {ys:List DMail} {i k:Nat} {z1 z2 z3:DMail} (ht:ys.take i=ZbQ k i) (h1:ys[i]? = some z1) (h2:(ys.set i ⟨((k+3*i:Nat):Int),z1.flags,z1.text⟩)[i]? = some z2)
    (h3:((ys.set i ⟨((k+3*i:Nat):Int),z1.flags,z1.text⟩).set i ⟨z2.uid,((k+3*i+1:Nat):Int),z2.text⟩)[i]? = some z3) :
    (((ys.set i ⟨((k+3*i:Nat):Int),z1.flags,z1.text⟩).set i ⟨z2.uid,((k+3*i+1:Nat):Int),z2.text⟩).set i ⟨z3.uid,z3.flags,ZU (k+3*i+1+1)⟩).take (i+1)=ZbQ k (i+1):=by
  have hl:=(List.getElem?_eq_some_iff.1 h1).1
  rw [List.getElem?_set_self hl] at h2;cases h2
  rw [List.set_set,List.getElem?_set_self hl] at h3;cases h3
  rw [List.set_set,List.set_set,Zb0 hl,ht,ZbQ,ZbQ,List.range_succ,List.map_append];rfl
def Zaz (k n:Nat):List DGrant:=(List.range n).map fun i=>⟨ZU (k+2*i),((k+2*i+1:Nat):Int)⟩
theorem Zaq (k n:Nat):(Zaz k n).length=n:=by simp [Zaz]
theorem ZiZ {ys:List DGrant} {i k:Nat} {z1 z2:DGrant} (ht:ys.take i=Zaz k i) (h1:ys[i]? = some z1) (h2:(ys.set i ⟨ZU (k+2*i),z1.rights⟩)[i]? = some z2) :
    ((ys.set i ⟨ZU (k+2*i),z1.rights⟩).set i ⟨z2.user,((k+2*i+1:Nat):Int)⟩).take (i+1)=Zaz k (i+1):=by
  have hl:=(List.getElem?_eq_some_iff.1 h1).1
  rw [List.getElem?_set_self hl] at h2;cases h2
  rw [List.set_set,Zb0 hl,ht,Zaz,Zaz,List.range_succ,List.map_append];rfl
def Zck (k n:Nat):List DUser:=(List.range n).map fun i=>⟨ZU (k+3*i),ZU (k+3*i+1),((k+3*i+1+1:Nat):Int)⟩
theorem Zbq (k n:Nat):(Zck k n).length=n:=by simp [Zck]
theorem Zj2 {ys:List DUser} {i k:Nat} {z1 z2 z3:DUser} (ht:ys.take i=Zck k i) (h1:ys[i]? = some z1) (h2:(ys.set i ⟨ZU (k+3*i),z1.pass,z1.quota⟩)[i]? = some z2)
    (h3:((ys.set i ⟨ZU (k+3*i),z1.pass,z1.quota⟩).set i ⟨z2.name,ZU (k+3*i+1),z2.quota⟩)[i]? = some z3) :
    (((ys.set i ⟨ZU (k+3*i),z1.pass,z1.quota⟩).set i ⟨z2.name,ZU (k+3*i+1),z2.quota⟩).set i ⟨z3.name,z3.pass,((k+3*i+1+1:Nat):Int)⟩).take (i+1)=Zck k (i+1):=by
  have hl:=(List.getElem?_eq_some_iff.1 h1).1
  rw [List.getElem?_set_self hl] at h2;cases h2
  rw [List.set_set,List.getElem?_set_self hl] at h3;cases h3
  rw [List.set_set,List.set_set,Zb0 hl,ht,Zck,Zck,List.range_succ,List.map_append];rfl
def Zc0 (k n:Nat):List Str:=(List.range n).map fun i=>ZU (k+1*i)
theorem Zbd (k n:Nat):(Zc0 k n).length=n:=by simp [Zc0]
theorem Zk7 {ys:List Str} {i k:Nat} {z1:Str} (ht:ys.take i=Zc0 k i) (h1:ys[i]? = some z1):(ys.set i (ZU (k+1*i))).take (i+1)=Zc0 k (i+1):=by
  have hl:=(List.getElem?_eq_some_iff.1 h1).1
  rw [Zb0 hl,ht,Zc0,Zc0,List.range_succ,List.map_append];rfl
theorem Zmg {α:Type} {ys zs:List α} {i:Nat} (h:ys.take i=zs) (hi:ys.length≤i):ys=zs:=by rwa [List.take_of_length_le hi] at h
end Go.BL
namespace Go.BL
open Go
set_option linter.unusedVariables false
set_option linter.unusedSimpArgs false
def Zfd (b:DBox) (fl:Int) (t:Str):DBox × Bool:=if 10≤b.mail.length∨99<b.next then (b,false) else (⟨b.next+1,b.mail ++ [⟨b.next,fl,t⟩]⟩,true)
theorem Zf7 {b:DBox} {fl:Int} {t:Str} (h:10≤b.mail.length∨99<b.next):Zfd b fl t=(b,false):=by rw [Zfd,if_pos h]
theorem ZpT {b:DBox} {fl:Int} {t:Str} (h : ¬ (10≤b.mail.length∨99<b.next)):Zfd b fl t=(⟨b.next+1,b.mail ++ [⟨b.next,fl,t⟩]⟩,true):=by rw [Zfd,if_neg h]
def DFolder.withBox (f:DFolder) (b:DBox):DFolder:=⟨f.owner,f.name,f.grants,b.next,b.mail⟩
def DHost.withFolders (x:DHost) (fs:List DFolder):DHost:=⟨x.domain,x.users,fs,x.queue⟩
def DHost.withQueue (x:DHost) (q:DQueue):DHost:=⟨x.domain,x.users,x.folders,q⟩
def Zdp (us:List DUser) (n:Str):Int:=match us[(ZfG us n).toNat]? with | some w=>w.quota | none=>0
def Zaf (x:DHost) (k:Nat) (fl:Int) (t:Str):DHost × Int:=
  match x.folders[k]? with
  | none=>(x,0)
  | some f=>if Zdp x.users f.owner<(Zcv x.folders f.owner:Int)+t.length then (x,3)
    else if (Zfd f.box fl t).2=true then (x.withFolders (x.folders.set k (f.withBox (Zfd f.box fl t).1)),0) else (x,4)
theorem Zhl {x:DHost} {k:Nat} {fl:Int} {t:Str} {f:DFolder} (hf:x.folders[k]? = some f) (h:Zdp x.users f.owner<(Zcv x.folders f.owner:Int)+t.length):Zaf x k fl t=(x,3):=by simp only [Zaf,hf,if_pos h]
theorem Zii {x:DHost} {k:Nat} {fl:Int} {t:Str} {f:DFolder} (hf:x.folders[k]? = some f) (h : ¬ Zdp x.users f.owner<(Zcv x.folders f.owner:Int)+t.length) (h2:(Zfd f.box fl t).2=false):Zaf x k fl t=(x,4):=by simp only [Zaf,hf,if_neg h,h2];rfl
theorem Zij {x:DHost} {k:Nat} {fl:Int} {t:Str} {f:DFolder} (hf:x.folders[k]? = some f) (h : ¬ Zdp x.users f.owner<(Zcv x.folders f.owner:Int)+t.length) (h2:(Zfd f.box fl t).2=true):Zaf x k fl t=(x.withFolders (x.folders.set k (f.withBox (Zfd f.box fl t).1)),0):=by simp only [Zaf,hf,if_neg h,h2,if_true]
def Zjg (n:Int):Bool:=decide (0≤n) && decide (n≤31)
def ZO (x:DHost) (id:Int) (u:Str):DHost × Int:=
  if Zad x=false then (Zho,5)
  else if (ZaZ x.queue id u).2.2=false then (x,1)
  else if (Zaf x (Zb4 (inF u inbox) x.folders).toNat 0 (ZaZ x.queue id u).2.1).2≠4 then
    ((Zaf x (Zb4 (inF u inbox) x.folders).toNat 0 (ZaZ x.queue id u).2.1).1.withQueue (ZaZ x.queue id u).1,(Zaf x (Zb4 (inF u inbox) x.folders).toNat 0 (ZaZ x.queue id u).2.1).2)
  else Zaf x (Zb4 (inF u inbox) x.folders).toNat 0 (ZaZ x.queue id u).2.1
structure DEvent where
  kind:Int
  by_:Str
  owner:Str
  name:Str
  to_:Str
  text:Str
  a:Int
  b:Int
deriving DecidableEq
end Go.BL
namespace Go.BL
open Go
set_option linter.unusedVariables false
set_option linter.unusedSimpArgs false
theorem ZdD {x:DHost} : Zad x=true↔(Zcy x.domain=true∧Zax x.users=true∧Zar x.queue=true)∧((∀f,f∈x.folders→Z8 x.users f=true)∧Zmb x.folders=true∧x.folders.length≤8)∧(∀u,u∈x.users→Za3 x.folders u=true)∧(∀y,y∈x.queue.items→ZaN x.users y=true):=by
  simp only [Zad,Zc3,Bool.and_eq_true,decide_eq_true_eq,List.all_eq_true]
  constructor
  · rintro ⟨⟨⟨⟨⟨h1,h2⟩,h3⟩,⟨h4,h5⟩,h6⟩,h7⟩,h8⟩
    exact ⟨⟨h1,h2,h3⟩,⟨h4,h5,h6⟩,h7,h8⟩
  · rintro ⟨⟨h1,h2,h3⟩,⟨h4,h5,h6⟩,h7,h8⟩
    exact ⟨⟨⟨⟨⟨h1,h2⟩,h3⟩,⟨h4,h5⟩,h6⟩,h7⟩,h8⟩
theorem ZsO {α:Type} {fs:List α} {k i:Nat} {y g:α} (h:(fs.set k y)[i]? = some g):(i=k∧g=y∧k<fs.length)∨(i≠k∧fs[i]? = some g):=by
  have hi:=(List.getElem?_eq_some_iff.1 h).1
  rw [List.length_set] at hi
  rw [List.getElem?_set] at h
  split at h
  · rename_i e
    subst e
    simp [hi] at h
    exact .inl ⟨rfl,h.symm,hi⟩
  · rename_i e
    exact .inr ⟨fun e'=>e e'.symm,h⟩
theorem ZmW {us:List DUser} (h:Zax us=true) {w:DUser} (hw:w∈us):Zdp us w.name=w.quota:=by
  have h0:0≤ZfG us w.name:=ZaX.2 ⟨w,hw,rfl⟩
  have h1:=Zo2 us w.name
  obtain ⟨v,hv⟩ :∃v,us[(ZfG us w.name).toNat]? = some v:=⟨_,List.getElem?_eq_getElem (by omega)⟩
  have h2:=Zq4 h0 hv
  rw [Zfz,Zfy (Ze7 h) w hw] at h2
  cases h2
  simp only [Zdp,hv]
theorem ZgV {us:List DUser} {f:DFolder} (h:Z8 us f=true) :∃w,w∈us∧w.name=f.owner:=by
  simp only [Z8,Bool.and_eq_true,decide_eq_true_eq] at h
  exact ZaX.1 h.1.1.1
theorem Znu {b:DBox} (h:ZdL b=true) :∃l,ZcJ b.mail=(true,l)∧l+1≤b.next∧b.next≤100∧b.mail.length≤10:=by
  simp only [ZdL,Bool.and_eq_true,decide_eq_true_eq] at h
  exact ⟨(ZcJ b.mail).2,Prod.ext h.1.1 rfl,h.1.2.1,h.1.2.2,h.2⟩
theorem Zl3 :∀(xs:List DMail) (b0 b:Int),xs.foldl (fun (s:Bool × Int) x=>(s.1 && Zd1 s.2 x,x.uid)) (true,b0)=(true,b)→b0≤b
  | [],b0,b,h=>by cases h;omega
  | x :: xs,b0,b,h=>by
    simp only [List.foldl_cons,Bool.true_and] at h
    cases hp:Zd1 b0 x with
    | false=>
      rw [hp] at h
      have:=Zcr (p:=Zd1) (nx:=fun _ m=>m.uid) xs x.uid
      rw [h] at this;cases this
    | true=>
      rw [hp] at h
      have:=Zl3 xs x.uid b h
      simp only [Zd1,Bool.and_eq_true,decide_eq_true_eq] at hp
      omega
theorem ZeB {x:DHost} {k:Nat} {f:DFolder} (h:Zad x=true) (hf:x.folders[k]? = some f):Z8 x.users f=true:=(ZdD.1 h).2.1.1 f (List.mem_of_getElem? hf)
theorem Zgq {us:List DUser} {f:DFolder} (h:Z8 us f=true):ZdL f.box=true:=by simp only [Z8,Bool.and_eq_true] at h;exact h.2
theorem ZbT {x:DHost} {k:Nat} {fl:Int} {t:Str} : (Zaf x k fl t).1.users=x.users∧(Zaf x k fl t).1.queue=x.queue∧(Zaf x k fl t).1.domain=x.domain∧(Zaf x k fl t).1.folders.length=x.folders.length:=by
  unfold Zaf
  split
  · exact ⟨rfl,rfl,rfl,rfl⟩
  · split
    · exact ⟨rfl,rfl,rfl,rfl⟩
    · split
      · exact ⟨rfl,rfl,rfl,by simp [DHost.withFolders]⟩
      · exact ⟨rfl,rfl,rfl,rfl⟩
theorem Zdk {x:DHost} (h:Zad x=true):Zar x.queue=true:=(ZdD.1 h).1.2.2
theorem Zic :∀(xs:List DItem) {id:Int} {u:Str} (s:Str × Bool),(xs.foldl (Zbx id u) s).2=true→s.2=true∨∃y,y∈xs∧u∈y.left
  | [],_,_,s,h=>.inl h
  | x :: xs,id,u,s,h=>by
    rcases Zic xs (Zbx id u s x) h with h | ⟨y,hy,hu⟩
    · unfold Zbx at h
      split at h
      · rename_i hc;exact .inr ⟨x,List.mem_cons_self ..,hc.2⟩
      · exact .inl h
    · exact .inr ⟨y,List.mem_cons_of_mem _ hy,hu⟩
theorem ZeU {x:DHost} {id:Int} {u:Str} (h:Zad x=true) (hf:(ZaZ x.queue id u).2.2=true):0≤Zb4 (inF u inbox) x.folders:=by
  obtain ⟨_,_,h7,h8⟩:=ZdD.1 h
  rcases Zic x.queue.items (id:=id) (u:=u) ([],false) hf with h0 | ⟨y,hy,hu⟩
  · cases h0
  · have:=h8 y hy
    simp only [ZaN,Zit,Bool.and_eq_true,List.all_eq_true,decide_eq_true_eq] at this
    obtain ⟨w,hw,rfl⟩:=ZaX.1 (this.2 u hu)
    have:=h7 w hw
    simp only [Za3,Bool.and_eq_true,decide_eq_true_eq] at this
    exact this.1
theorem ZlX :∀(xs:List DItem) {id:Int} {u:Str} (s:Str × Bool),s.1.length≤20→(∀y,y∈xs→Zdj y=true)→(xs.foldl (Zbx id u) s).1.length≤20
  | [],_,_,s,h,_=>h
  | x :: xs,id,u,s,h,ha=>by
    refine ZlX xs (Zbx id u s x) ?_ fun y hy=>ha y (List.mem_cons_of_mem _ hy)
    unfold Zbx
    split
    · have:=ha x (List.mem_cons_self ..)
      simp only [Zdj,Zb3,Bool.and_eq_true,decide_eq_true_eq] at this
      exact this.2
    · exact h
theorem ZgL {x:DHost} {id:Int} {u:Str} (h:Zad x=true):(ZaZ x.queue id u).2.1.length≤20:=
  ZlX x.queue.items ([],false) (by simp) fun y hy=>Zdh (Zdk h) hy
def Like (ms ms':List DMail):Prop:=ms'.length=ms.length∧∀(i:Nat) (a b:DMail),ms[i]? = some a→ms'[i]? = some b→b.uid=a.uid∧b.text=a.text∧(b.flags=a.flags∨(0≤b.flags∧b.flags≤31))
theorem Like.refl (ms:List DMail):Like ms ms:=⟨rfl,fun i a b h1 h2=>by rw [h1] at h2;cases h2;exact ⟨rfl,rfl,.inl rfl⟩⟩
theorem Like.set {ms acc:List DMail} {k:Nat} {a:DMail} {fl:Int} (h:Like ms acc) (ha:acc[k]? = some a) (hf:0≤fl∧fl≤31):Like ms (acc.set k ⟨a.uid,fl,a.text⟩):=by
  refine ⟨by rw [List.length_set];exact h.1,fun i c d hc hd=>?_⟩
  rcases ZsO hd with ⟨rfl,rfl,_⟩ | ⟨_,hd⟩
  · have:=h.2 _ _ _ hc ha
    exact ⟨this.1,this.2.1,.inr hf⟩
  · exact h.2 _ _ _ hc hd
end Go.BL
namespace Go.BL
open Go
set_option linter.unusedVariables false
set_option linter.unusedSimpArgs false
theorem ZnZ :∀{fs:List DFolder} (us:List DUser) (u:Str),(∀f,f∈fs→Z8 us f=true)→Zcv fs u≤fs.length*200
  | [],_,_,_=>by simp [Zcv]
  | f :: fs,us,u,h=>by
    have ih:=ZnZ us u fun g hg=>h g (List.mem_cons_of_mem _ hg)
    obtain ⟨h1,h2⟩:=ZhT (Zgq (h f (List.mem_cons_self ..)))
    have h3:ZbC f.mail≤f.mail.length*20:=Zfn _ h1
    have h4:f.mail.length≤10:=h2
    simp only [Zcv,List.map_cons,List.sum_cons,List.length_cons] at ih ⊢
    split <;> omega
theorem Zlr {x:DHost} (h:Zad x=true) (u:Str):Zcv x.folders u≤1600:=by
  obtain ⟨_,⟨h4,_,h6⟩,_⟩:=ZdD.1 h
  have:=ZnZ x.users u h4
  omega
theorem ZeW {b:DBox} (h:ZdL b=true):1≤b.next∧b.next≤100∧b.mail.length≤10:=by
  obtain ⟨l,hs,h1,h2,h3⟩:=Znu h
  have:=Zl3 b.mail 0 l hs
  omega
structure GHC where
  q1:Option Addr
  c1:Nat
  q3:Option Addr
  c3:Nat
  b:Nat
structure GEx where
  k:Nat
  m:Gh DMail
  n:Gh Int
structure GCp where
  k:Nat
  x:DHost
  c:Int
  q1:Option Addr
  c1:Nat
  q2:Option Addr
  c2:Nat
  q3:Option Addr
  c3:Nat
theorem Zjq (b:DBox) (fl:Int) (t:Str):(Zfd b fl t).1.mail.length≤b.mail.length+1:=by
  unfold Zfd;split <;> simp
structure GHo where
  k:Nat
  p:Nat
  x:DHost
  q1:Option Addr
  c1:Nat
  q2:Option Addr
  c2:Nat
  q3:Option Addr
  c3:Nat
structure GBo where
  k:Nat
  p:Nat
  l:Cells
  a:Option Addr
  c:Nat
  x:DBox
structure GAc where
  k:Nat
  p:Nat
  l:Cells
  a:Option Addr
  c:Nat
  xs:List DGrant
end Go.BL
namespace Go.BL
open Go
set_option linter.unusedVariables false
set_option linter.unusedSimpArgs false
theorem ZnY {x:DHost} {u:Str} (h:Zad x=true) (hu:0≤ZfG x.users u):ZaG u=true:=by
  obtain ⟨w,hw,rfl⟩:=ZaX.1 hu
  have:=ZjC (Zez h) hw
  simp only [ZcD,Bool.and_eq_true] at this
  exact this.1.1.1
theorem Zov {x:DHost} {f:DFolder} (h:Zad x=true) (hf:f∈x.folders):f.owner.length≤2000000:=by
  have hi:=(ZdD.1 h).2.1.1 f hf
  simp only [Z8,Bool.and_eq_true,decide_eq_true_eq] at hi
  have h8:=ZnY h hi.1.1.1
  simp only [ZaG,Bool.and_eq_true,decide_eq_true_eq] at h8
  omega
end Go.BL
namespace Go.BL
open Go
set_option linter.unusedVariables false
set_option linter.unusedSimpArgs false
def Zbk (f:DFolder):Nat:=3+2*f.grants.length+3*f.mail.length
def mkF (k:Nat) (f:DFolder):DFolder:=⟨ZU k,ZU (k+1),Zaz (k+1+1) f.grants.length,((k+1+1+2*f.grants.length:Nat):Int),ZbQ (k+1+1+2*f.grants.length+1) f.mail.length⟩
def Zbf (x:DItem):Nat:=3+x.left.length
def mkI (k:Nat) (x:DItem):DItem:=⟨((k:Nat):Int),ZU (k+1),ZU (k+1+1),Zc0 (k+1+1+1) x.left.length⟩
def kL {α:Type} (st:α→Nat) (k:Nat) (xs:List α):Nat:=k+(xs.map st).sum
def mkL {α:Type} (st:α→Nat) (mk:Nat→α→α):Nat→List α→List α
  | _,[]=>[]
  | k,x :: xs=>mk k x :: mkL st mk (k+st x) xs
theorem Zml {α:Type} {st:α→Nat} {k:Nat} : kL st k []=k:=by simp [kL]
theorem Zi4 {α:Type} {st:α→Nat} {k:Nat} {x:α} {xs:List α} : kL st k (x :: xs)=kL st (k+st x) xs:=by simp [kL];omega
theorem Zht {α:Type} {st:α→Nat} {k i:Nat} {xs:List α} {x:α} (hx:xs[i]? = some x):kL st k (xs.take (i+1))=kL st k (xs.take i)+st x:=by
  rw [ZaF hx,kL,kL,List.map_append,List.sum_append];simp;omega
theorem ZsI {α:Type} {st:α→Nat} {c:Nat} :∀{xs:List α} (k:Nat),(∀x,x∈xs→st x≤c)→kL st k xs≤k+xs.length*c
  | [],k,_=>by simp [kL]
  | x :: xs,k,h=>by
    have h1:=ZsI (st:=st) (c:=c) (xs:=xs) (k+st x) fun y hy=>h y (List.mem_cons_of_mem _ hy)
    have h2:=h x (List.mem_cons_self ..)
    rw [Zi4,List.length_cons,Nat.succ_mul];omega
theorem Zmh {α:Type} {st:α→Nat} {mk:Nat→α→α} {x:α} :∀{xs:List α} (k:Nat),mkL st mk k (xs ++ [x])=mkL st mk k xs ++ [mk (kL st k xs) x]
  | [],k=>by simp [mkL,kL]
  | y :: xs,k=>by
    rw [List.cons_append,mkL,Zmh (xs:=xs) (k+st y),mkL,Zi4,List.cons_append]
theorem Zd0 {α:Type} {st:α→Nat} {mk:Nat→α→α} :∀{xs:List α} (k:Nat),(mkL st mk k xs).length=xs.length
  | [],k=>rfl
  | y :: xs,k=>by rw [mkL,List.length_cons,Zd0 (k+st y),List.length_cons]
theorem ZqJ {α:Type} {st:α→Nat} {mk:Nat→α→α} {xs ys:List α} {i k:Nat} {x:α} (ht:ys.take i=mkL st mk k (xs.take i)) (hx:xs[i]? = some x) (hl:ys.length=xs.length):(ys.set i (mk (kL st k (xs.take i)) x)).take (i+1)=mkL st mk k (xs.take (i+1)):=by
  have hi:=(List.getElem?_eq_some_iff.1 hx).1
  rw [Zb0 (by omega),ZaF hx,Zmh,ht]
theorem ZoL {α:Type} {st:α→Nat} {mk:Nat→α→α} {xs ys:List α} {i k:Nat} (ht:ys.take i=mkL st mk k (xs.take i)) (hl:ys.length=xs.length) (hi:xs.length≤i):ys=mkL st mk k xs:=by
  rwa [List.take_of_length_le (by omega),List.take_of_length_le hi] at ht
theorem Zk9 {α:Type} {st:α→Nat} {mk:Nat→α→α} :∀{xs:List α} {i:Nat} {x:α} (k:Nat),xs[i]? = some x→(mkL st mk k xs)[i]? = some (mk (kL st k (xs.take i)) x)
  | [],i,x,k,h=>by simp at h
  | y :: xs,0,x,k,h=>by
    simp only [List.getElem?_cons_zero,Option.some.injEq] at h
    subst h;simp [mkL,kL]
  | y :: xs,i+1,x,k,h=>by
    rw [mkL,List.getElem?_cons_succ,Zk9 (k+st y) (by simpa using h),List.take_succ_cons,Zi4]
theorem Zmu {α:Type} {xs ys:List α} {i:Nat} {z:α} (hd:ys.drop i=xs.drop i):(ys.set i z).drop (i+1)=xs.drop (i+1):=by
  rw [List.drop_set_of_lt (by omega),← List.drop_drop,← List.drop_drop,hd]
theorem Zmv {α:Type} {xs ys:List α} {i:Nat} (hd:ys.drop i=xs.drop i):ys[i]? = xs[i]?:=by
  have:=congrArg (fun l=>l[0]?) hd
  simpa using this
theorem Zk8 {k n g:Nat} (h:g<n):(ZbQ k n)[g]? = some ⟨((k+3*g:Nat):Int),((k+3*g+1:Nat):Int),ZU (k+3*g+1+1)⟩:=by simp [ZbQ,h]
theorem Zj5 {k n g:Nat} (h:g<n):(Zaz k n)[g]? = some ⟨ZU (k+2*g),((k+2*g+1:Nat):Int)⟩:=by simp [Zaz,h]
theorem Zk6 {k n g:Nat} (h:g<n):(Zck k n)[g]? = some ⟨ZU (k+3*g),ZU (k+3*g+1),((k+3*g+1+1:Nat):Int)⟩:=by simp [Zck,h]
theorem Zm3 {k n g:Nat} (h:g<n):(Zc0 k n)[g]? = some (ZU (k+1*g)):=by simp [Zc0,h]
theorem ZdX {α:Type} {xs:List α} {k:Nat} {x z:α} (h:xs[k]? = some x):(xs.set k z)[k]? = some z:=List.getElem?_set_self (List.getElem?_eq_some_iff.1 h).1
theorem ZqM {α:Type} {st:α→Nat} {k i:Nat} {xs:List α} {x:α} (hx:xs[i]? = some x):kL st k (xs.take i)+st x≤kL st k xs:=by
  have e:xs=xs.take (i+1) ++ xs.drop (i+1):=(List.take_append_drop _ _).symm
  have h1:=Zht (st:=st) (k:=k) hx
  have h2:kL st k xs=kL st k (xs.take (i+1))+((xs.drop (i+1)).map st).sum:=by
    conv=>lhs;rw [e]
    simp only [kL,List.map_append,List.sum_append];omega
  omega
theorem Zmm {α:Type} {st:α→Nat} {k i:Nat} {xs:List α} (h:xs.length≤i):kL st k (xs.take i)=kL st k xs:=by rw [List.take_of_length_le h]
theorem ZoW {α:Type} {st:α→Nat} {k:Nat} {xs:List α} : k≤kL st k xs:=by simp [kL]
theorem ZlW {α:Type} {xs ys:List α} {i:Nat} {z:α} (h:ys.length=xs.length):(ys.set i z).length=xs.length:=by rw [List.length_set,h]
theorem Zup {α:Type} {st sz:α→Nat} {xs:List α} (k:Nat) (h :∀x,x∈xs→st x≤3+3*sz x):kL st k xs≤k+3*(xs.length+(xs.map sz).sum):=by
  induction xs generalizing k with
  | nil=>simp [kL]
  | cons x xs ih=>
    rw [Zi4]
    have h1:=ih (k+st x) fun y hy=>h y (List.mem_cons_of_mem _ hy)
    have h2:=h x (List.mem_cons_self ..)
    simp only [List.length_cons,List.map_cons,List.sum_cons];omega
theorem Zj4 {α:Type} {st:α→Nat} {mk:Nat→α→α} {xs ys:List α} {i k m:Nat} {x:α} (ht:ys.take i=mkL st mk k (xs.take i)) (hx:xs[i]? = some x) (hl:ys.length=xs.length) (hs:m=kL st k (xs.take i)):(ys.set i (mk m x)).take (i+1)=mkL st mk k (xs.take (i+1)):=by
  subst hs;exact ZqJ ht hx hl
end Go.BL
namespace Go.BL
open Go
set_option linter.unusedVariables false
set_option linter.unusedSimpArgs false
theorem ZvN {k:Nat} {fs:List DFolder} : kL Zbk k fs≤k+3*szL Zaw fs:=Zup k fun x _=>by simp only [Zbk,Zaw,szL];omega
theorem Zuq {k:Nat} {xs:List DItem} : kL Zbf k xs≤k+3*szL Zbm xs:=Zup k fun x _=>by simp only [Zbf,Zbm,Zeq,szL];omega
def kH (k:Nat) (x:DHost):Nat:=kL Zbf (kL Zbk (k+3*x.users.length) x.folders) x.queue.items
theorem Zur {x:DHost} (h:ZcV x≤1048576):kH 1 x≤10000000:=by
  have h1:=@Zuq (kL Zbk (1+3*x.users.length) x.folders) x.queue.items
  have h2:=@ZvN (1+3*x.users.length) x.folders
  unfold ZcV at h
  have h3:x.users.length≤szL ZcU x.users:=by simp only [szL];omega
  unfold kH;omega
end Go.BL
namespace Go.BL
open Go
set_option linter.unusedVariables false
set_option linter.unusedSimpArgs false
end Go.BL
namespace Go.BL
open Go
set_option linter.unusedVariables false
set_option linter.unusedSimpArgs false
theorem ZmQ {id:Int} {u:Str} {x:DItem} : Zbf (Zbh id u x)≤Zbf x:=by
  unfold Zbh
  split
  · have:(without x.left u).length≤x.left.length:=by unfold without;exact List.length_filter_le ..
    simp only [Zbf];omega
  · exact Nat.le_refl _
theorem ZoY {x:DQueue} {z:DItem} (h:szL Zbm x.items≤1048576) (hz:z∈x.items):Zbf z≤3+1048576:=by
  have:=(Zav h).2 z hz
  unfold Zbm Zeq szL at this
  simp only [Zbf];omega
end Go.BL
namespace Go.BL
open Go
set_option linter.unusedVariables false
set_option linter.unusedSimpArgs false
end Go.BL
namespace Go.BL
open Go
set_option linter.unusedVariables false
set_option linter.unusedSimpArgs false
end Go.BL
namespace Go.BL
open Go
set_option linter.unusedVariables false
set_option linter.unusedSimpArgs false
end Go.BL
namespace Go.BL
open Go
set_option linter.unusedVariables false
set_option linter.unusedSimpArgs false
theorem Zx.perm {P:PJ} {f:FuncId} {args:List Value} {B:Kn} {Ls Ls':List Cells} {Post:Value→Kn→List Cells→Prop} (hp:Ls.flatten.Perm Ls'.flatten) (h:Zx P f args B Ls' Post):Zx P f args B Ls Post:=fun X kind c cs F hk hA=>by
  refine X.drop (r:=Ls'.flatten ++ F) (gl:=[]) ?_ (h X kind c cs F hk hA)
  rw [List.append_nil];exact hp.append_right F
theorem ZhW.ptr {Tn:TypeId} {v0:Value} {bl:Nat} {x:DMail} {rest:Cells} {pre:List DMail} (h:ZhW Tn v0 bl x rest pre) :∃p,v0 = .pointer p:=by
  obtain ⟨s0,h1,_⟩:=h (.pointer none) [] [] ⟨rfl,rfl⟩
  exact h1.ptr
theorem MLst.one {TL Tn:TypeId} {b bn:Nat} {m:DMail} {s:Cells} (hm:m.text.length≤2000000) (hp:s.Perm (Z7 b [Go.BL.ptr ⟨bn,0,none⟩,Go.BL.ptr ⟨bn,0,none⟩,.int .i64 1] TL ++ Z7 bn (ZgO m (.pointer none)) Tn)):MLst TL Tn b [m] s:=
  .inr ⟨_,bn,m,[],hp.trans (by simp),ZhW.init hm⟩
theorem MLst.add {TL Tn:TypeId} {b bl bn:Nat} {v0:Value} {x m:DMail} {rest s:Cells} {xs:List DMail} {k:Int} (h:ZhW Tn v0 bl x rest xs) (hm:m.text.length≤2000000) (hk:k=xs.length+1)
    (hp:s.Perm (Z7 b [v0,Go.BL.ptr ⟨bn,0,none⟩,.int .i64 k] TL ++ (Z7 bn (ZgO m (.pointer none)) Tn ++ (rest ++ Z7 bl (ZgO x (Go.BL.ptr ⟨bn,0,none⟩)) Tn)))):MLst TL Tn b (xs ++ [m]) s:=by
  refine .inr ⟨v0,bn,m,rest ++ Z7 bl (ZgO x (Go.BL.ptr ⟨bn,0,none⟩)) Tn,hp.trans ?_,h.step hm⟩
  rw [hk,List.length_append]
  simp
theorem Zxr {P:PJ} {S:Env} {B:Kn} {L:List Cells} {rs:List ResultVar} {Post:Value→Kn→List Cells→Prop} (e:Exit) (he:e = .ret∨e = .normal) (vs:List Value) (js:List Nat) {ss r:List Cells} (hp:ZaC L js=some (ss,r)) (hr:Zdf P S B L rs vs) (hq:Post (ZcY vs) B [ss.flatten]):ZhU P rs Post e S [] B L:=
  ⟨he,rfl,vs,[ss.flatten],hr,⟨r.flatten,by simpa using Zac js L ss r hp⟩,hq⟩
structure MOf where
  p:Option Addr
  ys:List DMail
  xs:List DMail
  l:Cells
  q:Option Addr
  c:Nat
  cells:Cells
end Go.BL
namespace Go.BL
open Go
set_option linter.unusedVariables false
set_option linter.unusedSimpArgs false
theorem Zt6 {α:Type} {xs:List α} {k:Nat} {x:α} (h:xs[k]? = some x):xs.set k x=xs:=by
  apply List.ext_getElem?
  intro i
  rw [List.getElem?_set]
  split
  · rename_i e;subst e
    split
    · rw [h]
    · rename_i hl;rw [List.getElem?_eq_none (by omega)] at h;cases h
  · rfl
theorem Zd8 {x:DHost} {u:Str} {more:Int} (h:Zad x=true) (hu:0≤ZfG x.users u):ZbN x u more=decide (Zdp x.users u<(Zcv x.folders u:Int)+more):=by
  obtain ⟨w,hw,rfl⟩:=ZaX.1 hu
  rw [ZbN,ZfL (Zez h) hw,ZmW (Zez h) hw,Zkj h]
  rfl
def Ze9 (x:DHost) (k:Nat) (fl:Int) (t:Str):Nat:=
  match x.folders[k]? with
  | none=>0
  | some f=>if Zdp x.users f.owner<(Zcv x.folders f.owner:Int)+t.length then 3 else if (Zfd f.box fl t).2=true then 0 else 4
theorem ZiT (x:DHost) (k:Nat) (fl:Int) (t:Str):((Ze9 x k fl t:Nat):Int)=(Zaf x k fl t).2:=by
  cases h:x.folders[k]? with
  | none=>simp only [Ze9,Zaf,h];rfl
  | some f=>
    simp only [Ze9,Zaf,h]
    split
    · rfl
    · split <;> rfl
theorem Zsr (x:DHost) (k:Nat) (fl:Int) (t:Str):Ze9 x k fl t<5:=by
  unfold Ze9
  split
  · omega
  · split
    · omega
    · split <;> omega
theorem Zot {x:DHost} {k:Nat} {fl:Int} {t:Str} {f:DFolder} (hok:Zad x=true) (hf:x.folders[k]? = some f) (h:ZbN x f.owner t.length=true):Ze9 x k fl t=3∧Zaf x k fl t=(x,3):=by
  have ho:0≤ZfG x.users f.owner:=ZaX.2 (ZgV (ZeB hok hf))
  rw [Zd8 hok ho,decide_eq_true_eq] at h
  have e:=Zhl (fl:=fl) hf h
  have e2:=ZiT x k fl t
  rw [e] at e2
  exact ⟨by have:((Ze9 x k fl t:Nat):Int)=3:=e2;omega,e⟩
theorem Zqq {x:DHost} {k:Nat} {fl:Int} {t:Str} {f:DFolder} (hok:Zad x=true) (hf:x.folders[k]? = some f) (h:ZbN x f.owner t.length=false) (h2:(Zfd f.box fl t).2=false):Ze9 x k fl t=4∧Zaf x k fl t=(x,4):=by
  have ho:0≤ZfG x.users f.owner:=ZaX.2 (ZgV (ZeB hok hf))
  rw [Zd8 hok ho,decide_eq_false_iff_not] at h
  have e:=Zii hf h h2
  have e2:=ZiT x k fl t
  rw [e] at e2
  exact ⟨by have:((Ze9 x k fl t:Nat):Int)=4:=e2;omega,e⟩
theorem Zqr {x:DHost} {k:Nat} {fl:Int} {t:Str} {f:DFolder} (hok:Zad x=true) (hf:x.folders[k]? = some f) (h:ZbN x f.owner t.length=false) (h2:(Zfd f.box fl t).2=true):Ze9 x k fl t=0∧Zaf x k fl t=(x.withFolders (x.folders.set k (f.withBox (Zfd f.box fl t).1)),0):=by
  have ho:0≤ZfG x.users f.owner:=ZaX.2 (ZgV (ZeB hok hf))
  rw [Zd8 hok ho,decide_eq_false_iff_not] at h
  have e:=Zij hf h h2
  have e2:=ZiT x k fl t
  rw [e] at e2
  exact ⟨by have:((Ze9 x k fl t:Nat):Int)=0:=e2;omega,e⟩
theorem ZxE {B:Kn} {L:List Cells} {b o:Nat} {row vs:List Value} {a:Addr} (hc :∀(m:Nat) (u:Value),row[m]? = some u→ZaL B L.flatten ⟨b,o+m,none⟩ u) (off:Nat) (ha:a=⟨b,o+off,none⟩) (hv:(row.drop off).take vs.length=vs):ZpV B L a vs:=by
  intro i v hi
  subst ha
  rw [Addr.add_off _ _ rfl]
  have hlt:i<vs.length:=(List.getElem?_eq_some_iff.1 hi).1
  have:row[off+i]? = some v:=by
    have e:=congrArg (fun l=>l[i]?) hv
    simp only [List.getElem?_take,if_pos hlt,List.getElem?_drop] at e
    rw [e,hi]
  have:=hc _ v this
  rwa [show o+(off+i)=o+off+i from by omega] at this
theorem ZaP.cellA {α:Type} {l:Cells} {p:Option Addr} {c:Nat} {T:TypeId} {w:Nat} {R:Zf8 α} {xs:List α} (h:ZaP l p c T w R xs) {i:Nat} {x:α} (hx:xs[i]? = some x) :
∃b row li lr,p=some ⟨b,0,none⟩∧R row x li∧row.length=w∧l.Perm (li ++ lr)∧(∀(B:Kn) (L:List Cells) (j:Nat),L[j]? = some l→∀(m:Nat) (u:Value),row[m]? = some u→ZaL B L.flatten ⟨b,i*w+m,none⟩ u)∧(∀(B:Kn) (L:List Cells) (j:Nat),L[j]? = some lr→∀(m:Nat) (u:Value),row[m]? = some u→ZaL B L.flatten ⟨b,i*w+m,none⟩ u)∧∀x' li',R row x' li'→ZaP (li' ++ lr) p c T w R (xs.set i x'):=by
  obtain ⟨b,arr,row,li,lr,e1,e2,e3,e4,e5,e6⟩:=h.open1 hx
  refine ⟨b,row,li,Z7 b arr T ++ lr,e1,e2,e3,e4,fun B L j hj m u hm=>⟨rfl,arr.toArray,T,(0,0),.inr ?_,by simpa using e5 m u hm⟩,fun B L j hj m u hm=>⟨rfl,arr.toArray,T,(0,0),.inr ?_,by simpa using e5 m u hm⟩,e6⟩
  · exact List.mem_flatten.2 ⟨l,List.mem_of_getElem? hj,e4.mem_iff.2 (List.mem_append_right _ (List.mem_append_left _ (List.mem_singleton.2 rfl)))⟩
  · exact List.mem_flatten.2 ⟨_,List.mem_of_getElem? hj,List.mem_append_left _ (List.mem_singleton.2 rfl)⟩
end Go.BL
namespace Go.BL
open Go
set_option linter.unusedVariables false
set_option linter.unusedSimpArgs false
def Zkx (x:DHost) (id:Int) (u:Str):Nat:=if (Zas x.queue id u).2.2=false then 1 else Ze9 x (Zb4 (inF u inbox) x.folders).toNat 0 (Zas x.queue id u).2.1
def Zjs (x:DHost) (id:Int) (u:Str):DHost:=if (Zas x.queue id u).2.2=false then x else if Zkx x id u=4 then (Zaf x (Zb4 (inF u inbox) x.folders).toNat 0 (Zas x.queue id u).2.1).1 else (Zaf x (Zb4 (inF u inbox) x.folders).toNat 0 (Zas x.queue id u).2.1).1.withQueue (Zas x.queue id u).1
theorem Ztg (x:DHost) (id:Int) (u:Str):Zkx x id u<5:=by
  unfold Zkx
  split
  · omega
  · exact Zsr _ _ _ _
theorem ZfS {q:DQueue} {id:Int} {u:Str} (h:Zar q=true):Zas q id u=ZaZ q id u:=by rw [Zas,if_pos h]
theorem ZuP {x:DHost} {id:Int} {u:Str} : ((if true=true∧Zad x=true then (Zjs x id u,(Zkx x id u:Int)) else (Zho,5)):DHost × Int)=ZO x id u:=by
  unfold ZO
  cases h:Zad x with
  | false=>rw [if_neg (fun k=>absurd k.2 (by decide)),if_pos rfl]
  | true=>
    rw [if_pos ⟨rfl,rfl⟩,if_neg (by decide)]
    have hq:=ZfS (id:=id) (u:=u) (Zdk h)
    rw [← hq]
    by_cases h1:(Zas x.queue id u).2.2=false
    · rw [if_pos h1,Zjs,if_pos h1,Zkx,if_pos h1];rfl
    · have e:=ZiT x (Zb4 (inF u inbox) x.folders).toNat 0 (Zas x.queue id u).2.1
      have en:Zkx x id u=Ze9 x (Zb4 (inF u inbox) x.folders).toNat 0 (Zas x.queue id u).2.1:=by rw [Zkx,if_neg h1]
      rw [if_neg h1,Zjs,if_neg h1,en]
      by_cases h2:Ze9 x (Zb4 (inF u inbox) x.folders).toNat 0 (Zas x.queue id u).2.1=4
      · rw [if_pos h2,if_neg (by omega),e]
      · rw [if_neg h2,if_pos (by omega),e]
theorem Zjl {x:DHost} {id:Int} {u:Str} (h:(Zas x.queue id u).2.2=false):Zkx x id u=1∧Zjs x id u=x:=⟨by rw [Zkx,if_pos h],by rw [Zjs,if_pos h]⟩
theorem ZeV {x:DHost} {id:Int} {u:Str} {k:Nat} (h:(Zas x.queue id u).2.2=true) (hk:Zb4 (inF u inbox) x.folders=(k:Int)) (h2:Ze9 x k 0 (Zas x.queue id u).2.1≠4):Zkx x id u=Ze9 x k 0 (Zas x.queue id u).2.1∧Zjs x id u=(Zaf x k 0 (Zas x.queue id u).2.1).1.withQueue (Zas x.queue id u).1:=by
  have e:Zkx x id u=Ze9 x k 0 (Zas x.queue id u).2.1:=by rw [Zkx,if_neg (by rw [h];decide),hk];rfl
  exact ⟨e,by rw [Zjs,if_neg (by rw [h];decide),if_neg (by rw [e];exact h2),hk];rfl⟩
theorem Zjm {x:DHost} {id:Int} {u:Str} {k:Nat} (h:(Zas x.queue id u).2.2=true) (hk:Zb4 (inF u inbox) x.folders=(k:Int)) (h2:Ze9 x k 0 (Zas x.queue id u).2.1=4):Zkx x id u=Ze9 x k 0 (Zas x.queue id u).2.1∧Zjs x id u=(Zaf x k 0 (Zas x.queue id u).2.1).1:=by
  have e:Zkx x id u=Ze9 x k 0 (Zas x.queue id u).2.1:=by rw [Zkx,if_neg (by rw [h];decide),hk];rfl
  exact ⟨e,by rw [Zjs,if_neg (by rw [h];decide),if_pos (by rw [e];exact h2),hk];rfl⟩
theorem Zhk (x:DHost) (k:Nat) (fl:Int) (t:Str):Ze9 x k fl t=0∨Ze9 x k fl t=3∨Ze9 x k fl t=4:=by
  unfold Ze9
  split
  · exact .inl rfl
  · split
    · exact .inr (.inl rfl)
    · split
      · exact .inl rfl
      · exact .inr (.inr rfl)
theorem ZsJ {x:DHost} {id:Int} {u:Str} (h:ZcV x≤1048576):kH 1 (ZO x id u).1≤750000000000000∧(ZO x id u).1.users.length≤2000000∧(ZO x id u).1.folders.length≤2000000∧(ZO x id u).1.queue.items.length≤2000000:=by
  have hs:=Zlp h
  have a1:=(Zav hs.2.1).1
  have a2:=(Zav hs.2.2.1).1
  have a3:=(Zav hs.2.2.2).1
  have hk:=Zur h
  have hx:kH 1 x≤750000000000000∧x.users.length≤2000000∧x.folders.length≤2000000∧x.queue.items.length≤2000000:=⟨by omega,by omega,by omega,by omega⟩
  have hp :∀k t,kL Zbk (1+3*(Zaf x k 0 t).1.users.length) (Zaf x k 0 t).1.folders≤20000000000000∧(Zaf x k 0 t).1.users.length≤2000000∧(Zaf x k 0 t).1.folders.length≤2000000∧(Zaf x k 0 t).1.queue=x.queue:=by
    intro k t
    have h0:kL Zbk (1+3*x.users.length) x.folders≤20000000000000:=Nat.le_trans (ZoW (st:=Zbf) (xs:=x.queue.items)) (Nat.le_trans (show kH 1 x≤10000000 from hk) (by omega))
    unfold Zaf
    split
    · exact ⟨h0,hx.2.1,hx.2.2.1,rfl⟩
    · rename_i f hf
      split
      · exact ⟨h0,hx.2.1,hx.2.2.1,rfl⟩
      · split
        · refine ⟨?_,hx.2.1,by show (x.folders.set _ _).length≤_;rw [List.length_set];exact hx.2.2.1,rfl⟩
          have h2:=ZsI (st:=Zbk) (c:=10000000) (xs:=x.folders.set k (f.withBox (Zfd f.box 0 t).1)) (1+3*x.users.length) fun g hg=>by
            have hb :∀f',f'∈x.folders→f'.grants.length≤1048576∧f'.mail.length≤1048576:=fun f' hf'=>by
              have:=(Zav hs.2.2.1).2 f' hf'
              exact ⟨(Zav (ZhF this).1).1,(Zav (ZhF this).2).1⟩
            rcases List.mem_or_eq_of_mem_set hg with hg | rfl
            · have:=hb g hg;simp only [Zbk];omega
            · have h3:=hb f (List.mem_of_getElem? hf)
              have h5:(Zfd f.box 0 t).1.mail.length≤f.mail.length+1:=Zjq f.box 0 t
              show 3+2*f.grants.length+3*(Zfd f.box 0 t).1.mail.length≤_
              omega
          rw [List.length_set] at h2
          have h6:x.folders.length*10000000≤1048576*10000000:=Nat.mul_le_mul_right _ a2
          show kL Zbk (1+3*x.users.length) (x.folders.set _ _)≤_
          omega
        · exact ⟨h0,hx.2.1,hx.2.2.1,rfl⟩
  have hq :∀K,kL Zbf K (ZaZ x.queue id u).1.items≤K+3*1048576+2000000000000∧(ZaZ x.queue id u).1.items.length≤2000000:=fun K=>by
    have h1:(ZaZ x.queue id u).1.items.length≤x.queue.items.length:=Zhc id u x.queue.items
    have h2:=ZsI (st:=Zbf) (c:=3+1048576) (xs:=(ZaZ x.queue id u).1.items) K fun y hy=>by
      simp only [ZaZ,ZeZ,List.mem_filter,List.mem_map] at hy
      obtain ⟨⟨z,hz,rfl⟩,_⟩:=hy
      exact Nat.le_trans ZmQ (ZoY hs.2.2.2 hz)
    have h3:(ZaZ x.queue id u).1.items.length*(3+1048576)≤1048576*(3+1048576):=Nat.mul_le_mul_right _ (by omega)
    exact ⟨by omega,by omega⟩
  have hb :∀K,kL Zbf K x.queue.items≤K+3*1048576:=fun K=>Nat.le_trans Zuq (by have:=hs.2.2.2;omega)
  unfold ZO
  split
  · refine ⟨?_,?_,?_,?_⟩ <;> simp [Zho,kH,kL]
  · split
    · exact hx
    · obtain ⟨p1,p2,p3,p4⟩:=hp (Zb4 (inF u inbox) x.folders).toNat (ZaZ x.queue id u).2.1
      split
      · refine ⟨?_,p2,p3,(hq 0).2⟩
        have:=(hq (kL Zbk (1+3*(Zaf x (Zb4 (inF u inbox) x.folders).toNat 0 (ZaZ x.queue id u).2.1).1.users.length) (Zaf x (Zb4 (inF u inbox) x.folders).toNat 0 (ZaZ x.queue id u).2.1).1.folders)).1
        refine Nat.le_trans this ?_
        omega
      · refine ⟨?_,p2,p3,by rw [p4];exact hx.2.2.2⟩
        have:=hb (kL Zbk (1+3*(Zaf x (Zb4 (inF u inbox) x.folders).toNat 0 (ZaZ x.queue id u).2.1).1.users.length) (Zaf x (Zb4 (inF u inbox) x.folders).toNat 0 (ZaZ x.queue id u).2.1).1.folders)
        rw [kH,p4]
        refine Nat.le_trans this ?_
        omega
end Go.BL
namespace Go.BL
section
variable {P:PJ} {n:Nat} {ops:Array Oper} {i:Nat} {K:Z9} {S:Env} {D:List Deferred} {B:Kn} {L:List Cells}
variable {dst:Option Tmp} {ty:TypeId} {pos:String} {after:Array Edge} {g:Option (Nat × Bool)}
end
end Go.BL
