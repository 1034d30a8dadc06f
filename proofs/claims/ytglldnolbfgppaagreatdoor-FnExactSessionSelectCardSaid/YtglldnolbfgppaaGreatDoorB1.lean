/-
  THE WALK'S LOGIC: owned cells and known cells, goroutines started and awaited, calls, loops, data, and plain laws on lists: no program in sight.
-/
import Derived.Test.YtglldnolbfgppaaGreatDoorB0
set_option linter.unusedVariables false
set_option linter.unusedSimpArgs false
set_option linter.unusedSectionVars false
namespace Go.BL
open Go.Conc (G)
set_option linter.unusedVariables false
def errv (tE:TypeId) (a:Nat→Addr):Nat→Value
  | 0=>.nilIface
  | k+1=>.iface tE (.pointer (some (a k)))
structure ErrsB (tE:TypeId) (B:Kn) (a:Nat→Addr):Prop where
  row :∀k,k<4→Zak B k 0 [.iface tE (.pointer (some (a k)))]
  cell :∀k,k<4→∃cs T,B.mem (a k).block=some (.cells cs T (0,0))
  ne :∀i j,i<4→j<4→i≠j→a i≠a j
theorem ErrsB.mono {tE:TypeId} {B B':Kn} {a:Nat→Addr} (h:ErrsB tE B a) (hle:B.le B'):ErrsB tE B' a:=
  ⟨fun k hk=>(h.row k hk).mono hle,fun k hk=>let ⟨cs,T,e⟩:=h.cell k hk;⟨cs,T,hle _ _ e⟩,h.ne⟩
section
variable {P:Program}
theorem ZnL {a:Addr} {B:Kn} {L:Cells} {Q:Bool→Kn→Cells→Prop} (q:Q true B L):hb P (sameAddr a a) Q B L:=by
  have e:sameAddr a a=pure true:=by simp [sameAddr]
  rw [e];exact q
theorem Ze2 {x:Addr} {cx:Array Value} {tx:TypeId} {B:Kn} {L:Cells} {Q:Bool→Kn→Cells→Prop} (hx:Zin B L x.block (.cells cx tx (0,0))) (q:Q false B L):hb P (stringish x) Q B L:=by
  unfold stringish
  rw [Zk]
  refine ⟨_,hx,?_⟩
  simp only [ZaU,Zp,Zaw,Nat.not_lt_zero,decide_false,Bool.and_false,Bool.false_eq_true,if_false]
  rw [Zk]
  refine ⟨_,hx,?_⟩
  simp only [ZgW,Zp,Zaw]
  refine ⟨_,hx,?_⟩
  simp only [ZaU,Nat.not_lt_zero,decide_false,Bool.and_false]
  exact q
theorem Zh2 {x:Addr} {cx:Array Value} {tx:TypeId} {B:Kn} {L:Cells} {Q:Unit→Kn→Cells→Prop} (hx:Zin B L x.block (.cells cx tx (0,0))) (q:Q () B L):hb P (noView x) Q B L:=by
  unfold noView viewAt
  simp only [Zk]
  refine ⟨_,hx,?_⟩
  simp only [ZgW,Option.isSome_some,if_true,Zp,Zaw]
  exact q
theorem ZnM {a b:Addr} {ca cb:Array Value} {ta tb:TypeId} {B:Kn} {L:Cells} {Q:Bool→Kn→Cells→Prop} (hne:a≠b) (ha:Zin B L a.block (.cells ca ta (0,0))) (hb':Zin B L b.block (.cells cb tb (0,0))) (q:Q false B L):hb P (sameAddr a b) Q B L:=by
  unfold sameAddr
  by_cases h:a.block=b.block
  · have e1:(a.block == b.block)=true:=by simpa using h
    have e2:(a == b)=false:=by simpa using hne
    simp only [e1,if_true,e2];exact q
  · have e1:(a.block == b.block)=false:=by simpa using h
    simp only [e1,Bool.false_eq_true,if_false,Zk]
    refine ⟨_,ha,?_⟩
    have f1:ZaU a.off (.cells ca ta (0,0))=false:=by simp [ZaU]
    simp only [f1,Zp,Zaw,Bool.false_eq_true,if_false,Bool.false_and,Zk]
    refine ⟨_,hb',?_⟩
    simp only [Zp,Zaw,Zk]
    refine Zh2 ha ?_
    rw [Zk]
    refine Zh2 hb' ?_
    unfold mayBeOne
    simp only [Zk]
    refine Ze2 ha ?_
    rw [Zk]
    refine Ze2 hb' ?_
    simp only [Zk]
    refine ⟨_,ha,?_⟩
    simp only [Zp,Zaw,Zk]
    refine ⟨_,hb',?_⟩
    simp only [Bool.false_and,Bool.or_false,Bool.false_eq_true,if_false,Zp,Zaw]
    exact q
theorem ZqQ {tI tE te:TypeId} {ms:Array (String × TypeId)} {i:TypeInfo} {d:Nat} {x y:Addr} {B:Kn} {L:Cells} {Q:Bool→Kn→Cells→Prop} (hi:P.underlying tI=some (.interface ms)) (hp:P.underlying tE=some (.pointer te)) (hinfo:P.info? tE=some i) (hc:i.comparable=true) (hs:ZN P te=some (d+1))
    (h:hb P (sameAddr x y) Q B L):hb P (Op.equal tI (.iface tE (.pointer (some x))) (.iface tE (.pointer (some y)))) Q B L:=by
  show hb P (Op.equalIn (9999+1) tI _ _) Q B L
  rw [Op.equalIn,Zk,Zq hi]
  simp only [ne_eq,not_true_eq_false,if_false,Zk,ZaM hinfo,hc,Bool.not_true,Bool.false_eq_true]
  show hb P (Op.equalIn (9998+1) tE _ _) Q B L
  rw [Op.equalIn,Zk,Zq hp]
  simp only [Zk,Zad hs,ne_eq,Nat.add_eq_zero_iff,Nat.one_ne_zero,and_false,not_false_eq_true,if_true]
  exact h
theorem Zmn {tE:TypeId} {B:Kn} {a:Nat→Addr} (h:ErrsB tE B a) {k:Nat} (hk:k<4) (L:Cells) :∃cs T,Zin B L (a k).block (.cells cs T (0,0)):=
  let ⟨cs,T,e⟩:=h.cell k hk;⟨cs,T,.inl e⟩
theorem ZqR {tI tE te:TypeId} {ms:Array (String × TypeId)} {i:TypeInfo} {d:Nat} {c k:Nat} {a:Nat→Addr} {B:Kn} {L:Cells} {Q:Bool→Kn→Cells→Prop} (hE:ErrsB tE B a) (hcb:c<5) (hkb:k<4) (hi:P.underlying tI=some (.interface ms)) (hp:P.underlying tE=some (.pointer te)) (hinfo:P.info? tE=some i) (hc:i.comparable=true) (hs:ZN P te=some (d+1))
    (h:Q (decide (c=k+1)) B L):hb P (Op.equal tI (errv tE a c) (errv tE a (k+1))) Q B L:=by
  cases c with
  | zero=>
    show hb P (Op.equalIn (9999+1) tI .nilIface _) Q B L
    rw [Op.equalIn,Zk,Zq hi]
    simp only [errv,Zp]
    simpa using h
  | succ c=>
    refine ZqQ hi hp hinfo hc hs ?_
    by_cases e:c=k
    · subst e
      exact ZnL (by simpa using h)
    · obtain ⟨cs,T,h1⟩:=Zmn hE (k:=c) (by omega) L
      obtain ⟨cs',T',h2⟩:=Zmn hE hkb L
      exact ZnM (hE.ne c k (by omega) hkb e) h1 h2 (by simpa [e] using h)
end
section
variable {P:PJ} {n:Nat} {ops:Array Oper} {i:Nat} {K:Zaq} {S:Env} {D:List Deferred} {B:Kn} {L:List Cells}
variable {dst:Option Tmp} {ty:TypeId} {pos:String} {after:Array Edge} {g:Option (Nat × Bool)}
theorem Zjo {t u:TypeId} {x:Operand} {tE:TypeId} {a:Nat→Addr} {c:Nat} {ms:Array (String × TypeId)} (hg:Zl ops S g=some true) (hd:Zw n dst=true) (hu:P.underlying t=some (.interface ms)) (hx:ev S x=some (errv tE a c)) (h:K (.bool (decide (c=0))) D B L):opX P n ops i ⟨dst,.binOp .eql t x (.const .nilIface) u,ty,pos,after,g⟩ K S D B L:=
  ZE hg hd (fun ρ hρ Q F q=>by
    have e0:ρ (.const .nilIface) = .nilIface:=hρ (.const .nilIface) _ rfl
    simp only [execOp,hρ x _ hx,e0,Zk]
    cases c with
    | zero=>
      simp only [errv,eqGuard,binOp,Bool.not_true,Bool.false_eq_true,if_false,Bool.or_true,if_true,Zp,Zk]
      show hb P (Op.equalIn (9999+1) t .nilIface .nilIface) _ B _
      rw [Op.equalIn,Zk,Zq hu]
      simp only [Zp]
      simpa using q
    | succ c=>
      simp only [errv,eqGuard,binOp,Bool.not_true,Bool.false_eq_true,if_false,Bool.or_true,if_true,Zp,Zk]
      show hb P (Op.equalIn (9999+1) t (.iface tE _) .nilIface) _ B _
      rw [Op.equalIn,Zk,Zq hu]
      simp only [Zp]
      simpa using q) h
theorem Zqg {t u:TypeId} {x:Operand} {tE:TypeId} {a:Nat→Addr} {c:Nat} {ms:Array (String × TypeId)} (hg:Zl ops S g=some true) (hd:Zw n dst=true) (hu:P.underlying t=some (.interface ms)) (hx:ev S x=some (errv tE a c)) (h:K (.bool (decide (c≠0))) D B L):opX P n ops i ⟨dst,.binOp .neq t x (.const .nilIface) u,ty,pos,after,g⟩ K S D B L:=
  ZE hg hd (fun ρ hρ Q F q=>by
    have e0:ρ (.const .nilIface) = .nilIface:=hρ (.const .nilIface) _ rfl
    simp only [execOp,hρ x _ hx,e0,Zk]
    cases c with
    | zero=>
      simp only [errv,eqGuard,binOp,Bool.not_true,Bool.false_eq_true,if_false,Bool.or_true,if_true,Zp,Zk]
      show hb P (Op.equalIn (9999+1) t .nilIface .nilIface) _ B _
      rw [Op.equalIn,Zk,Zq hu]
      simp only [Zp]
      simpa using q
    | succ c=>
      simp only [errv,eqGuard,binOp,Bool.not_true,Bool.false_eq_true,if_false,Bool.or_true,if_true,Zp,Zk]
      show hb P (Op.equalIn (9999+1) t (.iface tE _) .nilIface) _ B _
      rw [Op.equalIn,Zk,Zq hu]
      simp only [Zp]
      simpa using q) h
theorem ZkZ {t u:TypeId} {x y:Operand} {tE te:TypeId} {a:Nat→Addr} {c k:Nat} {ms:Array (String × TypeId)} (hE:ErrsB tE B a) (hcb:c<5) (hkb:k<4) (hg:Zl ops S g=some true) (hd:Zw n dst=true) (hu:P.underlying t=some (.interface ms)) (hp:P.underlying tE=some (.pointer te)) (hinf:(P.info? tE).map (·.comparable)=some true) (hs:ZN P te=some 1)
    (hx:ev S x=some (errv tE a c)) (hy:ev S y=some (errv tE a (k+1))) (h:K (.bool (decide (c=k+1))) D B L):opX P n ops i ⟨dst,.binOp .eql t x y u,ty,pos,after,g⟩ K S D B L:=
  ZE hg hd (fun ρ hρ Q F q=>by
    obtain ⟨inf,hinfo,hc⟩:=Option.map_eq_some_iff.1 hinf
    have hpl:Zhg (errv tE a c) (errv tE a (k+1))=true:=by cases c <;> rfl
    simp only [execOp,hρ x _ hx,hρ y _ hy,Zk,ZfP hpl,Zih (.inl hpl)]
    exact ZqR hE hcb hkb hu hp hinfo hc hs q) h
theorem Zft {x:Operand} {xt t asserted:TypeId} {v:Value} {want:Array (String × TypeId)} (hg:Zl ops S g=some true) (hd:Zw n dst=true) (hu:P.underlying asserted=some (.interface want)) (hl:(P.info? t).map (fun i=>(lacking want i.methods).isEmpty)=some false) (hz:Z8 P asserted=some .nilIface)
    (hx:ev S x=some (.iface t v)) (h:K (.tuple #[.nilIface,.bool false]) D B L):opX P n ops i ⟨dst,.typeAssert x xt asserted true,ty,pos,after,g⟩ K S D B L:=
  ZE hg hd (fun ρ hρ Q F q=>by
    obtain ⟨j,hj,hm⟩:=Option.map_eq_some_iff.1 hl
    obtain ⟨m,hm⟩:=missingMethod_some (want:=want) (got:=j.methods) (fun e=>by rw [e] at hm;cases hm)
    simp only [execOp,Instr.typeAssert,hρ x _ hx,Zk,Zq hu,ZaM hj,hm,if_true,ZaL hz,Zp]
    exact q) h
theorem Zqp {f:FuncId} {fn:Func} {ext:Array Value→Sem Value} {x:Operand} {ats:Array TypeId} {v r:Value} (hg:Zl ops S g=some true) (hd:Zw n dst=true) (hf:P.funcs[f]? = some fn) (hname:(fn.name == "runtime.NumGoroutine")=false) (hb0:fn.body.isNone=true) (hn:Extern.findNext fn=none) (he:Extern.find fn=some ext)
    (hx:ev S x=some v) (hr :∀(Q:Value→Kn→Cells→Prop) B L,hb P (ext #[v]) Q B L=Q r B L) (h:K r D B L):opX P n ops i ⟨dst,.call ⟨.value (.func f),#[x],ats⟩,ty,pos,after,g⟩ K S D B L:=
  Zcu hg hd fun ρ hρ F=>by
    have e0:ρ (.func f) = .func (.func f) #[] #[]:=hρ (.func f) _ rfl
    simp only [execOp,resolve,e0,Deferred.ofValue,Zk,Zp,invoke,List.map_toArray,List.map_cons,List.map_nil,hρ x _ hx]
    have e:(#[] ++ #[v]:Array Value) ++ #[] = #[v]:=by simp
    rw [e]
    simp only [callFunc,Zk,Zba,hf,hname,Bool.false_eq_true,if_false,hb0,if_true,hn,he]
    refine ⟨rfl,?_⟩
    simp only [Zaw,Zp,Zk,hr]
    exact ⟨L,.of (.refl _),h⟩
theorem Zqm {f:FuncId} {fn:Func} {ext:Array Value→Sem Value} {x:Operand} {t:TypeId} {name:String} {ats:Array TypeId} {v u r:Value} (hg:Zl ops S g=some true) (hd:Zw n dst=true) (hf:P.funcs[f]? = some fn) (hname:(fn.name == "runtime.NumGoroutine")=false) (hb0:fn.body.isNone=true) (hn:Extern.findNext fn=none) (he:Extern.find fn=some ext)
    (hx:ev S x=some (.iface t v)) (hm :∀(k:Nat) (Q:FuncId × Value→Kn→Cells→Prop) B L,hb P (method (k+1) t v name) Q B L=Q (f,u) B L) (hr :∀(Q:Value→Kn→Cells→Prop) B L,hb P (ext #[u]) Q B L=Q r B L) (h:K r D B L):opX P n ops i ⟨dst,.call ⟨.invoke x name,#[],ats⟩,ty,pos,after,g⟩ K S D B L:=
  Zcu hg hd fun ρ hρ F=>by
    have e1:(#[Value.iface t v] ++ #[])[0]? = some (.iface t v):=by simp
    have e2:(#[Value.iface t v] ++ #[]).extract 1 (#[Value.iface t v] ++ #[]).size = #[]:=by apply Array.ext';simp
    have e3 : #[u] ++ #[] = #[u]:=by simp
    simp only [execOp,resolve,hρ x _ hx,Zk,Zp,invoke,List.map_toArray,List.map_nil,e1,e2,callMethod,Zba]
    have hpos:0<Made.depth:=by decide
    obtain ⟨d,hd'⟩ :∃d,P.types.size+Made.depth=d+1:=⟨P.types.size+Made.depth - 1,by omega⟩
    rw [hd',hm]
    simp only [e3,callFunc,Zk,Zba,hf,hname,Bool.false_eq_true,if_false,hb0,if_true,hn,he]
    refine ⟨rfl,?_⟩
    simp only [Zaw,Zp,Zk,hr]
    exact ⟨L,.of (.refl _),h⟩
end
end Go.BL
namespace Go.BL
open Go.ChangeShapes Go.WideShapes Go.ChangeAt Go.RowKit Go.Conc
set_option linter.unusedVariables false
section
variable {H:Type} {enc:TypeId × Value→H} {P:Program}
theorem Zj1 {t:TypeId} {ms:Array (String × TypeId)} (hu:P.underlying t=some (.interface ms)) {W W':World} {sp sp':Nat→Bool} {fuel:Nat} {cs:List Value} : DataW.trod enc P W 0 sp true fuel t cs=DataW.trod enc P W' 0 sp' true fuel t cs:=by
  cases fuel with
  | zero=>simp [DataW.trod]
  | succ n=>
    cases cs with
    | nil=>simp [DataW.trod,hu]
    | cons x xs=>
      cases xs with
      | nil=>cases x <;> simp [DataW.trod,hu]
      | cons y ys=>cases x <;> simp [DataW.trod,hu]
theorem Zm1 {W W':World} (hk:Kept W W') {n:String} {g:Nat} {cs:Array Value} (hg:P.globalNamed n=some g) (hlt:g<W.heap.size) (h:W.var? P n=some cs):W'.var? P n=some cs:=by
  simp only [World.var?,hg,Option.bind_some] at h ⊢
  rw [hk.1 g hlt];exact h
theorem ZhJ {W W':World} (hk:Kept W W') {sp sp':Nat→Bool} :∀{ns:List String} {gs:List (DataW H)} {ps:List MemPlace},(∀n,n∈ns→∀g t,P.globalNamed n=some g→(P.globals[g]?).map (·.type)=some t→∃ms,P.underlying t=some (.interface ms))→
    DataW.TrodVars enc P W sp ns gs ps→(∀n,n∈ns→∀g,P.globalNamed n=some g→g<W.heap.size)→DataW.TrodVars enc P W' sp' ns gs ps
  | [],[],_,_,h,_=>h
  | n :: ns,d :: ds,ps,ht,⟨g,t,cs,fuel,p,q,hg,hty,hv,hd,hr,e⟩,hlt=>by
    obtain ⟨ms,hu⟩:=ht n (List.mem_cons_self ..) g t hg hty
    exact ⟨g,t,cs,fuel,p,q,hg,hty,Zm1 hk hg (hlt n (List.mem_cons_self ..) g hg) hv,(Zj1 hu).trans hd,
      ZhJ hk (fun n hn=>ht n (List.mem_cons_of_mem _ hn)) hr (fun n hn=>hlt n (List.mem_cons_of_mem _ hn)),e⟩
  | [],_ :: _,_,_,h,_=>h.elim
  | _ :: _,[],_,_,h,_=>h.elim
theorem Zk1 {W:World} {sp:Nat→Bool} :∀{ns:List String} {gs:List (DataW H)} {ps:List MemPlace},DataW.TrodVars enc P W sp ns gs ps→∀n,n∈ns→∀g,P.globalNamed n=some g→g<W.heap.size
  | [],_,_,_,n,hn,_,_=>by cases hn
  | m :: ns,d :: ds,ps,⟨g,t,cs,fuel,p,q,hg,hty,hv,hd,hr,e⟩,n,hn,g',hg'=>by
    rcases List.mem_cons.1 hn with rfl | hn
    · obtain rfl:=Option.some.inj (hg.symm.trans hg')
      simp only [World.var?,hg,Option.bind_some] at hv
      rcases Nat.lt_or_ge g W.heap.size with h | h
      · exact h
      · rw [Array.getElem?_eq_none h] at hv;cases hv
    · exact Zk1 hr n hn g' hg'
  | _ :: _,[],_,h,_,_,_,_=>h.elim
theorem Zjq {W:World} {sp:Nat→Bool} :∀{ns:List String} {gs:List (DataW H)} {ps:List MemPlace},DataW.TrodVars enc P W sp ns gs ps→gs.length=ns.length
  | [],[],_,_=>rfl
  | n :: ns,d :: ds,ps,⟨g,t,cs,fuel,p,q,hg,hty,hv,hd,hr,e⟩=>by rw [List.length_cons,List.length_cons,Zjq hr]
  | [],_ :: _,_,h=>h.elim
  | _ :: _,[],_,h=>h.elim
theorem ZlR {f:Func} {s:ChangeSpec} {apart fresh handsOn again:Bool} {W W':World} {args:Array Value} {ds gs:List (DataW H)} {before:List MemPlace} {tb:TypeId}
    (hl:laidOutB P=true) (hts:(f.params.toList.all fun t=>P.readableRec t && decide (t<P.types.size))=true) (hres:f.resultTypes.toList=[tb]) (hb:P.underlying tb=some .bool)
    (hvars :∀n,n∈s.vars→∀g t,P.globalNamed n=some g→(P.globals[g]?).map (·.type)=some t→∃ms,P.underlying t=some (.interface ms))
    (hW:DataW.Whole enc P f.params.toList s.vars apart W args.toList ds gs before) (hfn :∀ds' gs',gs'.length=s.vars.length→ds'.length=f.params.toList.length→s.fn H (ds' ++ gs') = { results:=[.lit (.bool true)],args:=ds',vars:=gs' })
    (hk:Kept W W'):s.post enc P f apart fresh handsOn again W args (.bool true) W':=by
  have hlt:=hW.lt
  have hW':=hW
  obtain ⟨p,q,hA0,hV,rfl,hfz,hnd⟩:=hW
  have hlen:=(trodAll_length hA0).2
  have hvl:gs.length=s.vars.length:=Zjq hV
  have hf2:=hfn ds gs hvl hlen
  have hr2:f.resultTypes = #[tb]:=by apply Array.ext';rw [hres]
  refine post_of_same (pa:=p) (pv:=q) hW' (fun b sp hd=>?_) (fun sp hsp=>?_) (fun sp hsp=>?_) rfl (hk.2.frame _) hk.2.2.1 ?_
  · rw [hf2,hr2]
    exact trodAll_cons_mk (shut_bool hb _) trodAll_mk0
  · rw [hf2]
    exact ZjB hl hk hts hA0 (fun x hx=>hlt x (List.mem_append_left _ hx)) (fun x hx=>hsp x (List.mem_append_left _ hx))
  · rw [hf2]
    exact ZhJ hk hvars hV (Zk1 hV)
  · intro j t r h1 h2
    rw [hr2] at h1 h2
    cases j with
    | zero=>
      simp only [List.getElem?_toArray,List.getElem?_cons_zero,Option.some.injEq] at h1
      simp [Value.resultList] at h2
      subst h1;subst h2
      exact okWide_bool_mk hb _
    | succ j=>simp at h1
theorem Zit {ns:List String} (h:(ns.all fun n=>match P.globalNamed n with | some g=>(match (P.globals[g]?).map (·.type) with | some t=>(match P.underlying t with | some (.interface _)=>true | _=>false) | none=>true) | none=>true)=true) :
∀n,n∈ns→∀g t,P.globalNamed n=some g→(P.globals[g]?).map (·.type)=some t→∃ms,P.underlying t=some (.interface ms):=fun n hn g t hg ht=>by
  have h1:=List.all_eq_true.1 h n hn
  simp only [hg,ht] at h1
  split at h1
  · exact ⟨_,by assumption⟩
  · cases h1
theorem Znd {ts:Array TypeId} (h:(ts.toList.all fun t=>!P.wantsStandIn t)=true) {j:Nat} {t:TypeId} (ht:ts[j]? = some t):P.wantsStandIn t=false:=by
  have:=List.all_eq_true.1 h t (by
    rw [← Array.getElem?_toList] at ht
    exact List.mem_of_getElem? ht)
  simpa using this
theorem ZhL {a:Assume} {C:Checked} {os:Os} {f:FuncId} {fn:Func} {s:ChangeSpec} {conds:List PathCond} {apart fresh handsOn again:Bool} {laid:List (String × DataW Unit)}
    (own:ownKnob C.prog.godebug=none) (started:os.Started) (hfn:C.prog.funcs[f]? = some fn)
    (witness :∃(w:World) (tape:Tape) (i:Input),w.os=os∧(w.forCall tape i).Shaped C.prog∧i.vars=[]∧Input.okWide C.prog (w.forCall tape i) .any w.heap.size f i∧
      ((s.pre enc C.prog fn conds apart (w.forCall tape i).memory i.args∧laidMetH C.prog laid (w.forCall tape i).memory)∧sizedMet enc C.prog fn (OpenSpec.ofChange s) apart (w.forCall tape i).memory i.args)∧a.holds C.prog (lone (Frame.enter C.prog f i.args .normal) [] (w.forCall tape i)))
    (runs :∀(W:World) (base:Nat) (args:Array Value) (ds gs:List (DataW H)) (before:List MemPlace),
      (∀(j:Nat) t v,fn.params[j]? = some t→args[j]? = some v→Value.okWide C.prog W .any base t v)→
      DataW.Whole enc C.prog fn.params.toList s.vars apart W args.toList ds gs before→
      (DataW.weightsEach C.prog (fn.params.toList ++ s.plain.varTypes C.prog) (ds ++ gs)).all (·≤reachBytes)=true→
      laidMetH C.prog laid W→
∃M last o w' t',runNT C.prog (M+1) (solo (G (Frame.enter C.prog f args .normal) []) W) #[]=(.ended o w',t')∧runN C.prog M (solo (G (Frame.enter C.prog f args .normal) []) W) = .next last∧
        step C.prog last = .ended o w'∧Conc.Good C.prog (fun v W'=>s.post enc C.prog fn apart fresh handsOn again W args v W') last o w' t') :
    ReturnsInLeavingWide a C os f .any (fun w args=>(s.pre enc C.prog fn conds apart w args∧laidMetH C.prog laid w)∧sizedMet enc C.prog fn (OpenSpec.ofChange s) apart w args) (s.post enc C.prog fn apart fresh handsOn again):=by
  refine returnsInLeavingWide_of_good own started witness ?_
  intro w tape i _ _ _ hok hpre hholds
  obtain ⟨_,_,_,fn',hfn',_,_,_,_,hval⟩:=hok
  have e:fn'=fn:=Option.some.inj (hfn'.symm.trans hfn)
  subst e
  obtain ⟨⟨⟨ds,gs,before,hw,hc⟩,hL⟩,hz⟩:=hpre
  have hw':=DataW.Whole.of_heap (w':=w.forCall tape i) (by rfl) hw
  have hL':=hL.of_heap (w':=w.forCall tape i) (by rfl)
  obtain ⟨M,last,o,w',t',h1,h2,h3,h4⟩:=runs (w.forCall tape i) w.heap.size i.args ds gs before hval hw' (hz.weights hw) hL'
  exact ⟨M,last,o,w',t',h1,h2,h3,h4.mono fun v hp=>ChangeSpec.post_blind hp⟩
theorem Zmo {n0 n1 n2 n3 nm:String} {x0 x1 x2 x3:List UInt8} {r:List (String × DataW Unit)} {W:World} {ti tp te ts:TypeId} {ms:Array (String × TypeId)} {f:Field}
    (h:laidMet P ((n0,.iface nm (.ptr (.agg [.lit (.string x0)]))) :: (n1,.iface nm (.ptr (.agg [.lit (.string x1)]))) :: (n2,.iface nm (.ptr (.agg [.lit (.string x2)]))) :: (n3,.iface nm (.ptr (.agg [.lit (.string x3)]))) :: r) W)
    (hg0:P.globalNamed n0=some 0) (hg1:P.globalNamed n1=some 1) (hg2:P.globalNamed n2=some 2) (hg3:P.globalNamed n3=some 3) (hy0:(P.globals[0]?).map (·.type)=some ti) (hy1:(P.globals[1]?).map (·.type)=some ti) (hy2:(P.globals[2]?).map (·.type)=some ti) (hy3:(P.globals[3]?).map (·.type)=some ti)
    (hi:P.underlying ti=some (.interface ms)) (hrow :∀u,P.typeName? 3 u=some nm→u=tp)
    (hp:P.underlying tp=some (.pointer te)) (he:P.underlying te=some (.struct #[f])) (hft:f.type=ts) (hfo:f.offset=0) (hs:P.underlying ts=some .string) (hc:P.cellsOf te=1) (hcs:P.cellsOf ts=1) :
∃a:Nat→Addr,ErrsB tp (Zat W) a:=by
  obtain ⟨ps,⟨g0,t0,cs0,f0,p0,q0,hg0',ht0',hv0,hd0,⟨g1,t1,cs1,f1,p1,q1,hg1',ht1',hv1,hd1,⟨g2,t2,cs2,f2,p2,q2,hg2',ht2',hv2,hd2,⟨g3,t3,cs3,f3,p3,q3,hg3',ht3',hv3,hd3,_,e3⟩,e2⟩,e1⟩,e0⟩,hnd,hrows⟩:=h
  obtain rfl:=Option.some.inj (hg0.symm.trans hg0')
  obtain rfl:=Option.some.inj (hg1.symm.trans hg1')
  obtain rfl:=Option.some.inj (hg2.symm.trans hg2')
  obtain rfl:=Option.some.inj (hg3.symm.trans hg3')
  obtain rfl:=Option.some.inj (hy0.symm.trans ht0')
  obtain rfl:=Option.some.inj (hy1.symm.trans ht1')
  obtain rfl:=Option.some.inj (hy2.symm.trans ht2')
  obtain rfl:=Option.some.inj (hy3.symm.trans ht3')
  subst e3
  subst e2
  subst e1
  subst e0
  obtain ⟨l0⟩:=cs0
  obtain ⟨l1⟩:=cs1
  obtain ⟨l2⟩:=cs2
  obtain ⟨l3⟩:=cs3
  have ok0 :∀u v,l0=[.iface u v]→Value.okWide P W .any 0 u v:=fun u v e=>by
    subst e
    exact (hrows 0 0 (by simp [MemPlace.row])).2 u v (by simpa using World.var?_cell hg0' hv0 0)
  have ok1 :∀u v,l1=[.iface u v]→Value.okWide P W .any 0 u v:=fun u v e=>by
    subst e
    exact (hrows 1 0 (by simp [MemPlace.row])).2 u v (by simpa using World.var?_cell hg1' hv1 0)
  have ok2 :∀u v,l2=[.iface u v]→Value.okWide P W .any 0 u v:=fun u v e=>by
    subst e
    exact (hrows 2 0 (by simp [MemPlace.row])).2 u v (by simpa using World.var?_cell hg2' hv2 0)
  have ok3 :∀u v,l3=[.iface u v]→Value.okWide P W .any 0 u v:=fun u v e=>by
    subst e
    exact (hrows 3 0 (by simp [MemPlace.row])).2 u v (by simpa using World.var?_cell hg3' hv3 0)
  obtain ⟨a0,s0,rfl,hc0,hs0,hz0,rfl⟩:=errorString_of_trod hi hrow hp he hft hfo hs hc hcs hd0 ok0
  obtain ⟨a1,s1,rfl,hc1,hs1,hz1,rfl⟩:=errorString_of_trod hi hrow hp he hft hfo hs hc hcs hd1 ok1
  obtain ⟨a2,s2,rfl,hc2,hs2,hz2,rfl⟩:=errorString_of_trod hi hrow hp he hft hfo hs hc hcs hd2 ok2
  obtain ⟨a3,s3,rfl,hc3,hs3,hz3,rfl⟩:=errorString_of_trod hi hrow hp he hft hfo hs hc hcs hd3 ok3
  have b0:=(hrows a0.block a0.off (by simp [MemPlace.row])).1
  have b1:=(hrows a1.block a1.off (by simp [MemPlace.row])).1
  have b2:=(hrows a2.block a2.off (by simp [MemPlace.row])).1
  have b3:=(hrows a3.block a3.off (by simp [MemPlace.row])).1
  have row :∀(g:Nat) (v:Value) (n:String),P.globalNamed n=some g→W.var? P n=some #[v]→Zak (Zat W) g 0 [v]:=fun g v n hg hv L j u hj=>by
    cases j with
    | zero=>
      simp only [List.getElem?_cons_zero,Option.some.injEq] at hj
      subst hj
      have:=Zf8 (by simpa using World.var?_cell hg hv 0:W.cell? ⟨g,0,none⟩=some v)
      obtain ⟨h1,cs,T,fr,h2,h3⟩:=this
      exact ⟨h1,cs,T,fr,h2.elim .inl (fun h=>by cases h),h3⟩
    | succ j=>simp at hj
  refine ⟨fun k=>if k=0 then a0 else if k=1 then a1 else if k=2 then a2 else a3,fun k hk=>?_,fun k hk=>?_,fun i j hi' hj' hne=>?_⟩
  · match k,hk with
    | 0,_=>exact row 0 _ _ hg0 hv0
    | 1,_=>exact row 1 _ _ hg1 hv1
    | 2,_=>exact row 2 _ _ hg2 hv2
    | 3,_=>exact row 3 _ _ hg3 hv3
  · match k,hk with
    | 0,_=>exact b0
    | 1,_=>exact b1
    | 2,_=>exact b2
    | 3,_=>exact b3
  · have h01:a0≠a1:=by rintro rfl;simp [MemPlace.row] at hnd
    have h02:a0≠a2:=by rintro rfl;simp [MemPlace.row] at hnd
    have h03:a0≠a3:=by rintro rfl;simp [MemPlace.row] at hnd
    have h12:a1≠a2:=by rintro rfl;simp [MemPlace.row] at hnd
    have h13:a1≠a3:=by rintro rfl;simp [MemPlace.row] at hnd
    have h23:a2≠a3:=by rintro rfl;simp [MemPlace.row] at hnd
    match i,j,hi',hj',hne with
    | 0,1,_,_,_=>exact h01
    | 0,2,_,_,_=>exact h02
    | 0,3,_,_,_=>exact h03
    | 1,0,_,_,_=>exact h01.symm
    | 1,2,_,_,_=>exact h12
    | 1,3,_,_,_=>exact h13
    | 2,0,_,_,_=>exact h02.symm
    | 2,1,_,_,_=>exact h12.symm
    | 2,3,_,_,_=>exact h23
    | 3,0,_,_,_=>exact h03.symm
    | 3,1,_,_,_=>exact h13.symm
    | 3,2,_,_,_=>exact h23.symm
    | 0,0,_,_,h=>exact (h rfl).elim
    | 1,1,_,_,h=>exact (h rfl).elim
    | 2,2,_,_,h=>exact (h rfl).elim
    | 3,3,_,_,h=>exact (h rfl).elim
end
theorem ZmF (Lk:Looks) {p:Pinned} {s:OpenSpec} {c:OpenClaim} (kinds:List LaidKind) (tests:Bool) (har:Bool × String) (lk:Bool)
    (hc:c.holds p s) (hw:c.wfByText s=true) (htie:c.laidByTextAt Lk p kinds tests)
    (hst:c.start = .entering) (hnb:c.noBlocks=false∧c.again=false) (hm:p.checked.prog.mainIs=some (har.1,har.2.toList)) (hn:(!har.1 && har.2.isEmpty && !lk)=false)
    (hl :∀f fn,p.checked.prog.funcNamed c.func=some f→p.checked.prog.funcs[f]? = some fn→lk=p.checked.prog.looks []∧∀(j:Nat) t,fn.params[j]? = some t→p.checked.prog.wantsStandIn t=false)
    (hg:true=c.goesBy p.checked.prog) :
    Claim7.holds p (.plain s) { stood:={ row:=c,standIns:=[],harness:=har,looks:=lk },kinds:=[],alts:=[],goes:=true,laidByText:=true,laidKinds:=kinds,laidTests:=tests,laidLooks:=Lk }:=by
  have h6 :∀r:OpenClaim,Claim7.isSixth { stood:={ row:=r,standIns:=[],harness:=har,looks:=lk },kinds:=[] } = false:=fun r=>by simpa [Claim7.isSixth] using hn
  refine ⟨Claim7.tied_new_at Lk kinds tests (Claim7.new_of_sixth hc har lk hst hnb hm (h6 c) hl) hw,(fun D hD=>by cases hD),htie,(fun h=>by cases h),hg⟩
end Go.BL
namespace Go.BL
section
variable {P:PJ} {n:Nat} {ops:Array Oper} {i:Nat} {K:Zaq} {S:Env} {D:List Deferred} {B:Kn} {L:List Cells}
variable {dst:Option Tmp} {ty:TypeId} {pos:String} {after:Array Edge} {g:Option (Nat × Bool)}
end
end Go.BL
namespace Go.BL
section
variable {P:PJ} {n:Nat} {ops:Array Oper} {i:Nat} {K:Zaq} {S:Env} {D:List Deferred} {B:Kn} {L:List Cells}
variable {dst:Option Tmp} {ty:TypeId} {pos:String} {after:Array Edge} {g:Option (Nat × Bool)}
variable {α:Type} {R:Rel α} {xs:List α}
theorem Zd1.own {B:Kn} {L:List Cells} {l:Cells} {p:Option Addr} {m c sz:Nat} {T:TypeId} {vs:List Value} (h:Zgh l p m c T sz vs) (j:Nat) (hj:L[j]? = some l):Zd1 B L.flatten p vs:=by
  obtain ⟨h1,⟨rfl,rfl,rfl,rfl⟩ | ⟨b,arr,rfl,h2,h3,rfl,h4⟩⟩:=h
  · exact List.eq_nil_of_length_eq_zero (by simpa using h1)
  · intro k v hk
    have hv':arr[k]? = some v:=by
      rw [← h3,List.getElem?_take] at hk
      split at hk
      · exact hk
      · cases hk
    exact Zd1.box (B:=B) j hj k v hv'
end
end Go.BL
namespace Go.BL
theorem ZM {P:PJ} {n:Nat} {Q:Exit→Z7} {S:Env} {D:List Deferred} {B:Kn} {L:List Cells} {c:Code} (L':List Cells) (hl:L=L') (h:wpS P n c Q S D B L'):wpS P n c Q S D B L:=by subst hl;exact h
theorem sQ:(∀(p:Prop) [Decidable p],(decide p=true)=p)∧(∀(p:Prop) [Decidable p],(decide p=false) = ¬p)∧(∀b:Bool,((!b)=true)=(b=false))∧(∀b:Bool,((!b)=false)=(b=true))∧(∀(p:Prop) [Decidable p],(decide (¬p)) = !decide p)∧(∀(p:Prop) [Decidable p],(¬¬p)=p)∧(∀a b:Int,(¬a<b)=(b≤a))∧(∀a b:Int,(¬a≤b)=(b<a)):=
  ⟨fun p _=>by simp,fun p _=>by simp,by simp,by simp,fun p _=>by simp,fun p _=>by simp,by simp,by simp⟩
end Go.BL
namespace Go.BL
def orI (a b:Int):Int:=IntKind.i64.wrap (BitVec.ofInt 64 a ||| BitVec.ofInt 64 b).toNat
def Zrd (a b:Int):Int:=IntKind.i64.wrap (BitVec.ofInt 64 a &&& BitVec.ofInt 64 b).toNat
section
variable {P:PJ} {n:Nat} {ops:Array Oper} {i:Nat} {K:Zaq} {S:Env} {D:List Deferred} {B:Kn} {L:List Cells}
variable {dst:Option Tmp} {ty:TypeId} {pos:String} {after:Array Edge} {g:Option (Nat × Bool)}
theorem Zjn {t kt et:TypeId} {x y:Operand} {b:Nat} {l:Cells} {kvs:KV} {k:List UInt8} (j:Nat) (hj:L[j]? = some l) (hl:Zp1 l b kvs) (hg:Zl ops S g=some true) (hd:Zw n dst=true) (hu:P.underlying t=some (.map kt et)) (hk:P.underlying kt=some .string)
    (hz:Z8 P et=some (.int .i64 0)) (hx:ev S x=some (.map (some b))) (hy:ev S y=some (str k)) (h:K (.int .i64 ((mget kvs k).getD 0)) D B L):opX P n ops i ⟨dst,.lookup t x y false,ty,pos,after,g⟩ K S D B L:=
  Zcu hg hd fun ρ hρ F=>by
    obtain ⟨es,clock,rfl,ok⟩:=hl
    have hin:(b,Obj.map es clock)∈L.flatten ++ F:=by
      rw [((Z0 F [] hj).choose_spec.1).mem_iff];simp
    simp only [execOp,Instr.lookup,hρ x _ hx,hρ y _ hy,Zk,Zq hu]
    refine ⟨_,.inr hin,rfl,rfl,?_⟩
    simp only [Zaw,Zk,Zp]
    refine ZfQ hk ?_
    rw [Zk]
    refine ZgH hk ok.ent ?_
    cases hm:mlook kvs k 0 with
    | none=>
      obtain ⟨_,_,_,m4⟩:=ZeC hm
      simp only [ZaL hz,Zp,Zk,Zl4,Bool.false_eq_true,if_false]
      rw [m4] at h
      exact ⟨L,.of (List.Perm.refl _),h⟩
    | some p=>
      obtain ⟨jj,u⟩:=p
      obtain ⟨m,w,rfl,rfl,m3,m4,_,m6⟩:=ZeB hm
      simp only [Zp,Zk,Bool.false_eq_true,if_false]
      rw [m6] at h
      exact ⟨L,.of (List.Perm.refl _),h⟩
section
variable {t u:TypeId} {x y:Operand} {a b r:Int}
theorem ZrB (hg:Zl ops S g=some true) (hd:Zw n dst=true) (hx:ev S x=some (.int .i64 a)) (hy:ev S y=some (.int .i64 b)) (h:K (.int .i64 (orI a b)) D B L):opX P n ops i ⟨dst,.binOp .or t x y u,ty,pos,after,g⟩ K S D B L:=
  ZE hg hd (fun ρ hρ Q F q=>by
    simp only [execOp,hρ x _ hx,hρ y _ hy,Zk,ZY,binOp,ne_eq,not_true_eq_false,if_false,Op.intBits,Zp];exact q) h
theorem Zqt (hg:Zl ops S g=some true) (hd:Zw n dst=true) (hx:ev S x=some (.int .i64 a)) (hy:ev S y=some (.int .i64 b)) (h:K (.int .i64 (Zrd a b)) D B L):opX P n ops i ⟨dst,.binOp .and t x y u,ty,pos,after,g⟩ K S D B L:=
  ZE hg hd (fun ρ hρ Q F q=>by
    simp only [execOp,hρ x _ hx,hρ y _ hy,Zk,ZY,binOp,ne_eq,not_true_eq_false,if_false,Op.intBits,Zp];exact q) h
end
end
end Go.BL
namespace Go.BL
theorem om {p:Prop} (h:p:=by first | omega | (simp;done) | (simp;omega)):p:=h
theorem om2 {p:Prop} (h:p:=by first | assumption | omega | (simp;done) | (simp;omega)):p:=h
theorem oz {p:Prop} (h:p:=by omega):p:=h
theorem kr {p:Prop} (h:p:=by kernel_rfl):p:=h
theorem so {p:Prop} (h:p:=by simp only [];omega):p:=h
theorem so2 {p:Prop} (h:p:=by first | omega | (simp only [];omega)):p:=h
theorem oa {p:Prop} (h:p:=by first | assumption | omega):p:=h
theorem oy {p:Prop} (h:p:=by assumption):p:=h
theorem t1 {α0:Sort _} {a0:α0} : a0=a0∧True:=⟨rfl,trivial⟩
theorem t2 {α0 α1:Sort _} {a0:α0} {a1:α1} : a0=a0∧a1=a1∧True:=⟨rfl,rfl,trivial⟩
theorem t3 {α0 α1 α2:Sort _} {a0:α0} {a1:α1} {a2:α2} : a0=a0∧a1=a1∧a2=a2∧True:=⟨rfl,rfl,rfl,trivial⟩
theorem t4 {α0 α1 α2 α3:Sort _} {a0:α0} {a1:α1} {a2:α2} {a3:α3} : a0=a0∧a1=a1∧a2=a2∧a3=a3∧True:=⟨rfl,rfl,rfl,rfl,trivial⟩
theorem t5 {α0 α1 α2 α3 α4:Sort _} {a0:α0} {a1:α1} {a2:α2} {a3:α3} {a4:α4} : a0=a0∧a1=a1∧a2=a2∧a3=a3∧a4=a4∧True:=⟨rfl,rfl,rfl,rfl,rfl,trivial⟩
theorem t6 {α0 α1 α2 α3 α4 α5:Sort _} {a0:α0} {a1:α1} {a2:α2} {a3:α3} {a4:α4} {a5:α5} : a0=a0∧a1=a1∧a2=a2∧a3=a3∧a4=a4∧a5=a5∧True:=⟨rfl,rfl,rfl,rfl,rfl,rfl,trivial⟩
theorem t7 {α0 α1 α2 α3 α4 α5 α6:Sort _} {a0:α0} {a1:α1} {a2:α2} {a3:α3} {a4:α4} {a5:α5} {a6:α6} : a0=a0∧a1=a1∧a2=a2∧a3=a3∧a4=a4∧a5=a5∧a6=a6∧True:=⟨rfl,rfl,rfl,rfl,rfl,rfl,rfl,trivial⟩
theorem t8 {α0 α1 α2 α3 α4 α5 α6 α7:Sort _} {a0:α0} {a1:α1} {a2:α2} {a3:α3} {a4:α4} {a5:α5} {a6:α6} {a7:α7} : a0=a0∧a1=a1∧a2=a2∧a3=a3∧a4=a4∧a5=a5∧a6=a6∧a7=a7∧True:=⟨rfl,rfl,rfl,rfl,rfl,rfl,rfl,rfl,trivial⟩
theorem t10 {α0 α1 α2 α3 α4 α5 α6 α7 α8 α9:Sort _} {a0:α0} {a1:α1} {a2:α2} {a3:α3} {a4:α4} {a5:α5} {a6:α6} {a7:α7} {a8:α8} {a9:α9} : a0=a0∧a1=a1∧a2=a2∧a3=a3∧a4=a4∧a5=a5∧a6=a6∧a7=a7∧a8=a8∧a9=a9∧True:=⟨rfl,rfl,rfl,rfl,rfl,rfl,rfl,rfl,rfl,rfl,trivial⟩
theorem t11 {α0 α1 α2 α3 α4 α5 α6 α7 α8 α9 α10:Sort _} {a0:α0} {a1:α1} {a2:α2} {a3:α3} {a4:α4} {a5:α5} {a6:α6} {a7:α7} {a8:α8} {a9:α9} {a10:α10} : a0=a0∧a1=a1∧a2=a2∧a3=a3∧a4=a4∧a5=a5∧a6=a6∧a7=a7∧a8=a8∧a9=a9∧a10=a10∧True:=⟨rfl,rfl,rfl,rfl,rfl,rfl,rfl,rfl,rfl,rfl,rfl,trivial⟩
section
variable {P:PJ} {n:Nat} {ops:Array Oper} {i:Nat} {K:Z7} {S:Env} {D:List Deferred} {B:Kn} {L:List Cells}
variable {dst:Option Tmp} {ty:TypeId} {pos:String} {after:Array Edge} {g:Option (Nat × Bool)} {t u:TypeId} {x y:Operand}
theorem xM {x:Operand} {v:Value} (hg:Zl ops S g=some true:=by exact rfl) (hd:Zw n dst=true:=by exact rfl) (hx:ev S x=some v:=by exact rfl) (h:K (Za0 S dst v) D B L):opW P n ops i ⟨dst,.move x,ty,pos,after,g⟩ K S D B L:=Zr (Zoo hg hd hx h)
theorem xA {x:Operand} {v:Value} (hg:Zl ops S g=some true:=by exact rfl) (hd:Zw n dst=true:=by exact rfl) (hx:ev S x=some v:=by exact rfl) (h:K (Za0 S dst v) D B L):opW P n ops i ⟨dst,.assign x,ty,pos,after,g⟩ K S D B L:=Zr (Zjp hg hd hx h)
theorem xP  {dst:Option Tmp} {op:Op} {t:TypeId} {pos:String} {after:Array Edge} {g:Option (Nat × Bool)}   (hg:Zl ops S g=some false:=by exact rfl) (hd:Zw n dst=true:=by exact rfl) (h:K (Za0 S dst undef) D B L):opW P n ops i ⟨dst,op,t,pos,after,g⟩ K S D B L:=Zr (Zol  hg hd h)
theorem xT  {c:Operand} {a:Operand} {b:Operand} {v:Value}   (hg:Zl ops S g=some true:=by exact rfl) (hd:Zw n dst=true:=by exact rfl) (hc:ev S c=some (.bool true):=by exact rfl) (hx:ev S a=some v:=by exact rfl) (h:K (Za0 S dst v) D B L):opW P n ops i ⟨dst,.pick c a b,ty,pos,after,g⟩ K S D B L:=Zr (ZkV  hg hd hc hx h)
theorem xF  {c:Operand} {a:Operand} {b:Operand} {v:Value}   (hg:Zl ops S g=some true:=by exact rfl) (hd:Zw n dst=true:=by exact rfl) (hc:ev S c=some (.bool false):=by exact rfl) (hx:ev S b=some v:=by exact rfl) (h:K (Za0 S dst v) D B L):opW P n ops i ⟨dst,.pick c a b,ty,pos,after,g⟩ K S D B L:=Zr (ZkW  hg hd hc hx h)
theorem xE  {x:Operand} {ix:Nat} {vs:List Value} {v:Value}   (hg:Zl ops S g=some true:=by exact rfl) (hd:Zw n dst=true:=by exact rfl) (hx:ev S x=some (.tuple vs.toArray):=by exact rfl) (hi:vs[ix]? = some v:=by exact rfl) (h:K (Za0 S dst v) D B L):opW P n ops i ⟨dst,.extract x ix,ty,pos,after,g⟩ K S D B L:=Zr (Zht  hg hd hx hi h)
theorem xN  {x:Operand} {b:Bool} {t:TypeId}   (hg:Zl ops S g=some true:=by exact rfl) (hd:Zw n dst=true:=by exact rfl) (hx:ev S x=some (.bool b):=by exact rfl) (h:K (Za0 S dst (.bool (!b))) D B L):opW P n ops i ⟨dst,.unOp .not t x,ty,pos,after,g⟩ K S D B L:=Zr (Zqe  hg hd hx h)
theorem xW  {s:TypeId} {x:Operand} {fi:Nat} {off:Nat} {a:Addr}  (hf:Zx P s fi=some off) (hg:Zl ops S g=some true:=by exact rfl) (hd:Zw n dst=true:=by exact rfl) (hx:ev S x=some (ptr a):=by exact rfl) (h:K (Za0 S dst (ptr (a.add off))) D B L):opW P n ops i ⟨dst,.fieldAddr s x fi,ty,pos,after,g⟩ K S D B L:=Zr (Zfr  hg hd hf hx h)
theorem xD  {k:IntKind} {a b r:Int}   (hg:Zl ops S g=some true:=by exact rfl) (hd:Zw n dst=true:=by exact rfl) (hx:ev S x=some (.int k a):=by exact rfl) (hy:ev S y=some (.int k b):=by exact rfl) (hr:k.wrap (a+b)=r:=by first | exact ZbE (by first | omega | (simp;done) | (simp;omega)) (by first | omega | (simp;done) | (simp;omega)) | exact rfl) (h:K (Za0 S dst (.int k r)) D B L):opW P n ops i ⟨dst,.binOp .add t x y u,ty,pos,after,g⟩ K S D B L:=Zr (Ze8  hg hd hx hy hr h)
theorem xU  {k:IntKind} {a b r:Int}   (hg:Zl ops S g=some true:=by exact rfl) (hd:Zw n dst=true:=by exact rfl) (hx:ev S x=some (.int k a):=by exact rfl) (hy:ev S y=some (.int k b):=by exact rfl) (hr:k.wrap (a - b)=r:=by first | exact ZbE (by first | omega | (simp;done) | (simp;omega)) (by first | omega | (simp;done) | (simp;omega)) | exact rfl) (h:K (Za0 S dst (.int k r)) D B L):opW P n ops i ⟨dst,.binOp .sub t x y u,ty,pos,after,g⟩ K S D B L:=Zr (ZgS  hg hd hx hy hr h)
theorem ZF  {k:IntKind} {a b:Int}   (hg:Zl ops S g=some true:=by exact rfl) (hd:Zw n dst=true:=by exact rfl) (hx:ev S x=some (.int k a):=by exact rfl) (hy:ev S y=some (.int k b):=by exact rfl) (h:K (Za0 S dst (.bool (decide (a<b)))) D B L):opW P n ops i ⟨dst,.binOp .lss t x y u,ty,pos,after,g⟩ K S D B L:=Zr (Zqi  hg hd hx hy h)
theorem Zbx  {k:IntKind} {a b:Int}   (hg:Zl ops S g=some true:=by exact rfl) (hd:Zw n dst=true:=by exact rfl) (hx:ev S x=some (.int k a):=by exact rfl) (hy:ev S y=some (.int k b):=by exact rfl) (h:K (Za0 S dst (.bool (decide (a≤b)))) D B L):opW P n ops i ⟨dst,.binOp .leq t x y u,ty,pos,after,g⟩ K S D B L:=Zr (Zqj  hg hd hx hy h)
theorem Zdy  {k:IntKind} {a b:Int}   (hg:Zl ops S g=some true:=by exact rfl) (hd:Zw n dst=true:=by exact rfl) (hx:ev S x=some (.int k a):=by exact rfl) (hy:ev S y=some (.int k b):=by exact rfl) (h:K (Za0 S dst (.bool (decide (b<a)))) D B L):opW P n ops i ⟨dst,.binOp .gtr t x y u,ty,pos,after,g⟩ K S D B L:=Zr (Zqn  hg hd hx hy h)
theorem Zdz  {k:IntKind} {a b:Int}   (hg:Zl ops S g=some true:=by exact rfl) (hd:Zw n dst=true:=by exact rfl) (hx:ev S x=some (.int k a):=by exact rfl) (hy:ev S y=some (.int k b):=by exact rfl) (h:K (Za0 S dst (.bool (decide (b≤a)))) D B L):opW P n ops i ⟨dst,.binOp .geq t x y u,ty,pos,after,g⟩ K S D B L:=Zr (Zqo  hg hd hx hy h)
theorem ZkS  {k:IntKind} {a b:Int}   (hg:Zl ops S g=some true:=by exact rfl) (hd:Zw n dst=true:=by exact rfl) (hx:ev S x=some (.int k a):=by exact rfl) (hy:ev S y=some (.int k b):=by exact rfl) (h:K (Za0 S dst (.bool (decide (a=b)))) D B L):opW P n ops i ⟨dst,.binOp .eql t x y u,ty,pos,after,g⟩ K S D B L:=Zr (Zot  hg hd hx hy h)
theorem Zax  {k:IntKind} {a b:Int}   (hg:Zl ops S g=some true:=by exact rfl) (hd:Zw n dst=true:=by exact rfl) (hx:ev S x=some (.int k a):=by exact rfl) (hy:ev S y=some (.int k b):=by exact rfl) (h:K (Za0 S dst (.bool (decide (a≠b)))) D B L):opW P n ops i ⟨dst,.binOp .neq t x y u,ty,pos,after,g⟩ K S D B L:=Zr (Zon  hg hd hx hy h)
theorem Zco  {a b:List UInt8}   (hg:Zl ops S g=some true:=by exact rfl) (hd:Zw n dst=true:=by exact rfl) (hx:ev S x=some (str a):=by exact rfl) (hy:ev S y=some (str b):=by exact rfl) (h:K (Za0 S dst (.bool (decide (a=b)))) D B L):opW P n ops i ⟨dst,.binOp .eql t x y u,ty,pos,after,g⟩ K S D B L:=Zr (Zos  hg hd hx hy h)
theorem Zcn  {a b:List UInt8}   (hg:Zl ops S g=some true:=by exact rfl) (hd:Zw n dst=true:=by exact rfl) (hx:ev S x=some (str a):=by exact rfl) (hy:ev S y=some (str b):=by exact rfl) (h:K (Za0 S dst (.bool (decide (a≠b)))) D B L):opW P n ops i ⟨dst,.binOp .neq t x y u,ty,pos,after,g⟩ K S D B L:=Zr (Zom  hg hd hx hy h)
theorem Zoj  {a b:List UInt8}   (hg:Zl ops S g=some true:=by exact rfl) (hd:Zw n dst=true:=by exact rfl) (hx:ev S x=some (str a):=by exact rfl) (hy:ev S y=some (str b):=by exact rfl) (h:K (Za0 S dst (.bool (Op.bytesLess a b))) D B L):opW P n ops i ⟨dst,.binOp .lss t x y u,ty,pos,after,g⟩ K S D B L:=Zr (Zqh  hg hd hx hy h)
theorem xV  {x:Operand} {t:TypeId} {e:TypeId} {p:Option Addr} {len:Nat} {cap:Nat}  (hu:P.underlying t=some (.slice e)) (hg:Zl ops S g=some true:=by exact rfl) (hd:Zw n dst=true:=by exact rfl) (hx:ev S x=some (.slice p len cap):=by exact rfl) (h:K (Za0 S dst (.int .i64 len)) D B L):opW P n ops i ⟨dst,.call ⟨.builtin .len,#[x],#[t]⟩,ty,pos,after,g⟩ K S D B L:=Zr (Zqk  hg hd hu hx h)
theorem xVs  {x:Operand} {t:TypeId} {l:List UInt8}  (hu:P.underlying t=some .string) (hg:Zl ops S g=some true:=by exact rfl) (hd:Zw n dst=true:=by exact rfl) (hx:ev S x=some (str l):=by exact rfl) (h:K (Za0 S dst (.int .i64 l.length)) D B L):opW P n ops i ⟨dst,.call ⟨.builtin .len,#[x],#[t]⟩,ty,pos,after,g⟩ K S D B L:=Zr (Zoq  hg hd hu hx h)
theorem xNc  {x:Operand} {a:Addr}   (hg:Zl ops S g=some true:=by exact rfl) (hd:Zw n dst=true:=by exact rfl) (hx:ev S x=some (.pointer (some a)):=by exact rfl) (h:K (Za0 S dst (.pointer (some a))) D B L):opW P n ops i ⟨dst,.nilCheck x,ty,pos,after,g⟩ K S D B L:=Zr (Zgu  hg hd hx h)
theorem x1  {t:TypeId} {x:Operand} {a:Addr} {v:Value} {l:List Value} {T:TypeId} {fr:Nat × Nat} {r:Cells}  (hl:lk P t=some none) (j:Nat) (hg:Zl ops S g=some true:=by exact rfl) (hd:Zw n dst=true:=by exact rfl) (hx:ev S x=some (ptr a):=by exact rfl) (hj:L[j]? = some ((a.block,.cells l.toArray T fr) :: r):=by exact rfl) (hs:a.spot=none:=by exact rfl) (hv:l[a.off]? = some v:=by exact rfl) (h:K (Za0 S dst v) D B L):opW P n ops i ⟨dst,.load t x,ty,pos,after,g⟩ K S D B L:=Zr (Zu  hg hd hl hx (atL j hj hs hv) h)
theorem xL  {t:TypeId} {x:Operand} {a:Addr} {l:List Value} {T:TypeId} {fr:Nat × Nat} {r:Cells}  (vs:List Value) (hl:lk P t=some (some vs.length)) (j:Nat) (hg:Zl ops S g=some true:=by exact rfl) (hd:Zw n dst=true:=by exact rfl) (hx:ev S x=some (ptr a):=by exact rfl) (hj:L[j]? = some ((a.block,.cells l.toArray T fr) :: r):=by exact rfl) (hs:a.spot=none:=by exact rfl) (hv:(l.drop a.off).take vs.length=vs:=by exact rfl) (h:K (Za0 S dst (.agg vs.toArray)) D B L):opW P n ops i ⟨dst,.load t x,ty,pos,after,g⟩ K S D B L:=Zr (ZK  vs hg hd hl hx (Zby j hj hs hv) h)
theorem y1  {t:TypeId} {x:Operand} {a:Addr} {v:Value} {b o:Nat} {row:List Value}  (hl:lk P t=some none) (hc:Zak B b o row) (off:Nat) (hg:Zl ops S g=some true:=by exact rfl) (hd:Zw n dst=true:=by exact rfl) (hx:ev S x=some (ptr a):=by exact rfl) (ha:a=⟨b,o+off,none⟩:=by exact rfl) (hv:row[off]? = some v:=by exact rfl) (h:K (Za0 S dst v) D B L):opW P n ops i ⟨dst,.load t x,ty,pos,after,g⟩ K S D B L:=Zr (Zu  hg hd hl hx (by subst ha;exact hc _ off _ hv) h)
theorem yL  {t:TypeId} {x:Operand} {a:Addr} {b o:Nat} {row:List Value}  (vs:List Value) (hl:lk P t=some (some vs.length)) (hc:Zak B b o row) (off:Nat) (hg:Zl ops S g=some true:=by exact rfl) (hd:Zw n dst=true:=by exact rfl) (hx:ev S x=some (ptr a):=by exact rfl) (ha:a=⟨b,o+off,none⟩:=by exact rfl) (hv:(row.drop off).take vs.length=vs:=by exact rfl) (h:K (Za0 S dst (.agg vs.toArray)) D B L):opW P n ops i ⟨dst,.load t x,ty,pos,after,g⟩ K S D B L:=Zr (ZK  vs hg hd hl hx (Zka hc off ha hv) h)
theorem xS  {t:TypeId} {x:Operand} {y:Operand} {a:Addr} {v:Value} {l:List Value} {T:TypeId} {r:Cells}  (vs:List Value) (j:Nat) (l':List Value) (hsz:ZN P t=some vs.length) (hg:Zl ops S g=some true:=by exact rfl) (hd:Zw n dst=true:=by exact rfl) (hx:ev S x=some (ptr a):=by exact rfl) (hy:ev S y=some v:=by exact rfl) (hv:v.cells=vs.toArray:=by exact rfl) (ho:vs.all Zgg=true:=by exact rfl) (hj:L[j]? = some ((a.block,.cells l.toArray T (0,0)) :: r):=by exact rfl) (hs:a.spot=none:=by exact rfl) (hlen:Nat.ble (a.off+vs.length) l.length=true:=by exact rfl) (hl':Z9 l a.off vs=l':=by exact rfl) (h:K (Za0 S dst undef) D B (L.set j ((a.block,.cells l'.toArray T (0,0)) :: r))):opW P n ops i ⟨dst,.store t x y,ty,pos,after,g⟩ K S D B L:=Zr (ZaD  vs j l' hg hd hsz hx hy hv ho hj hs hlen hl' h)
theorem xB  {t:TypeId} {z:Value} {pl:List (Nat × Nat)} {vs:List Value} (parts:List (Nat × Operand)) (zl l':List Value) (hpl:ZcS P t=some pl) (hz:Z8 P t=some z) (hg:Zl ops S g=some true:=by exact rfl) (hd:Zw n dst=true:=by exact rfl) (hzl:z.cells.toList=zl:=by exact rfl) (ha:evs S (parts.map (·.2))=some vs:=by exact rfl) (hf:Zgm (fun i=>pl[i]?) zl ((parts.map (·.1)).zip vs)=some l':=by exact rfl) (h:K (Za0 S dst (.agg l'.toArray)) D B L):opW P n ops i ⟨dst,.build t parts.toArray,ty,pos,after,g⟩ K S D B L:=Zr (ZoY (parts:=parts) zl l' hg hd hpl hz hzl ha hf h)
theorem xAl  {t:TypeId} {z:Value} (l:List Value) (hz:Z8 P t=some z) (hg:Zl ops S g=some true:=by exact rfl) (hd:Zw n dst=true:=by exact rfl) (hl:z.cells=l.toArray:=by exact rfl) (h :∀b,K (Za0 S dst (ptr ⟨b,0,none⟩)) D B (L ++ [ZaJ b l t])):opW P n ops i ⟨dst,.alloc t,ty,pos,after,g⟩ K S D B L:=Zr (Zbm (l:=l) hg hd hz hl h)
theorem xBx  {t:TypeId} {x:Operand} {v:Value} (l:List Value)  (hg:Zl ops S g=some true:=by exact rfl) (hd:Zw n dst=true:=by exact rfl) (hx:ev S x=some v:=by exact rfl) (hl:v.cells=l.toArray:=by exact rfl) (h :∀b,K (Za0 S dst (ptr ⟨b,0,none⟩)) D B (L ++ [ZaJ b l t])):opW P n ops i ⟨dst,.box t x,ty,pos,after,g⟩ K S D B L:=Zr (ZrF (l:=l) hg hd hx hl h)
theorem xIx  {t:TypeId} {e:TypeId} {x:Operand} {y:Operand} {k:IntKind} {b:Nat} {o:Nat} {len:Nat} {cap:Nat} {sz:Nat} {ix:Int}  (hu:P.underlying t=some (.slice e)) (hsz:ZN P e=some sz) (hg:Zl ops S g=some true:=by exact rfl) (hd:Zw n dst=true:=by exact rfl) (hx:ev S x=some (.slice (some ⟨b,o,none⟩) len cap):=by exact rfl) (hy:ev S y=some (.int k ix):=by exact rfl) (h0:0≤ix:=by first | omega | (simp;done) | (simp;omega)) (h1:ix<len:=by first | omega | (simp;done) | (simp;omega)) (h:K (Za0 S dst (ptr ⟨b,o+ix.toNat*sz,none⟩)) D B L):opW P n ops i ⟨dst,.indexAddr t x y,ty,pos,after,g⟩ K S D B L:=Zr (Zql  hg hd hu hsz hx hy h0 h1 h)
theorem xIp  {t:TypeId} {e:TypeId} {x:Operand} {y:Operand} {k:IntKind} {p:Option Addr} {b:Nat} {len:Nat} {cap:Nat} {sz:Nat} {ix:Int}  (hp:p=some ⟨b,0,none⟩) (hu:P.underlying t=some (.slice e)) (hsz:ZN P e=some sz) (hg:Zl ops S g=some true:=by exact rfl) (hd:Zw n dst=true:=by exact rfl) (hx:ev S x=some (.slice p len cap):=by exact rfl) (hy:ev S y=some (.int k ix):=by exact rfl) (h0:0≤ix:=by first | omega | (simp;done) | (simp;omega)) (h1:ix<len:=by first | omega | (simp;done) | (simp;omega)) (h:K (Za0 S dst (ptr ⟨b,ix.toNat*sz,none⟩)) D B L):opW P n ops i ⟨dst,.indexAddr t x y,ty,pos,after,g⟩ K S D B L:=Zr (ZkY  hp hg hd hu hsz hx hy h0 h1 h)
theorem xR  {f:FuncId} {xs:List Operand} {vs:List Value} {ats:Array TypeId} {v:Value}  (he:enters P f=true) (ha:evs S xs=some vs) (hc:Z3 P f vs B v) (hg:Zl ops S g=some true:=by exact rfl) (hd:Zw n dst=true:=by exact rfl) (h:K (Za0 S dst v) D B L):opW P n ops i ⟨dst,.call ⟨.value (.func f),xs.toArray,ats⟩,ty,pos,after,g⟩ K S D B L:=Zr (ZQ  hg hd he ha hc h)
theorem xBs  {t:TypeId} {e:TypeId} {len:Nat} {sz:Nat} {z:Value} {vs:List Value} (parts:List (Nat × Operand)) (l':List Value) (hu:P.underlying t=some (.slice e)) (hsz:ZN P e=some sz) (hz:Z8 P e=some z) (hg:Zl ops S g=some true:=by exact rfl) (hd:Zw n dst=true:=by exact rfl) (hbig:Nat.ble (len*sz) 1024=true:=by exact rfl) (hidx:parts.map (·.1)=List.range len:=by exact rfl) (ha:evs S (parts.map (·.2))=some vs:=by exact rfl) (hall:vs.all (fun v=>Nat.beq v.cells.toList.length sz)=true:=by exact rfl) (hl':(vs.map fun v=>v.cells.toList).flatten=l':=by exact rfl) (h :∀b,K (Za0 S dst (.slice (some ⟨b,0,none⟩) len len)) D B (L ++ [ZaJ b l' e])):opW P n ops i ⟨dst,.buildSlice t len parts.toArray,ty,pos,after,g⟩ K S D B L:=Zr (ZeT (parts:=parts) l' hg hd hu hsz hz hbig hidx ha hall hl' h)
end
section
variable {P:PJ} {n:Nat} {ops:Array Oper} {K:Z7} {S:Env} {D:List Deferred} {B:Kn} {L:List Cells}
variable {dst:Option Tmp} {ty:TypeId} {pos:String} {after:Array Edge} {g:Option (Nat × Bool)} {t u:TypeId} {x y:Operand}
theorem aT {C:Cx P} {k':List Item} {I:Kn→List Cells→Prop} {ℓ:List Nat} (i:Nat) {o:Oper} {v:Value} (hi:ops[i]? = some o) (hq:quiet P n ops I i o v (sel (o.looksAt ops) S)) (hr:(Zai ops ℓ).contains i=true:=by kernel_rfl) (hd:Zw n o.dst=true:=by exact rfl) (hp:ZgG o=false:=by rfl) (h:ZaQ C k' n ops I (i :: ℓ) K (Za0 S o.dst v) D B L):ZaQ C k' n ops I ℓ K S D B L:=Zn8 i hi hr hd hq h hp
theorem r4 {α β γ δ:Type} {a:α} {b:β} {c:γ} {d:δ} : a=a∧b=b∧c=c∧d=d:=⟨rfl,rfl,rfl,rfl⟩
variable {C:Cx P} {k':List Item} {I:Kn→List Cells→Prop} {ℓ:List Nat}
theorem aM  {x:Operand} {v:Value} (i:Nat) (hii:ops[i]? = some ⟨dst,.move x,ty,pos,after,g⟩)  (hrr:(Zai ops ℓ).contains i=true:=by kernel_rfl) (hdd:Zw n dst=true:=by exact rfl) (hg:Zl ops (sel ((⟨dst,.move x,ty,pos,after,g⟩:Oper).looksAt ops) S) g=some true:=by exact rfl) (hd:Zw n dst=true:=by exact rfl) (hx:ev (sel ((⟨dst,.move x,ty,pos,after,g⟩:Oper).looksAt ops) S) x=some v:=by exact rfl) (h:ZaQ C k' n ops I (i :: ℓ) K (Za0 S dst v) D B L):ZaQ C k' n ops I ℓ K S D B L:=ZZ i hii hrr hdd (fun _ _ _=>Zoo hg hd hx ⟨rfl,rfl,rfl,rfl⟩) h
theorem aA  {x:Operand} {v:Value} (i:Nat) (hii:ops[i]? = some ⟨dst,.assign x,ty,pos,after,g⟩)  (hrr:(Zai ops ℓ).contains i=true:=by kernel_rfl) (hdd:Zw n dst=true:=by exact rfl) (hg:Zl ops (sel ((⟨dst,.assign x,ty,pos,after,g⟩:Oper).looksAt ops) S) g=some true:=by exact rfl) (hd:Zw n dst=true:=by exact rfl) (hx:ev (sel ((⟨dst,.assign x,ty,pos,after,g⟩:Oper).looksAt ops) S) x=some v:=by exact rfl) (h:ZaQ C k' n ops I (i :: ℓ) K (Za0 S dst v) D B L):ZaQ C k' n ops I ℓ K S D B L:=ZZ i hii hrr hdd (fun _ _ _=>Zjp hg hd hx ⟨rfl,rfl,rfl,rfl⟩) h
theorem aZ  {dst:Option Tmp} {op:Op} {t:TypeId} {pos:String} {after:Array Edge} {g:Option (Nat × Bool)} (i:Nat) (hii:ops[i]? = some ⟨dst,op,t,pos,after,g⟩)  (hrr:(Zai ops ℓ).contains i=true:=by kernel_rfl) (hdd:Zw n dst=true:=by exact rfl) (hg:Zl ops (sel ((⟨dst,op,t,pos,after,g⟩:Oper).looksAt ops) S) g=some false:=by exact rfl) (hd:Zw n dst=true:=by exact rfl) (h:ZaQ C k' n ops I (i :: ℓ) K (Za0 S dst undef) D B L):ZaQ C k' n ops I ℓ K S D B L:=ZZ i hii hrr hdd (fun _ _ _=>Zol hg hd ⟨rfl,rfl,rfl,rfl⟩) h
theorem aPT  {c:Operand} {a:Operand} {b:Operand} {v:Value} (i:Nat) (hii:ops[i]? = some ⟨dst,.pick c a b,ty,pos,after,g⟩)  (hrr:(Zai ops ℓ).contains i=true:=by kernel_rfl) (hdd:Zw n dst=true:=by exact rfl) (hg:Zl ops (sel ((⟨dst,.pick c a b,ty,pos,after,g⟩:Oper).looksAt ops) S) g=some true:=by exact rfl) (hd:Zw n dst=true:=by exact rfl) (hc:ev (sel ((⟨dst,.pick c a b,ty,pos,after,g⟩:Oper).looksAt ops) S) c=some (.bool true):=by exact rfl) (hx:ev (sel ((⟨dst,.pick c a b,ty,pos,after,g⟩:Oper).looksAt ops) S) a=some v:=by exact rfl) (h:ZaQ C k' n ops I (i :: ℓ) K (Za0 S dst v) D B L):ZaQ C k' n ops I ℓ K S D B L:=ZZ i hii hrr hdd (fun _ _ _=>ZkV hg hd hc hx ⟨rfl,rfl,rfl,rfl⟩) h
theorem aPF  {c:Operand} {a:Operand} {b:Operand} {v:Value} (i:Nat) (hii:ops[i]? = some ⟨dst,.pick c a b,ty,pos,after,g⟩)  (hrr:(Zai ops ℓ).contains i=true:=by kernel_rfl) (hdd:Zw n dst=true:=by exact rfl) (hg:Zl ops (sel ((⟨dst,.pick c a b,ty,pos,after,g⟩:Oper).looksAt ops) S) g=some true:=by exact rfl) (hd:Zw n dst=true:=by exact rfl) (hc:ev (sel ((⟨dst,.pick c a b,ty,pos,after,g⟩:Oper).looksAt ops) S) c=some (.bool false):=by exact rfl) (hx:ev (sel ((⟨dst,.pick c a b,ty,pos,after,g⟩:Oper).looksAt ops) S) b=some v:=by exact rfl) (h:ZaQ C k' n ops I (i :: ℓ) K (Za0 S dst v) D B L):ZaQ C k' n ops I ℓ K S D B L:=ZZ i hii hrr hdd (fun _ _ _=>ZkW hg hd hc hx ⟨rfl,rfl,rfl,rfl⟩) h
theorem aE  {x:Operand} {ix:Nat} {vs:List Value} {v:Value} (i:Nat) (hii:ops[i]? = some ⟨dst,.extract x ix,ty,pos,after,g⟩)  (hrr:(Zai ops ℓ).contains i=true:=by kernel_rfl) (hdd:Zw n dst=true:=by exact rfl) (hg:Zl ops (sel ((⟨dst,.extract x ix,ty,pos,after,g⟩:Oper).looksAt ops) S) g=some true:=by exact rfl) (hd:Zw n dst=true:=by exact rfl) (hx:ev (sel ((⟨dst,.extract x ix,ty,pos,after,g⟩:Oper).looksAt ops) S) x=some (.tuple vs.toArray):=by exact rfl) (hi:vs[ix]? = some v:=by exact rfl) (h:ZaQ C k' n ops I (i :: ℓ) K (Za0 S dst v) D B L):ZaQ C k' n ops I ℓ K S D B L:=ZZ i hii hrr hdd (fun _ _ _=>Zht hg hd hx hi ⟨rfl,rfl,rfl,rfl⟩) h
theorem aW  {s:TypeId} {x:Operand} {fi:Nat} {off:Nat} {a:Addr} (i:Nat) (hii:ops[i]? = some ⟨dst,.fieldAddr s x fi,ty,pos,after,g⟩) (hf:Zx P s fi=some off) (hrr:(Zai ops ℓ).contains i=true:=by kernel_rfl) (hdd:Zw n dst=true:=by exact rfl) (hg:Zl ops (sel ((⟨dst,.fieldAddr s x fi,ty,pos,after,g⟩:Oper).looksAt ops) S) g=some true:=by exact rfl) (hd:Zw n dst=true:=by exact rfl) (hx:ev (sel ((⟨dst,.fieldAddr s x fi,ty,pos,after,g⟩:Oper).looksAt ops) S) x=some (ptr a):=by exact rfl) (h:ZaQ C k' n ops I (i :: ℓ) K (Za0 S dst (ptr (a.add off))) D B L):ZaQ C k' n ops I ℓ K S D B L:=ZZ i hii hrr hdd (fun _ _ _=>Zfr hg hd hf hx ⟨rfl,rfl,rfl,rfl⟩) h
theorem aN  {x:Operand} {b:Bool} {t:TypeId} (i:Nat) (hii:ops[i]? = some ⟨dst,.unOp .not t x,ty,pos,after,g⟩)  (hrr:(Zai ops ℓ).contains i=true:=by kernel_rfl) (hdd:Zw n dst=true:=by exact rfl) (hg:Zl ops (sel ((⟨dst,.unOp .not t x,ty,pos,after,g⟩:Oper).looksAt ops) S) g=some true:=by exact rfl) (hd:Zw n dst=true:=by exact rfl) (hx:ev (sel ((⟨dst,.unOp .not t x,ty,pos,after,g⟩:Oper).looksAt ops) S) x=some (.bool b):=by exact rfl) (h:ZaQ C k' n ops I (i :: ℓ) K (Za0 S dst (.bool (!b))) D B L):ZaQ C k' n ops I ℓ K S D B L:=ZZ i hii hrr hdd (fun _ _ _=>Zqe hg hd hx ⟨rfl,rfl,rfl,rfl⟩) h
theorem aNc  {x:Operand} {a:Addr} (i:Nat) (hii:ops[i]? = some ⟨dst,.nilCheck x,ty,pos,after,g⟩)  (hrr:(Zai ops ℓ).contains i=true:=by kernel_rfl) (hdd:Zw n dst=true:=by exact rfl) (hg:Zl ops (sel ((⟨dst,.nilCheck x,ty,pos,after,g⟩:Oper).looksAt ops) S) g=some true:=by exact rfl) (hd:Zw n dst=true:=by exact rfl) (hx:ev (sel ((⟨dst,.nilCheck x,ty,pos,after,g⟩:Oper).looksAt ops) S) x=some (.pointer (some a)):=by exact rfl) (h:ZaQ C k' n ops I (i :: ℓ) K (Za0 S dst (.pointer (some a))) D B L):ZaQ C k' n ops I ℓ K S D B L:=ZZ i hii hrr hdd (fun _ _ _=>Zgu hg hd hx ⟨rfl,rfl,rfl,rfl⟩) h
theorem Zod  {k:IntKind} {a b:Int} (i:Nat) (hii:ops[i]? = some ⟨dst,.binOp .lss t x y u,ty,pos,after,g⟩)  (hrr:(Zai ops ℓ).contains i=true:=by kernel_rfl) (hdd:Zw n dst=true:=by exact rfl) (hg:Zl ops (sel ((⟨dst,.binOp .lss t x y u,ty,pos,after,g⟩:Oper).looksAt ops) S) g=some true:=by exact rfl) (hd:Zw n dst=true:=by exact rfl) (hx:ev (sel ((⟨dst,.binOp .lss t x y u,ty,pos,after,g⟩:Oper).looksAt ops) S) x=some (.int k a):=by exact rfl) (hy:ev (sel ((⟨dst,.binOp .lss t x y u,ty,pos,after,g⟩:Oper).looksAt ops) S) y=some (.int k b):=by exact rfl) (h:ZaQ C k' n ops I (i :: ℓ) K (Za0 S dst (.bool (decide (a<b)))) D B L):ZaQ C k' n ops I ℓ K S D B L:=ZZ i hii hrr hdd (fun _ _ _=>Zqi hg hd hx hy ⟨rfl,rfl,rfl,rfl⟩) h
theorem Zp0  {k:IntKind} {a b:Int} (i:Nat) (hii:ops[i]? = some ⟨dst,.binOp .leq t x y u,ty,pos,after,g⟩)  (hrr:(Zai ops ℓ).contains i=true:=by kernel_rfl) (hdd:Zw n dst=true:=by exact rfl) (hg:Zl ops (sel ((⟨dst,.binOp .leq t x y u,ty,pos,after,g⟩:Oper).looksAt ops) S) g=some true:=by exact rfl) (hd:Zw n dst=true:=by exact rfl) (hx:ev (sel ((⟨dst,.binOp .leq t x y u,ty,pos,after,g⟩:Oper).looksAt ops) S) x=some (.int k a):=by exact rfl) (hy:ev (sel ((⟨dst,.binOp .leq t x y u,ty,pos,after,g⟩:Oper).looksAt ops) S) y=some (.int k b):=by exact rfl) (h:ZaQ C k' n ops I (i :: ℓ) K (Za0 S dst (.bool (decide (a≤b)))) D B L):ZaQ C k' n ops I ℓ K S D B L:=ZZ i hii hrr hdd (fun _ _ _=>Zqj hg hd hx hy ⟨rfl,rfl,rfl,rfl⟩) h
theorem ZmN  {k:IntKind} {a b:Int} (i:Nat) (hii:ops[i]? = some ⟨dst,.binOp .gtr t x y u,ty,pos,after,g⟩)  (hrr:(Zai ops ℓ).contains i=true:=by kernel_rfl) (hdd:Zw n dst=true:=by exact rfl) (hg:Zl ops (sel ((⟨dst,.binOp .gtr t x y u,ty,pos,after,g⟩:Oper).looksAt ops) S) g=some true:=by exact rfl) (hd:Zw n dst=true:=by exact rfl) (hx:ev (sel ((⟨dst,.binOp .gtr t x y u,ty,pos,after,g⟩:Oper).looksAt ops) S) x=some (.int k a):=by exact rfl) (hy:ev (sel ((⟨dst,.binOp .gtr t x y u,ty,pos,after,g⟩:Oper).looksAt ops) S) y=some (.int k b):=by exact rfl) (h:ZaQ C k' n ops I (i :: ℓ) K (Za0 S dst (.bool (decide (b<a)))) D B L):ZaQ C k' n ops I ℓ K S D B L:=ZZ i hii hrr hdd (fun _ _ _=>Zqn hg hd hx hy ⟨rfl,rfl,rfl,rfl⟩) h
theorem Zss  {k:IntKind} {a b:Int} (i:Nat) (hii:ops[i]? = some ⟨dst,.binOp .geq t x y u,ty,pos,after,g⟩)  (hrr:(Zai ops ℓ).contains i=true:=by kernel_rfl) (hdd:Zw n dst=true:=by exact rfl) (hg:Zl ops (sel ((⟨dst,.binOp .geq t x y u,ty,pos,after,g⟩:Oper).looksAt ops) S) g=some true:=by exact rfl) (hd:Zw n dst=true:=by exact rfl) (hx:ev (sel ((⟨dst,.binOp .geq t x y u,ty,pos,after,g⟩:Oper).looksAt ops) S) x=some (.int k a):=by exact rfl) (hy:ev (sel ((⟨dst,.binOp .geq t x y u,ty,pos,after,g⟩:Oper).looksAt ops) S) y=some (.int k b):=by exact rfl) (h:ZaQ C k' n ops I (i :: ℓ) K (Za0 S dst (.bool (decide (b≤a)))) D B L):ZaQ C k' n ops I ℓ K S D B L:=ZZ i hii hrr hdd (fun _ _ _=>Zqo hg hd hx hy ⟨rfl,rfl,rfl,rfl⟩) h
theorem ZmP  {k:IntKind} {a b:Int} (i:Nat) (hii:ops[i]? = some ⟨dst,.binOp .eql t x y u,ty,pos,after,g⟩)  (hrr:(Zai ops ℓ).contains i=true:=by kernel_rfl) (hdd:Zw n dst=true:=by exact rfl) (hg:Zl ops (sel ((⟨dst,.binOp .eql t x y u,ty,pos,after,g⟩:Oper).looksAt ops) S) g=some true:=by exact rfl) (hd:Zw n dst=true:=by exact rfl) (hx:ev (sel ((⟨dst,.binOp .eql t x y u,ty,pos,after,g⟩:Oper).looksAt ops) S) x=some (.int k a):=by exact rfl) (hy:ev (sel ((⟨dst,.binOp .eql t x y u,ty,pos,after,g⟩:Oper).looksAt ops) S) y=some (.int k b):=by exact rfl) (h:ZaQ C k' n ops I (i :: ℓ) K (Za0 S dst (.bool (decide (a=b)))) D B L):ZaQ C k' n ops I ℓ K S D B L:=ZZ i hii hrr hdd (fun _ _ _=>Zot hg hd hx hy ⟨rfl,rfl,rfl,rfl⟩) h
theorem Zrj  {k:IntKind} {a b:Int} (i:Nat) (hii:ops[i]? = some ⟨dst,.binOp .neq t x y u,ty,pos,after,g⟩)  (hrr:(Zai ops ℓ).contains i=true:=by kernel_rfl) (hdd:Zw n dst=true:=by exact rfl) (hg:Zl ops (sel ((⟨dst,.binOp .neq t x y u,ty,pos,after,g⟩:Oper).looksAt ops) S) g=some true:=by exact rfl) (hd:Zw n dst=true:=by exact rfl) (hx:ev (sel ((⟨dst,.binOp .neq t x y u,ty,pos,after,g⟩:Oper).looksAt ops) S) x=some (.int k a):=by exact rfl) (hy:ev (sel ((⟨dst,.binOp .neq t x y u,ty,pos,after,g⟩:Oper).looksAt ops) S) y=some (.int k b):=by exact rfl) (h:ZaQ C k' n ops I (i :: ℓ) K (Za0 S dst (.bool (decide (a≠b)))) D B L):ZaQ C k' n ops I ℓ K S D B L:=ZZ i hii hrr hdd (fun _ _ _=>Zon hg hd hx hy ⟨rfl,rfl,rfl,rfl⟩) h
theorem ZmO  {a b:List UInt8} (i:Nat) (hii:ops[i]? = some ⟨dst,.binOp .eql t x y u,ty,pos,after,g⟩)  (hrr:(Zai ops ℓ).contains i=true:=by kernel_rfl) (hdd:Zw n dst=true:=by exact rfl) (hg:Zl ops (sel ((⟨dst,.binOp .eql t x y u,ty,pos,after,g⟩:Oper).looksAt ops) S) g=some true:=by exact rfl) (hd:Zw n dst=true:=by exact rfl) (hx:ev (sel ((⟨dst,.binOp .eql t x y u,ty,pos,after,g⟩:Oper).looksAt ops) S) x=some (str a):=by exact rfl) (hy:ev (sel ((⟨dst,.binOp .eql t x y u,ty,pos,after,g⟩:Oper).looksAt ops) S) y=some (str b):=by exact rfl) (h:ZaQ C k' n ops I (i :: ℓ) K (Za0 S dst (.bool (decide (a=b)))) D B L):ZaQ C k' n ops I ℓ K S D B L:=ZZ i hii hrr hdd (fun _ _ _=>Zos hg hd hx hy ⟨rfl,rfl,rfl,rfl⟩) h
theorem Zri  {a b:List UInt8} (i:Nat) (hii:ops[i]? = some ⟨dst,.binOp .neq t x y u,ty,pos,after,g⟩)  (hrr:(Zai ops ℓ).contains i=true:=by kernel_rfl) (hdd:Zw n dst=true:=by exact rfl) (hg:Zl ops (sel ((⟨dst,.binOp .neq t x y u,ty,pos,after,g⟩:Oper).looksAt ops) S) g=some true:=by exact rfl) (hd:Zw n dst=true:=by exact rfl) (hx:ev (sel ((⟨dst,.binOp .neq t x y u,ty,pos,after,g⟩:Oper).looksAt ops) S) x=some (str a):=by exact rfl) (hy:ev (sel ((⟨dst,.binOp .neq t x y u,ty,pos,after,g⟩:Oper).looksAt ops) S) y=some (str b):=by exact rfl) (h:ZaQ C k' n ops I (i :: ℓ) K (Za0 S dst (.bool (decide (a≠b)))) D B L):ZaQ C k' n ops I ℓ K S D B L:=ZZ i hii hrr hdd (fun _ _ _=>Zom hg hd hx hy ⟨rfl,rfl,rfl,rfl⟩) h
theorem aD  {k:IntKind} {a b r:Int} (i:Nat) (hii:ops[i]? = some ⟨dst,.binOp .add t x y u,ty,pos,after,g⟩)  (hrr:(Zai ops ℓ).contains i=true:=by kernel_rfl) (hdd:Zw n dst=true:=by exact rfl) (hg:Zl ops (sel ((⟨dst,.binOp .add t x y u,ty,pos,after,g⟩:Oper).looksAt ops) S) g=some true:=by exact rfl) (hd:Zw n dst=true:=by exact rfl) (hx:ev (sel ((⟨dst,.binOp .add t x y u,ty,pos,after,g⟩:Oper).looksAt ops) S) x=some (.int k a):=by exact rfl) (hy:ev (sel ((⟨dst,.binOp .add t x y u,ty,pos,after,g⟩:Oper).looksAt ops) S) y=some (.int k b):=by exact rfl) (hr:k.wrap (a+b)=r:=by first | exact ZbE (by first | omega | (simp;done) | (simp;omega)) (by first | omega | (simp;done) | (simp;omega)) | exact rfl) (h:ZaQ C k' n ops I (i :: ℓ) K (Za0 S dst (.int k r)) D B L):ZaQ C k' n ops I ℓ K S D B L:=ZZ i hii hrr hdd (fun _ _ _=>Ze8 hg hd hx hy hr ⟨rfl,rfl,rfl,rfl⟩) h
theorem aU  {k:IntKind} {a b r:Int} (i:Nat) (hii:ops[i]? = some ⟨dst,.binOp .sub t x y u,ty,pos,after,g⟩)  (hrr:(Zai ops ℓ).contains i=true:=by kernel_rfl) (hdd:Zw n dst=true:=by exact rfl) (hg:Zl ops (sel ((⟨dst,.binOp .sub t x y u,ty,pos,after,g⟩:Oper).looksAt ops) S) g=some true:=by exact rfl) (hd:Zw n dst=true:=by exact rfl) (hx:ev (sel ((⟨dst,.binOp .sub t x y u,ty,pos,after,g⟩:Oper).looksAt ops) S) x=some (.int k a):=by exact rfl) (hy:ev (sel ((⟨dst,.binOp .sub t x y u,ty,pos,after,g⟩:Oper).looksAt ops) S) y=some (.int k b):=by exact rfl) (hr:k.wrap (a - b)=r:=by first | exact ZbE (by first | omega | (simp;done) | (simp;omega)) (by first | omega | (simp;done) | (simp;omega)) | exact rfl) (h:ZaQ C k' n ops I (i :: ℓ) K (Za0 S dst (.int k r)) D B L):ZaQ C k' n ops I ℓ K S D B L:=ZZ i hii hrr hdd (fun _ _ _=>ZgS hg hd hx hy hr ⟨rfl,rfl,rfl,rfl⟩) h
theorem aIx  {t:TypeId} {e:TypeId} {x:Operand} {y:Operand} {k:IntKind} {b:Nat} {o:Nat} {len:Nat} {cap:Nat} {sz:Nat} {ix:Int} (i:Nat) (hii:ops[i]? = some ⟨dst,.indexAddr t x y,ty,pos,after,g⟩) (hu:P.underlying t=some (.slice e)) (hsz:ZN P e=some sz) (hrr:(Zai ops ℓ).contains i=true:=by kernel_rfl) (hdd:Zw n dst=true:=by exact rfl) (hg:Zl ops (sel ((⟨dst,.indexAddr t x y,ty,pos,after,g⟩:Oper).looksAt ops) S) g=some true:=by exact rfl) (hd:Zw n dst=true:=by exact rfl) (hx:ev (sel ((⟨dst,.indexAddr t x y,ty,pos,after,g⟩:Oper).looksAt ops) S) x=some (.slice (some ⟨b,o,none⟩) len cap):=by exact rfl) (hy:ev (sel ((⟨dst,.indexAddr t x y,ty,pos,after,g⟩:Oper).looksAt ops) S) y=some (.int k ix):=by exact rfl) (h0:0≤ix:=by first | omega | (simp;done) | (simp;omega)) (h1:ix<len:=by first | omega | (simp;done) | (simp;omega)) (h:ZaQ C k' n ops I (i :: ℓ) K (Za0 S dst (ptr ⟨b,o+ix.toNat*sz,none⟩)) D B L):ZaQ C k' n ops I ℓ K S D B L:=ZZ i hii hrr hdd (fun _ _ _=>Zql hg hd hu hsz hx hy h0 h1 ⟨rfl,rfl,rfl,rfl⟩) h
end
end Go.BL
namespace Go.BL
open Go
set_option linter.unusedVariables false
set_option linter.unusedSimpArgs false
def ZaE (c:UInt8):Bool:=(decide (97≤c.toNat) && decide (c.toNat≤122)) || (decide (48≤c.toNat) && decide (c.toNat≤57))
def Z4 (l:List UInt8):Bool:=l.all ZaE && decide (1≤l.length) && decide (l.length≤8)
theorem Zn9 {l:List UInt8} {k:Nat} {c:UInt8} (hc:l[k]? = some c) (h:ZaE c=false):l.all ZaE=false:=by
  rw [Bool.eq_false_iff];intro ha
  have:=List.all_eq_true.1 ha c (List.mem_of_getElem? hc)
  rw [h] at this;cases this
theorem ZjW {l:List UInt8} {k:Nat} {c:UInt8} (hc:l[k]? = some c) (h:ZaE c=true) (ha:(l.take k).all ZaE=true):(l.take (k+1)).all ZaE=true:=by
  rw [List.take_add_one,hc];simp only [Option.toList_some,List.all_append,ha,List.all_cons,h,List.all_nil];rfl
def word (l:List UInt8) (i:Nat):List UInt8:=(l.drop i).takeWhile ZaE
def Zb6 (w:List UInt8):Bool:=decide (1≤w.length) && decide (w.length≤8)
theorem Zlp {o:Option UInt8} {f:UInt8→Bool} (h:(match o with | some c=>f c | none=>false)=true) :∃c,o=some c∧f c=true:=by
  cases o with
  | none=>cases h
  | some c=>exact ⟨c,rfl,h⟩
theorem Za1 {α:Type} {l:List α} {k:Nat} {c:α} (h:l[k]? = some c):k<l.length:=(List.getElem?_eq_some_iff.1 h).1
theorem Zd9 {p:UInt8→Bool} :∀{m:List UInt8} {k:Nat},(m.take k).all p=true→(∀c,m[k]? = some c→p c=false)→m.takeWhile p=m.take k
  | [],k,_,_=>by simp
  | c :: m,0,_,h=>by simp [List.takeWhile,h c rfl]
  | c :: m,k+1,ha,h=>by
    simp only [List.take_succ_cons,List.all_cons,Bool.and_eq_true] at ha
    simp only [List.takeWhile,ha.1,List.take_succ_cons]
    rw [Zd9 ha.2 (fun c hc=>h c (by simpa using hc))]
theorem ZmW {l:List UInt8} {i k:Nat} (ha:((l.drop i).take k).all ZaE=true) (h :∀c,l[i+k]? = some c→ZaE c=false):word l i=(l.drop i).take k:=
  Zd9 ha (fun c hc=>h c (by simpa using hc))
theorem ZdE {l:List UInt8} {i k:Nat} : (l.take (i+k)).drop i=(l.drop i).take k:=by
  rw [List.drop_take,Nat.add_sub_cancel_left]
theorem Zgx {a b c d:Value} (h:a=c) (h':b=d):Value.tuple #[a,b]=Value.tuple #[c,d]:=by rw [h,h']
def more:Nat→List UInt8→Nat→Bool × Nat
  | 0,_,i=>(true,i)
  | n+1,l,i=>if l[i]? = some 46 then (if Zb6 (word l (i+1))=true then more n l (i+1+(word l (i+1)).length) else (false,i+1+(word l (i+1)).length)) else (true,i)
def dom (l:List UInt8) (i:Nat):Bool × Nat:=if Zb6 (word l i)=true then more 2 l (i+(word l i).length) else (false,i+(word l i).length)
def Zf6 (l:List UInt8) (i:Nat):List UInt8:=if (dom l i).1=true then (l.take (dom l i).2).drop i else []
def Zi9 (l:List UInt8) (i:Nat):Bool:=(dom l i).1 && decide ((dom l i).2 - i≤20)
theorem Zi8 {l:List UInt8} {i:Nat} (h:Zb6 (word l i)=false):dom l i=(false,i+(word l i).length):=by simp [dom,h]
theorem ZnZ {l:List UInt8} {i:Nat} (h:Zb6 (word l i)=true):dom l i=more 2 l (i+(word l i).length):=by simp [dom,h]
theorem Zfo {l:List UInt8} {i:Nat} (h:i≤l.length):i+(word l i).length≤l.length:=by
  have:=List.IsPrefix.length_le (List.takeWhile_prefix ZaE (l:=l.drop i))
  rw [List.length_drop] at this
  unfold word;omega
theorem ZfH {l:List UInt8} {n j:Nat} (h : ¬ l[j]? = some 46):more n l j=(true,j):=by
  cases n with
  | zero=>rfl
  | succ n=>rw [more,if_neg h]
theorem Zny {l:List UInt8} {n j:Nat} (hn:1≤n) (h:l[j]? = some 46) (hw:Zb6 (word l (j+1))=false):more n l j=(false,j+1+(word l (j+1)).length):=by
  cases n with
  | zero=>omega
  | succ n=>rw [more,if_pos h,if_neg (by simp [hw])]
theorem ZlK {l:List UInt8} {n j:Nat} (hn:1≤n) (h:l[j]? = some 46) (hw:Zb6 (word l (j+1))=true):more n l j=more (n - 1) l (j+1+(word l (j+1)).length):=by
  cases n with
  | zero=>omega
  | succ n=>rw [more,if_pos h,if_pos hw];rfl
theorem ZcL {p:UInt8→Bool} :∀l:List UInt8,(l.takeWhile p).length=l.length↔l.all p=true
  | []=>by simp
  | c :: l=>by
    have h:=ZcL (p:=p) l
    cases hc:p c with
    | true=>simp [List.takeWhile,hc] at h ⊢;exact h
    | false=>simp [List.takeWhile,hc]
theorem ZbY {l:List UInt8} : Z4 l=(Zb6 (word l 0) && decide ((word l 0).length=l.length)):=by
  have h:=ZcL (p:=ZaE) l
  have e:word l 0=l.takeWhile ZaE:=by simp [word]
  rw [Bool.eq_iff_iff]
  simp only [Z4,Zb6,e,Bool.and_eq_true,decide_eq_true_eq]
  constructor
  · rintro ⟨⟨h1,h2⟩,h3⟩
    have:=h.2 h1
    omega
  · rintro ⟨⟨h1,h2⟩,h3⟩
    exact ⟨⟨h.1 h3,by omega⟩,by omega⟩
theorem ZlJ {l:List UInt8} :∀(n j:Nat),j≤l.length→(more n l j).2≤l.length
  | 0,j,h=>h
  | n+1,j,h=>by
    rw [more]
    split
    · rename_i e
      have:=Za1 e
      have h2:=Zfo (l:=l) (i:=j+1) (by omega)
      split
      · exact ZlJ n _ h2
      · exact h2
    · exact h
theorem Zq6 {l:List UInt8} {i:Nat} (h:i≤l.length):(dom l i).2≤l.length:=by
  unfold dom
  have h2:=Zfo h
  split
  · exact ZlJ 2 _ h2
  · exact h2
def glue (a:List UInt8):List (List UInt8)→List (List UInt8)
  | []=>[a]
  | p :: ps=>(a ++ p) :: ps
def cut (x:UInt8):List UInt8→List (List UInt8)
  | []=>[[]]
  | c :: r=>if c=x then [] :: cut x r else glue [c] (cut x r)
theorem ZjV (x:UInt8) :∀l,cut x l≠[]
  | []=>by simp [cut]
  | c :: r=>by
    rw [cut]
    split
    · simp
    · cases cut x r <;> simp [glue]
theorem ZjO {m:List (List UInt8)} (h:m≠[]):glue [] m=m:=by
  cases m with
  | nil=>exact absurd rfl h
  | cons p ps=>rfl
theorem Zl7 (a b:List UInt8) (m:List (List UInt8)):glue a (glue b m)=glue (a ++ b) m:=by
  cases m <;> simp [glue]
structure CutSt where
  i:Nat
  f:Nat
  m:Nat
  ps:List (List UInt8)
  q:Option Addr
  cp:Nat
  s:Cells
theorem ZrH {a b:UInt8} (h:(a.toNat:Int)=b.toNat):a=b:=UInt8.toNat_inj.1 (by exact_mod_cast h)
theorem ZpU {l:List UInt8} {x c:UInt8} {i:Nat} (h:l[i]? = some c) (e:c=x):cut x (l.drop i)=[] :: cut x (l.drop (i+1)):=by
  obtain ⟨hlt,he⟩:=List.getElem?_eq_some_iff.1 h
  rw [List.drop_eq_getElem_cons hlt,he,cut,if_pos e]
theorem Zn1 {l:List UInt8} {x c:UInt8} {i:Nat} (h:l[i]? = some c) (e:c≠x):cut x (l.drop i)=glue [c] (cut x (l.drop (i+1))):=by
  obtain ⟨hlt,he⟩:=List.getElem?_eq_some_iff.1 h
  rw [List.drop_eq_getElem_cons hlt,he,cut,if_neg e]
theorem ZrG {a b:UInt8} (h : ¬ (a.toNat:Int)=b.toNat):a≠b:=fun e=>h (by rw [e])
theorem Zlb {l:List UInt8} {c:UInt8} {i f:Nat} (h:l[i]? = some c) (hf:f≤i):(l.take i).drop f ++ [c]=(l.take (i+1)).drop f:=by
  have hlt:=Za1 h
  rw [List.take_add_one,h]
  simp only [Option.toList_some]
  rw [List.drop_append_of_le_length (by rw [List.length_take];omega)]
theorem ZnR (a:List UInt8) (m:List (List UInt8)):glue a ([] :: m)=a :: m:=by simp [glue]
def ZbF (l:List UInt8):Bool:=(cut 46 l).all Z4 && decide ((cut 46 l).length≤3) && decide (l.length≤20)
theorem ZnQ {a:List UInt8} {m:List (List UInt8)} {n:Nat} (h :∀p,p∈m→p.length≤n) :∀p,p∈glue a m→p.length≤a.length+n:=by
  cases m with
  | nil=>intro p hp;simp [glue] at hp;subst hp;omega
  | cons q qs=>
    intro p hp
    simp only [glue,List.mem_cons] at hp
    rcases hp with rfl | hp
    · rw [List.length_append];have:=h q (List.mem_cons_self ..);omega
    · have:=h p (List.mem_cons_of_mem _ hp);omega
theorem Zja (x:UInt8) :∀(l p:List UInt8),p∈cut x l→p.length≤l.length
  | [],p,h=>by simp [cut] at h;subst h;simp
  | c :: r,p,h=>by
    rw [cut] at h
    split at h
    · rcases List.mem_cons.1 h with rfl | h
      · simp
      · have:=Zja x r p h;simp;omega
    · have:=ZnQ (Zja x r) p h;simp at this ⊢;omega
theorem Zik {l:List (List UInt8)} {k:Nat} {c:List UInt8} (hc:l[k]? = some c) (h:Z4 c=false):l.all Z4=false:=by
  rw [Bool.eq_false_iff];intro ha
  have:=List.all_eq_true.1 ha c (List.mem_of_getElem? hc)
  rw [h] at this;cases this
theorem Zge {l:List (List UInt8)} {k:Nat} {c:List UInt8} (hc:l[k]? = some c) (h:Z4 c=true) (ha:(l.take k).all Z4=true):(l.take (k+1)).all Z4=true:=by
  rw [List.take_add_one,hc];simp only [Option.toList_some,List.all_append,ha,List.all_cons,h,List.all_nil];rfl
theorem Zie (x:UInt8) :∀l:List UInt8,(cut x l).length≤l.length+1
  | []=>by simp [cut]
  | c :: r=>by
    have h:=Zie x r
    rw [cut]
    split
    · simp;omega
    · cases hq:cut x r with
      | nil=>exact absurd hq (ZjV x r)
      | cons p ps=>rw [hq] at h;simp [glue] at h ⊢;omega
end Go.BL
namespace Go.BL
open Go
set_option linter.unusedVariables false
set_option linter.unusedSimpArgs false
theorem Zhi {x:UInt8} :∀{l:List UInt8},x ∉ l→cut x l=[l]
  | [],_=>rfl
  | c :: r,h=>by
    rw [cut,if_neg (fun e=>h (by rw [e];exact List.mem_cons_self ..)),Zhi (fun hm=>h (List.mem_cons_of_mem _ hm))]
    rfl
theorem Zf7 {x:UInt8} {b:List UInt8} :∀{a:List UInt8},x ∉ a→cut x (a ++ x :: b)=a :: cut x b
  | [],_=>by simp [cut]
  | c :: r,h=>by
    rw [List.cons_append,cut,if_neg (fun e=>h (by rw [e];exact List.mem_cons_self ..)),Zf7 (fun hm=>h (List.mem_cons_of_mem _ hm))]
    rfl
theorem ZdP {x:UInt8} :∀{l:List UInt8},x∈l→∃a b,l=a ++ x :: b∧x ∉ a
  | c :: r,h=>by
    by_cases e:c=x
    · exact ⟨[],r,by simp [e],by simp⟩
    · have hr:x∈r:=(List.mem_cons.1 h).resolve_left (Ne.symm e)
      obtain ⟨a,b,h1,h2⟩:=ZdP hr
      exact ⟨c :: a,b,by simp [h1],by simp [Ne.symm e,h2]⟩
theorem Zgs (l:List UInt8) (i j:Nat):word l (i+j)=word (l.drop i) j:=by
  unfold word;rw [List.drop_drop]
theorem ZgE (l:List UInt8) (i:Nat) :∀n j,more n l (i+j)=((more n (l.drop i) j).1,i+(more n (l.drop i) j).2)
  | 0,j=>rfl
  | n+1,j=>by
    simp only [more,List.getElem?_drop]
    rw [show i+j+1=i+(j+1) from by omega,Zgs]
    split
    · split
      · rw [show i+(j+1)+(word (l.drop i) (j+1)).length=i+(j+1+(word (l.drop i) (j+1)).length) from by omega,ZgE l i n]
      · simp only [Prod.mk.injEq,true_and];omega
    · rfl
theorem ZmX {l:List UInt8} (h:l.all ZaE=true):word l 0=l:=by
  have:=(ZcL (p:=ZaE) l).2 h
  have h2:=List.takeWhile_prefix ZaE (l:=l)
  simp only [word,List.drop_zero]
  exact List.IsPrefix.eq_of_length h2 this
theorem ZeR {a b:List UInt8} {x:UInt8} (hx:ZaE x=false) (h:a.all ZaE=true):word (a ++ x :: b) 0=a:=by
  simp only [word,List.drop_zero]
  induction a with
  | nil=>simp [List.takeWhile,hx]
  | cons c a ih=>
    simp only [List.all_cons,Bool.and_eq_true] at h
    simp only [List.cons_append,List.takeWhile,h.1,ih h.2]
theorem ZeQ {a:List UInt8} (b:List UInt8) (h:a.all ZaE=false):(word (a ++ b) 0).length<a.length∧word (a ++ b) 0=word a 0:=by
  simp only [word,List.drop_zero]
  induction a with
  | nil=>simp at h
  | cons c a ih=>
    cases hc:ZaE c with
    | false=>simp [List.takeWhile,hc]
    | true=>
      have h':a.all ZaE=false:=by simpa [hc] using h
      have:=ih h'
      simp only [List.cons_append,List.takeWhile,hc,List.length_cons]
      exact ⟨by omega,by rw [this.2]⟩
theorem ZpA {a:List UInt8} (b:List UInt8) {k:Nat} (h:k<a.length):(a ++ b)[k]? = a[k]?:=List.getElem?_append_left h
theorem ZfR {x:UInt8} {a:List UInt8} (h:x ∉ a) (k:Nat):a[k]?≠some x:=fun e=>h (List.mem_of_getElem? e)
theorem ZlE :∀(n:Nat) (b:List UInt8),(Zb6 (word b 0)=true∧more n b (word b 0).length=(true,b.length))↔((cut 46 b).all Z4=true∧(cut 46 b).length≤n+1):=by
  intro n
  induction n with
  | zero=>
    intro b
    by_cases hd:(46:UInt8)∈b
    · obtain ⟨a,r,rfl,ha⟩:=ZdP hd
      rw [Zf7 ha]
      have hlen:(word (a ++ 46 :: r) 0).length≤a.length:=by
        cases hna:a.all ZaE with
        | true=>rw [ZeR (by decide) hna];exact Nat.le_refl _
        | false=>exact Nat.le_of_lt (ZeQ _ hna).1
      constructor
      · rintro ⟨_,h2⟩
        simp only [more,Prod.mk.injEq,true_and] at h2
        rw [List.length_append,List.length_cons] at h2
        omega
      · rintro ⟨_,h2⟩
        have:=ZjV 46 r
        simp only [List.length_cons] at h2
        exact absurd (List.eq_nil_of_length_eq_zero (by omega)) this
    · rw [Zhi hd]
      simp only [more,List.all_cons,List.all_nil,Bool.and_true,List.length_cons,List.length_nil,Nat.zero_add,Nat.le_refl,and_true,Prod.mk.injEq,true_and,ZbY,Bool.and_eq_true,decide_eq_true_eq]
  | succ n ih=>
    intro b
    by_cases hd:(46:UInt8)∈b
    · obtain ⟨a,r,rfl,ha⟩:=ZdP hd
      rw [Zf7 ha]
      cases hna:a.all ZaE with
      | true=>
        rw [ZeR (by decide) hna]
        have hg:(a ++ 46 :: r)[a.length]? = some 46:=by simp
        have hdr:(a ++ 46 :: r).drop (a.length+1)=r:=by rw [List.drop_append];simp
        have hw:word (a ++ 46 :: r) (a.length+1)=word r 0:=by
          have:=Zgs (a ++ 46 :: r) (a.length+1) 0
          rw [Nat.add_zero,hdr] at this;exact this
        have hm:more n (a ++ 46 :: r) (a.length+1+(word r 0).length)=((more n r (word r 0).length).1,a.length+1+(more n r (word r 0).length).2):=by
          rw [ZgE,hdr]
        simp only [more,hg,if_true,hw,hm,List.all_cons,Bool.and_eq_true,List.length_cons]
        have hna':Z4 a=Zb6 a:=by rw [ZbY,ZmX hna];simp
        have hi:=ih r
        constructor
        · rintro ⟨h1,h2⟩
          split at h2
          · rename_i h3
            simp only [Prod.mk.injEq,List.length_append,List.length_cons] at h2
            have:=hi.1 ⟨h3,by ext1;exact h2.1;simp only [];omega⟩
            exact ⟨⟨by rw [hna'];exact h1,this.1⟩,by omega⟩
          · simp at h2
        · rintro ⟨⟨h1,h2⟩,h3⟩
          obtain ⟨h4,h5⟩:=hi.2 ⟨h2,by omega⟩
          refine ⟨by rw [← hna'];exact h1,?_⟩
          rw [if_pos h4,h5]
          simp;omega
      | false=>
        obtain ⟨h1,h2⟩:=ZeQ (46 :: r) hna
        have hne:Z4 a=false:=by simp [Z4,hna]
        constructor
        · rintro ⟨_,h3⟩
          rw [ZfH (by rw [ZpA _ h1];exact ZfR ha _)] at h3
          simp only [Prod.mk.injEq,true_and,List.length_append,List.length_cons] at h3
          omega
        · rintro ⟨h3,_⟩
          simp [hne] at h3
    · rw [Zhi hd]
      rw [ZfH (ZfR hd _)]
      simp only [List.all_cons,List.all_nil,Bool.and_true,List.length_cons,List.length_nil,Prod.mk.injEq,true_and,ZbY,Bool.and_eq_true,decide_eq_true_eq]
      constructor
      · rintro ⟨h1,h2⟩;exact ⟨⟨h1,h2⟩,by omega⟩
      · rintro ⟨⟨h1,h2⟩,_⟩;exact ⟨h1,h2⟩
theorem Zic (b:List UInt8):((dom b 0).1=true∧(dom b 0).2≤20∧(dom b 0).2=b.length)↔ZbF b=true:=by
  have h:=ZlE 2 b
  simp only [ZbF,Bool.and_eq_true,decide_eq_true_eq]
  constructor
  · rintro ⟨h1,h2,h3⟩
    cases hw:Zb6 (word b 0) with
    | false=>simp [dom,hw] at h1
    | true=>
      simp only [dom,hw,if_true,Nat.zero_add] at h1 h2 h3
      have:=h.1 ⟨hw,by ext1;exact h1;exact h3⟩
      exact ⟨⟨this.1,this.2⟩,by omega⟩
  · rintro ⟨⟨h1,h2⟩,h3⟩
    obtain ⟨h4,h5⟩:=h.2 ⟨h1,h2⟩
    simp only [dom,h4,if_true,Nat.zero_add,h5]
    exact ⟨trivial,h3,trivial⟩
end Go.BL
namespace Go.BL
open Go
set_option linter.unusedVariables false
set_option linter.unusedSimpArgs false
theorem ZaI {α:Type} {p:α→Prop} {l:List α} {k:Nat} {x:α} (hx:l[k]? = some x) (h :∀y,y∈l.take k→p y) (hp:p x) :∀y,y∈l.take (k+1)→p y:=by
  intro y hy
  rw [List.take_add_one,hx] at hy
  simp only [Option.toList_some,List.mem_append,List.mem_singleton] at hy
  rcases hy with hy | rfl
  · exact h y hy
  · exact hp
def Zfj (us:List DUser) (u:Str):Int:=match us.findIdx? (fun x=>decide (x.name=u)) with | some i=>i | none=>-1
theorem ZnE {us:List DUser} {u:Str} {k:Nat} {x:DUser} (hx:us[k]? = some x) (he:x.name=u) (h :∀y,y∈us.take k→y.name≠u):Zfj us u=k:=by
  have:us.findIdx? (fun x=>decide (x.name=u))=some k:=by
    rw [List.findIdx?_eq_some_iff_getElem]
    obtain ⟨hk,rfl⟩:=List.getElem?_eq_some_iff.1 hx
    refine ⟨hk,by simpa using he,fun j hj=>?_⟩
    have:=h us[j] (by rw [List.mem_take_iff_getElem];exact ⟨j,by omega,rfl⟩)
    simpa using this
  rw [Zfj,this]
theorem ZlZ {us:List DUser} {u:Str} (h :∀y,y∈us→y.name≠u):Zfj us u = -1:=by
  have:us.findIdx? (fun x=>decide (x.name=u))=none:=by
    rw [List.findIdx?_eq_none_iff]
    intro x hx
    simpa using h x hx
  rw [Zfj,this]
theorem Za7 {α:Type} {as bs:List α} {k:Nat} {x y:α} (hx:as[k]? = some x) (hy:bs[k]? = some y) (e:x=y) (h:as.take k=bs.take k):as.take (k+1)=bs.take (k+1):=by
  rw [List.take_add_one,List.take_add_one,hx,hy,e,h]
theorem ZeJ {α:Type} {as bs:List α} {inst:Decidable (as=bs)} (h : ¬ (as.length:Int)=bs.length):false=decide (as=bs):=by
  symm;rw [decide_eq_false_iff_not];intro e;exact h (by rw [e])
theorem Zdv {α:Type} {as bs:List α} {inst:Decidable (as=bs)} {k:Nat} {x y:α} (hx:as[k]? = some x) (hy:bs[k]? = some y) (e : ¬ x=y):false=decide (as=bs):=by
  symm;rw [decide_eq_false_iff_not];intro h;rw [h,hy] at hx;exact e (Option.some.inj hx).symm
theorem eqT {α:Type} {as bs:List α} {inst:Decidable (as=bs)} {k:Nat} (hl:as.length=bs.length) (hk:k=as.length) (h:as.take k=bs.take k):true=decide (as=bs):=by
  symm;rw [decide_eq_true_eq]
  rw [List.take_of_length_le (by omega),List.take_of_length_le (by omega)] at h;exact h
theorem Zs4 {α:Type} {as:List α} {x:α} {inst:Decidable (x∈as)} (h :∀y,y∈as→y≠x):false=decide (x∈as):=by
  symm;rw [decide_eq_false_iff_not];intro hx;exact h x hx rfl
theorem Zs3 {α:Type} {as:List α} {x y:α} {inst:Decidable (x∈as)} {k:Nat} (hy:as[k]? = some y) (e:y=x):true=decide (x∈as):=by
  symm;rw [decide_eq_true_eq];subst e;exact List.mem_of_getElem? hy
theorem ZaR {α:Type} {p:α→Prop} {l:List α} {k:Nat} (hk : ¬ (k:Int)<l.length) (h :∀y,y∈l.take k→p y) :∀y,y∈l→p y:=by
  rwa [List.take_of_length_le (by omega)] at h
theorem Zhh {α:Type} {l:List α} {k:Nat} {x:α} (h:l[k]? = some x):l.drop k=x :: l.drop (k+1):=by
  obtain ⟨hlt,he⟩:=List.getElem?_eq_some_iff.1 h
  rw [List.drop_eq_getElem_cons hlt,he]
theorem Zmy {α:Type} {l:List α} {k:Nat} (h : ¬ (k:Int)<l.length):l.drop k=[]:=List.drop_eq_nil_of_le (by omega)
def ZbX (l:List Str):Bool:=l.all Z4 && decide l.Nodup && decide (l.length≤3)
def ZbM (x:DLetter):Bool:=Z4 x.fr && ZbX x.to_ && decide (0<x.to_.length) && decide (x.text.length≤20)
def Zel (x:DItem):Bool:=ZbM ⟨x.fr,x.left,x.text⟩
def Zcq:Int→List DItem→Option Int
  | last,[]=>some last
  | last,x :: r=>if (last+1≤x.id∧x.id≤99)∧Zel x=true then Zcq x.id r else none
def Zav (q:DQueue):Bool:=match Zcq 0 q.items with
  | some last=>decide (last+1≤q.next) && decide (q.next≤100) && decide (q.items.length≤6)
  | none=>false
theorem ZlD {α:Type} {l:List α} {k:Nat} {x:α} (hx:l[k]? = some x) (h:(l.take k).Nodup) (hn : ¬ x∈l.take k):(l.take (k+1)).Nodup:=by
  rw [List.take_add_one,hx]
  simp only [Option.toList_some]
  rw [List.nodup_append]
  exact ⟨h,by simp,fun a ha b hb=>by rw [List.mem_singleton.1 hb];exact fun e=>hn (e ▸ ha)⟩
theorem Zpl {α:Type} {l:List α} {k:Nat} {x:α} (hx:l[k]? = some x) (h:x∈l.take k) : ¬ l.Nodup:=by
  intro hn
  have e:l=l.take k ++ l.drop k:=(List.take_append_drop k l).symm
  rw [e,Zhh hx,List.nodup_append] at hn
  exact hn.2.2 x h x (List.mem_cons_self ..) rfl
theorem ZeZ {l:List Str} {k:Nat} {x:Str} (hx:l[k]? = some x) (h:Z4 x=false):false=ZbX l:=by
  simp [ZbX,Zik hx h]
theorem ZeY {l:List Str} {k:Nat} {x:Str} (hx:l[k]? = some x) (h:x∈l.take k):false=ZbX l:=by
  simp [ZbX,Zpl hx h]
theorem ZfG {l:List Str} {k:Nat} (hk : ¬ (k:Int)<l.length) (ha:(l.take k).all Z4=true) (hn:(l.take k).Nodup):decide ((l.length:Int)≤3)=ZbX l:=by
  rw [List.take_of_length_le (by omega)] at ha hn
  rw [Bool.eq_iff_iff];simp only [ZbX,ha,decide_eq_true hn,Bool.true_and,decide_eq_true_eq];omega
def Zcl {α:Type} (p:α→Bool) (xs:List α):Int:=match xs.findIdx? p with | some i=>i | none=>-1
theorem Zfk {α:Type} {p:α→Bool} {xs:List α} {k:Nat} {x:α} (hx:xs[k]? = some x) (he:p x=true) (h :∀y,y∈xs.take k→p y=false):Zcl p xs=k:=by
  have:xs.findIdx? p=some k:=by
    rw [List.findIdx?_eq_some_iff_getElem]
    obtain ⟨hk,rfl⟩:=List.getElem?_eq_some_iff.1 hx
    refine ⟨hk,he,fun j hj=>?_⟩
    have:=h xs[j] (by rw [List.mem_take_iff_getElem];exact ⟨j,by omega,rfl⟩)
    simpa using this
  rw [Zcl,this]
theorem Zde {α:Type} {p:α→Bool} {xs:List α} (h :∀y,y∈xs→p y=false):Zcl p xs = -1:=by
  have:xs.findIdx? p=none:=by
    rw [List.findIdx?_eq_none_iff]
    intro x hx
    simpa using h x hx
  rw [Zcl,this]
theorem ZnG {α:Type} {p:α→Bool} {xs:List α} : (0≤Zcl p xs)↔∃x,x∈xs∧p x=true:=by
  cases h:xs.findIdx? p with
  | none=>
    rw [List.findIdx?_eq_none_iff] at h
    simp only [Zcl,List.findIdx?_eq_none_iff.2 h]
    refine ⟨fun e=>absurd e (by omega),fun ⟨x,hx,hp⟩=>?_⟩
    rw [h x hx] at hp;cases hp
  | some i=>
    simp only [Zcl,h]
    rw [List.findIdx?_eq_some_iff_getElem] at h
    obtain ⟨hi,hp,_⟩:=h
    exact ⟨fun _=>⟨_,List.getElem_mem hi,hp⟩,fun _=>by omega⟩
def ZrQ (xs:List Str) (v:Str):Int:=Zcl (fun x=>decide (x=v)) xs
theorem ZnF {xs:List Str} {v:Str} : (0≤ZrQ xs v)↔v∈xs:=by
  rw [ZrQ,ZnG];simp
theorem ZjF {q:DQueue} (h:Zcq 0 q.items=none):false=Zav q:=by simp [Zav,h]
theorem ZjE {q:DQueue} {last:Int} (h:Zcq 0 q.items=some last):(decide (last+1≤q.next) && decide (q.next≤100) && decide (q.items.length≤6))=Zav q:=by simp [Zav,h]
theorem Zlr {q:DQueue} {k:Nat} {last:Int} {x:DItem} (hs:Zcq 0 q.items=Zcq last (q.items.drop k)) (hx:q.items[k]? = some x):Zcq 0 q.items=if (last+1≤x.id∧x.id≤99)∧Zel x=true then Zcq x.id (q.items.drop (k+1)) else none:=by
  rw [hs,Zhh hx,Zcq]
theorem Zdb (x:DLetter):ZbM x=(Z4 x.fr && (decide (1≤x.to_.length) && ZbX x.to_) && decide ((x.text.length:Int)≤20)):=by
  rw [Bool.eq_iff_iff];simp only [ZbM,Bool.and_eq_true,decide_eq_true_eq]
  constructor
  · rintro ⟨⟨⟨a,b⟩,c⟩,d⟩;exact ⟨⟨a,by omega,b⟩,by omega⟩
  · rintro ⟨⟨a,c,b⟩,d⟩;exact ⟨⟨⟨a,b⟩,by omega⟩,by omega⟩
theorem Zck.mono {B B':Kn} {q:Option Addr} {m:Nat} (h:Zck B q m) (hle:B.le B'):Zck B' q m:=fun j hj=>by
  obtain ⟨a,c,h1,h2,h3⟩:=h j hj
  exact ⟨a,c,h1,h2,h3.mono hle⟩
structure Gh (α:Type) where
  k:Nat
  p:Nat
  l:Cells
  a:Option Addr
  c:Nat
  xs:List α
theorem Zd8 {α:Type} {l:List α} {k:Nat} {x:α} (hx:l[k]? = some x):l.take (k+1)=l.take k ++ [x]:=by
  rw [List.take_add_one,hx];rfl
theorem Zls :∀{xs:List DItem} {l r:Int},Zcq l xs=some r→l≤r
  | [],l,r,h=>by simp only [Zcq,Option.some.injEq] at h;omega
  | x :: xs,l,r,h=>by
    rw [Zcq] at h
    split at h
    · rename_i e;have:=Zls h;omega
    · cases h
theorem ZhM {q:DQueue} (h:Zav q=true):1≤q.next∧q.next≤100∧q.items.length≤6:=by
  unfold Zav at h
  split at h
  · rename_i last e
    have:=Zls e
    simp only [Bool.and_eq_true,decide_eq_true_eq] at h
    omega
  · cases h
structure Gh2 (α β:Type) where
  k:Nat
  p:Nat
  l:Cells
  a:Option Addr
  c:Nat
  xs:List α
  e:β
structure GQ where
  k:Nat
  p:Nat
  l:Cells
  a:Option Addr
  c:Nat
  q:DQueue
structure GM where
  b:Nat
  p:Nat
  l:Cells
  a:Option Addr
  c:Nat
  q:DQueue
  f:Bool
structure QOf where
  p:Option Addr
  ys:List DItem
  xs:List DItem
  l:Cells
  q:Option Addr
  c:Nat
  cells:Cells
theorem Zap.slice0 {α:Type} {B:Kn} {l:Cells} {p:Option Addr} {c:Nat} {T:TypeId} {w sz:Nat} {R:Rel α} {xs:List α} (h:Zap B l p c T w R xs):(if c=0 then p else p.map (fun a=>a.add (0*sz)))=p:=by
  obtain ⟨rows,_,_,_,⟨rfl,_,rfl,_⟩ | ⟨b,arr,rfl,_,_,_,_⟩⟩:=h
  · rfl
  · split
    · rfl
    · rw [Nat.zero_mul];simp [Addr.add_off]
theorem ZeA {q:DQueue} (h : ¬ (q.items.length≤6∧1≤q.next∧q.next≤100)):false=Zav q:=by
  symm;rw [Bool.eq_false_iff];intro hq
  have:=ZhM hq
  omega
end Go.BL
namespace Go.BL
open Go
set_option linter.unusedVariables false
set_option linter.unusedSimpArgs false
def hat (xs:List Int) (k:Nat):Int:=xs.getD k 0
def swp (xs:List Int) (i j:Nat):List Int:=(xs.set i (hat xs j)).set j (hat xs i)
def Zb3 (xs:List Int):Prop:=∀k,0<k→k<xs.length→hat xs ((k - 1) / 2)≤hat xs k
def Zd2 (xs:List Int) (j:Nat):Prop:=(∀k,0<k→k<xs.length→k≠j→hat xs ((k - 1) / 2)≤hat xs k)∧(∀k,0<k→k<xs.length→(k - 1) / 2=j→0<j→hat xs ((j - 1) / 2)≤hat xs k)
theorem Zpy {xs:List Int} {k:Nat} {a:Int} (h:xs[k]? = some a):hat xs k=a:=by simp [hat,List.getD,h]
theorem Zaj {xs:List Int} {k:Nat} (h:k<xs.length):xs[k]? = some (hat xs k):=by simp [hat,List.getD,List.getElem?_eq_getElem h]
theorem ZbU (xs:List Int) (i j:Nat):(swp xs i j).length=xs.length:=by simp [swp]
theorem Zdf {xs:List Int} {i j:Nat} (hi:i<xs.length) (hj:j<xs.length) (k:Nat):hat (swp xs i j) k=if k=j then hat xs i else if k=i then hat xs j else hat xs k:=by
  simp only [hat,swp,List.getD,List.getElem?_set]
  by_cases h1:k=j
  · subst h1;simp [hj]
  · have h1' : ¬j=k:=fun h=>h1 h.symm
    by_cases h2:k=i
    · subst h2;simp [hi,h1,h1']
    · have h2' : ¬i=k:=fun h=>h2 h.symm
      simp [h1,h1',h2,h2']
theorem Zeb {xs:List Int} {i j:Nat} (hi:i<xs.length) (hj:j<xs.length):(swp xs i j).Perm xs:=by
  rw [List.perm_iff_count]
  intro a
  unfold swp
  rw [List.count_set (by simpa using hj),List.count_set hi]
  have e1:(xs.set i (hat xs j))[j]'(by simpa using hj)=hat xs j:=by
    rw [List.getElem_set];split
    · rfl
    · simp [hat,List.getD,List.getElem?_eq_getElem hj]
  have e2:xs[i]=hat xs i:=by simp [hat,List.getD,List.getElem?_eq_getElem hi]
  rw [e1,e2]
  have hp :∀v,(v == a)=true→v∈xs→0<List.count a xs:=fun v hv hm=>by
    rw [beq_iff_eq] at hv;subst hv;exact List.count_pos_iff.2 hm
  have hm1:hat xs i∈xs:=by rw [← e2];exact List.getElem_mem _
  by_cases h1:(hat xs i == a)=true <;> by_cases h2:(hat xs j == a)=true <;> simp [h1,h2] <;> (try have:=hp _ h1 hm1;omega)
theorem ZoZ {xs:List Int} (h:Zd2 xs 0):Zb3 xs:=fun k h0 hk=>h.1 k h0 hk (by omega)
theorem Zo1 {xs:List Int} {j:Nat} (h:Zd2 xs j) (hj:hat xs ((j - 1) / 2)≤hat xs j):Zb3 xs:=fun k h0 hk=>by
  by_cases e:k=j
  · subst e;exact hj
  · exact h.1 k h0 hk e
theorem Zo0 {xs:List Int} {j:Nat} (h0:0<j) (hj:j<xs.length) (h:Zd2 xs j) (hlt:hat xs j<hat xs ((j - 1) / 2)):Zd2 (swp xs ((j - 1) / 2) j) ((j - 1) / 2):=by
  have hi:(j - 1) / 2<xs.length:=by omega
  have H:=fun k=>Zdf hi hj k
  generalize hii:(j - 1) / 2=i at *
  refine ⟨fun k hk0 hk hne=>?_,fun k hk0 hk hpar hi0=>?_⟩
  · rw [ZbU] at hk
    rw [H,H]
    by_cases e1:k=j
    · subst e1
      rw [hii];rw [if_neg (by omega),if_pos rfl,if_pos rfl];omega
    · rw [if_neg e1,if_neg hne]
      by_cases e2:(k - 1) / 2=j
      · rw [if_pos e2];have:=h.2 k hk0 hk e2 h0;rw [hii] at this;exact this
      · rw [if_neg e2]
        by_cases e3:(k - 1) / 2=i
        · rw [if_pos e3];have:=h.1 k hk0 hk e1;rw [e3] at this;omega
        · rw [if_neg e3];exact h.1 k hk0 hk e1
  · rw [ZbU] at hk
    rw [H,H]
    have hpi:(i - 1) / 2≠i:=by omega
    have hpj:(i - 1) / 2≠j:=by omega
    rw [if_neg hpj,if_neg hpi]
    have hii2:=h.1 i hi0 hi (by omega)
    by_cases e1:k=j
    · rw [if_pos e1];exact hii2
    · rw [if_neg e1,if_neg (by omega)]
      have:=h.1 k hk0 hk e1;rw [hpar] at this;omega
theorem ZnJ {xs:List Int} (h:Zb3 xs) :∀k,k<xs.length→hat xs 0≤hat xs k:=fun k=>by
  induction k using Nat.strongRecOn with
  | ind k ih=>
    intro hk
    by_cases h0:k=0
    · subst h0;exact Int.le_refl _
    · have h1:=ih ((k - 1) / 2) (by omega) (by omega)
      have h2:=h k (by omega) hk
      omega
def Zoh (xs:List Int) (n:Nat):Prop:=∀k,0<k→k<n→hat xs ((k - 1) / 2)≤hat xs k
def Zdl (xs:List Int) (n i:Nat):Prop:=(∀k,0<k→k<n→(k - 1) / 2≠i→hat xs ((k - 1) / 2)≤hat xs k)∧(∀k,0<k→k<n→(k - 1) / 2=i→0<i→hat xs ((i - 1) / 2)≤hat xs k)
theorem Zmz {xs:List Int} {n i:Nat} (h:Zdl xs n i) (hl:n≤2*i+1):Zoh xs n:=fun k h0 hk=>h.1 k h0 hk (by omega)
theorem Zf5 {xs:List Int} {n i:Nat} (h:Zdl xs n i) (hc :∀k,0<k→k<n→(k - 1) / 2=i→hat xs i≤hat xs k):Zoh xs n:=fun k h0 hk=>by
  by_cases e:(k - 1) / 2=i
  · rw [e];exact hc k h0 hk e
  · exact h.1 k h0 hk e
theorem Zf4 {xs:List Int} {n i j:Nat} (hn:n≤xs.length) (hj0:0<j) (hj:j<n) (hpj:(j - 1) / 2=i) (h:Zdl xs n i) (hmin :∀k,0<k→k<n→(k - 1) / 2=i→hat xs j≤hat xs k) (hlt:hat xs j<hat xs i):Zdl (swp xs i j) n j:=by
  have hi:i<xs.length:=by omega
  have hij:i≠j:=by omega
  have H:=fun k=>Zdf hi (show j<xs.length by omega) k
  refine ⟨fun k hk0 hk hne=>?_,fun k hk0 hk hpar _=>?_⟩
  · rw [H,H,if_neg hne]
    by_cases e1:k=j
    · subst e1;rw [if_pos hpj,if_pos rfl];omega
    · rw [if_neg e1]
      by_cases e2:(k - 1) / 2=i
      · rw [if_pos e2,if_neg (by omega)];exact hmin k hk0 hk e2
      · rw [if_neg e2]
        by_cases e3:k=i
        · rw [if_pos e3];subst e3;exact h.2 j hj0 hj hpj hk0
        · rw [if_neg e3];exact h.1 k hk0 hk e2
  · rw [H,H,hpj,if_neg hij,if_pos rfl,if_neg (by omega),if_neg (by omega)]
    have:=h.1 k hk0 hk (by omega)
    rwa [hpar] at this
theorem ZrI (k:Nat):Int.tdiv ((k:Int) - 1) 2=(((k - 1) / 2:Nat):Int):=by
  cases k with
  | zero=>rfl
  | succ k=>rw [show ((k+1:Nat):Int) - 1=(k:Int) from by omega,Int.tdiv_eq_ediv_of_nonneg (by omega)];simp
theorem Zl6 {xs:List Int} {z:Int} {k:Nat} (h:k<xs.length):hat (xs ++ [z]) k=hat xs k:=by
  simp [hat,List.getD,List.getElem?_append_left h]
theorem Zni {xs:List Int} {z:Int} (h:Zb3 xs):Zd2 (xs ++ [z]) xs.length:=by
  refine ⟨fun k h0 hk hne=>?_,fun k h0 hk hp _=>?_⟩
  · rw [List.length_append,List.length_singleton] at hk
    rw [Zl6 (by omega),Zl6 (by omega)]
    exact h k h0 (by omega)
  · rw [List.length_append,List.length_singleton] at hk
    omega
theorem Zo9 {xs:List Int} (h:Zb3 xs) (h0:0<xs.length):Zdl (swp xs 0 (xs.length - 1)) (xs.length - 1) 0:=by
  refine ⟨fun k hk0 hk hne=>?_,fun k hk0 hk hpar hh=>absurd hh (by omega)⟩
  rw [Zdf h0 (by omega),Zdf h0 (by omega),if_neg (by omega),if_neg (by omega),if_neg (by omega),if_neg (by omega)]
  exact h k hk0 (by omega)
theorem Znc {xs:List Int} (h0:0<xs.length):hat (swp xs 0 (xs.length - 1)) (xs.length - 1)=hat xs 0:=by rw [Zdf h0 (by omega),if_pos rfl]
theorem ZjN {xs:List Int} {n k:Nat} (h:k<n):hat (xs.take n) k=hat xs k:=by simp [hat,List.getD,List.getElem?_take,h]
theorem Zkw {ys:List Int} {n:Nat} (h:Zoh ys n) (hn:n≤ys.length):Zb3 (ys.take n):=fun k h0 hk=>by
  rw [List.length_take] at hk
  rw [ZjN (by omega),ZjN (by omega)]
  exact h k h0 (by omega)
theorem Znl {xs ys:List Int} (h0:0<ys.length) (hp:ys.Perm xs) {z:Int} (hz:hat ys (ys.length - 1)=z):(z :: ys.take (ys.length - 1)).Perm xs:=by
  refine List.Perm.trans ?_ hp
  have e:ys=ys.take (ys.length - 1) ++ [z]:=by
    have h1:=Zd8 (Zaj (xs:=ys) (k:=ys.length - 1) (by omega))
    rw [show ys.length - 1+1=ys.length from by omega,List.take_length] at h1
    rw [hz] at h1;exact h1
  have h2:(z :: ys.take (ys.length - 1)).Perm (ys.take (ys.length - 1) ++ [z]):=(List.perm_append_singleton z _).symm
  rwa [← e] at h2
theorem ZnI:Zb3 []:=fun k h0 hk=>by simp at hk
def asc:Int→Int→List Int→Bool
  | _,_,[]=>true
  | b,l,x :: r=>decide (b<x) && decide (x≤l) && asc x l r
theorem ZmK :∀{r:List Int} {b l z:Int},asc b l r=true→z∈r→b<z
  | [],_,_,_,_,hz=>by cases hz
  | x :: r,b,l,z,h,hz=>by
    simp only [asc,Bool.and_eq_true,decide_eq_true_eq] at h
    rcases List.mem_cons.1 hz with rfl | hz
    · exact h.1.1
    · have:=ZmK h.2 hz;omega
theorem Zpx {xs:List Int} {k:Nat} (h:k<xs.length):hat xs k∈xs:=List.mem_of_getElem? (Zaj h)
theorem Zn7 {b l x:Int} {r ys:List Int} (hp:ys.Perm (x :: r)) (hh:Zb3 ys) (hne:hat ys 0≠x):false=asc b l (x :: r):=by
  symm;rw [Bool.eq_false_iff]
  intro h
  have h0:0<ys.length:=by rw [hp.length_eq];simp
  have hm:=hp.mem_iff.1 (Zpx h0)
  simp only [asc,Bool.and_eq_true,decide_eq_true_eq] at h
  rcases List.mem_cons.1 hm with e | hm
  · exact hne e
  · have h1:=ZmK h.2 hm
    obtain ⟨k,hk⟩:=List.mem_iff_getElem?.1 (hp.mem_iff.2 (List.mem_cons_self (a:=x) (l:=r)))
    have h2:=ZnJ hh k (List.getElem?_eq_some_iff.1 hk).1
    rw [Zpy hk] at h2
    omega
theorem Zn6 {b l x:Int} {r:List Int} (h:x≤b):false=asc b l (x :: r):=by simp [asc,show ¬ b<x from by omega]
theorem Zn5 {b l x:Int} {r:List Int} (h:l<x):false=asc b l (x :: r):=by simp [asc,show ¬ x≤l from by omega]
theorem Zrc {b l x:Int} {r:List Int} (h : ¬ x≤b) (h2 : ¬ l<x):asc b l (x :: r)=asc x l r:=by simp [asc,show b<x from by omega,show x≤l from by omega]
theorem ZjA :∀{xs:List DItem} {b:Int} {l:Int},l≤99→(match Zcq b xs with | some r=>decide (r≤l) | none=>false)=(decide (b≤l) && xs.all Zel && asc b l (xs.map (·.id)))
  | [],b,l,_=>by simp [Zcq,asc]
  | x :: xs,b,l,hl=>by
    have ih:=ZjA (xs:=xs) (b:=x.id) hl
    rw [Zcq,List.map_cons,List.all_cons,asc]
    by_cases h1:b+1≤x.id
    · by_cases h2:Zel x=true
      · by_cases h3:x.id≤99
        · rw [if_pos ⟨⟨h1,h3⟩,h2⟩,ih,h2]
          by_cases h4:x.id≤l
          · simp [h4,show b≤l from by omega,show b<x.id from by omega]
          · simp [h4]
        · rw [if_neg (fun h=>h3 h.1.2)]
          simp [show ¬ x.id≤l from by omega]
      · rw [if_neg (fun h=>h2 h.2)]
        simp [h2]
    · rw [if_neg (fun h=>h1 h.1.1)]
      simp [show ¬ b<x.id from by omega]
theorem ZfB (q:DQueue):Zav q=(decide (q.items.length≤6) && decide (1≤q.next) && decide (q.next≤100) && q.items.all Zel && asc 0 (q.next - 1) (q.items.map (·.id))):=by
  by_cases h:q.next≤100
  · have:=ZjA (xs:=q.items) (b:=0) (l:=q.next - 1) (by omega)
    unfold Zav
    cases hs:Zcq 0 q.items with
    | none=>
      rw [hs] at this
      simp only at this
      rw [Bool.eq_iff_iff]
      simp only [Bool.and_eq_true,decide_eq_true_eq,Bool.false_eq_true,false_iff]
      rintro ⟨⟨⟨⟨_,h1⟩,_⟩,h2⟩,h3⟩
      rw [h2,h3] at this
      simp at this;omega
    | some r=>
      rw [hs] at this
      simp only at this
      rw [Bool.eq_iff_iff] at this ⊢
      simp only [Bool.and_eq_true,decide_eq_true_eq] at this ⊢
      constructor
      · rintro ⟨⟨h1,h2⟩,h3⟩
        obtain ⟨⟨a,b⟩,c⟩:=this.1 (by omega)
        exact ⟨⟨⟨⟨h3,by omega⟩,h⟩,b⟩,c⟩
      · rintro ⟨⟨⟨⟨h1,h2⟩,h3⟩,h4⟩,h5⟩
        have:=this.2 ⟨⟨by omega,h4⟩,h5⟩
        omega
  · unfold Zav
    cases Zcq 0 q.items <;> simp [h]
theorem Zrf {α:Type} {p:α→Bool} {l:List α} {k:Nat} {x:α} (hx:l[k]? = some x) (h:p x=false):l.all p=false:=by
  rw [Bool.eq_false_iff];intro hp
  rw [List.all_eq_true] at hp
  have:=hp x (List.mem_of_getElem? hx)
  rw [h] at this;cases this
theorem Zre {α:Type} {p:α→Bool} {l:List α} {k:Nat} {x:α} (hx:l[k]? = some x) (h:p x=true) (ha:(l.take k).all p=true):(l.take (k+1)).all p=true:=by
  rw [Zd8 hx,List.all_append,ha];simp [h]
theorem ZiL {q:DQueue} {k:Nat} {x:DItem} (hx:q.items[k]? = some x) (h:Zel x=false):false=Zav q:=by
  rw [ZfB,Zrf hx h];simp
theorem ZiK {q:DQueue} {k:Nat} (hk : ¬ (k:Int)<q.items.length) (ha:(q.items.take k).all Zel=true) (h6:q.items.length≤6) (h1:1≤q.next) (h2:q.next≤100):asc 0 (q.next - 1) (q.items.map (·.id))=Zav q:=by
  rw [List.take_of_length_le (by omega)] at ha
  rw [ZfB,ha];simp [h6,h1,h2]
structure QLf where
  p:Option Addr
  ys:List DItem
  xs:List DItem
  cells:Cells
structure QN where
  k:Nat
  a:Option Addr
  c:Nat
end Go.BL
namespace Go.BL
open Go
set_option linter.unusedVariables false
set_option linter.unusedSimpArgs false
def ZbJ (m:DMail):Bool:=(decide (1≤m.uid) && decide (m.uid≤99)) && (decide (0≤m.flags) && decide (m.flags≤31)) && decide (m.text.length≤20)
def scn {α β:Type} (p:β→α→Bool) (nx:β→α→β) (b0:β) (xs:List α):Bool × β:=xs.foldl (fun s x=>(s.1 && p s.2 x,nx s.2 x)) (true,b0)
theorem ZdS {α β:Type} {p:β→α→Bool} {nx:β→α→β} {b0:β} {xs:List α} : scn p nx b0 (xs.take 0)=(true,b0):=by simp [scn]
theorem Zjy {α β:Type} {p:β→α→Bool} {nx:β→α→β} {b0:β} {xs:List α} {k:Nat} {x:α} (hx:xs[k]? = some x):scn p nx b0 (xs.take (k+1))=((scn p nx b0 (xs.take k)).1 && p (scn p nx b0 (xs.take k)).2 x,nx (scn p nx b0 (xs.take k)).2 x):=by
  have:xs.take (k+1)=xs.take k ++ [x]:=by rw [List.take_add_one,hx];rfl
  rw [this,scn,List.foldl_append];rfl
theorem ZbV {α β:Type} {p:β→α→Bool} {nx:β→α→β} :∀(xs:List α) (b:β),(xs.foldl (fun (s:Bool × β) x=>(s.1 && p s.2 x,nx s.2 x)) (false,b)).1=false
  | [],_=>rfl
  | x :: xs,b=>by simp only [List.foldl_cons,Bool.false_and];exact ZbV xs _
theorem Zo5 {α β:Type} {p:β→α→Bool} {nx:β→α→β} {b0:β} {xs:List α} {k:Nat} (h:(scn p nx b0 (xs.take k)).1=false):(scn p nx b0 xs).1=false:=by
  have e:xs=xs.take k ++ xs.drop k:=(List.take_append_drop k xs).symm
  have:scn p nx b0 xs=(xs.drop k).foldl (fun s x=>(s.1 && p s.2 x,nx s.2 x)) (scn p nx b0 (xs.take k)):=by
    conv=>lhs;rw [e,scn,List.foldl_append]
    rfl
  rw [this]
  rcases hs:scn p nx b0 (xs.take k) with ⟨b,c⟩
  rw [hs] at h
  simp only at h
  subst h
  exact ZbV _ _
theorem ZdT {α β:Type} {p:β→α→Bool} {nx:β→α→β} {b0:β} {xs:List α} {k:Nat} {x:α} (hx:xs[k]? = some x) (h:p (scn p nx b0 (xs.take k)).2 x=false):(scn p nx b0 xs).1=false:=
  Zo5 (k:=k+1) (by rw [Zjy hx,h,Bool.and_false])
theorem Zbv {α β:Type} {p:β→α→Bool} {nx:β→α→β} {b0 b:β} {xs:List α} {k:Nat} {x:α} (hx:xs[k]? = some x) (hs:scn p nx b0 (xs.take k)=(true,b)) (h:p b x=true):scn p nx b0 (xs.take (k+1))=(true,nx b x):=by
  rw [Zjy hx,hs];simp [h]
theorem ZcQ {α β:Type} {p:β→α→Bool} {nx:β→α→β} {b0 b:β} {xs:List α} {k:Nat} (hs:scn p nx b0 (xs.take k)=(true,b)) (hk:xs.length≤k):scn p nx b0 xs=(true,b):=by
  rwa [List.take_of_length_le hk] at hs
def ZdW (b:Int) (m:DMail):Bool:=ZbJ m && decide (b<m.uid)
def ZcV (ms:List DMail):Bool × Int:=scn ZdW (fun _ m=>m.uid) 0 ms
def ZeL (b:DBox):Bool:=(ZcV b.mail).1 && (decide ((ZcV b.mail).2+1≤b.next) && decide (b.next≤100)) && decide (b.mail.length≤10)
def ZaY (ms:List DMail):Nat:=(ms.map (·.text.length)).sum
theorem Zfy {ms:List DMail} {k:Nat} {x:DMail} (hx:ms[k]? = some x):ZaY (ms.take (k+1))=ZaY (ms.take k)+x.text.length:=by
  have:ms.take (k+1)=ms.take k ++ [x]:=by rw [List.take_add_one,hx];rfl
  simp [ZaY,this]
theorem Zer {b:DBox} (h:(ZcV b.mail).1=false):ZeL b=false:=by simp [ZeL,h]
theorem Zeq {b:DBox} {l:Int} (h:ZcV b.mail=(true,l)):ZeL b=((decide (l+1≤b.next) && decide (b.next≤100)) && decide (b.mail.length≤10)):=by simp [ZeL,h]
theorem ZgF {m:DMail} (h:ZbJ m=true):0≤m.uid∧m.uid≤99:=by
  simp only [ZbJ,Bool.and_eq_true,decide_eq_true_eq] at h;omega
theorem Zgz {ms:List DMail} {k n:Nat} (h:n=ZaY (ms.take k)) (hk:ms.length≤k):n=ZaY ms:=by rwa [List.take_of_length_le hk] at h
def Zci (b:DBox):Int:=if ZeL b then (ZaY b.mail:Int) else -1
def anyone:Str:=[97,110,121,111,110,101]
def ZbI (u:DUser):Bool:=Z4 u.name && decide (u.name≠anyone) && Z4 u.pass && (decide (0≤u.quota) && decide (u.quota≤200))
theorem ZaS :∀(a b:Str),Op.bytesLess a b = !(Op.bytesLess b a || decide (b=a))
  | [],[]=>by simp [Op.bytesLess]
  | [],_ :: _=>by simp [Op.bytesLess]
  | _ :: _,[]=>by simp [Op.bytesLess]
  | a :: x,b :: y=>by
    have ih:=ZaS x y
    simp only [Op.bytesLess,ih]
    rcases UInt8.lt_or_lt_of_ne (a:=a) (b:=b) with h
    by_cases e:a=b
    · subst e
      have : ¬ a<a:=UInt8.lt_irrefl a
      simp [this,ih]
    · rcases h e with h | h
      · have h2 : ¬ b<a:=UInt8.lt_asymm h
        simp [h,h2,e,Ne.symm e]
      · have h2 : ¬ a<b:=UInt8.lt_asymm h
        simp [h,h2,e]
def Zc6 (b:Str) (u:DUser):Bool:=ZbI u && Op.bytesLess b u.name
def ZcK (us:List DUser):Bool × Str:=scn Zc6 (fun _ u=>u.name) [] us
def Zaa (us:List DUser):Bool:=(ZcK us).1 && (decide (1≤us.length) && decide (us.length≤4))
theorem ZdM {us:List DUser} (h:(ZcK us).1=false):Zaa us=false:=by simp [Zaa,h]
theorem Zfu {us:List DUser} {b:Str} (h:ZcK us=(true,b)):Zaa us=(decide (1≤us.length) && decide (us.length≤4)):=by simp [Zaa,h]
def ZlC:DUser:=⟨[],[],0⟩
def Ze9 (t:DUser→Bool) (us:List DUser):DUser × Bool:=match us.find? t with | some x=>(x,true) | none=>(ZlC,false)
theorem Zia {α:Type} {t:α→Bool} {xs:List α} (h :∀y,y∈xs→t y=false):xs.find? t=none:=List.find?_eq_none.2 fun y hy=>by simp [h y hy]
theorem ZnS {α:Type} {t:α→Bool} {xs:List α} {k:Nat} {x:α} (hx:xs[k]? = some x) (ht:t x=true) (h :∀y,y∈xs.take k→t y=false):xs.find? t=some x:=by
  have hlt:=(List.getElem?_eq_some_iff.1 hx).1
  have e:xs=xs.take k ++ (x :: xs.drop (k+1)):=by
    rw [← (List.getElem?_eq_some_iff.1 hx).2,← List.drop_eq_getElem_cons hlt,List.take_append_drop]
  rw [e,List.find?_append,Zia h];simp [ht]
theorem Zmk {t:DUser→Bool} {us:List DUser} {k:Nat} {x:DUser} (hx:us[k]? = some x) (ht:t x=true) (h :∀y,y∈us.take k→t y=false):Ze9 t us=(x,true):=by simp [Ze9,ZnS hx ht h]
theorem ZkA {t:DUser→Bool} {us:List DUser} (h :∀y,y∈us→t y=false):Ze9 t us=(ZlC,false):=by simp [Ze9,Zia h]
theorem ZgZ {B:Kn} {b:Nat} {T:TypeId} {vs:List Value} (h :∀p,p∈ZaJ b vs T→B.mem p.1=some p.2):Zak B b 0 vs:=fun L j u hu=>
  ⟨rfl,vs.toArray,T,(0,0),.inl (h (b,.cells vs.toArray T) (List.mem_singleton.2 rfl)),by simpa using hu⟩
def Zae (us:List DUser) (n:Str):DUser × Bool:=if Zaa us then Ze9 (fun y=>decide (y.name=n)) us else (ZlC,false)
def inF (o n:Str) (f:DFolder):Bool:=decide (f.owner=o) && decide (f.name=n)
def ZbN (us:List DUser) (x:DItem):Bool:=(Zae us x.fr).2 && x.left.all fun n=>(Zae us n).2
theorem Zcc {α:Type} {p:α→Bool} {xs:List α} {k:Nat} {x:α} (hx:xs[k]? = some x) (h:p x=false):xs.all p=false:=by
  rw [List.all_eq_false];exact ⟨x,List.mem_of_getElem? hx,by simp [h]⟩
theorem Zdx {α:Type} {p:α→Bool} {xs:List α} (h :∀y,y∈xs→p y=true):xs.all p=true:=List.all_eq_true.2 h
def Zei (a b:DFolder):Bool:=Op.bytesLess a.owner b.owner || (decide (a.owner=b.owner) && Op.bytesLess a.name b.name)
theorem Zca (a:Str):Op.bytesLess a a=false:=by
  have:=ZaS a a
  cases h:Op.bytesLess a a with
  | false=>rfl
  | true=>rw [h] at this;simp at this
end Go.BL
namespace Go.BL
open Go
set_option linter.unusedVariables false
set_option linter.unusedSimpArgs false
inductive Prev {α β:Type} (f:α→β) (z:β) (xs:List α):Nat→β→Prop
  | zero:Prev f z xs 0 z
  | succ {k:Nat} {x:α} : xs[k]? = some x→Prev f z xs (k+1) (f x)
theorem Prev.at {α β:Type} {f:α→β} {z:β} {xs:List α} {k:Nat} {b:β} {y:α} (h:Prev f z xs k b) (hy:xs[((k:Int) - 1).toNat]? = some y) (hk:0<(k:Int)):b=f y:=by
  cases h with
  | zero=>omega
  | succ hx=>
    rename_i k x
    rw [show (((k+1:Nat):Int) - 1).toNat=k from by omega,hx] at hy
    cases hy;rfl
theorem Prev.at0 {α β:Type} {f:α→β} {z:β} {xs:List α} {k:Nat} {b:β} (h:Prev f z xs k b) (hk:(k:Int)≤0):b=z:=by
  cases h with
  | zero=>rfl
  | succ hx=>omega
theorem ZgX {α β:Type} {p:β→α→Bool} {nx:β→α→β} {b0 b:β} {xs:List α} {k:Nat} {x:α} (hx:xs[k]? = some x) (hs:scn p nx b0 (xs.take k)=(true,b)) (h:p b x=false):(scn p nx b0 xs).1=false:=
  ZdT hx (by rw [congrArg Prod.snd hs];exact h)
theorem ZbT {us:List DUser} {k:Nat} {x:DUser} {nm:Str} (hx:us[k]? = some x) (hs:ZcK (us.take k)=(true,nm)) (h:Zc6 nm x=false):Zaa us=false:=
  ZdM (ZgX hx hs h)
theorem ZjI {s:Str} (h:0<s.length):Op.bytesLess [] s=true:=by
  cases s with
  | nil=>cases h
  | cons a s=>rfl
theorem ZgD {s:Str} (h:Z4 s=true):0<s.length:=by
  cases s with
  | nil=>simp [Z4] at h
  | cons a s=>simp
def Zbb (b:Str) (g:DGrant):Bool:=Z4 g.user && (decide (1≤g.rights) && decide (g.rights≤63)) && Op.bytesLess b g.user
def ZbA (gs:List DGrant):Bool × Str:=scn Zbb (fun _ g=>g.user) [] gs
def Zb4 (gs:List DGrant):Bool:=(ZbA gs).1 && decide (gs.length≤4)
theorem Zb2 {gs:List DGrant} {k:Nat} {x:DGrant} {nm:Str} (hx:gs[k]? = some x) (hs:ZbA (gs.take k)=(true,nm)) (h:Zbb nm x=false):Zb4 gs=false:=by
  rw [Zb4,show (ZbA gs).1=false from ZgX hx hs h,Bool.false_and]
theorem Zil {gs:List DGrant} {b:Str} (h:ZbA gs=(true,b)):Zb4 gs=decide (gs.length≤4):=by rw [Zb4,h,Bool.true_and]
def DFolder.box (f:DFolder):DBox:=⟨f.next,f.mail⟩
def inbox:Str:=[105,110,98,111,120]
def Z1 (us:List DUser) (f:DFolder):Bool:=decide (0≤Zfj us f.owner) && Z4 f.name && Zb4 f.grants && ZeL f.box
def ZaN (us:List DUser) (b:Option DFolder) (f:DFolder):Bool:=Z1 us f && (match b with | none=>true | some y=>Zei y f)
def ZbR (us:List DUser) (fs:List DFolder):Bool × Option DFolder:=scn (ZaN us) (fun _ f=>some f) none fs
def Zbj (us:List DUser) (fs:List DFolder):Bool:=(ZbR us fs).1 && decide (fs.length≤8)
theorem Zbi {us:List DUser} {fs:List DFolder} {k:Nat} {x:DFolder} {b:Option DFolder} (hx:fs[k]? = some x) (hs:ZbR us (fs.take k)=(true,b)) (h:ZaN us b x=false):Zbj us fs=false:=by
  rw [Zbj,show (ZbR us fs).1=false from ZgX hx hs h,Bool.false_and]
theorem Zhf {us:List DUser} {fs:List DFolder} {b:Option DFolder} (h:ZbR us fs=(true,b)):Zbj us fs=decide (fs.length≤8):=by rw [Zbj,h,Bool.true_and]
def Zd7 (fs:List DFolder) (u:Str):Nat:=(fs.map fun f=>if f.owner=u then ZaY f.mail else 0).sum
theorem Zgw {fs:List DFolder} {u:Str} {k:Nat} {x:DFolder} (hx:fs[k]? = some x):Zd7 (fs.take (k+1)) u=Zd7 (fs.take k) u+if x.owner=u then ZaY x.mail else 0:=by
  have:fs.take (k+1)=fs.take k ++ [x]:=by rw [List.take_add_one,hx];rfl
  simp [Zd7,this]
theorem Zk4 {fs:List DFolder} {u:Str} {k n:Nat} (h:n=Zd7 (fs.take k) u) (hk:fs.length≤k):n=Zd7 fs u:=by rwa [List.take_of_length_le hk] at h
def ZhY (us:List DUser) (ns:List Str):Bool:=ns.all fun n=>decide (0≤Zfj us n)
def ZaF (fs:List DFolder) (u:DUser):Bool:=decide (0≤Zcl (inF u.name inbox) fs) && decide ((Zd7 fs u.name:Int)≤u.quota)
def Zan (us:List DUser) (x:DItem):Bool:=decide (0≤Zfj us x.fr) && ZhY us x.left
def Zac (h:DHost):Bool:=ZbF h.domain && Zaa h.users && Zav h.queue && Zbj h.users h.folders && h.users.all (ZaF h.folders) && h.queue.items.all (Zan h.users)
theorem Zam {B:Kn} {q:Option Addr} {cp:Nat} {ms:List DMail} (h:SlK B q cp 3 ZaP ms):ZaY ms≤4000000000000:=by
  have h1 :∀m,m∈ms→m.text.length≤2000000:=fun m hm=>by
    obtain ⟨i,hi⟩:=List.mem_iff_getElem?.1 hm
    obtain ⟨b,o,row,_,h2,_⟩:=h.rows i m hi
    exact h2.2
  have h2 :∀l:List DMail,(∀m,m∈l→m.text.length≤2000000)→ZaY l≤l.length*2000000:=by
    intro l
    induction l with
    | nil=>intro _;simp [ZaY]
    | cons m l ih=>
      intro hl
      have:=ih fun y hy=>hl y (List.mem_cons_of_mem _ hy)
      have:=hl m (List.mem_cons_self ..)
      simp only [ZaY,List.map_cons,List.sum_cons,List.length_cons] at *
      omega
  have:=h2 ms h1
  have:=h.len
  omega
theorem ZfM {h:DHost} {k:Nat} {u:DUser} (hu:h.users[k]? = some u) (hf:ZaF h.folders u=false):Zac h=false:=by
  rw [Zac,Zcc hu hf,Bool.and_false,Bool.false_and]
theorem ZfN {h:DHost} {k:Nat} {y:DItem} (hy:h.queue.items[k]? = some y) (hf:Zan h.users y=false):Zac h=false:=by
  rw [Zac,Zcc hy hf,Bool.and_false]
theorem Zks {h:DHost} (h1:ZbF h.domain=true) (h2:Zaa h.users=true) (h3:Zav h.queue=true) (h4:Zbj h.users h.folders=true) (h5:h.users.all (ZaF h.folders)=true) (h6:h.queue.items.all (Zan h.users)=true):Zac h=true:=by
  rw [Zac,h1,h2,h3,h4,h5,h6];rfl
theorem ZhB {fs:List DFolder} {u:DUser} (h:Zcl (inF u.name inbox) fs<0):ZaF fs u=false:=by
  rw [ZaF,decide_eq_false (by omega),Bool.false_and]
theorem ZhA {fs:List DFolder} {u:DUser} (h:u.quota<Zd7 fs u.name):ZaF fs u=false:=by
  rw [ZaF,decide_eq_false (p:=(Zd7 fs u.name:Int)≤u.quota) (by omega),Bool.and_false]
theorem Zhz {fs:List DFolder} {u:DUser} (h:0≤Zcl (inF u.name inbox) fs) (h':(Zd7 fs u.name:Int)≤u.quota):ZaF fs u=true:=by
  rw [ZaF,decide_eq_true h,decide_eq_true h'];rfl
theorem Zha {us:List DUser} {x:DItem} (h:Zfj us x.fr<0):Zan us x=false:=by rw [Zan,decide_eq_false (by omega),Bool.false_and]
theorem Zg9 {us:List DUser} {x:DItem} (h:ZhY us x.left=false):Zan us x=false:=by rw [Zan,h,Bool.and_false]
theorem Zg8 {us:List DUser} {x:DItem} (h:0≤Zfj us x.fr) (h':ZhY us x.left=true):Zan us x=true:=by rw [Zan,decide_eq_true h,h'];rfl
theorem Zdp :∀{a b c:Str},Op.bytesLess a b=true→Op.bytesLess b c=true→Op.bytesLess a c=true
  | [],[],_,h,_=>by simp [Op.bytesLess] at h
  | _ :: _,[],_,h,_=>by simp [Op.bytesLess] at h
  | _,_ :: _,[],_,h=>by simp [Op.bytesLess] at h
  | [],_ :: _,_ :: _,_,_=>by simp [Op.bytesLess]
  | a :: x,b :: y,c :: z,h,h'=>by
    simp only [Op.bytesLess,Bool.or_eq_true,decide_eq_true_eq,Bool.and_eq_true,beq_iff_eq] at h h' ⊢
    rcases h with h | ⟨rfl,h⟩
    · rcases h' with h' | ⟨rfl,h'⟩
      · exact .inl (UInt8.lt_trans h h')
      · exact .inl h
    · rcases h' with h' | ⟨rfl,h'⟩
      · exact .inl h'
      · exact .inr ⟨rfl,Zdp h h'⟩
def Zdc (gs:List DGrant):List (Str × Int):=gs.map fun g=>(g.user,g.rights)
theorem Ze3 :∀(xs:List DGrant) (b0 b:Str),xs.foldl (fun s x=>(s.1 && Zbb s.2 x,x.user)) (true,b0)=(true,b)→(∀y,y∈xs→y.user=b∨Op.bytesLess y.user b=true)∧(b=b0∨Op.bytesLess b0 b=true)
  | [],b0,b,h=>by
    cases h;exact ⟨by simp,.inl rfl⟩
  | x :: xs,b0,b,h=>by
    simp only [List.foldl_cons,Bool.true_and] at h
    cases hp:Zbb b0 x with
    | false=>
      rw [hp] at h
      have:=ZbV (p:=Zbb) (nx:=fun _ g=>g.user) xs x.user
      rw [h] at this;cases this
    | true=>
      rw [hp] at h
      obtain ⟨h1,h2⟩:=Ze3 xs x.user b h
      have hl:Op.bytesLess b0 x.user=true:=by
        simp only [Zbb,Bool.and_eq_true] at hp;exact hp.2
      refine ⟨fun y hy=>?_,.inr ?_⟩
      · rcases List.mem_cons.1 hy with rfl | hy
        · rcases h2 with h2 | h2
          · exact .inl h2.symm
          · exact .inr h2
        · exact h1 y hy
      · rcases h2 with rfl | h2
        · exact hl
        · exact Zdp hl h2
theorem Znx {kvs:List (Str × Int)} {k:Str} {v:Int} (h:k ∉ kvs.map (·.1)):mput kvs k v=kvs ++ [(k,v)]:=by
  induction kvs with
  | nil=>rfl
  | cons p r ih=>
    simp only [List.map_cons,List.mem_cons,not_or] at h
    simp only [mput,if_neg h.1,ih h.2,List.cons_append]
theorem Zps {gs:List DGrant} {k:Nat} {m:DGrant} {nm:Str} (hm:gs[k]? = some m) (hs:ZbA (gs.take k)=(true,nm)) (hl:Op.bytesLess nm m.user=true):mput (Zdc (gs.take k)) m.user m.rights=Zdc (gs.take (k+1)):=by
  have h1:=(Ze3 _ _ _ hs).1
  rw [Znx]
  · rw [Zdc,Zdc,List.take_add_one,hm];simp
  · intro hc
    simp only [Zdc,List.map_map,List.mem_map,Function.comp] at hc
    obtain ⟨y,hy,e⟩:=hc
    rcases h1 y hy with h | h
    · rw [← e,h,Zca] at hl;cases hl
    · rw [e] at h
      have:=Zdp hl h
      rw [Zca] at this;cases this
def Zji (gs:List DGrant) (B:Kn):Value→Kn→List Cells→Prop:=fun v B' Ls=>∃m l,v = .tuple #[.map m,.bool (Zb4 gs)]∧Ls=[l]∧B'=B∧(Zb4 gs=true→∃b,m=some b∧Zp1 l b (Zdc gs))
theorem Zf3 {P:PJ} {S:Env} {B:Kn} {L:List Cells} {rs:List ResultVar} {gs:List DGrant} (e:Exit) (he:e = .ret∨e = .normal) (vs:List Value) (hr:Zc1 P S B L rs vs) (h:Zb4 gs=false) (hv:Zcs vs = .tuple #[.map none,.bool false]:=by rfl):Zgn P rs (Zji gs B) e S [] B L:=
  Ztb e he vs hr ⟨none,[],by rw [hv,h],rfl,rfl,fun hc=>by rw [h] at hc;cases hc⟩
theorem ZpP {P:PJ} {S:Env} {B:Kn} {L:List Cells} {rs:List ResultVar} {gs:List DGrant} (e:Exit) (he:e = .ret∨e = .normal) (vs:List Value) {b:Nat} {l:Cells} {r:List Cells} (hp:ZaX L [0]=some ([l],r)) (hr:Zc1 P S B L rs vs) (h:Zb4 gs=true) (hm:Zp1 l b (Zdc gs)) (hv:Zcs vs = .tuple #[.map (some b),.bool true]:=by rfl):Zgn P rs (Zji gs B) e S [] B L:=
  ZeK e he vs [0] hp hr ⟨some b,l,by rw [hv,h],rfl,rfl,fun _=>⟨b,rfl,hm⟩⟩
def Zq7 (f:DFolder) (ow nm:Str):Int:=if Lib.compareBytes f.owner ow≠0 then Lib.compareBytes f.owner ow else Lib.compareBytes f.name nm
theorem Zif (f g:DFolder):0≤Zq7 f g.owner g.name↔Zei f g=false:=by
  have h1:=Zjc f.owner g.owner
  have h2:=Zjc f.name g.name
  unfold Zq7 Zei
  by_cases e:f.owner=g.owner
  · have e0:=h1.2.2 e
    have e1:Op.bytesLess f.owner g.owner=false:=by rw [e];exact Zca _
    rw [if_neg (fun h=>h e0),e1,decide_eq_true e,Bool.true_and,Bool.false_or,Bool.eq_false_iff,ne_eq,← h2.1];omega
  · have e0:Lib.compareBytes f.owner g.owner≠0:=fun h=>e (h1.2.1 h)
    rw [if_pos e0,decide_eq_false e,Bool.false_and,Bool.or_false,Bool.eq_false_iff,ne_eq,← h1.1];omega
def ZdN (fs:List DFolder) (u:Str):Int:=(fs.map fun f=>if f.owner=u then Zci ⟨f.next,f.mail⟩ else 0).sum
theorem Zgv {fs:List DFolder} {u:Str} {k:Nat} {x:DFolder} (hx:fs[k]? = some x):ZdN (fs.take (k+1)) u=ZdN (fs.take k) u+if x.owner=u then Zci ⟨x.next,x.mail⟩ else 0:=by
  have:fs.take (k+1)=fs.take k ++ [x]:=by rw [List.take_add_one,hx];rfl
  simp [ZdN,this]
theorem Zk3 {fs:List DFolder} {u:Str} {k:Nat} {n:Int} (h:n=ZdN (fs.take k) u) (hk:fs.length≤k):n=ZdN fs u:=by rwa [List.take_of_length_le hk] at h
theorem ZjJ :∀(xs:List DMail) (b0 b:Int),xs.foldl (fun s x=>(s.1 && ZdW s.2 x,x.uid)) (true,b0)=(true,b)→∀y,y∈xs→ZbJ y=true
  | [],_,_,_,_,h=>by cases h
  | x :: xs,b0,b,h,y,hy=>by
    simp only [List.foldl_cons,Bool.true_and] at h
    cases hp:ZdW b0 x with
    | false=>
      rw [hp] at h
      have:=ZbV (p:=ZdW) (nx:=fun _ m=>m.uid) xs x.uid
      rw [h] at this;cases this
    | true=>
      rw [hp] at h
      rcases List.mem_cons.1 hy with rfl | hy
      · simp only [ZdW,Bool.and_eq_true] at hp;exact hp.1
      · exact ZjJ xs x.uid b h y hy
theorem Zje {b:DBox} (h:ZeL b=true):(∀y,y∈b.mail→ZbJ y=true)∧b.mail.length≤10:=by
  simp only [ZeL,Bool.and_eq_true,decide_eq_true_eq] at h
  exact ⟨ZjJ b.mail 0 (ZcV b.mail).2 (Prod.ext h.1.1 rfl),h.2⟩
theorem Zfz :∀l:List DMail,(∀m,m∈l→ZbJ m=true)→ZaY l≤l.length*20
  | [],_=>by simp [ZaY]
  | m :: l,h=>by
    have h1:=Zfz l fun y hy=>h y (List.mem_cons_of_mem _ hy)
    have h2:=h m (List.mem_cons_self ..)
    simp only [ZbJ,Bool.and_eq_true,decide_eq_true_eq] at h2
    simp only [ZaY,List.map_cons,List.sum_cons,List.length_cons] at *
    omega
theorem ZgR (b:DBox) : -1≤Zci b∧Zci b≤200:=by
  unfold Zci
  split
  · rename_i h
    obtain ⟨h1,h2⟩:=Zje h
    have:=Zfz _ h1
    omega
  · omega
theorem Zm2 (fs:List DFolder) (u:Str) : -1*fs.length≤ZdN fs u∧ZdN fs u≤fs.length*200:=by
  induction fs with
  | nil=>simp [ZdN]
  | cons f fs ih=>
    have:=ZgR ⟨f.next,f.mail⟩
    simp only [ZdN,List.map_cons,List.sum_cons,List.length_cons] at *
    split <;> omega
def ZcZ (x:DHost) (u:Str) (more:Int):Bool:=!(Zae x.users u).2 || decide ((Zae x.users u).1.quota<ZdN x.folders u+more)
def Zbu (x:DHost) (w:DUser):Bool:=decide (0≤Zcl (inF w.name inbox) x.folders) && !ZcZ x w.name 0
theorem ZhE {x:DHost} {w:DUser} (h:Zcl (inF w.name inbox) x.folders<0):Zbu x w=false:=by rw [Zbu,decide_eq_false (by omega),Bool.false_and]
theorem ZhD {x:DHost} {w:DUser} (h:ZcZ x w.name 0=true):Zbu x w=false:=by rw [Zbu,h];simp
theorem ZhC {x:DHost} {w:DUser} (h:0≤Zcl (inF w.name inbox) x.folders) (h':ZcZ x w.name 0=false):Zbu x w=true:=by rw [Zbu,h',decide_eq_true h];rfl
def Zfv (x:DHost):Bool:=x.users.all (Zbu x)
def Zjj:Rel Bool:=fun _ row x=>row=[.bool x]
theorem Zjj.mono:Mono Zjj:=fun _ _ _ h=>h
theorem Zjj.one {B:Kn} :∀row y,Zjj B row y→row.all Zgg=true∧row.length=1:=by rintro _ y rfl;exact ⟨rfl,rfl⟩
def Zag (us:List DUser) (f:DFolder):Bool:=(Zae us f.owner).2 && Z4 f.name && Zb4 f.grants && ZeL f.box
theorem Zfe (C i:Nat):(some (ptr (Addr.add ⟨C,0,none⟩ ((i:Int).toNat*1))):Option Value)=some (ptr ⟨C,i,none⟩):=by
  rw [Addr.add_off _ _ rfl];simp
def ZmR (x:DHost) (i:Nat):Value:=.bool (match x.folders[i]? with | some m=>Zag x.users m | none=>false)
theorem Zjr {x:DHost} {i:Nat} {m:DFolder} (h:x.folders[i]? = some m):ZmR x i = .bool (Zag x.users m):=by simp [ZmR,h]
theorem Zk2 {B:Kn} {x:DHost} {C:Nat} {T:TypeId} (hm :∀p,p∈[(C,Obj.cells ((List.range x.folders.length).map (ZmR x)).toArray T (0,0))]→B.mem p.1=some p.2) (hl:x.folders.length≤2000000):SlK B (some ⟨C,0,none⟩) (x.folders.map (Zag x.users)).length 1 Zjj (x.folders.map (Zag x.users)):=by
  refine ⟨fun i y hy=>⟨C,0,[.bool y],rfl,rfl,fun j u hu=>?_⟩,by simp,by simpa using hl⟩
  have hj:j=0:=by
    cases j with
    | zero=>rfl
    | succ j=>simp at hu
  subst hj
  simp only [List.getElem?_cons_zero,Option.some.injEq] at hu
  subst hu
  rw [List.getElem?_map] at hy
  obtain ⟨m,hm',rfl⟩:=Option.map_eq_some_iff.1 hy
  have hi:i<x.folders.length:=(List.getElem?_eq_some_iff.1 hm').1
  refine ⟨rfl,_,T,(0,0),.inl (hm _ (List.mem_singleton.2 rfl)),?_⟩
  simp only [Nat.mul_one,Nat.zero_add,Nat.add_zero,List.getElem?_toArray,List.getElem?_map,List.getElem?_range hi,Option.map_some,Zjr hm']
theorem Zhm {us:List DUser} {fs:List DFolder} : (!decide (0≤Zcl (fun y=>decide (false=y)) (fs.map (Zag us))))=fs.all (Zag us):=by
  by_cases h :∀f,f∈fs→Zag us f=true
  · rw [List.all_eq_true.2 h,Zde (fun y hy=>by
      obtain ⟨f,hf,rfl⟩:=List.mem_map.1 hy
      simp [h f hf])]
    rfl
  · have h2:fs.all (Zag us)=false:=by
      rw [Bool.eq_false_iff,ne_eq,List.all_eq_true];exact h
    rw [h2]
    have h3 :∃k,(fs.map (Zag us)).findIdx? (fun y=>decide (false=y))=some k:=by
      cases hk:(fs.map (Zag us)).findIdx? (fun y=>decide (false=y)) with
      | some k=>exact ⟨k,rfl⟩
      | none=>
        exfalso;apply h
        intro f hf
        have:=List.findIdx?_eq_none_iff.1 hk (Zag us f) (List.mem_map_of_mem hf)
        cases hq:Zag us f with
        | true=>rfl
        | false=>rw [hq] at this;simp at this
    obtain ⟨k,hk⟩:=h3
    have e:Zcl (fun y=>decide (false=y)) (fs.map (Zag us))=(k:Int):=by unfold Zcl;rw [hk]
    rw [e];simp
def ZjG:List DFolder→Bool
  | []=>true
  | [_]=>true
  | a :: b :: r=>Zei a b && ZjG (b :: r)
def ZbZ (x:DHost):Bool:=ZbF x.domain && Zaa x.users && Zav x.queue && decide (x.folders.length≤8) && ZjG x.folders && (x.folders.all (Zag x.users) && Zfv x && x.queue.items.all (ZbN x.users))
def Zof (fs:List DFolder) (k:Nat):Prop:=∀i a b,i<k→fs[i]? = some a→fs[i+1]? = some b→Zei a b=true
theorem Zkg {fs:List DFolder} : Zof fs 0:=fun i a b h=>by omega
theorem Zkh {fs:List DFolder} {k:Nat} {x y:DFolder} (h:Zof fs k) (hx:fs[k]? = some x) (hy:fs[k+1]? = some y) (hl:Zei x y=true):Zof fs (k+1):=fun i a b hi ha hb=>by
  rcases Nat.lt_or_ge i k with h' | h'
  · exact h i a b h' ha hb
  · obtain rfl:i=k:=by omega
    rw [hx] at ha;rw [hy] at hb
    cases ha;cases hb;exact hl
theorem Zg0 :∀(fs:List DFolder),ZjG fs=true↔∀i a b,fs[i]? = some a→fs[i+1]? = some b→Zei a b=true
  | []=>by simp [ZjG]
  | [_]=>by simp [ZjG]
  | x :: y :: r=>by
    rw [ZjG,Bool.and_eq_true,Zg0 (y :: r)]
    constructor
    · rintro ⟨h1,h2⟩ i a b ha hb
      cases i with
      | zero=>simp at ha hb;rw [← ha,← hb];exact h1
      | succ i=>exact h2 i a b (by simpa using ha) (by simpa using hb)
    · intro h
      exact ⟨h 0 x y rfl rfl,fun i a b ha hb=>h (i+1) a b (by simpa using ha) (by simpa using hb)⟩
theorem Znp {fs:List DFolder} {k:Nat} {x y:DFolder} (hx:fs[k]? = some x) (hy:fs[k+1]? = some y) (hl:Zei x y=false):ZjG fs=false:=by
  rw [Bool.eq_false_iff,ne_eq,Zg0]
  intro h
  have:=h k x y hx hy
  rw [hl] at this;cases this
theorem Zno {fs:List DFolder} (h :∀i a b,i<fs.length - 1→fs[i]? = some a→fs[i+1]? = some b→Zei a b=true):ZjG fs=true:=
  (Zg0 fs).2 fun i a b ha hb=>h i a b (by have:=(List.getElem?_eq_some_iff.1 hb).1;omega) ha hb
theorem ZdU {α:Type} {p:Str→α→Bool} {f:α→Str} (hp :∀b x,p b x=true→Op.bytesLess b (f x)=true) :∀(xs:List α) (b0 b:Str),xs.foldl (fun s x=>(s.1 && p s.2 x,f x)) (true,b0)=(true,b)→(∀y,y∈xs→Op.bytesLess b0 (f y)=true)∧xs.Pairwise (fun x y=>Op.bytesLess (f x) (f y)=true)
  | [],_,_,_=>⟨by simp,.nil⟩
  | x :: xs,b0,b,h=>by
    simp only [List.foldl_cons,Bool.true_and] at h
    cases hq:p b0 x with
    | false=>
      rw [hq] at h
      have:=ZbV (p:=p) (nx:=fun _ g=>f g) xs (f x)
      rw [h] at this;cases this
    | true=>
      rw [hq] at h
      obtain ⟨h1,h2⟩:=ZdU hp xs (f x) b h
      refine ⟨fun y hy=>?_,.cons h1 h2⟩
      rcases List.mem_cons.1 hy with rfl | hy
      · exact hp _ _ hq
      · exact Zdp (hp _ _ hq) (h1 y hy)
theorem Zgj {us:List DUser} (h:Zaa us=true):us.Pairwise fun x y=>Op.bytesLess x.name y.name=true:=by
  simp only [Zaa,Bool.and_eq_true] at h
  exact (ZdU (p:=Zc6) (f:=fun u=>u.name) (fun b x hq=>by simp only [Zc6,Bool.and_eq_true] at hq;exact hq.2) us [] (ZcK us).2 (Prod.ext h.1 rfl)).2
theorem ZfL {us:List DUser} {u:Str} : 0≤Zfj us u↔∃x,x∈us∧x.name=u:=by
  unfold Zfj
  cases h:us.findIdx? (fun x=>decide (x.name=u)) with
  | none=>
    have:=List.findIdx?_eq_none_iff.1 h
    simp only [decide_eq_false_iff_not] at this
    exact ⟨fun hc=>absurd hc (by simp only [];omega),fun ⟨x,hx,e⟩=>absurd e (this x hx)⟩
  | some i=>
    rw [List.findIdx?_eq_some_iff_getElem] at h
    obtain ⟨hi,h1,_⟩:=h
    exact ⟨fun _=>⟨us[i],List.getElem_mem hi,by simpa using h1⟩,fun _=>by simp only [];omega⟩
theorem Zmj {us:List DUser} {t:DUser→Bool} : (Ze9 t us).2=true↔∃x,x∈us∧t x=true:=by
  unfold Ze9
  cases h:us.find? t with
  | none=>simp only [Bool.false_eq_true,false_iff];rintro ⟨x,hx,e⟩;have:=List.find?_eq_none.1 h x hx;exact this e
  | some x=>simp only [true_iff];exact ⟨x,List.mem_of_find?_eq_some h,List.find?_some h⟩
theorem Zb7 {us:List DUser} (h:Zaa us=true) (n:Str):(Zae us n).2=decide (0≤Zfj us n):=by
  rw [Zae,if_pos h,Bool.eq_iff_iff,Zmj,decide_eq_true_eq,ZfL];simp
theorem Zf1 :∀{us:List DUser},us.Pairwise (fun x y=>Op.bytesLess x.name y.name=true)→∀w,w∈us→us.find? (fun y=>decide (y.name=w.name))=some w
  | [],_,w,h=>by cases h
  | x :: us,hp,w,h=>by
    cases hp with
    | cons h1 h2=>
      rw [List.find?_cons]
      rcases List.mem_cons.1 h with rfl | h
      · simp
      · have hne:x.name≠w.name:=fun e=>by
          have:=h1 w h
          rw [e,Zca] at this;cases this
        simp only [hne,decide_false]
        exact Zf1 h2 w h
theorem ZgU {us:List DUser} (h:Zaa us=true) {w:DUser} (hw:w∈us):Zae us w.name=(w,true):=by
  rw [Zae,if_pos h,Ze9,Zf1 (Zgj h) w hw]
theorem Zkz {us:List DUser} (h:Zaa us=true) (f:DFolder):Zag us f=Z1 us f:=by
  rw [Zag,Z1,Zb7 h]
theorem Zc3 {us:List DUser} :∀(fs:List DFolder) (b0:Option DFolder),(fs.foldl (fun s x=>(s.1 && ZaN us s.2 x,some x)) (true,b0)).1=(fs.all (Z1 us) && ZjG ((match b0 with | none=>[] | some y=>[y]) ++ fs))
  | [],none=>rfl
  | [],some y=>rfl
  | x :: fs,b0=>by
    simp only [List.foldl_cons,Bool.true_and]
    have hstep:(fs.foldl (fun (s:Bool × Option DFolder) x=>(s.1 && ZaN us s.2 x,some x)) (ZaN us b0 x,some x)).1=(ZaN us b0 x && (fs.all (Z1 us) && ZjG (x :: fs))):=by
      cases hq:ZaN us b0 x with
      | false=>rw [Bool.false_and];exact ZbV (p:=ZaN us) (nx:=fun _ f=>some f) fs (some x)
      | true=>rw [Bool.true_and];exact Zc3 fs (some x)
    rw [hstep]
    cases b0 with
    | none=>
      simp only [ZaN,Bool.and_true,List.all_cons,List.nil_append]
      cases Z1 us x <;> simp
    | some y=>
      simp only [ZaN,List.all_cons,List.cons_append,List.nil_append,ZjG]
      cases Z1 us x <;> cases Zei y x <;> simp
theorem Zdg {us:List DUser} {fs:List DFolder} : Zbj us fs=(fs.all (Z1 us) && ZjG fs && decide (fs.length≤8)):=by
  rw [Zbj,show (ZbR us fs).1=_ from Zc3 fs none];rfl
theorem Zjs {us:List DUser} {u:Str} :∀{fs:List DFolder},fs.all (Z1 us)=true→ZdN fs u=(Zd7 fs u:Int)
  | [],_=>rfl
  | f :: fs,h=>by
    simp only [List.all_cons,Bool.and_eq_true] at h
    have ih:=Zjs (u:=u) h.2
    have hb:ZeL ⟨f.next,f.mail⟩=true:=by
      have:=h.1;simp only [Z1,Bool.and_eq_true] at this;exact this.2
    simp only [ZdN,Zd7,List.map_cons,List.sum_cons] at ih ⊢
    rw [ih]
    by_cases he:f.owner=u
    · simp [he,Zci,hb]
    · simp [he]
theorem Ziw {x:DHost} (hu:Zaa x.users=true) (hf:x.folders.all (Z1 x.users)=true) {w:DUser} (hw:w∈x.users):Zbu x w=ZaF x.folders w:=by
  rw [Zbu,ZaF,ZcZ,ZgU hu hw,Zjs hf]
  simp only [Bool.not_true,Bool.false_or,Int.add_zero]
  congr 1
  rw [Bool.eq_iff_iff];simp
theorem ZiW {us:List DUser} (h:Zaa us=true) (y:DItem):ZbN us y=Zan us y:=by
  rw [ZbN,Zan,Zb7 h,ZhY]
  simp only [Zb7 h]
theorem ZmM {α:Type} {p q:α→Bool} {xs:List α} (h :∀x,x∈xs→p x=q x):xs.all p=xs.all q:=by
  rw [Bool.eq_iff_iff,List.all_eq_true,List.all_eq_true]
  exact ⟨fun a x hx=>h x hx ▸ a x hx,fun a x hx=>(h x hx).symm ▸ a x hx⟩
theorem Zkt (x:DHost):ZbZ x=Zac x:=by
  cases hu:Zaa x.users with
  | false=>simp [ZbZ,Zac,hu]
  | true=>
    have e1:x.folders.all (Zag x.users)=x.folders.all (Z1 x.users):=ZmM fun f _=>Zkz hu f
    have e2:x.queue.items.all (ZbN x.users)=x.queue.items.all (Zan x.users):=ZmM fun y _=>ZiW hu y
    rw [ZbZ,Zac,hu,e1,e2,Zdg]
    cases hf:x.folders.all (Z1 x.users) with
    | false=>simp
    | true=>
      have e3:Zfv x=x.users.all (ZaF x.folders):=ZmM fun w hw=>Ziw hu hf hw
      rw [e3]
      cases ZbF x.domain <;> cases Zav x.queue <;> cases ZjG x.folders <;> cases decide (x.folders.length≤8) <;> simp
end Go.BL
namespace Go.BL
open Go
set_option linter.unusedVariables false
set_option linter.unusedSimpArgs false
theorem Ze1 {x:DHost} (h:Zac x=true):Zaa x.users=true:=by
  simp only [Zac,Bool.and_eq_true] at h;exact h.1.1.1.1.2
theorem Zi2 {x:DHost} (h:Zac x=true) (n:Str):(Zae x.users n).2=decide (0≤Zfj x.users n):=Zb7 (Ze1 h) n
structure DSess where
  user:Str
  owner:Str
  name:Str
deriving DecidableEq
end Go.BL
namespace Go.BL
open Go
set_option linter.unusedVariables false
set_option linter.unusedSimpArgs false
theorem ZiH {α β:Type} {p:β→α→Bool} {nx:β→α→β} :∀(xs:List α) (b:β),(xs.foldl (fun (s:Bool × β) x=>(s.1 && p s.2 x,nx s.2 x)) (true,b)).1=true→∀x,x∈xs→∃b',p b' x=true
  | [],_,_,x,hx=>by cases hx
  | x :: xs,b,h,y,hy=>by
    simp only [List.foldl_cons,Bool.true_and] at h
    cases hq:p b x with
    | false=>
      rw [hq] at h
      have:=ZbV (p:=p) (nx:=nx) xs (nx b x)
      rw [this] at h;cases h
    | true=>
      rw [hq] at h
      rcases List.mem_cons.1 hy with rfl | hy
      · exact ⟨b,hq⟩
      · exact ZiH xs _ h y hy
theorem Zhw {us:List DUser} (h:Zaa us=true) {u:DUser} (hu:u∈us):ZbI u=true:=by
  simp only [Zaa,Bool.and_eq_true] at h
  obtain ⟨b,hb⟩:=ZiH (p:=Zc6) (nx:=fun _ u=>u.name) us [] h.1 u hu
  simp only [Zc6,Bool.and_eq_true] at hb;exact hb.1
theorem ZiZ {α:Type} (p:α→Bool) (xs:List α):Zcl p xs<xs.length∧Zcl p xs ≥ -1:=by
  unfold Zcl
  cases hf:xs.findIdx? p with
  | none=>simp only [];omega
  | some i=>
    rw [List.findIdx?_eq_some_iff_getElem] at hf
    obtain ⟨hi,_⟩:=hf
    simp only [];omega
end Go.BL
namespace Go.BL
open Go
set_option linter.unusedVariables false
set_option linter.unusedSimpArgs false
end Go.BL
namespace Go.BL
open Go
set_option linter.unusedVariables false
set_option linter.unusedSimpArgs false
def Zbl (k:Nat):Int:=([1,2,4,8,16,32]:List Int).getD k 0
theorem ZmJ {k:Nat} (h:k<6):(k=0∧Zbl k=1)∨(k=1∧Zbl k=2)∨(k=2∧Zbl k=4)∨(k=3∧Zbl k=8)∨(k=4∧Zbl k=16)∨(k=5∧Zbl k=32):=by
  have:k=0∨k=1∨k=2∨k=3∨k=4∨k=5:=by omega
  rcases this with rfl | rfl | rfl | rfl | rfl | rfl <;> simp [Zbl]
theorem ZmI {k:Nat} (h:k<6):0<Zbl k∧Zbl k≤32:=by rcases ZmJ h with h | h | h | h | h | h <;> omega
theorem Zfn {α:Type} {p:α→Bool} {xs:List α} {k:Nat} {x:α} (hx:xs[k]? = some x):(xs.take (k+1)).any p=((xs.take k).any p || p x):=by
  rw [Zd8 hx,List.any_append];simp
theorem ZpY {α:Type} {p:α→Bool} {xs:List α} {k:Nat} {b:Bool} (h:b=(xs.take k).any p) (hk:xs.length≤k):b=xs.any p:=by rwa [List.take_of_length_le hk] at h
def onB (u:Str) (b:Int) (g:DGrant):Bool:=(decide (g.user=u) || decide (g.user=anyone)) && decide (Int.tmod (Int.tdiv g.rights b) 2=1)
def ZdF (gs:List DGrant) (u:Str):Nat→Int
  | 0=>0
  | k+1=>if gs.any (onB u (Zbl k))=true then ZdF gs u k+Zbl k else ZdF gs u k
theorem Zgb (gs:List DGrant) (u:Str) :∀k,k≤6→0≤ZdF gs u k∧ZdF gs u k≤100*k
  | 0,_=>by simp [ZdF]
  | k+1,h=>by
    have:=Zgb gs u k (by omega)
    have:=ZmI (k:=k) (by omega)
    simp only [ZdF]
    split <;> omega
def ZaH (gs:List DGrant) (u:Str):Int:=ZdF gs u 6
def ZkP (f:DFolder) (u:Str) (r:Int):Bool:=decide (u=f.owner) || decide (Int.tmod (Int.tdiv (ZaH f.grants u) r) 2=1)
def ZkO (us:List DUser) (fs:List DFolder) (u:Str) (k:Int) (r:Int):Int:=
  if Zfj us u<0∨k<0 then 1 else match fs[k.toNat]? with
    | none=>1
    | some f=>if ZkP f u 1=false then 1 else if ZkP f u r=false then 2 else 0
theorem Zhk {us:List DUser} {fs:List DFolder} {u:Str} {k r:Int} (h:Zfj us u<0∨k<0):ZkO us fs u k r=1:=by rw [ZkO,if_pos h]
theorem ZmD {us:List DUser} {fs:List DFolder} {u:Str} {k r:Int} {f:DFolder} (h : ¬ (Zfj us u<0∨k<0)) (hf:fs[k.toNat]? = some f):ZkO us fs u k r=if ZkP f u 1=false then 1 else if ZkP f u r=false then 2 else 0:=by
  rw [ZkO,if_neg h,hf]
structure DEvent where
  kind:Int
  by_:Str
  owner:Str
  name:Str
  to_:Str
  text:Str
  a:Int
  b:Int
deriving DecidableEq
end Go.BL
namespace Go.BL
open Go
set_option linter.unusedVariables false
set_option linter.unusedSimpArgs false
theorem ZeF {x:DHost} : Zac x=true↔(ZbF x.domain=true∧Zaa x.users=true∧Zav x.queue=true)∧((∀f,f∈x.folders→Z1 x.users f=true)∧ZjG x.folders=true∧x.folders.length≤8)∧(∀u,u∈x.users→ZaF x.folders u=true)∧(∀y,y∈x.queue.items→Zan x.users y=true):=by
  simp only [Zac,Zdg,Bool.and_eq_true,decide_eq_true_eq,List.all_eq_true]
  constructor
  · rintro ⟨⟨⟨⟨⟨h1,h2⟩,h3⟩,⟨h4,h5⟩,h6⟩,h7⟩,h8⟩
    exact ⟨⟨h1,h2,h3⟩,⟨h4,h5,h6⟩,h7,h8⟩
  · rintro ⟨⟨h1,h2,h3⟩,⟨h4,h5,h6⟩,h7,h8⟩
    exact ⟨⟨⟨⟨⟨h1,h2⟩,h3⟩,⟨h4,h5⟩,h6⟩,h7⟩,h8⟩
theorem Zpz {α:Type} {fs:List α} {k i:Nat} {y g:α} (h:(fs.set k y)[i]? = some g):(i=k∧g=y∧k<fs.length)∨(i≠k∧fs[i]? = some g):=by
  have hi:=(List.getElem?_eq_some_iff.1 h).1
  rw [List.length_set] at hi
  rw [List.getElem?_set] at h
  split at h
  · rename_i e
    subst e
    simp [hi] at h
    exact .inl ⟨rfl,h.symm,hi⟩
  · rename_i e
    exact .inr ⟨fun e'=>e e'.symm,h⟩
def Like (ms ms':List DMail):Prop:=ms'.length=ms.length∧∀(i:Nat) (a b:DMail),ms[i]? = some a→ms'[i]? = some b→b.uid=a.uid∧b.text=a.text∧(b.flags=a.flags∨(0≤b.flags∧b.flags≤31))
theorem Like.refl (ms:List DMail):Like ms ms:=⟨rfl,fun i a b h1 h2=>by rw [h1] at h2;cases h2;exact ⟨rfl,rfl,.inl rfl⟩⟩
theorem Like.set {ms acc:List DMail} {k:Nat} {a:DMail} {fl:Int} (h:Like ms acc) (ha:acc[k]? = some a) (hf:0≤fl∧fl≤31):Like ms (acc.set k ⟨a.uid,fl,a.text⟩):=by
  refine ⟨by rw [List.length_set];exact h.1,fun i c d hc hd=>?_⟩
  rcases Zpz hd with ⟨rfl,rfl,_⟩ | ⟨_,hd⟩
  · have:=h.2 _ _ _ hc ha
    exact ⟨this.1,this.2.1,.inr hf⟩
  · exact h.2 _ _ _ hc hd
end Go.BL
namespace Go.BL
open Go
set_option linter.unusedVariables false
set_option linter.unusedSimpArgs false
theorem Znk {k:Nat} {e:Int} (h:([1,2,4,8,16,32]:List Int)[k]? = some e):e=Zbl k:=by rw [Zbl,List.getD_eq_getElem?_getD,h];rfl
theorem Zlx {a b:Int} (h0:0≤a) (h1:a≤1000000) (hb:0<b):IntKind.i64.wrap (Int.tdiv a b)=Int.tdiv a b:=
  ZbE (Int.le_trans (by decide) (Int.tdiv_nonneg h0 (by omega))) (Int.le_trans (Int.tdiv_le_self _ h0) (by omega))
theorem Zdk {gs:List DGrant} (h:Zb4 gs=true) :∀y,y∈gs→0≤y.rights∧y.rights≤63:=by
  intro y hy
  simp only [Zb4,Bool.and_eq_true] at h
  obtain ⟨b,hb⟩:=ZiH (p:=Zbb) (nx:=fun _ g=>g.user) gs [] h.1 y hy
  simp only [Zbb,Bool.and_eq_true,decide_eq_true_eq] at hb;omega
def Zhp (fs:List DFolder):Prop:=∀f,f∈fs→∀y,y∈f.grants→0≤y.rights∧y.rights≤63
theorem Zhc {x:DHost} (h:Zac x=true):Zhp x.folders:=fun f hf=>by
  have:=(ZeF.1 h).2.1.1 f hf
  simp only [Z1,Bool.and_eq_true] at this
  exact Zdk this.1.2
theorem ZiI (gs:List DGrant) (u:Str):0≤ZaH gs u∧ZaH gs u≤600:=Zgb gs u 6 (Nat.le_refl _)
structure GHC where
  q1:Option Addr
  c1:Nat
  q3:Option Addr
  c3:Nat
  b:Nat
structure GEx where
  k:Nat
  m:Gh DMail
  n:Gh Int
structure GCp where
  k:Nat
  x:DHost
  c:Int
  q1:Option Addr
  c1:Nat
  q2:Option Addr
  c2:Nat
  q3:Option Addr
  c3:Nat
structure GHo where
  k:Nat
  p:Nat
  x:DHost
  q1:Option Addr
  c1:Nat
  q2:Option Addr
  c2:Nat
  q3:Option Addr
  c3:Nat
structure GBo where
  k:Nat
  p:Nat
  l:Cells
  a:Option Addr
  c:Nat
  x:DBox
structure GAc where
  k:Nat
  p:Nat
  l:Cells
  a:Option Addr
  c:Nat
  xs:List DGrant
end Go.BL
namespace Go.BL
open Go
set_option linter.unusedVariables false
set_option linter.unusedSimpArgs false
def Zho (gs:List DGrant) (o u:Str):Int:=
  if ¬ (Zb4 gs=true∧Z4 o=true∧Z4 u=true) then -1 else if u=o then 63 else orI ((mget (Zdc gs) u).getD 0) ((mget (Zdc gs) anyone).getD 0)
theorem Zhn {gs:List DGrant} {o u:Str} (h : ¬ (Zb4 gs=true∧Z4 o=true∧Z4 u=true)):Zho gs o u = -1:=by rw [Zho,if_pos h]
theorem Zob {gs:List DGrant} {o u:Str} (h1:Zb4 gs=true) (h2:Z4 o=true) (h3:Z4 u=true):Zho gs o u=if u=o then 63 else orI ((mget (Zdc gs) u).getD 0) ((mget (Zdc gs) anyone).getD 0):=by rw [Zho,if_neg (fun h=>h ⟨h1,h2,h3⟩)]
def ZlM (us:List DUser) (f:DFolder) (u:Str) (r:Int):Bool:=(Zae us u).2 && (decide (0≤Zho f.grants f.owner u) && !decide (Zrd (Zho f.grants f.owner u) r=0))
theorem ZkJ {gs:List DGrant} (h:Zb4 gs=true):gs.Pairwise fun x y=>Op.bytesLess x.user y.user=true:=by
  simp only [Zb4,Bool.and_eq_true] at h
  exact (ZdU (p:=Zbb) (f:=fun u=>u.user) (fun b x hq=>by simp only [Zbb,Bool.and_eq_true] at hq;exact hq.2) gs [] (ZbA gs).2 (Prod.ext h.1 rfl)).2
def Zgc (r b:Int):Bool:=decide (Int.tmod (Int.tdiv r b) 2=1)
theorem Zg4 (u:Str) (b:Int) (h0:Zgc 0 b=false) :∀{gs:List DGrant},gs.Pairwise (fun x y=>Op.bytesLess x.user y.user=true)→(gs.any fun g=>decide (g.user=u) && Zgc g.rights b)=Zgc ((mget (Zdc gs) u).getD 0) b
  | [],_=>by simp [Zdc,mget,h0]
  | g :: gs,hp=>by
    obtain ⟨h1,h2⟩:=List.pairwise_cons.1 hp
    have ih:=Zg4 u b h0 h2
    simp only [Zdc,List.map_cons,mget,List.any_cons] at ih ⊢
    by_cases hu:u=g.user
    · subst hu
      have hn:(gs.any fun x=>decide (x.user=g.user) && Zgc x.rights b)=false:=by
        rw [List.any_eq_false]
        intro x hx hc
        simp only [Bool.and_eq_true,decide_eq_true_eq] at hc
        have:=h1 x hx
        rw [hc.1,Zca] at this;cases this
      simp [hn]
    · rw [if_neg hu,decide_eq_false (Ne.symm hu),← ih];simp
theorem ZiO (u:Str) :∀{gs:List DGrant},(∀y,y∈gs→0≤y.rights∧y.rights≤63)→0≤(mget (Zdc gs) u).getD 0∧(mget (Zdc gs) u).getD 0≤63
  | [],_=>by simp [Zdc,mget]
  | g :: gs,h=>by
    have ih:=ZiO u (gs:=gs) fun y hy=>h y (List.mem_cons_of_mem _ hy)
    simp only [Zdc,List.map_cons,mget] at ih ⊢
    by_cases hu:u=g.user
    · rw [if_pos hu];exact h g (List.mem_cons_self ..)
    · rw [if_neg hu];exact ih
theorem ZqH :∀a,a<64→∀b,b<64→0≤orI (a:Nat) (b:Nat)∧orI (a:Nat) (b:Nat)≤63∧(∀k,k<6→(!decide (Zrd (orI (a:Nat) (b:Nat)) (Zbl k)=0))=(Zgc (a:Nat) (Zbl k) || Zgc (b:Nat) (Zbl k)))∧(!decide (Int.tmod (orI (a:Nat) (b:Nat)) 2=0))=(Zgc (a:Nat) 1 || Zgc (b:Nat) 1)∧(!decide (Int.tmod (Int.tdiv (orI (a:Nat) (b:Nat)) 2) 2=0))=(Zgc (a:Nat) 2 || Zgc (b:Nat) 2):=by
  decide +kernel
theorem Zpd :∀k,k<6→(!decide (Zrd 63 (Zbl k)=0))=true:=by decide +kernel
def ZsT (b0 b1 b2 b3 b4 b5:Bool):Int:=
  let s0:Int:=if b0=true then 0+Zbl 0 else 0
  let s1:=if b1=true then s0+Zbl 1 else s0
  let s2:=if b2=true then s1+Zbl 2 else s1
  let s3:=if b3=true then s2+Zbl 3 else s2
  let s4:=if b4=true then s3+Zbl 4 else s3
  if b5=true then s4+Zbl 5 else s4
theorem Zn4 :∀b0 b1 b2 b3 b4 b5:Bool,∀k,k<6→Zgc (ZsT b0 b1 b2 b3 b4 b5) (Zbl k)=[b0,b1,b2,b3,b4,b5].getD k false:=by decide +kernel
theorem Zkd {gs:List DGrant} {u:Str} {k:Nat} (hk:k<6):Zgc (ZaH gs u) (Zbl k)=gs.any (onB u (Zbl k)):=by
  have e:ZaH gs u=ZsT (gs.any (onB u (Zbl 0))) (gs.any (onB u (Zbl 1))) (gs.any (onB u (Zbl 2))) (gs.any (onB u (Zbl 3))) (gs.any (onB u (Zbl 4))) (gs.any (onB u (Zbl 5))):=rfl
  rw [e,Zn4 _ _ _ _ _ _ k hk]
  have:k=0∨k=1∨k=2∨k=3∨k=4∨k=5:=by omega
  rcases this with rfl | rfl | rfl | rfl | rfl | rfl <;> rfl
theorem Zpk {gs:List DGrant} {u:Str} {b:Int} : gs.any (onB u b)=((gs.any fun g=>decide (g.user=u) && Zgc g.rights b) || (gs.any fun g=>decide (g.user=anyone) && Zgc g.rights b)):=by
  induction gs with
  | nil=>rfl
  | cons g gs ih=>
    simp only [List.any_cons,ih,onB,Zgc]
    cases decide (g.user=u) <;> cases decide (g.user=anyone) <;> cases decide (Int.tmod (Int.tdiv g.rights b) 2=1) <;> simp
theorem Zjl {k:Nat} (hk:k<6):Zgc 0 (Zbl k)=false:=by
  have:k=0∨k=1∨k=2∨k=3∨k=4∨k=5:=by omega
  rcases this with rfl | rfl | rfl | rfl | rfl | rfl <;> rfl
theorem Zlu {gs:List DGrant} {u:Str} (h:Zb4 gs=true) {k:Nat} (hk:k<6):(!decide (Zrd (orI ((mget (Zdc gs) u).getD 0) ((mget (Zdc gs) anyone).getD 0)) (Zbl k)=0))=Zgc (ZaH gs u) (Zbl k)∧0≤orI ((mget (Zdc gs) u).getD 0) ((mget (Zdc gs) anyone).getD 0)∧orI ((mget (Zdc gs) u).getD 0) ((mget (Zdc gs) anyone).getD 0)≤63∧(!decide (Int.tmod (orI ((mget (Zdc gs) u).getD 0) ((mget (Zdc gs) anyone).getD 0)) 2=0))=Zgc (ZaH gs u) 1∧(!decide (Int.tmod (Int.tdiv (orI ((mget (Zdc gs) u).getD 0) ((mget (Zdc gs) anyone).getD 0)) 2) 2=0))=Zgc (ZaH gs u) 2:=by
  obtain ⟨a0,a1⟩:=ZiO u (Zdk h)
  obtain ⟨b0,b1⟩:=ZiO anyone (Zdk h)
  have hs:=ZkJ h
  have e1 :∀k,k<6→Zgc (ZaH gs u) (Zbl k)=(Zgc ((mget (Zdc gs) u).getD 0) (Zbl k) || Zgc ((mget (Zdc gs) anyone).getD 0) (Zbl k)):=fun k hk=>by
    rw [Zkd hk,Zpk,Zg4 u _ (Zjl hk) hs,Zg4 anyone _ (Zjl hk) hs]
  generalize (mget (Zdc gs) u).getD 0=a at *
  generalize (mget (Zdc gs) anyone).getD 0=b at *
  obtain ⟨n,rfl⟩:=Int.eq_ofNat_of_zero_le a0
  obtain ⟨m,rfl⟩:=Int.eq_ofNat_of_zero_le b0
  obtain ⟨t1,t2,t3,t4,t5⟩:=ZqH n (by omega) m (by omega)
  have h0:=e1 0 (by omega)
  exact ⟨by rw [t3 k hk,e1 k hk],t1,t2,by rw [t4];exact h0.symm,by rw [t5];exact (e1 1 (by omega)).symm⟩
theorem Zhy {x:DHost} {u:Str} (h:Zac x=true) (hu:0≤Zfj x.users u):Z4 u=true:=by
  obtain ⟨w,hw,rfl⟩:=ZfL.1 hu
  have:=Zhw (Ze1 h) hw
  simp only [ZbI,Bool.and_eq_true] at this
  exact this.1.1.1
theorem Zoa {x:DHost} {f:DFolder} {u:Str} (h:Zac x=true) (hf:f∈x.folders) (hu:0≤Zfj x.users u):Zho f.grants f.owner u=if u=f.owner then 63 else orI ((mget (Zdc f.grants) u).getD 0) ((mget (Zdc f.grants) anyone).getD 0):=by
  have hi:=(ZeF.1 h).2.1.1 f hf
  simp only [Z1,Bool.and_eq_true,decide_eq_true_eq] at hi
  rw [Zho,if_neg (fun hc=>hc ⟨hi.1.2,Zhy h hi.1.1.1,Zhy h hu⟩)]
theorem Zrh {x:DHost} {f:DFolder} (h:Zac x=true) (hf:f∈x.folders):Zb4 f.grants=true:=by
  have hi:=(ZeF.1 h).2.1.1 f hf
  simp only [Z1,Bool.and_eq_true] at hi
  exact hi.1.2
theorem ZlL {x:DHost} {f:DFolder} {u:Str} {k:Nat} (h:Zac x=true) (hf:f∈x.folders) (hk:k<6):ZlM x.users f u (Zbl k)=(decide (0≤Zfj x.users u) && ZkP f u (Zbl k)):=by
  rw [ZlM,Zi2 h]
  by_cases hu:0≤Zfj x.users u
  · rw [Zoa h hf hu,ZkP]
    obtain ⟨r1,r2,r3,r4,r5⟩:=Zlu (gs:=f.grants) (u:=u) (Zrh h hf) hk
    by_cases ho:u=f.owner
    · rw [if_pos ho,decide_eq_true ho,Zpd k hk];simp
    · rw [if_neg ho,decide_eq_false ho,r1,decide_eq_true r2];simp [Zgc]
  · simp [hu]
end Go.BL
namespace Go.BL
open Go
set_option linter.unusedVariables false
set_option linter.unusedSimpArgs false
end Go.BL
namespace Go.BL
open Go
set_option linter.unusedVariables false
set_option linter.unusedSimpArgs false
end Go.BL
namespace Go.BL
open Go
set_option linter.unusedVariables false
set_option linter.unusedSimpArgs false
def Zip (us:List DUser) (fs:List DFolder) (u o n:Str) (r:Int):Nat:=
  if Zcl (inF o n) fs<0 then 1 else match fs[(Zcl (inF o n) fs).toNat]? with
    | none=>1
    | some f=>if ZlM us f u 1=false then 1 else if ZlM us f u r=false then 2 else 0
theorem ZmC {us:List DUser} {fs:List DFolder} {u o n:Str} {r:Int} (h:Zcl (inF o n) fs<0):Zip us fs u o n r=1:=by rw [Zip,if_pos h]
theorem Zhj {us:List DUser} {fs:List DFolder} {u o n:Str} {r:Int} {f:DFolder} (h : ¬ Zcl (inF o n) fs<0) (hf:fs[(Zcl (inF o n) fs).toNat]? = some f):Zip us fs u o n r=if ZlM us f u 1=false then 1 else if ZlM us f u r=false then 2 else 0:=by
  rw [Zip,if_neg h,hf]
theorem ZpV (us:List DUser) (fs:List DFolder) (u o n:Str) (r:Int):Zip us fs u o n r<3:=by
  unfold Zip
  split
  · omega
  · split
    · omega
    · split
      · omega
      · split <;> omega
theorem ZpW {x:DHost} {u o n:Str} {k:Nat} (h:Zac x=true) (hk:k<6):((Zip x.users x.folders u o n (Zbl k):Nat):Int)=ZkO x.users x.folders u (Zcl (inF o n) x.folders) (Zbl k):=by
  by_cases h0:Zcl (inF o n) x.folders<0
  · rw [ZmC h0,Zhk (.inr h0)];rfl
  · have hl:=ZiZ (inF o n) x.folders
    obtain ⟨f,hf⟩:=ZqS (xs:=x.folders) (i:=Zcl (inF o n) x.folders) (by omega) (by omega)
    have hm:=List.mem_of_getElem? hf
    rw [Zhj h0 hf]
    have e1:ZlM x.users f u 1=(decide (0≤Zfj x.users u) && ZkP f u 1):=ZlL (k:=0) h hm (by omega)
    rw [e1,ZlL h hm hk]
    by_cases hu:Zfj x.users u<0
    · rw [Zhk (.inl hu),decide_eq_false (by omega)];rfl
    · rw [ZmD (by omega) hf,decide_eq_true (by omega)]
      cases ZkP f u 1 <;> cases ZkP f u (Zbl k) <;> rfl
def Zd3 (x:DHost) (s:DSess) (o n:Str):DSess × Int:=
  if Zac x=true then (if ZkO x.users x.folders s.user (Zcl (inF o n) x.folders) 2=0 then (⟨s.user,o,n⟩,0) else (s,ZkO x.users x.folders s.user (Zcl (inF o n) x.folders) 2)) else (⟨[],[],[]⟩,5)
theorem Zjx {x:DHost} {s:DSess} {o n:Str} (h:Zac x=false):Zd3 x s o n=(⟨[],[],[]⟩,5):=by rw [Zd3,if_neg (by rw [h];exact Bool.false_ne_true)]
theorem Zlq {x:DHost} {s:DSess} {o n:Str} (h:Zac x=true) (hc:ZkO x.users x.folders s.user (Zcl (inF o n) x.folders) 2≠0):Zd3 x s o n=(s,ZkO x.users x.folders s.user (Zcl (inF o n) x.folders) 2):=by rw [Zd3,if_pos h,if_neg hc]
theorem Zjv {x:DHost} {s:DSess} {o n:Str} (h:Zac x=true) (hc:ZkO x.users x.folders s.user (Zcl (inF o n) x.folders) 2=0):Zd3 x s o n=(⟨s.user,o,n⟩,0):=by rw [Zd3,if_pos h,if_pos hc]
theorem Zn2 {x:DHost} {u o n:Str} (h:Zac x=true):((Zip x.users x.folders u o n 2:Nat):Int)=ZkO x.users x.folders u (Zcl (inF o n) x.folders) 2:=ZpW (k:=1) h (by omega)
end Go.BL
namespace Go.BL
section
variable {P:PJ} {n:Nat} {ops:Array Oper} {i:Nat} {K:Z7} {S:Env} {D:List Deferred} {B:Kn} {L:List Cells}
variable {dst:Option Tmp} {ty:TypeId} {pos:String} {after:Array Edge} {g:Option (Nat × Bool)}
end
end Go.BL
