/-
  THE WALK'S LOGIC: owned cells and known cells, goroutines started and awaited, calls, loops, data, and plain laws on lists: no program in sight.
-/
import Derived.Test.YtnfoidafdcgdbaaGreatDoorB0
set_option linter.unusedVariables false
set_option linter.unusedSimpArgs false
set_option linter.unusedSectionVars false
namespace Go.BL
open Go.Conc (G)
set_option linter.unusedVariables false
def errv (tE:TypeId) (a:Nat→Addr):Nat→Value
  | 0=>.nilIface
  | k+1=>.iface tE (.pointer (some (a k)))
structure ErrsB (tE:TypeId) (gs:List Nat) (B:Kn) (a:Nat→Addr):Prop where
  row :∀k,k<4→Za9 B (gs.getD k 0) 0 [.iface tE (.pointer (some (a k)))]
  cell :∀k,k<4→∃cs T,B.mem (a k).block=some (.cells cs T (0,0))
  ne :∀i j,i<4→j<4→i≠j→a i≠a j
theorem ErrsB.mono {tE:TypeId} {gs:List Nat} {B B':Kn} {a:Nat→Addr} (h:ErrsB tE gs B a) (hle:B.le B'):ErrsB tE gs B' a:=
  ⟨fun k hk=>(h.row k hk).mono hle,fun k hk=>let ⟨cs,T,e⟩:=h.cell k hk;⟨cs,T,hle _ _ e⟩,h.ne⟩
theorem ErrsB.perm {tE:TypeId} {gs:List Nat} {B:Kn} {a:Nat→Addr} (h:ErrsB tE gs B a) (p0 p1 p2 p3:Nat) (hp:(p0<4∧p1<4∧p2<4∧p3<4)∧p0≠p1∧p0≠p2∧p0≠p3∧p1≠p2∧p1≠p3∧p2≠p3) :
    ErrsB tE [gs.getD p0 0,gs.getD p1 0,gs.getD p2 0,gs.getD p3 0] B (fun k=>a (if k=0 then p0 else if k=1 then p1 else if k=2 then p2 else p3)):=by
  obtain ⟨⟨h0,h1,h2,h3⟩,e⟩:=hp
  refine ⟨fun k hk=>?_,fun k hk=>?_,fun i j hi hj hne=>?_⟩
  · match k,hk with
    | 0,_=>exact h.row p0 h0
    | 1,_=>exact h.row p1 h1
    | 2,_=>exact h.row p2 h2
    | 3,_=>exact h.row p3 h3
  · match k,hk with
    | 0,_=>exact h.cell p0 h0
    | 1,_=>exact h.cell p1 h1
    | 2,_=>exact h.cell p2 h2
    | 3,_=>exact h.cell p3 h3
  · refine h.ne _ _ ?_ ?_ ?_
    · split
      · omega
      · split
        · omega
        · split <;> omega
    · split
      · omega
      · split
        · omega
        · split <;> omega
    · intro he
      match i,j,hi,hj with
      | 0,0,_,_=>exact hne rfl
      | 0,1,_,_=>exact e.1 he
      | 0,2,_,_=>exact e.2.1 he
      | 0,3,_,_=>exact e.2.2.1 he
      | 1,0,_,_=>exact e.1 he.symm
      | 1,1,_,_=>exact hne rfl
      | 1,2,_,_=>exact e.2.2.2.1 he
      | 1,3,_,_=>exact e.2.2.2.2.1 he
      | 2,0,_,_=>exact e.2.1 he.symm
      | 2,1,_,_=>exact e.2.2.2.1 he.symm
      | 2,2,_,_=>exact hne rfl
      | 2,3,_,_=>exact e.2.2.2.2.2 he
      | 3,0,_,_=>exact e.2.2.1 he.symm
      | 3,1,_,_=>exact e.2.2.2.2.1 he.symm
      | 3,2,_,_=>exact e.2.2.2.2.2 he.symm
      | 3,3,_,_=>exact hne rfl
section
variable {P:Program}
theorem ZrO {a:Addr} {B:Kn} {L:Cells} {Q:Bool→Kn→Cells→Prop} (q:Q true B L):hb P (sameAddr a a) Q B L:=by
  have e:sameAddr a a=pure true:=by simp [sameAddr]
  rw [e];exact q
theorem ZgT {x:Addr} {cx:Array Value} {tx:TypeId} {B:Kn} {L:Cells} {Q:Bool→Kn→Cells→Prop} (hx:ZlD B L x.block (.cells cx tx (0,0))) (q:Q false B L):hb P (stringish x) Q B L:=by
  unfold stringish
  rw [Zo]
  refine ⟨_,hx,?_⟩
  simp only [ZbX,Zu,Zbs,Nat.not_lt_zero,decide_false,Bool.and_false,Bool.false_eq_true,if_false]
  rw [Zo]
  refine ⟨_,hx,?_⟩
  simp only [ZjD,Zu,Zbs]
  refine ⟨_,hx,?_⟩
  simp only [ZbX,Nat.not_lt_zero,decide_false,Bool.and_false]
  exact q
theorem Zk9 {x:Addr} {cx:Array Value} {tx:TypeId} {B:Kn} {L:Cells} {Q:Unit→Kn→Cells→Prop} (hx:ZlD B L x.block (.cells cx tx (0,0))) (q:Q () B L):hb P (noView x) Q B L:=by
  unfold noView viewAt
  simp only [Zo]
  refine ⟨_,hx,?_⟩
  simp only [ZjD,Option.isSome_some,if_true,Zu,Zbs]
  exact q
theorem ZrP {a b:Addr} {ca cb:Array Value} {ta tb:TypeId} {B:Kn} {L:Cells} {Q:Bool→Kn→Cells→Prop} (hne:a≠b) (ha:ZlD B L a.block (.cells ca ta (0,0))) (hb':ZlD B L b.block (.cells cb tb (0,0))) (q:Q false B L):hb P (sameAddr a b) Q B L:=by
  unfold sameAddr
  by_cases h:a.block=b.block
  · have e1:(a.block == b.block)=true:=by simpa using h
    have e2:(a == b)=false:=by simpa using hne
    simp only [e1,if_true,e2];exact q
  · have e1:(a.block == b.block)=false:=by simpa using h
    simp only [e1,Bool.false_eq_true,if_false,Zo]
    refine ⟨_,ha,?_⟩
    have f1:ZbX a.off (.cells ca ta (0,0))=false:=by simp [ZbX]
    simp only [f1,Zu,Zbs,Bool.false_eq_true,if_false,Bool.false_and,Zo]
    refine ⟨_,hb',?_⟩
    simp only [Zu,Zbs,Zo]
    refine Zk9 ha ?_
    rw [Zo]
    refine Zk9 hb' ?_
    unfold mayBeOne
    simp only [Zo]
    refine ZgT ha ?_
    rw [Zo]
    refine ZgT hb' ?_
    simp only [Zo]
    refine ⟨_,ha,?_⟩
    simp only [Zu,Zbs,Zo]
    refine ⟨_,hb',?_⟩
    simp only [Bool.false_and,Bool.or_false,Bool.false_eq_true,if_false,Zu,Zbs]
    exact q
theorem ZuO {tI tE te:TypeId} {ms:Array (String × TypeId)} {i:TypeInfo} {d:Nat} {x y:Addr} {B:Kn} {L:Cells} {Q:Bool→Kn→Cells→Prop} (hi:P.underlying tI=some (.interface ms)) (hp:P.underlying tE=some (.pointer te)) (hinfo:P.info? tE=some i) (hc:i.comparable=true) (hs:Zaa P te=some (d+1))
    (h:hb P (sameAddr x y) Q B L):hb P (Op.equal tI (.iface tE (.pointer (some x))) (.iface tE (.pointer (some y)))) Q B L:=by
  show hb P (Op.equalIn (9999+1) tI _ _) Q B L
  rw [Op.equalIn,Zo,Zx hi]
  simp only [ne_eq,not_true_eq_false,if_false,Zo,ZbP hinfo,hc,Bool.not_true,Bool.false_eq_true]
  show hb P (Op.equalIn (9998+1) tE _ _) Q B L
  rw [Op.equalIn,Zo,Zx hp]
  simp only [Zo,ZaT hs,ne_eq,Nat.add_eq_zero_iff,Nat.one_ne_zero,and_false,not_false_eq_true,if_true]
  exact h
theorem Zqh {tE:TypeId} {gs:List Nat} {B:Kn} {a:Nat→Addr} (h:ErrsB tE gs B a) {k:Nat} (hk:k<4) (L:Cells) :∃cs T,ZlD B L (a k).block (.cells cs T (0,0)):=
  let ⟨cs,T,e⟩:=h.cell k hk;⟨cs,T,.inl e⟩
theorem ZuP {tI tE te:TypeId} {ms:Array (String × TypeId)} {i:TypeInfo} {d:Nat} {c k:Nat} {gs:List Nat} {a:Nat→Addr} {B:Kn} {L:Cells} {Q:Bool→Kn→Cells→Prop} (hE:ErrsB tE gs B a) (hcb:c<5) (hkb:k<4) (hi:P.underlying tI=some (.interface ms)) (hp:P.underlying tE=some (.pointer te)) (hinfo:P.info? tE=some i) (hc:i.comparable=true) (hs:Zaa P te=some (d+1))
    (h:Q (decide (c=k+1)) B L):hb P (Op.equal tI (errv tE a c) (errv tE a (k+1))) Q B L:=by
  cases c with
  | zero=>
    show hb P (Op.equalIn (9999+1) tI .nilIface _) Q B L
    rw [Op.equalIn,Zo,Zx hi]
    simp only [errv,Zu]
    simpa using h
  | succ c=>
    refine ZuO hi hp hinfo hc hs ?_
    by_cases e:c=k
    · subst e
      exact ZrO (by simpa using h)
    · obtain ⟨cs,T,h1⟩:=Zqh hE (k:=c) (by omega) L
      obtain ⟨cs',T',h2⟩:=Zqh hE hkb L
      exact ZrP (hE.ne c k (by omega) hkb e) h1 h2 (by simpa [e] using h)
end
section
variable {P:PJ} {n:Nat} {ops:Array Oper} {i:Nat} {K:Zbi} {S:Env} {D:List Deferred} {B:Kn} {L:List Cells}
variable {dst:Option Tmp} {ty:TypeId} {pos:String} {after:Array Edge} {g:Option (Nat × Bool)}
theorem ZmN {t u:TypeId} {x:Operand} {tE:TypeId} {a:Nat→Addr} {c:Nat} {ms:Array (String × TypeId)} (hg:Zq ops S g=some true) (hd:ZB n dst=true) (hu:P.underlying t=some (.interface ms)) (hx:ev S x=some (errv tE a c)) (h:K (.bool (decide (c=0))) D B L):opX P n ops i ⟨dst,.binOp .eql t x (.const .nilIface) u,ty,pos,after,g⟩ K S D B L:=
  ZR hg hd (fun ρ hρ Q F q=>by
    have e0:ρ (.const .nilIface) = .nilIface:=hρ (.const .nilIface) _ rfl
    simp only [execOp,hρ x _ hx,e0,Zo]
    cases c with
    | zero=>
      simp only [errv,eqGuard,binOp,Bool.not_true,Bool.false_eq_true,if_false,Bool.or_true,if_true,Zu,Zo]
      show hb P (Op.equalIn (9999+1) t .nilIface .nilIface) _ B _
      rw [Op.equalIn,Zo,Zx hu]
      simp only [Zu]
      simpa using q
    | succ c=>
      simp only [errv,eqGuard,binOp,Bool.not_true,Bool.false_eq_true,if_false,Bool.or_true,if_true,Zu,Zo]
      show hb P (Op.equalIn (9999+1) t (.iface tE _) .nilIface) _ B _
      rw [Op.equalIn,Zo,Zx hu]
      simp only [Zu]
      simpa using q) h
theorem Zuf {t u:TypeId} {x:Operand} {tE:TypeId} {a:Nat→Addr} {c:Nat} {ms:Array (String × TypeId)} (hg:Zq ops S g=some true) (hd:ZB n dst=true) (hu:P.underlying t=some (.interface ms)) (hx:ev S x=some (errv tE a c)) (h:K (.bool (decide (c≠0))) D B L):opX P n ops i ⟨dst,.binOp .neq t x (.const .nilIface) u,ty,pos,after,g⟩ K S D B L:=
  ZR hg hd (fun ρ hρ Q F q=>by
    have e0:ρ (.const .nilIface) = .nilIface:=hρ (.const .nilIface) _ rfl
    simp only [execOp,hρ x _ hx,e0,Zo]
    cases c with
    | zero=>
      simp only [errv,eqGuard,binOp,Bool.not_true,Bool.false_eq_true,if_false,Bool.or_true,if_true,Zu,Zo]
      show hb P (Op.equalIn (9999+1) t .nilIface .nilIface) _ B _
      rw [Op.equalIn,Zo,Zx hu]
      simp only [Zu]
      simpa using q
    | succ c=>
      simp only [errv,eqGuard,binOp,Bool.not_true,Bool.false_eq_true,if_false,Bool.or_true,if_true,Zu,Zo]
      show hb P (Op.equalIn (9999+1) t (.iface tE _) .nilIface) _ B _
      rw [Op.equalIn,Zo,Zx hu]
      simp only [Zu]
      simpa using q) h
theorem ZoW {t u:TypeId} {x y:Operand} {tE te:TypeId} {gs:List Nat} {a:Nat→Addr} {c k:Nat} {ms:Array (String × TypeId)} (hE:ErrsB tE gs B a) (hcb:c<5) (hkb:k<4) (hg:Zq ops S g=some true) (hd:ZB n dst=true) (hu:P.underlying t=some (.interface ms)) (hp:P.underlying tE=some (.pointer te)) (hinf:(P.info? tE).map (·.comparable)=some true) (hs:Zaa P te=some 1)
    (hx:ev S x=some (errv tE a c)) (hy:ev S y=some (errv tE a (k+1))) (h:K (.bool (decide (c=k+1))) D B L):opX P n ops i ⟨dst,.binOp .eql t x y u,ty,pos,after,g⟩ K S D B L:=
  ZR hg hd (fun ρ hρ Q F q=>by
    obtain ⟨inf,hinfo,hc⟩:=Option.map_eq_some_iff.1 hinf
    have hpl:Zil (errv tE a c) (errv tE a (k+1))=true:=by cases c <;> rfl
    simp only [execOp,hρ x _ hx,hρ y _ hy,Zo,Zh7 hpl,Ziy (.inl hpl)]
    exact ZuP hE hcb hkb hu hp hinfo hc hs q) h
theorem Zht {x:Operand} {xt t asserted:TypeId} {v:Value} {want:Array (String × TypeId)} (hg:Zq ops S g=some true) (hd:ZB n dst=true) (hu:P.underlying asserted=some (.interface want)) (hl:(P.info? t).map (fun i=>(lacking want i.methods).isEmpty)=some false) (hz:ZaB P asserted=some .nilIface)
    (hx:ev S x=some (.iface t v)) (h:K (.tuple #[.nilIface,.bool false]) D B L):opX P n ops i ⟨dst,.typeAssert x xt asserted true,ty,pos,after,g⟩ K S D B L:=
  ZR hg hd (fun ρ hρ Q F q=>by
    obtain ⟨j,hj,hm⟩:=Option.map_eq_some_iff.1 hl
    obtain ⟨m,hm⟩:=missingMethod_some (want:=want) (got:=j.methods) (fun e=>by rw [e] at hm;cases hm)
    simp only [execOp,Instr.typeAssert,hρ x _ hx,Zo,Zx hu,ZbP hj,hm,if_true,ZbO hz,Zu]
    exact q) h
theorem Zuo {f:FuncId} {fn:Func} {ext:Array Value→Sem Value} {x:Operand} {ats:Array TypeId} {v r:Value} (hg:Zq ops S g=some true) (hd:ZB n dst=true) (hf:P.funcs[f]? = some fn) (hname:(fn.name == "runtime.NumGoroutine")=false) (hb0:fn.body.isNone=true) (hn:Extern.findNext fn=none) (he:Extern.find fn=some ext)
    (hx:ev S x=some v) (hr :∀(Q:Value→Kn→Cells→Prop) B L,hb P (ext #[v]) Q B L=Q r B L) (h:K r D B L):opX P n ops i ⟨dst,.call ⟨.value (.func f),#[x],ats⟩,ty,pos,after,g⟩ K S D B L:=
  ZdX hg hd fun ρ hρ F=>by
    have e0:ρ (.func f) = .func (.func f) #[] #[]:=hρ (.func f) _ rfl
    simp only [execOp,resolve,e0,Deferred.ofValue,Zo,Zu,invoke,List.map_toArray,List.map_cons,List.map_nil,hρ x _ hx]
    have e:(#[] ++ #[v]:Array Value) ++ #[] = #[v]:=by simp
    rw [e]
    simp only [callFunc,Zo,Zbz,hf,hname,Bool.false_eq_true,if_false,hb0,if_true,hn,he]
    refine ⟨rfl,?_⟩
    simp only [Zbs,Zu,Zo,hr]
    exact ⟨L,.of (.refl _),h⟩
theorem Zul {f:FuncId} {fn:Func} {ext:Array Value→Sem Value} {x:Operand} {t:TypeId} {name:String} {ats:Array TypeId} {v u r:Value} (hg:Zq ops S g=some true) (hd:ZB n dst=true) (hf:P.funcs[f]? = some fn) (hname:(fn.name == "runtime.NumGoroutine")=false) (hb0:fn.body.isNone=true) (hn:Extern.findNext fn=none) (he:Extern.find fn=some ext)
    (hx:ev S x=some (.iface t v)) (hm :∀(k:Nat) (Q:FuncId × Value→Kn→Cells→Prop) B L,hb P (method (k+1) t v name) Q B L=Q (f,u) B L) (hr :∀(Q:Value→Kn→Cells→Prop) B L,hb P (ext #[u]) Q B L=Q r B L) (h:K r D B L):opX P n ops i ⟨dst,.call ⟨.invoke x name,#[],ats⟩,ty,pos,after,g⟩ K S D B L:=
  ZdX hg hd fun ρ hρ F=>by
    have e1:(#[Value.iface t v] ++ #[])[0]? = some (.iface t v):=by simp
    have e2:(#[Value.iface t v] ++ #[]).extract 1 (#[Value.iface t v] ++ #[]).size = #[]:=by apply Array.ext';simp
    have e3 : #[u] ++ #[] = #[u]:=by simp
    simp only [execOp,resolve,hρ x _ hx,Zo,Zu,invoke,List.map_toArray,List.map_nil,e1,e2,callMethod,Zbz]
    have hpos:0<Made.depth:=by decide
    obtain ⟨d,hd'⟩ :∃d,P.types.size+Made.depth=d+1:=⟨P.types.size+Made.depth - 1,by omega⟩
    rw [hd',hm]
    simp only [e3,callFunc,Zo,Zbz,hf,hname,Bool.false_eq_true,if_false,hb0,if_true,hn,he]
    refine ⟨rfl,?_⟩
    simp only [Zbs,Zu,Zo,hr]
    exact ⟨L,.of (.refl _),h⟩
end
end Go.BL
namespace Go.BL
open Go.ChangeShapes Go.WideShapes Go.ChangeAt Go.RowKit Go.Conc
set_option linter.unusedVariables false
section
variable {H:Type} {enc:TypeId × Value→H} {P:Program}
theorem ZnB {t:TypeId} {ms:Array (String × TypeId)} (hu:P.underlying t=some (.interface ms)) {W W':World} {sp sp':Nat→Bool} {fuel:Nat} {cs:List Value} : DataW.trod enc P W 0 sp true fuel t cs=DataW.trod enc P W' 0 sp' true fuel t cs:=by
  cases fuel with
  | zero=>simp [DataW.trod]
  | succ n=>
    cases cs with
    | nil=>simp [DataW.trod,hu]
    | cons x xs=>
      cases xs with
      | nil=>cases x <;> simp [DataW.trod,hu]
      | cons y ys=>cases x <;> simp [DataW.trod,hu]
theorem Zq2 {W W':World} (hk:Kept W W') {n:String} {g:Nat} {cs:Array Value} (hg:P.globalNamed n=some g) (hlt:g<W.heap.size) (h:W.var? P n=some cs):W'.var? P n=some cs:=by
  simp only [World.var?,hg,Option.bind_some] at h ⊢
  rw [hk.1 g hlt];exact h
theorem ZkJ {W W':World} (hk:Kept W W') {sp sp':Nat→Bool} :∀{ns:List String} {gs:List (DataW H)} {ps:List MemPlace},(∀n,n∈ns→∀g t,P.globalNamed n=some g→(P.globals[g]?).map (·.type)=some t→∃ms,P.underlying t=some (.interface ms))→
    DataW.TrodVars enc P W sp ns gs ps→(∀n,n∈ns→∀g,P.globalNamed n=some g→g<W.heap.size)→DataW.TrodVars enc P W' sp' ns gs ps
  | [],[],_,_,h,_=>h
  | n :: ns,d :: ds,ps,ht,⟨g,t,cs,fuel,p,q,hg,hty,hv,hd,hr,e⟩,hlt=>by
    obtain ⟨ms,hu⟩:=ht n (List.mem_cons_self ..) g t hg hty
    exact ⟨g,t,cs,fuel,p,q,hg,hty,Zq2 hk hg (hlt n (List.mem_cons_self ..) g hg) hv,(ZnB hu).trans hd,
      ZkJ hk (fun n hn=>ht n (List.mem_cons_of_mem _ hn)) hr (fun n hn=>hlt n (List.mem_cons_of_mem _ hn)),e⟩
  | [],_ :: _,_,_,h,_=>h.elim
  | _ :: _,[],_,_,h,_=>h.elim
theorem ZoY {W:World} {sp:Nat→Bool} :∀{ns:List String} {gs:List (DataW H)} {ps:List MemPlace},DataW.TrodVars enc P W sp ns gs ps→∀n,n∈ns→∀g,P.globalNamed n=some g→g<W.heap.size
  | [],_,_,_,n,hn,_,_=>by cases hn
  | m :: ns,d :: ds,ps,⟨g,t,cs,fuel,p,q,hg,hty,hv,hd,hr,e⟩,n,hn,g',hg'=>by
    rcases List.mem_cons.1 hn with rfl | hn
    · obtain rfl:=Option.some.inj (hg.symm.trans hg')
      simp only [World.var?,hg,Option.bind_some] at hv
      rcases Nat.lt_or_ge g W.heap.size with h | h
      · exact h
      · rw [Array.getElem?_eq_none h] at hv;cases hv
    · exact ZoY hr n hn g' hg'
  | _ :: _,[],_,h,_,_,_,_=>h.elim
theorem ZmQ {W:World} {sp:Nat→Bool} :∀{ns:List String} {gs:List (DataW H)} {ps:List MemPlace},DataW.TrodVars enc P W sp ns gs ps→gs.length=ns.length
  | [],[],_,_=>rfl
  | n :: ns,d :: ds,ps,⟨g,t,cs,fuel,p,q,hg,hty,hv,hd,hr,e⟩=>by rw [List.length_cons,List.length_cons,ZmQ hr]
  | [],_ :: _,_,h=>h.elim
  | _ :: _,[],_,h=>h.elim
theorem ZpK {f:Func} {s:ChangeSpec} {apart fresh handsOn again:Bool} {W W':World} {args:Array Value} {ds gs:List (DataW H)} {before:List MemPlace} {tb:TypeId}
    (hl:laidOutB P=true) (hts:(f.params.toList.all fun t=>P.readableRec t && decide (t<P.types.size))=true) (hres:f.resultTypes.toList=[tb]) (hb:P.underlying tb=some .bool)
    (hvars :∀n,n∈s.vars→∀g t,P.globalNamed n=some g→(P.globals[g]?).map (·.type)=some t→∃ms,P.underlying t=some (.interface ms))
    (hW:DataW.Whole enc P f.params.toList s.vars apart W args.toList ds gs before) (hfn :∀ds' gs',gs'.length=s.vars.length→ds'.length=f.params.toList.length→s.fn H (ds' ++ gs') = { results:=[.lit (.bool true)],args:=ds',vars:=gs' })
    (hk:Kept W W'):s.post enc P f apart fresh handsOn again W args (.bool true) W':=by
  have hlt:=hW.lt
  have hW':=hW
  obtain ⟨p,q,hA0,hV,rfl,hfz,hnd⟩:=hW
  have hlen:=(trodAll_length hA0).2
  have hvl:gs.length=s.vars.length:=ZmQ hV
  have hf2:=hfn ds gs hvl hlen
  have hr2:f.resultTypes = #[tb]:=by apply Array.ext';rw [hres]
  refine post_of_same (pa:=p) (pv:=q) hW' (fun b sp hd=>?_) (fun sp hsp=>?_) (fun sp hsp=>?_) rfl (hk.2.frame _) hk.2.2.1 ?_
  · rw [hf2,hr2]
    exact trodAll_cons_mk (shut_bool hb _) trodAll_mk0
  · rw [hf2]
    exact ZmZ hl hk hts hA0 (fun x hx=>hlt x (List.mem_append_left _ hx)) (fun x hx=>hsp x (List.mem_append_left _ hx))
  · rw [hf2]
    exact ZkJ hk hvars hV (ZoY hV)
  · intro j t r h1 h2
    rw [hr2] at h1 h2
    cases j with
    | zero=>
      simp only [List.getElem?_toArray,List.getElem?_cons_zero,Option.some.injEq] at h1
      simp [Value.resultList] at h2
      subst h1;subst h2
      exact okWide_bool_mk hb _
    | succ j=>simp at h1
theorem ZlN {ns:List String} (h:(ns.all fun n=>match P.globalNamed n with | some g=>(match (P.globals[g]?).map (·.type) with | some t=>(match P.underlying t with | some (.interface _)=>true | _=>false) | none=>true) | none=>true)=true) :
∀n,n∈ns→∀g t,P.globalNamed n=some g→(P.globals[g]?).map (·.type)=some t→∃ms,P.underlying t=some (.interface ms):=fun n hn g t hg ht=>by
  have h1:=List.all_eq_true.1 h n hn
  simp only [hg,ht] at h1
  split at h1
  · exact ⟨_,by assumption⟩
  · cases h1
theorem Zq6 {ts:Array TypeId} (h:(ts.toList.all fun t=>!P.wantsStandIn t)=true) {j:Nat} {t:TypeId} (ht:ts[j]? = some t):P.wantsStandIn t=false:=by
  have:=List.all_eq_true.1 h t (by
    rw [← Array.getElem?_toList] at ht
    exact List.mem_of_getElem? ht)
  simpa using this
theorem ZkM {a:Assume} {C:Checked} {os:Os} {f:FuncId} {fn:Func} {s:ChangeSpec} {conds:List PathCond} {apart fresh handsOn again:Bool} {laid:List (String × DataW Unit)}
    (own:ownKnob C.prog.godebug=none) (started:os.Started) (hfn:C.prog.funcs[f]? = some fn)
    (witness :∃(w:World) (tape:Tape) (i:Input),w.os=os∧(w.forCall tape i).Shaped C.prog∧i.vars=[]∧Input.okWide C.prog (w.forCall tape i) .any w.heap.size f i∧
      ((s.pre enc C.prog fn conds apart (w.forCall tape i).memory i.args∧laidMetH C.prog laid (w.forCall tape i).memory)∧sizedMet enc C.prog fn (OpenSpec.ofChange s) apart (w.forCall tape i).memory i.args)∧a.holds C.prog (lone (Frame.enter C.prog f i.args .normal) [] (w.forCall tape i)))
    (runs :∀(W:World) (base:Nat) (args:Array Value) (ds gs:List (DataW H)) (before:List MemPlace),
      (∀(j:Nat) t v,fn.params[j]? = some t→args[j]? = some v→Value.okWide C.prog W .any base t v)→
      DataW.Whole enc C.prog fn.params.toList s.vars apart W args.toList ds gs before→
      (DataW.weightsEach C.prog (fn.params.toList ++ s.plain.varTypes C.prog) (ds ++ gs)).all (·≤reachBytes)=true→
      laidMetH C.prog laid W→
∃M last o w' t',runNT C.prog (M+1) (solo (G (Frame.enter C.prog f args .normal) []) W) #[]=(.ended o w',t')∧runN C.prog M (solo (G (Frame.enter C.prog f args .normal) []) W) = .next last∧
        step C.prog last = .ended o w'∧Conc.Good C.prog (fun v W'=>s.post enc C.prog fn apart fresh handsOn again W args v W') last o w' t') :
    ReturnsInLeavingWide a C os f .any (fun w args=>(s.pre enc C.prog fn conds apart w args∧laidMetH C.prog laid w)∧sizedMet enc C.prog fn (OpenSpec.ofChange s) apart w args) (s.post enc C.prog fn apart fresh handsOn again):=by
  refine returnsInLeavingWide_of_good own started witness ?_
  intro w tape i _ _ _ hok hpre hholds
  obtain ⟨_,_,_,fn',hfn',_,_,_,_,hval⟩:=hok
  have e:fn'=fn:=Option.some.inj (hfn'.symm.trans hfn)
  subst e
  obtain ⟨⟨⟨ds,gs,before,hw,hc⟩,hL⟩,hz⟩:=hpre
  have hw':=DataW.Whole.of_heap (w':=w.forCall tape i) (by rfl) hw
  have hL':=hL.of_heap (w':=w.forCall tape i) (by rfl)
  obtain ⟨M,last,o,w',t',h1,h2,h3,h4⟩:=runs (w.forCall tape i) w.heap.size i.args ds gs before hval hw' (hz.weights hw) hL'
  exact ⟨M,last,o,w',t',h1,h2,h3,h4.mono fun v hp=>ChangeSpec.post_blind hp⟩
theorem Zqi {n0 n1 n2 n3 nm:String} {x0 x1 x2 x3:List UInt8} {r:List (String × DataW Unit)} {W:World} {k0 k1 k2 k3:Nat} {ti tp te ts:TypeId} {ms:Array (String × TypeId)} {f:Field}
    (h:laidMet P ((n0,.iface nm (.ptr (.agg [.lit (.string x0)]))) :: (n1,.iface nm (.ptr (.agg [.lit (.string x1)]))) :: (n2,.iface nm (.ptr (.agg [.lit (.string x2)]))) :: (n3,.iface nm (.ptr (.agg [.lit (.string x3)]))) :: r) W)
    (hg0:P.globalNamed n0=some k0) (hg1:P.globalNamed n1=some k1) (hg2:P.globalNamed n2=some k2) (hg3:P.globalNamed n3=some k3) (hy0:(P.globals[k0]?).map (·.type)=some ti) (hy1:(P.globals[k1]?).map (·.type)=some ti) (hy2:(P.globals[k2]?).map (·.type)=some ti) (hy3:(P.globals[k3]?).map (·.type)=some ti)
    (hi:P.underlying ti=some (.interface ms)) (hrow :∀u,P.typeName? 3 u=some nm→u=tp)
    (hp:P.underlying tp=some (.pointer te)) (he:P.underlying te=some (.struct #[f])) (hft:f.type=ts) (hfo:f.offset=0) (hs:P.underlying ts=some .string) (hc:P.cellsOf te=1) (hcs:P.cellsOf ts=1) :
∃a:Nat→Addr,ErrsB tp [k0,k1,k2,k3] (Zlu W) a:=by
  obtain ⟨ps,⟨g0,t0,cs0,f0,p0,q0,hg0',ht0',hv0,hd0,⟨g1,t1,cs1,f1,p1,q1,hg1',ht1',hv1,hd1,⟨g2,t2,cs2,f2,p2,q2,hg2',ht2',hv2,hd2,⟨g3,t3,cs3,f3,p3,q3,hg3',ht3',hv3,hd3,_,e3⟩,e2⟩,e1⟩,e0⟩,hnd,hrows⟩:=h
  obtain rfl:=Option.some.inj (hg0.symm.trans hg0')
  obtain rfl:=Option.some.inj (hg1.symm.trans hg1')
  obtain rfl:=Option.some.inj (hg2.symm.trans hg2')
  obtain rfl:=Option.some.inj (hg3.symm.trans hg3')
  obtain rfl:=Option.some.inj (hy0.symm.trans ht0')
  obtain rfl:=Option.some.inj (hy1.symm.trans ht1')
  obtain rfl:=Option.some.inj (hy2.symm.trans ht2')
  obtain rfl:=Option.some.inj (hy3.symm.trans ht3')
  subst e3
  subst e2
  subst e1
  subst e0
  obtain ⟨l0⟩:=cs0
  obtain ⟨l1⟩:=cs1
  obtain ⟨l2⟩:=cs2
  obtain ⟨l3⟩:=cs3
  have ok0 :∀u v,l0=[.iface u v]→Value.okWide P W .any 0 u v:=fun u v e=>by
    subst e
    exact (hrows k0 0 (by simp [MemPlace.row])).2 u v (by simpa using World.var?_cell hg0' hv0 0)
  have ok1 :∀u v,l1=[.iface u v]→Value.okWide P W .any 0 u v:=fun u v e=>by
    subst e
    exact (hrows k1 0 (by simp [MemPlace.row])).2 u v (by simpa using World.var?_cell hg1' hv1 0)
  have ok2 :∀u v,l2=[.iface u v]→Value.okWide P W .any 0 u v:=fun u v e=>by
    subst e
    exact (hrows k2 0 (by simp [MemPlace.row])).2 u v (by simpa using World.var?_cell hg2' hv2 0)
  have ok3 :∀u v,l3=[.iface u v]→Value.okWide P W .any 0 u v:=fun u v e=>by
    subst e
    exact (hrows k3 0 (by simp [MemPlace.row])).2 u v (by simpa using World.var?_cell hg3' hv3 0)
  obtain ⟨a0,s0,rfl,hc0,hs0,hz0,rfl⟩:=errorString_of_trod hi hrow hp he hft hfo hs hc hcs hd0 ok0
  obtain ⟨a1,s1,rfl,hc1,hs1,hz1,rfl⟩:=errorString_of_trod hi hrow hp he hft hfo hs hc hcs hd1 ok1
  obtain ⟨a2,s2,rfl,hc2,hs2,hz2,rfl⟩:=errorString_of_trod hi hrow hp he hft hfo hs hc hcs hd2 ok2
  obtain ⟨a3,s3,rfl,hc3,hs3,hz3,rfl⟩:=errorString_of_trod hi hrow hp he hft hfo hs hc hcs hd3 ok3
  have b0:=(hrows a0.block a0.off (by simp [MemPlace.row])).1
  have b1:=(hrows a1.block a1.off (by simp [MemPlace.row])).1
  have b2:=(hrows a2.block a2.off (by simp [MemPlace.row])).1
  have b3:=(hrows a3.block a3.off (by simp [MemPlace.row])).1
  have row :∀(g:Nat) (v:Value) (n:String),P.globalNamed n=some g→W.var? P n=some #[v]→Za9 (Zlu W) g 0 [v]:=fun g v n hg hv L j u hj=>by
    cases j with
    | zero=>
      simp only [List.getElem?_cons_zero,Option.some.injEq] at hj
      subst hj
      have:=Ziu (by simpa using World.var?_cell hg hv 0:W.cell? ⟨g,0,none⟩=some v)
      obtain ⟨h1,cs,T,fr,h2,h3⟩:=this
      exact ⟨h1,cs,T,fr,h2.elim .inl (fun h=>by cases h),h3⟩
    | succ j=>simp at hj
  refine ⟨fun k=>if k=0 then a0 else if k=1 then a1 else if k=2 then a2 else a3,fun k hk=>?_,fun k hk=>?_,fun i j hi' hj' hne=>?_⟩
  · match k,hk with
    | 0,_=>exact row k0 _ _ hg0 hv0
    | 1,_=>exact row k1 _ _ hg1 hv1
    | 2,_=>exact row k2 _ _ hg2 hv2
    | 3,_=>exact row k3 _ _ hg3 hv3
  · match k,hk with
    | 0,_=>exact b0
    | 1,_=>exact b1
    | 2,_=>exact b2
    | 3,_=>exact b3
  · have h01:a0≠a1:=by rintro rfl;simp [MemPlace.row] at hnd
    have h02:a0≠a2:=by rintro rfl;simp [MemPlace.row] at hnd
    have h03:a0≠a3:=by rintro rfl;simp [MemPlace.row] at hnd
    have h12:a1≠a2:=by rintro rfl;simp [MemPlace.row] at hnd
    have h13:a1≠a3:=by rintro rfl;simp [MemPlace.row] at hnd
    have h23:a2≠a3:=by rintro rfl;simp [MemPlace.row] at hnd
    match i,j,hi',hj',hne with
    | 0,1,_,_,_=>exact h01
    | 0,2,_,_,_=>exact h02
    | 0,3,_,_,_=>exact h03
    | 1,0,_,_,_=>exact h01.symm
    | 1,2,_,_,_=>exact h12
    | 1,3,_,_,_=>exact h13
    | 2,0,_,_,_=>exact h02.symm
    | 2,1,_,_,_=>exact h12.symm
    | 2,3,_,_,_=>exact h23
    | 3,0,_,_,_=>exact h03.symm
    | 3,1,_,_,_=>exact h13.symm
    | 3,2,_,_,_=>exact h23.symm
    | 0,0,_,_,h=>exact (h rfl).elim
    | 1,1,_,_,h=>exact (h rfl).elim
    | 2,2,_,_,h=>exact (h rfl).elim
    | 3,3,_,_,h=>exact (h rfl).elim
end
theorem Zqz (Lk:Looks) {p:Pinned} {s:OpenSpec} {c:OpenClaim} (kinds:List LaidKind) (tests:Bool) (har:Bool × String) (lk:Bool)
    (hc:c.holds p s) (hw:c.wfByText s=true) (htie:c.laidByTextAt Lk p kinds tests)
    (hst:c.start = .entering) (hnb:c.noBlocks=false∧c.again=false) (hm:p.checked.prog.mainIs=some (har.1,har.2.toList)) (hn:(!har.1 && har.2.isEmpty && !lk)=false)
    (hl :∀f fn,p.checked.prog.funcNamed c.func=some f→p.checked.prog.funcs[f]? = some fn→lk=p.checked.prog.looks []∧∀(j:Nat) t,fn.params[j]? = some t→p.checked.prog.wantsStandIn t=false)
    (hg:true=c.goesBy p.checked.prog) :
    Claim7.holds p (.plain s) { stood:={ row:=c,standIns:=[],harness:=har,looks:=lk },kinds:=[],alts:=[],goes:=true,laidByText:=true,laidKinds:=kinds,laidTests:=tests,laidLooks:=Lk }:=by
  have h6 :∀r:OpenClaim,Claim7.isSixth { stood:={ row:=r,standIns:=[],harness:=har,looks:=lk },kinds:=[] } = false:=fun r=>by simpa [Claim7.isSixth] using hn
  refine ⟨Claim7.tied_new_at Lk kinds tests (Claim7.new_of_sixth hc har lk hst hnb hm (h6 c) hl) hw,(fun D hD=>by cases hD),htie,(fun h=>by cases h),hg⟩
end Go.BL
namespace Go.BL
open Go.Conc (G)
set_option linter.unusedVariables false
section
variable {P:PJ} {n:Nat} {ops:Array Oper} {i:Nat} {K:Zbi} {S:Env} {D:List Deferred} {B:Kn} {L:List Cells}
variable {dst:Option Tmp} {ty:TypeId} {pos:String} {after:Array Edge} {g:Option (Nat × Bool)}
theorem All3.turn {α:Type} {R:ZlC α} {rows:List (List Value)} {xs:List α} {s:Cells} (h:All3 R rows xs s) {z x:α} {ex:Cells} (f:List Value→List Value) (hf :∀row li,R row x li→∃li' gl,R (f row) z li'∧(li ++ ex).Perm (li' ++ gl)) :∀{k:Nat},xs[k]? = some x→∃row s' gl,rows[k]? = some row∧All3 R (rows.set k (f row)) (xs.set k z) s'∧(s ++ ex).Perm (s' ++ gl):=by
  induction h with
  | nil=>intro k hx;simp at hx
  | @cons row0 x0 ins0 rest rows xs h1 h2 ih=>
    intro k hx
    cases k with
    | zero=>
      simp only [List.getElem?_cons_zero,Option.some.injEq] at hx
      subst hx
      obtain ⟨li',gl,e1,e2⟩:=hf _ _ h1
      refine ⟨row0,li' ++ rest,gl,rfl,.cons e1 h2,?_⟩
      have e3:(ins0 ++ rest ++ ex).Perm ((ins0 ++ ex) ++ rest):=by
        rw [List.append_assoc,List.append_assoc];exact List.Perm.append_left _ List.perm_append_comm
      refine e3.trans ((e2.append_right rest).trans ?_)
      rw [List.append_assoc,List.append_assoc];exact List.Perm.append_left _ List.perm_append_comm
    | succ k=>
      obtain ⟨row,s',gl,e1,e2,e3⟩:=ih (k:=k) (by simpa using hx)
      refine ⟨row,ins0 ++ s',gl,by simpa using e1,.cons h1 e2,?_⟩
      rw [List.append_assoc,List.append_assoc]
      exact List.Perm.append_left ins0 e3
end
end Go.BL
namespace Go.BL
open Go.Conc (G)
set_option linter.unusedVariables false
@[reducible] def Zn2 (x:DMail) (v:Value):List Value:=[.int .i64 x.uid,.int .i64 x.flags,str x.text,v]
def ZiR (Tn:TypeId):Value→List DMail→Cells→Prop
  | v,[],s=>v = .pointer none∧s=[]
  | v,x :: xs,s=>∃b nx rest,v=ptr ⟨b,0,none⟩∧s.Perm (ZaY b (Zn2 x nx) Tn ++ rest)∧x.text.length≤2000000∧ZiR Tn nx xs rest
theorem ZiR.ptr {Tn:TypeId} {v:Value} {xs:List DMail} {s:Cells} (h:ZiR Tn v xs s) :∃p,v = .pointer p:=by
  cases xs with
  | nil=>exact ⟨none,h.1⟩
  | cons x xs=>obtain ⟨b,nx,rest,rfl,_⟩:=h;exact ⟨_,rfl⟩
theorem ZiR.more {Tn:TypeId} {p:Option Addr} {xs:List DMail} {s:Cells} (h:ZiR Tn (.pointer p) xs s) (hp:p.isNone=false) :∃y ys b np rest,p=some ⟨b,0,none⟩∧xs=y :: ys∧s.Perm (ZaY b (Zn2 y (.pointer np)) Tn ++ [rest].flatten)∧y.text.length≤2000000∧ZiR Tn (.pointer np) ys rest:=by
  cases xs with
  | nil=>obtain ⟨h1,_⟩:=h;cases h1;cases hp
  | cons x xs=>
    obtain ⟨b,nx,rest,h1,h2,h3,h4⟩:=h
    obtain ⟨np,rfl⟩:=h4.ptr
    cases h1
    exact ⟨x,xs,b,np,rest,rfl,rfl,by simpa using h2,h3,h4⟩
theorem ZiR.done {Tn:TypeId} {p:Option Addr} {xs:List DMail} {s:Cells} (h:ZiR Tn (.pointer p) xs s) (hp:p.isNone=true):xs=[]:=by
  cases xs with
  | nil=>rfl
  | cons x xs=>obtain ⟨b,nx,rest,h1,_⟩:=h;cases h1;cases hp
def Zsq (Tn:TypeId) (v0:Value) (bl:Nat) (x:DMail) (rest:Cells) (pre:List DMail):Prop:=
∀v xs s,ZiR Tn v xs s→∃s0,ZiR Tn v0 (pre ++ xs) s0∧(ZaY bl (Zn2 x v) Tn ++ (rest ++ s)).Perm s0
theorem Zsq.step {Tn:TypeId} {v0:Value} {bl b:Nat} {x y:DMail} {rest:Cells} {pre:List DMail} (h:Zsq Tn v0 bl x rest pre) (hy:y.text.length≤2000000) :
    Zsq Tn v0 b y (rest ++ ZaY bl (Zn2 x (Go.BL.ptr ⟨b,0,none⟩)) Tn) (pre ++ [y]):=fun v xs s hs=>by
  obtain ⟨s0,h1,h2⟩:=h (Go.BL.ptr ⟨b,0,none⟩) (y :: xs) (ZaY b (Zn2 y v) Tn ++ s) ⟨b,v,s,rfl,.refl _,hy,hs⟩
  refine ⟨s0,by simpa using h1,?_⟩
  refine List.Perm.trans ?_ h2
  exact Ztb fun f g h0 ha hc=>by simp only [ha];omega
def MLst (TL Tn:TypeId) (b:Nat) (xs:List DMail) (s:Cells):Prop:=
  (xs=[]∧s.Perm (ZaY b [.pointer none,.pointer none,.int .i64 0] TL))∨
∃v0 bl x rest,s.Perm (ZaY b [v0,ptr ⟨bl,0,none⟩,.int .i64 xs.length] TL ++ [ZaY bl (Zn2 x (.pointer none)) Tn,rest].flatten)∧Zsq Tn v0 bl x rest xs
theorem MLst.nil {TL Tn:TypeId} {b:Nat} : MLst TL Tn b [] (ZaY b [.pointer none,.pointer none,.int .i64 0] TL):=.inl ⟨rfl,.refl _⟩
end Go.BL
namespace Go.BL
section
variable {P:PJ} {n:Nat} {ops:Array Oper} {i:Nat} {K:Zbi} {S:Env} {D:List Deferred} {B:Kn} {L:List Cells}
variable {dst:Option Tmp} {ty:TypeId} {pos:String} {after:Array Edge} {g:Option (Nat × Bool)}
theorem ZmL {x y:Operand} {ats:Array TypeId} {a b:Int} {k k':IntKind} (hg:Zq ops S g=some true) (hd:ZB n dst=true) (hx:ev S x=some (.int k a)) (hy:ev S y=some (.int k' b)) (h:K (.int k (max a b)) D B L):opX P n ops i ⟨dst,.call ⟨.builtin .max,#[x,y],ats⟩,ty,pos,after,g⟩ K S D B L:=
  ZR hg hd (fun ρ hρ Q F q=>by
    have e:(if b > a then b else a)=max a b:=by rw [Int.max_def];split <;> split <;> omega
    simp only [execOp,resolve,Zo,Zu,invoke,builtin,Builtin.max_,List.map_toArray,List.map_cons,List.map_nil,hρ x _ hx,hρ y _ hy,List.foldlM_cons,List.foldlM_nil,Builtin.max2,e]
    exact q) h
theorem ZiY {x y:Operand} {ats:Array TypeId} {a b:Int} {k k':IntKind} (hg:Zq ops S g=some true) (hd:ZB n dst=true) (hx:ev S x=some (.int k a)) (hy:ev S y=some (.int k' b)) (h:K (.int k (min a b)) D B L):opX P n ops i ⟨dst,.call ⟨.builtin .min,#[x,y],ats⟩,ty,pos,after,g⟩ K S D B L:=
  ZR hg hd (fun ρ hρ Q F q=>by
    have e:(if b<a then b else a)=min a b:=by rw [Int.min_def];split <;> split <;> omega
    simp only [execOp,resolve,Zo,Zu,invoke,builtin,Builtin.min_,List.map_toArray,List.map_cons,List.map_nil,hρ x _ hx,hρ y _ hy,List.foldlM_cons,List.foldlM_nil,Builtin.min2,e]
    exact q) h
end
end Go.BL
namespace Go.BL
section
variable {P:PJ} {n:Nat} {ops:Array Oper} {i:Nat} {K:Zbi} {S:Env} {D:List Deferred} {B:Kn} {L:List Cells}
variable {dst:Option Tmp} {ty:TypeId} {pos:String} {after:Array Edge} {g:Option (Nat × Bool)}
variable {α:Type} {R:Rel α} {xs:List α}
theorem ZaV.own {B:Kn} {L:List Cells} {l:Cells} {p:Option Addr} {m c sz:Nat} {T:TypeId} {vs:List Value} (h:ZiE l p m c T sz vs) (j:Nat) (hj:L[j]? = some l):ZaV B L.flatten p vs:=by
  obtain ⟨h1,⟨rfl,rfl,rfl,rfl⟩ | ⟨b,arr,rfl,h2,h3,rfl,h4⟩⟩:=h
  · exact List.eq_nil_of_length_eq_zero (by simpa using h1)
  · intro k v hk
    have hv':arr[k]? = some v:=by
      rw [← h3,List.getElem?_take] at hk
      split at hk
      · exact hk
      · cases hk
    exact ZaV.box (B:=B) j hj k v hv'
theorem Zuq {t u e:TypeId} {x y:Operand} {sz by_ m c:Nat} {p:Option Addr} {l:Cells} (j:Nat) (hj:L[j]? = some l) (hv:Z3 B l p c e sz R xs) (hm:m=xs.length) (hg:Zq ops S g=some true) (hd:ZB n dst=true)
    (he:ZcV P t e sz by_=true) (hu:(match P.underlying u with | some (.slice _)=>true | _=>false)=true) (hx:ev S x=some (.slice p m c)) (hy:ev S y=some (.slice p m c)) (hone :∀row y,R B row y→row.all Zg1=true∧row.length=sz) (hb1:(xs.length+xs.length)*by_≤140737488355328)
    (h :∀l' p' c',Z3 B l' p' c' e sz R (xs ++ xs)→K (.slice p' (xs ++ xs).length c') D B (L.set j l')):opX P n ops i ⟨dst,.call ⟨.builtin .append,#[x,y],#[t,u]⟩,ty,pos,after,g⟩ K S D B L:=by
  obtain ⟨rows,h1,h2,h3⟩:=id hv
  have ho:rows.flatten.all Zg1=true:=by
    clear h2 h3 hb1 h hv hm
    induction h1 with
    | nil=>rfl
    | cons a b ih=>rw [List.flatten_cons,List.all_append,(hone _ _ a).1,ih];rfl
  exact ZmP j hj hv hm hg hd he hu hx hy hm (ZaV.own h3 j hj) ho h2 h1 hb1 h
end
end Go.BL
namespace Go.BL
theorem Zw {P:PJ} {n:Nat} {Q:Exit→ZaF} {S:Env} {D:List Deferred} {B:Kn} {L:List Cells} {c:Code} (L':List Cells) (hl:L=L') (h:wpS P n c Q S D B L'):wpS P n c Q S D B L:=by subst hl;exact h
theorem sQ:(∀(p:Prop) [Decidable p],(decide p=true)=p)∧(∀(p:Prop) [Decidable p],(decide p=false) = ¬p)∧(∀b:Bool,((!b)=true)=(b=false))∧(∀b:Bool,((!b)=false)=(b=true))∧(∀(p:Prop) [Decidable p],(decide (¬p)) = !decide p)∧(∀(p:Prop) [Decidable p],(¬¬p)=p)∧(∀a b:Int,(¬a<b)=(b≤a))∧(∀a b:Int,(¬a≤b)=(b<a)):=
  ⟨fun p _=>by simp,fun p _=>by simp,by simp,by simp,fun p _=>by simp,fun p _=>by simp,by simp,by simp⟩
end Go.BL
namespace Go.BL
def orI (a b:Int):Int:=IntKind.i64.wrap (BitVec.ofInt 64 a ||| BitVec.ofInt 64 b).toNat
def Zvh (a b:Int):Int:=IntKind.i64.wrap (BitVec.ofInt 64 a &&& BitVec.ofInt 64 b).toNat
section
variable {P:PJ} {n:Nat} {ops:Array Oper} {i:Nat} {K:Zbi} {S:Env} {D:List Deferred} {B:Kn} {L:List Cells}
variable {dst:Option Tmp} {ty:TypeId} {pos:String} {after:Array Edge} {g:Option (Nat × Bool)}
theorem ZmM {t kt et:TypeId} {x y:Operand} {b:Nat} {l:Cells} {kvs:KV} {k:List UInt8} (j:Nat) (hj:L[j]? = some l) (hl:Zt4 l b kvs) (hg:Zq ops S g=some true) (hd:ZB n dst=true) (hu:P.underlying t=some (.map kt et)) (hk:P.underlying kt=some .string)
    (hz:ZaB P et=some (.int .i64 0)) (hx:ev S x=some (.map (some b))) (hy:ev S y=some (str k)) (h:K (.int .i64 ((mget kvs k).getD 0)) D B L):opX P n ops i ⟨dst,.lookup t x y false,ty,pos,after,g⟩ K S D B L:=
  ZdX hg hd fun ρ hρ F=>by
    obtain ⟨es,clock,rfl,ok⟩:=hl
    have hin:(b,Obj.map es clock)∈L.flatten ++ F:=by
      rw [((Zaz F [] hj).choose_spec.1).mem_iff];simp
    simp only [execOp,Instr.lookup,hρ x _ hx,hρ y _ hy,Zo,Zx hu]
    refine ⟨_,.inr hin,rfl,rfl,?_⟩
    simp only [Zbs,Zo,Zu]
    refine Zh9 hk ?_
    rw [Zo]
    refine Zjk hk ok.ent ?_
    cases hm:mlook kvs k 0 with
    | none=>
      obtain ⟨_,_,_,m4⟩:=Zgm hm
      simp only [ZbO hz,Zu,Zo,ZpW,Bool.false_eq_true,if_false]
      rw [m4] at h
      exact ⟨L,.of (List.Perm.refl _),h⟩
    | some p=>
      obtain ⟨jj,u⟩:=p
      obtain ⟨m,w,rfl,rfl,m3,m4,_,m6⟩:=Zgl hm
      simp only [Zu,Zo,Bool.false_eq_true,if_false]
      rw [m6] at h
      exact ⟨L,.of (List.Perm.refl _),h⟩
section
variable {t u:TypeId} {x y:Operand} {a b r:Int}
theorem ZvN (hg:Zq ops S g=some true) (hd:ZB n dst=true) (hx:ev S x=some (.int .i64 a)) (hy:ev S y=some (.int .i64 b)) (h:K (.int .i64 (orI a b)) D B L):opX P n ops i ⟨dst,.binOp .or t x y u,ty,pos,after,g⟩ K S D B L:=
  ZR hg hd (fun ρ hρ Q F q=>by
    simp only [execOp,hρ x _ hx,hρ y _ hy,Zo,Zao,binOp,ne_eq,not_true_eq_false,if_false,Op.intBits,Zu];exact q) h
theorem Zur (hg:Zq ops S g=some true) (hd:ZB n dst=true) (hx:ev S x=some (.int .i64 a)) (hy:ev S y=some (.int .i64 b)) (h:K (.int .i64 (Zvh a b)) D B L):opX P n ops i ⟨dst,.binOp .and t x y u,ty,pos,after,g⟩ K S D B L:=
  ZR hg hd (fun ρ hρ Q F q=>by
    simp only [execOp,hρ x _ hx,hρ y _ hy,Zo,Zao,binOp,ne_eq,not_true_eq_false,if_false,Op.intBits,Zu];exact q) h
end
end
end Go.BL
namespace Go.BL
theorem om {p:Prop} (h:p:=by first | omega | (simp;done) | (simp;omega)):p:=h
theorem om2 {p:Prop} (h:p:=by first | assumption | omega | (simp;done) | (simp;omega)):p:=h
theorem oz {p:Prop} (h:p:=by omega):p:=h
theorem kr {p:Prop} (h:p:=by kernel_rfl):p:=h
theorem so {p:Prop} (h:p:=by simp only [];omega):p:=h
theorem so2 {p:Prop} (h:p:=by first | omega | (simp only [];omega)):p:=h
theorem oa {p:Prop} (h:p:=by first | assumption | omega):p:=h
theorem oy {p:Prop} (h:p:=by assumption):p:=h
theorem om3 {p:Prop} (h:p:=by first | omega | decide | (simp;done) | (simp;omega)):p:=h
theorem ob {p:Prop} (h:p:=by first | assumption | omega | (simp only [];omega) | (simp only [];assumption) | (simp;done) | (simp;omega)):p:=h
theorem ol {p:Prop} (h:p:=by first | rfl | (simp only [List.length_set];rfl)):p:=h
theorem t1 {α0:Sort _} {a0:α0} : a0=a0∧True:=⟨rfl,trivial⟩
theorem t2 {α0 α1:Sort _} {a0:α0} {a1:α1} : a0=a0∧a1=a1∧True:=⟨rfl,rfl,trivial⟩
theorem t3 {α0 α1 α2:Sort _} {a0:α0} {a1:α1} {a2:α2} : a0=a0∧a1=a1∧a2=a2∧True:=⟨rfl,rfl,rfl,trivial⟩
theorem t4 {α0 α1 α2 α3:Sort _} {a0:α0} {a1:α1} {a2:α2} {a3:α3} : a0=a0∧a1=a1∧a2=a2∧a3=a3∧True:=⟨rfl,rfl,rfl,rfl,trivial⟩
theorem t5 {α0 α1 α2 α3 α4:Sort _} {a0:α0} {a1:α1} {a2:α2} {a3:α3} {a4:α4} : a0=a0∧a1=a1∧a2=a2∧a3=a3∧a4=a4∧True:=⟨rfl,rfl,rfl,rfl,rfl,trivial⟩
theorem t6 {α0 α1 α2 α3 α4 α5:Sort _} {a0:α0} {a1:α1} {a2:α2} {a3:α3} {a4:α4} {a5:α5} : a0=a0∧a1=a1∧a2=a2∧a3=a3∧a4=a4∧a5=a5∧True:=⟨rfl,rfl,rfl,rfl,rfl,rfl,trivial⟩
theorem t7 {α0 α1 α2 α3 α4 α5 α6:Sort _} {a0:α0} {a1:α1} {a2:α2} {a3:α3} {a4:α4} {a5:α5} {a6:α6} : a0=a0∧a1=a1∧a2=a2∧a3=a3∧a4=a4∧a5=a5∧a6=a6∧True:=⟨rfl,rfl,rfl,rfl,rfl,rfl,rfl,trivial⟩
theorem t8 {α0 α1 α2 α3 α4 α5 α6 α7:Sort _} {a0:α0} {a1:α1} {a2:α2} {a3:α3} {a4:α4} {a5:α5} {a6:α6} {a7:α7} : a0=a0∧a1=a1∧a2=a2∧a3=a3∧a4=a4∧a5=a5∧a6=a6∧a7=a7∧True:=⟨rfl,rfl,rfl,rfl,rfl,rfl,rfl,rfl,trivial⟩
theorem t9 {α0 α1 α2 α3 α4 α5 α6 α7 α8:Sort _} {a0:α0} {a1:α1} {a2:α2} {a3:α3} {a4:α4} {a5:α5} {a6:α6} {a7:α7} {a8:α8} : a0=a0∧a1=a1∧a2=a2∧a3=a3∧a4=a4∧a5=a5∧a6=a6∧a7=a7∧a8=a8∧True:=⟨rfl,rfl,rfl,rfl,rfl,rfl,rfl,rfl,rfl,trivial⟩
theorem t10 {α0 α1 α2 α3 α4 α5 α6 α7 α8 α9:Sort _} {a0:α0} {a1:α1} {a2:α2} {a3:α3} {a4:α4} {a5:α5} {a6:α6} {a7:α7} {a8:α8} {a9:α9} : a0=a0∧a1=a1∧a2=a2∧a3=a3∧a4=a4∧a5=a5∧a6=a6∧a7=a7∧a8=a8∧a9=a9∧True:=⟨rfl,rfl,rfl,rfl,rfl,rfl,rfl,rfl,rfl,rfl,trivial⟩
theorem t11 {α0 α1 α2 α3 α4 α5 α6 α7 α8 α9 α10:Sort _} {a0:α0} {a1:α1} {a2:α2} {a3:α3} {a4:α4} {a5:α5} {a6:α6} {a7:α7} {a8:α8} {a9:α9} {a10:α10} : a0=a0∧a1=a1∧a2=a2∧a3=a3∧a4=a4∧a5=a5∧a6=a6∧a7=a7∧a8=a8∧a9=a9∧a10=a10∧True:=⟨rfl,rfl,rfl,rfl,rfl,rfl,rfl,rfl,rfl,rfl,rfl,trivial⟩
theorem t12 {α0 α1 α2 α3 α4 α5 α6 α7 α8 α9 α10 α11:Sort _} {a0:α0} {a1:α1} {a2:α2} {a3:α3} {a4:α4} {a5:α5} {a6:α6} {a7:α7} {a8:α8} {a9:α9} {a10:α10} {a11:α11} : a0=a0∧a1=a1∧a2=a2∧a3=a3∧a4=a4∧a5=a5∧a6=a6∧a7=a7∧a8=a8∧a9=a9∧a10=a10∧a11=a11∧True:=⟨rfl,rfl,rfl,rfl,rfl,rfl,rfl,rfl,rfl,rfl,rfl,rfl,trivial⟩
theorem t17 {α0 α1 α2 α3 α4 α5 α6 α7 α8 α9 α10 α11 α12 α13 α14 α15 α16:Sort _} {a0:α0} {a1:α1} {a2:α2} {a3:α3} {a4:α4} {a5:α5} {a6:α6} {a7:α7} {a8:α8} {a9:α9} {a10:α10} {a11:α11} {a12:α12} {a13:α13} {a14:α14} {a15:α15} {a16:α16} : a0=a0∧a1=a1∧a2=a2∧a3=a3∧a4=a4∧a5=a5∧a6=a6∧a7=a7∧a8=a8∧a9=a9∧a10=a10∧a11=a11∧a12=a12∧a13=a13∧a14=a14∧a15=a15∧a16=a16∧True:=⟨rfl,rfl,rfl,rfl,rfl,rfl,rfl,rfl,rfl,rfl,rfl,rfl,rfl,rfl,rfl,rfl,rfl,trivial⟩
section
variable {P:PJ} {n:Nat} {ops:Array Oper} {i:Nat} {K:ZaF} {S:Env} {D:List Deferred} {B:Kn} {L:List Cells}
variable {dst:Option Tmp} {ty:TypeId} {pos:String} {after:Array Edge} {g:Option (Nat × Bool)} {t u:TypeId} {x y:Operand}
theorem xM {x:Operand} {v:Value} (hg:Zq ops S g=some true:=by exact rfl) (hd:ZB n dst=true:=by exact rfl) (hx:ev S x=some v:=by exact rfl) (h:K (ZbZ S dst v) D B L):opW P n ops i ⟨dst,.move x,ty,pos,after,g⟩ K S D B L:=Zn (Zsx hg hd hx h)
theorem xA {x:Operand} {v:Value} (hg:Zq ops S g=some true:=by exact rfl) (hd:ZB n dst=true:=by exact rfl) (hx:ev S x=some v:=by exact rfl) (h:K (ZbZ S dst v) D B L):opW P n ops i ⟨dst,.assign x,ty,pos,after,g⟩ K S D B L:=Zn (ZmO hg hd hx h)
theorem xP  {dst:Option Tmp} {op:Op} {t:TypeId} {pos:String} {after:Array Edge} {g:Option (Nat × Bool)}   (hg:Zq ops S g=some false:=by exact rfl) (hd:ZB n dst=true:=by exact rfl) (h:K (ZbZ S dst undef) D B L):opW P n ops i ⟨dst,op,t,pos,after,g⟩ K S D B L:=Zn (Zsu  hg hd h)
theorem xT  {c:Operand} {a:Operand} {b:Operand} {v:Value}   (hg:Zq ops S g=some true:=by exact rfl) (hd:ZB n dst=true:=by exact rfl) (hc:ev S c=some (.bool true):=by exact rfl) (hx:ev S a=some v:=by exact rfl) (h:K (ZbZ S dst v) D B L):opW P n ops i ⟨dst,.pick c a b,ty,pos,after,g⟩ K S D B L:=Zn (ZoQ  hg hd hc hx h)
theorem xF  {c:Operand} {a:Operand} {b:Operand} {v:Value}   (hg:Zq ops S g=some true:=by exact rfl) (hd:ZB n dst=true:=by exact rfl) (hc:ev S c=some (.bool false):=by exact rfl) (hx:ev S b=some v:=by exact rfl) (h:K (ZbZ S dst v) D B L):opW P n ops i ⟨dst,.pick c a b,ty,pos,after,g⟩ K S D B L:=Zn (ZoR  hg hd hc hx h)
theorem xE  {x:Operand} {ix:Nat} {vs:List Value} {v:Value}   (hg:Zq ops S g=some true:=by exact rfl) (hd:ZB n dst=true:=by exact rfl) (hx:ev S x=some (.tuple vs.toArray):=by exact rfl) (hi:vs[ix]? = some v:=by exact rfl) (h:K (ZbZ S dst v) D B L):opW P n ops i ⟨dst,.extract x ix,ty,pos,after,g⟩ K S D B L:=Zn (Zkn  hg hd hx hi h)
theorem xN  {x:Operand} {b:Bool} {t:TypeId}   (hg:Zq ops S g=some true:=by exact rfl) (hd:ZB n dst=true:=by exact rfl) (hx:ev S x=some (.bool b):=by exact rfl) (h:K (ZbZ S dst (.bool (!b))) D B L):opW P n ops i ⟨dst,.unOp .not t x,ty,pos,after,g⟩ K S D B L:=Zn (Zud  hg hd hx h)
theorem xW  {s:TypeId} {x:Operand} {fi:Nat} {off:Nat} {a:Addr}  (hf:ZT P s fi=some off) (hg:Zq ops S g=some true:=by exact rfl) (hd:ZB n dst=true:=by exact rfl) (hx:ev S x=some (ptr a):=by exact rfl) (h:K (ZbZ S dst (ptr (a.add off))) D B L):opW P n ops i ⟨dst,.fieldAddr s x fi,ty,pos,after,g⟩ K S D B L:=Zn (Zhs  hg hd hf hx h)
theorem xD  {k:IntKind} {a b r:Int}   (hg:Zq ops S g=some true:=by exact rfl) (hd:ZB n dst=true:=by exact rfl) (hx:ev S x=some (.int k a):=by exact rfl) (hy:ev S y=some (.int k b):=by exact rfl) (hr:k.wrap (a+b)=r:=by first | exact ZaK (by first | omega | (simp;done) | (simp;omega)) (by first | omega | (simp;done) | (simp;omega)) | exact rfl) (h:K (ZbZ S dst (.int k r)) D B L):opW P n ops i ⟨dst,.binOp .add t x y u,ty,pos,after,g⟩ K S D B L:=Zn (Zeu  hg hd hx hy hr h)
theorem xU  {k:IntKind} {a b r:Int}   (hg:Zq ops S g=some true:=by exact rfl) (hd:ZB n dst=true:=by exact rfl) (hx:ev S x=some (.int k a):=by exact rfl) (hy:ev S y=some (.int k b):=by exact rfl) (hr:k.wrap (a - b)=r:=by first | exact ZaK (by first | omega | (simp;done) | (simp;omega)) (by first | omega | (simp;done) | (simp;omega)) | exact rfl) (h:K (ZbZ S dst (.int k r)) D B L):opW P n ops i ⟨dst,.binOp .sub t x y u,ty,pos,after,g⟩ K S D B L:=Zn (ZiH  hg hd hx hy hr h)
theorem xY  {k:IntKind} {a b r:Int}   (hg:Zq ops S g=some true:=by exact rfl) (hd:ZB n dst=true:=by exact rfl) (hx:ev S x=some (.int k a):=by exact rfl) (hy:ev S y=some (.int k b):=by exact rfl) (hr:k.wrap (a*b)=r:=by first | exact ZaK (by first | omega | (simp;done) | (simp;omega)) (by first | omega | (simp;done) | (simp;omega)) | exact rfl) (h:K (ZbZ S dst (.int k r)) D B L):opW P n ops i ⟨dst,.binOp .mul t x y u,ty,pos,after,g⟩ K S D B L:=Zn (Zkk  hg hd hx hy hr h)
theorem Zai  {k:IntKind} {a b:Int}   (hg:Zq ops S g=some true:=by exact rfl) (hd:ZB n dst=true:=by exact rfl) (hx:ev S x=some (.int k a):=by exact rfl) (hy:ev S y=some (.int k b):=by exact rfl) (h:K (ZbZ S dst (.bool (decide (a<b)))) D B L):opW P n ops i ⟨dst,.binOp .lss t x y u,ty,pos,after,g⟩ K S D B L:=Zn (Zui  hg hd hx hy h)
theorem ZcB  {k:IntKind} {a b:Int}   (hg:Zq ops S g=some true:=by exact rfl) (hd:ZB n dst=true:=by exact rfl) (hx:ev S x=some (.int k a):=by exact rfl) (hy:ev S y=some (.int k b):=by exact rfl) (h:K (ZbZ S dst (.bool (decide (a≤b)))) D B L):opW P n ops i ⟨dst,.binOp .leq t x y u,ty,pos,after,g⟩ K S D B L:=Zn (Zuj  hg hd hx hy h)
theorem ZbA  {k:IntKind} {a b:Int}   (hg:Zq ops S g=some true:=by exact rfl) (hd:ZB n dst=true:=by exact rfl) (hx:ev S x=some (.int k a):=by exact rfl) (hy:ev S y=some (.int k b):=by exact rfl) (h:K (ZbZ S dst (.bool (decide (b<a)))) D B L):opW P n ops i ⟨dst,.binOp .gtr t x y u,ty,pos,after,g⟩ K S D B L:=Zn (Zum  hg hd hx hy h)
theorem ZdS  {k:IntKind} {a b:Int}   (hg:Zq ops S g=some true:=by exact rfl) (hd:ZB n dst=true:=by exact rfl) (hx:ev S x=some (.int k a):=by exact rfl) (hy:ev S y=some (.int k b):=by exact rfl) (h:K (ZbZ S dst (.bool (decide (b≤a)))) D B L):opW P n ops i ⟨dst,.binOp .geq t x y u,ty,pos,after,g⟩ K S D B L:=Zn (Zun  hg hd hx hy h)
theorem ZF  {k:IntKind} {a b:Int}   (hg:Zq ops S g=some true:=by exact rfl) (hd:ZB n dst=true:=by exact rfl) (hx:ev S x=some (.int k a):=by exact rfl) (hy:ev S y=some (.int k b):=by exact rfl) (h:K (ZbZ S dst (.bool (decide (a=b)))) D B L):opW P n ops i ⟨dst,.binOp .eql t x y u,ty,pos,after,g⟩ K S D B L:=Zn (ZsB  hg hd hx hy h)
theorem ZcZ  {k:IntKind} {a b:Int}   (hg:Zq ops S g=some true:=by exact rfl) (hd:ZB n dst=true:=by exact rfl) (hx:ev S x=some (.int k a):=by exact rfl) (hy:ev S y=some (.int k b):=by exact rfl) (h:K (ZbZ S dst (.bool (decide (a≠b)))) D B L):opW P n ops i ⟨dst,.binOp .neq t x y u,ty,pos,after,g⟩ K S D B L:=Zn (Zsw  hg hd hx hy h)
theorem ZdT  {a b:List UInt8}   (hg:Zq ops S g=some true:=by exact rfl) (hd:ZB n dst=true:=by exact rfl) (hx:ev S x=some (str a):=by exact rfl) (hy:ev S y=some (str b):=by exact rfl) (h:K (ZbZ S dst (.bool (decide (a=b)))) D B L):opW P n ops i ⟨dst,.binOp .eql t x y u,ty,pos,after,g⟩ K S D B L:=Zn (ZsA  hg hd hx hy h)
theorem ZiT  {a b:List UInt8}   (hg:Zq ops S g=some true:=by exact rfl) (hd:ZB n dst=true:=by exact rfl) (hx:ev S x=some (str a):=by exact rfl) (hy:ev S y=some (str b):=by exact rfl) (h:K (ZbZ S dst (.bool (decide (a≠b)))) D B L):opW P n ops i ⟨dst,.binOp .neq t x y u,ty,pos,after,g⟩ K S D B L:=Zn (Zue  hg hd hx hy h)
theorem Zss  {a b:List UInt8}   (hg:Zq ops S g=some true:=by exact rfl) (hd:ZB n dst=true:=by exact rfl) (hx:ev S x=some (str a):=by exact rfl) (hy:ev S y=some (str b):=by exact rfl) (h:K (ZbZ S dst (.bool (Op.bytesLess a b))) D B L):opW P n ops i ⟨dst,.binOp .lss t x y u,ty,pos,after,g⟩ K S D B L:=Zn (Zuh  hg hd hx hy h)
theorem Zt9  {a b:List UInt8}   (hg:Zq ops S g=some true:=by exact rfl) (hd:ZB n dst=true:=by exact rfl) (hx:ev S x=some (str a):=by exact rfl) (hy:ev S y=some (str b):=by exact rfl) (h:K (ZbZ S dst (.bool (!Op.bytesLess a b))) D B L):opW P n ops i ⟨dst,.binOp .geq t x y u,ty,pos,after,g⟩ K S D B L:=Zn (ZoV  hg hd hx hy h)
theorem xV  {x:Operand} {t:TypeId} {e:TypeId} {p:Option Addr} {len:Nat} {cap:Nat}  (hu:P.underlying t=some (.slice e)) (hg:Zq ops S g=some true:=by exact rfl) (hd:ZB n dst=true:=by exact rfl) (hx:ev S x=some (.slice p len cap):=by exact rfl) (h:K (ZbZ S dst (.int .i64 len)) D B L):opW P n ops i ⟨dst,.call ⟨.builtin .len,#[x],#[t]⟩,ty,pos,after,g⟩ K S D B L:=Zn (Zsz  hg hd hu hx h)
theorem xVs  {x:Operand} {t:TypeId} {l:List UInt8}  (hu:P.underlying t=some .string) (hg:Zq ops S g=some true:=by exact rfl) (hd:ZB n dst=true:=by exact rfl) (hx:ev S x=some (str l):=by exact rfl) (h:K (ZbZ S dst (.int .i64 l.length)) D B L):opW P n ops i ⟨dst,.call ⟨.builtin .len,#[x],#[t]⟩,ty,pos,after,g⟩ K S D B L:=Zn (ZoU  hg hd hu hx h)
theorem xNc  {x:Operand} {a:Addr}   (hg:Zq ops S g=some true:=by exact rfl) (hd:ZB n dst=true:=by exact rfl) (hx:ev S x=some (.pointer (some a)):=by exact rfl) (h:K (ZbZ S dst (.pointer (some a))) D B L):opW P n ops i ⟨dst,.nilCheck x,ty,pos,after,g⟩ K S D B L:=Zn (ZiX  hg hd hx h)
theorem x1  {t:TypeId} {x:Operand} {a:Addr} {v:Value} {l:List Value} {T:TypeId} {fr:Nat × Nat} {r:Cells}  (hl:lk P t=some none) (j:Nat) (hg:Zq ops S g=some true:=by exact rfl) (hd:ZB n dst=true:=by exact rfl) (hx:ev S x=some (ptr a):=by exact rfl) (hj:L[j]? = some ((a.block,.cells l.toArray T fr) :: r):=by exact rfl) (hs:a.spot=none:=by exact rfl) (hv:l[a.off]? = some v:=by exact rfl) (h:K (ZbZ S dst v) D B L):opW P n ops i ⟨dst,.load t x,ty,pos,after,g⟩ K S D B L:=Zn (Zl  hg hd hl hx (atL j hj hs hv) h)
theorem xL  {t:TypeId} {x:Operand} {a:Addr} {l:List Value} {T:TypeId} {fr:Nat × Nat} {r:Cells}  (vs:List Value) (hl:lk P t=some (some vs.length)) (j:Nat) (hg:Zq ops S g=some true:=by exact rfl) (hd:ZB n dst=true:=by exact rfl) (hx:ev S x=some (ptr a):=by exact rfl) (hj:L[j]? = some ((a.block,.cells l.toArray T fr) :: r):=by exact rfl) (hs:a.spot=none:=by exact rfl) (hv:(l.drop a.off).take vs.length=vs:=by exact rfl) (h:K (ZbZ S dst (.agg vs.toArray)) D B L):opW P n ops i ⟨dst,.load t x,ty,pos,after,g⟩ K S D B L:=Zn (Zag  vs hg hd hl hx (Zad j hj hs hv) h)
theorem y1  {t:TypeId} {x:Operand} {a:Addr} {v:Value} {b o:Nat} {row:List Value}  (hl:lk P t=some none) (hc:Za9 B b o row) (off:Nat) (hg:Zq ops S g=some true:=by exact rfl) (hd:ZB n dst=true:=by exact rfl) (hx:ev S x=some (ptr a):=by exact rfl) (ha:a=⟨b,o+off,none⟩:=by exact rfl) (hv:row[off]? = some v:=by exact rfl) (h:K (ZbZ S dst v) D B L):opW P n ops i ⟨dst,.load t x,ty,pos,after,g⟩ K S D B L:=Zn (Zl  hg hd hl hx (by subst ha;exact hc _ off _ hv) h)
theorem yL  {t:TypeId} {x:Operand} {a:Addr} {b o:Nat} {row:List Value}  (vs:List Value) (hl:lk P t=some (some vs.length)) (hc:Za9 B b o row) (off:Nat) (hg:Zq ops S g=some true:=by exact rfl) (hd:ZB n dst=true:=by exact rfl) (hx:ev S x=some (ptr a):=by exact rfl) (ha:a=⟨b,o+off,none⟩:=by exact rfl) (hv:(row.drop off).take vs.length=vs:=by exact rfl) (h:K (ZbZ S dst (.agg vs.toArray)) D B L):opW P n ops i ⟨dst,.load t x,ty,pos,after,g⟩ K S D B L:=Zn (Zag  vs hg hd hl hx (Zl1 hc off ha hv) h)
theorem xS  {t:TypeId} {x:Operand} {y:Operand} {a:Addr} {v:Value} {l:List Value} {T:TypeId} {r:Cells}  (vs:List Value) (j:Nat) (l':List Value) (hsz:Zaa P t=some vs.length) (hg:Zq ops S g=some true:=by exact rfl) (hd:ZB n dst=true:=by exact rfl) (hx:ev S x=some (ptr a):=by exact rfl) (hy:ev S y=some v:=by exact rfl) (hv:v.cells=vs.toArray:=by exact rfl) (ho:vs.all Zg1=true:=by exact rfl) (hj:L[j]? = some ((a.block,.cells l.toArray T (0,0)) :: r):=by exact rfl) (hs:a.spot=none:=by exact rfl) (hlen:Nat.ble (a.off+vs.length) l.length=true:=by exact rfl) (hl':Zbn l a.off vs=l':=by exact rfl) (h:K (ZbZ S dst undef) D B (L.set j ((a.block,.cells l'.toArray T (0,0)) :: r))):opW P n ops i ⟨dst,.store t x y,ty,pos,after,g⟩ K S D B L:=Zn (ZO  vs j l' hg hd hsz hx hy hv ho hj hs hlen hl' h)
theorem xB  {t:TypeId} {z:Value} {pl:List (Nat × Nat)} {vs:List Value} (parts:List (Nat × Operand)) (zl l':List Value) (hpl:Zbc P t=some pl) (hz:ZaB P t=some z) (hg:Zq ops S g=some true:=by exact rfl) (hd:ZB n dst=true:=by exact rfl) (hzl:z.cells.toList=zl:=by exact rfl) (ha:evs S (parts.map (·.2))=some vs:=by exact rfl) (hf:ZiN (fun i=>pl[i]?) zl ((parts.map (·.1)).zip vs)=some l':=by exact rfl) (h:K (ZbZ S dst (.agg l'.toArray)) D B L):opW P n ops i ⟨dst,.build t parts.toArray,ty,pos,after,g⟩ K S D B L:=Zn (ZaH (parts:=parts) zl l' hg hd hpl hz hzl ha hf h)
theorem xAl  {t:TypeId} {z:Value} (l:List Value) (hz:ZaB P t=some z) (hg:Zq ops S g=some true:=by exact rfl) (hd:ZB n dst=true:=by exact rfl) (hl:z.cells=l.toArray:=by exact rfl) (h :∀b,K (ZbZ S dst (ptr ⟨b,0,none⟩)) D B (L ++ [ZaY b l t])):opW P n ops i ⟨dst,.alloc t,ty,pos,after,g⟩ K S D B L:=Zn (Zam (l:=l) hg hd hz hl h)
theorem xBx  {t:TypeId} {x:Operand} {v:Value} (l:List Value)  (hg:Zq ops S g=some true:=by exact rfl) (hd:ZB n dst=true:=by exact rfl) (hx:ev S x=some v:=by exact rfl) (hl:v.cells=l.toArray:=by exact rfl) (h :∀b,K (ZbZ S dst (ptr ⟨b,0,none⟩)) D B (L ++ [ZaY b l t])):opW P n ops i ⟨dst,.box t x,ty,pos,after,g⟩ K S D B L:=Zn (ZvQ (l:=l) hg hd hx hl h)
theorem xIx  {t:TypeId} {e:TypeId} {x:Operand} {y:Operand} {k:IntKind} {b:Nat} {o:Nat} {len:Nat} {cap:Nat} {sz:Nat} {ix:Int}  (hu:P.underlying t=some (.slice e)) (hsz:Zaa P e=some sz) (hg:Zq ops S g=some true:=by exact rfl) (hd:ZB n dst=true:=by exact rfl) (hx:ev S x=some (.slice (some ⟨b,o,none⟩) len cap):=by exact rfl) (hy:ev S y=some (.int k ix):=by exact rfl) (h0:0≤ix:=by first | omega | (simp;done) | (simp;omega)) (h1:ix<len:=by first | omega | (simp;done) | (simp;omega)) (h:K (ZbZ S dst (ptr ⟨b,o+ix.toNat*sz,none⟩)) D B L):opW P n ops i ⟨dst,.indexAddr t x y,ty,pos,after,g⟩ K S D B L:=Zn (Zuk  hg hd hu hsz hx hy h0 h1 h)
theorem xIp  {t:TypeId} {e:TypeId} {x:Operand} {y:Operand} {k:IntKind} {p:Option Addr} {b:Nat} {len:Nat} {cap:Nat} {sz:Nat} {ix:Int}  (hp:p=some ⟨b,0,none⟩) (hu:P.underlying t=some (.slice e)) (hsz:Zaa P e=some sz) (hg:Zq ops S g=some true:=by exact rfl) (hd:ZB n dst=true:=by exact rfl) (hx:ev S x=some (.slice p len cap):=by exact rfl) (hy:ev S y=some (.int k ix):=by exact rfl) (h0:0≤ix:=by first | omega | (simp;done) | (simp;omega)) (h1:ix<len:=by first | omega | (simp;done) | (simp;omega)) (h:K (ZbZ S dst (ptr ⟨b,ix.toNat*sz,none⟩)) D B L):opW P n ops i ⟨dst,.indexAddr t x y,ty,pos,after,g⟩ K S D B L:=Zn (ZfO  hp hg hd hu hsz hx hy h0 h1 h)
theorem xX  {f:FuncId} {xs:List Operand} {vs:List Value} {ats:Array TypeId} {Q:Value→Cells→Prop} {s:Cells}  (j:Nat) (hj:L[j]? = some s) (he:enters P f=true) (ha:evs S xs=some vs) (hc:Ex1 P f vs B s Q) (hg:Zq ops S g=some true:=by exact rfl) (hd:ZB n dst=true:=by exact rfl) (h :∀v s',Q v s'→K (ZbZ S dst v) D B (L.set j s')):opW P n ops i ⟨dst,.call ⟨.value (.func f),xs.toArray,ats⟩,ty,pos,after,g⟩ K S D B L:=Zn (Zcp  j hj hg hd he ha hc h)
theorem xR  {f:FuncId} {xs:List Operand} {vs:List Value} {ats:Array TypeId} {v:Value}  (he:enters P f=true) (ha:evs S xs=some vs) (hc:Za1 P f vs B v) (hg:Zq ops S g=some true:=by exact rfl) (hd:ZB n dst=true:=by exact rfl) (h:K (ZbZ S dst v) D B L):opW P n ops i ⟨dst,.call ⟨.value (.func f),xs.toArray,ats⟩,ty,pos,after,g⟩ K S D B L:=Zn (ZaR  hg hd he ha hc h)
theorem xBs  {t:TypeId} {e:TypeId} {len:Nat} {sz:Nat} {z:Value} {vs:List Value} (parts:List (Nat × Operand)) (l':List Value) (hu:P.underlying t=some (.slice e)) (hsz:Zaa P e=some sz) (hz:ZaB P e=some z) (hg:Zq ops S g=some true:=by exact rfl) (hd:ZB n dst=true:=by exact rfl) (hbig:Nat.ble (len*sz) 1024=true:=by exact rfl) (hidx:parts.map (·.1)=List.range len:=by exact rfl) (ha:evs S (parts.map (·.2))=some vs:=by exact rfl) (hall:vs.all (fun v=>Nat.beq v.cells.toList.length sz)=true:=by exact rfl) (hl':(vs.map fun v=>v.cells.toList).flatten=l':=by exact rfl) (h :∀b,K (ZbZ S dst (.slice (some ⟨b,0,none⟩) len len)) D B (L ++ [ZaY b l' e])):opW P n ops i ⟨dst,.buildSlice t len parts.toArray,ty,pos,after,g⟩ K S D B L:=Zn (Zy (parts:=parts) l' hg hd hu hsz hz hbig hidx ha hall hl' h)
end
section
variable {P:PJ} {n:Nat} {ops:Array Oper} {K:ZaF} {S:Env} {D:List Deferred} {B:Kn} {L:List Cells}
variable {dst:Option Tmp} {ty:TypeId} {pos:String} {after:Array Edge} {g:Option (Nat × Bool)} {t u:TypeId} {x y:Operand}
theorem aT {C:Cx P} {k':List Item} {I:Kn→List Cells→Prop} {ℓ:List Nat} (i:Nat) {o:Oper} {v:Value} (hi:ops[i]? = some o) (hq:quiet P n ops I i o v (sel (o.looksAt ops) S)) (hr:(Za3 ops ℓ).contains i=true:=by kernel_rfl) (hd:ZB n o.dst=true:=by exact rfl) (hp:Zjj o=false:=by rfl) (h:ZbR C k' n ops I (i :: ℓ) K (ZbZ S o.dst v) D B L):ZbR C k' n ops I ℓ K S D B L:=Zse i hi hr hd hq h hp
theorem r4 {α β γ δ:Type} {a:α} {b:β} {c:γ} {d:δ} : a=a∧b=b∧c=c∧d=d:=⟨rfl,rfl,rfl,rfl⟩
variable {C:Cx P} {k':List Item} {I:Kn→List Cells→Prop} {ℓ:List Nat}
theorem aM  {x:Operand} {v:Value} (i:Nat) (hii:ops[i]? = some ⟨dst,.move x,ty,pos,after,g⟩)  (hrr:(Za3 ops ℓ).contains i=true:=by kernel_rfl) (hdd:ZB n dst=true:=by exact rfl) (hg:Zq ops (sel ((⟨dst,.move x,ty,pos,after,g⟩:Oper).looksAt ops) S) g=some true:=by exact rfl) (hd:ZB n dst=true:=by exact rfl) (hx:ev (sel ((⟨dst,.move x,ty,pos,after,g⟩:Oper).looksAt ops) S) x=some v:=by exact rfl) (h:ZbR C k' n ops I (i :: ℓ) K (ZbZ S dst v) D B L):ZbR C k' n ops I ℓ K S D B L:=Zau i hii hrr hdd (fun _ _ _=>Zsx hg hd hx ⟨rfl,rfl,rfl,rfl⟩) h
theorem aA  {x:Operand} {v:Value} (i:Nat) (hii:ops[i]? = some ⟨dst,.assign x,ty,pos,after,g⟩)  (hrr:(Za3 ops ℓ).contains i=true:=by kernel_rfl) (hdd:ZB n dst=true:=by exact rfl) (hg:Zq ops (sel ((⟨dst,.assign x,ty,pos,after,g⟩:Oper).looksAt ops) S) g=some true:=by exact rfl) (hd:ZB n dst=true:=by exact rfl) (hx:ev (sel ((⟨dst,.assign x,ty,pos,after,g⟩:Oper).looksAt ops) S) x=some v:=by exact rfl) (h:ZbR C k' n ops I (i :: ℓ) K (ZbZ S dst v) D B L):ZbR C k' n ops I ℓ K S D B L:=Zau i hii hrr hdd (fun _ _ _=>ZmO hg hd hx ⟨rfl,rfl,rfl,rfl⟩) h
theorem aZ  {dst:Option Tmp} {op:Op} {t:TypeId} {pos:String} {after:Array Edge} {g:Option (Nat × Bool)} (i:Nat) (hii:ops[i]? = some ⟨dst,op,t,pos,after,g⟩)  (hrr:(Za3 ops ℓ).contains i=true:=by kernel_rfl) (hdd:ZB n dst=true:=by exact rfl) (hg:Zq ops (sel ((⟨dst,op,t,pos,after,g⟩:Oper).looksAt ops) S) g=some false:=by exact rfl) (hd:ZB n dst=true:=by exact rfl) (h:ZbR C k' n ops I (i :: ℓ) K (ZbZ S dst undef) D B L):ZbR C k' n ops I ℓ K S D B L:=Zau i hii hrr hdd (fun _ _ _=>Zsu hg hd ⟨rfl,rfl,rfl,rfl⟩) h
theorem aPT  {c:Operand} {a:Operand} {b:Operand} {v:Value} (i:Nat) (hii:ops[i]? = some ⟨dst,.pick c a b,ty,pos,after,g⟩)  (hrr:(Za3 ops ℓ).contains i=true:=by kernel_rfl) (hdd:ZB n dst=true:=by exact rfl) (hg:Zq ops (sel ((⟨dst,.pick c a b,ty,pos,after,g⟩:Oper).looksAt ops) S) g=some true:=by exact rfl) (hd:ZB n dst=true:=by exact rfl) (hc:ev (sel ((⟨dst,.pick c a b,ty,pos,after,g⟩:Oper).looksAt ops) S) c=some (.bool true):=by exact rfl) (hx:ev (sel ((⟨dst,.pick c a b,ty,pos,after,g⟩:Oper).looksAt ops) S) a=some v:=by exact rfl) (h:ZbR C k' n ops I (i :: ℓ) K (ZbZ S dst v) D B L):ZbR C k' n ops I ℓ K S D B L:=Zau i hii hrr hdd (fun _ _ _=>ZoQ hg hd hc hx ⟨rfl,rfl,rfl,rfl⟩) h
theorem aPF  {c:Operand} {a:Operand} {b:Operand} {v:Value} (i:Nat) (hii:ops[i]? = some ⟨dst,.pick c a b,ty,pos,after,g⟩)  (hrr:(Za3 ops ℓ).contains i=true:=by kernel_rfl) (hdd:ZB n dst=true:=by exact rfl) (hg:Zq ops (sel ((⟨dst,.pick c a b,ty,pos,after,g⟩:Oper).looksAt ops) S) g=some true:=by exact rfl) (hd:ZB n dst=true:=by exact rfl) (hc:ev (sel ((⟨dst,.pick c a b,ty,pos,after,g⟩:Oper).looksAt ops) S) c=some (.bool false):=by exact rfl) (hx:ev (sel ((⟨dst,.pick c a b,ty,pos,after,g⟩:Oper).looksAt ops) S) b=some v:=by exact rfl) (h:ZbR C k' n ops I (i :: ℓ) K (ZbZ S dst v) D B L):ZbR C k' n ops I ℓ K S D B L:=Zau i hii hrr hdd (fun _ _ _=>ZoR hg hd hc hx ⟨rfl,rfl,rfl,rfl⟩) h
theorem aE  {x:Operand} {ix:Nat} {vs:List Value} {v:Value} (i:Nat) (hii:ops[i]? = some ⟨dst,.extract x ix,ty,pos,after,g⟩)  (hrr:(Za3 ops ℓ).contains i=true:=by kernel_rfl) (hdd:ZB n dst=true:=by exact rfl) (hg:Zq ops (sel ((⟨dst,.extract x ix,ty,pos,after,g⟩:Oper).looksAt ops) S) g=some true:=by exact rfl) (hd:ZB n dst=true:=by exact rfl) (hx:ev (sel ((⟨dst,.extract x ix,ty,pos,after,g⟩:Oper).looksAt ops) S) x=some (.tuple vs.toArray):=by exact rfl) (hi:vs[ix]? = some v:=by exact rfl) (h:ZbR C k' n ops I (i :: ℓ) K (ZbZ S dst v) D B L):ZbR C k' n ops I ℓ K S D B L:=Zau i hii hrr hdd (fun _ _ _=>Zkn hg hd hx hi ⟨rfl,rfl,rfl,rfl⟩) h
theorem aW  {s:TypeId} {x:Operand} {fi:Nat} {off:Nat} {a:Addr} (i:Nat) (hii:ops[i]? = some ⟨dst,.fieldAddr s x fi,ty,pos,after,g⟩) (hf:ZT P s fi=some off) (hrr:(Za3 ops ℓ).contains i=true:=by kernel_rfl) (hdd:ZB n dst=true:=by exact rfl) (hg:Zq ops (sel ((⟨dst,.fieldAddr s x fi,ty,pos,after,g⟩:Oper).looksAt ops) S) g=some true:=by exact rfl) (hd:ZB n dst=true:=by exact rfl) (hx:ev (sel ((⟨dst,.fieldAddr s x fi,ty,pos,after,g⟩:Oper).looksAt ops) S) x=some (ptr a):=by exact rfl) (h:ZbR C k' n ops I (i :: ℓ) K (ZbZ S dst (ptr (a.add off))) D B L):ZbR C k' n ops I ℓ K S D B L:=Zau i hii hrr hdd (fun _ _ _=>Zhs hg hd hf hx ⟨rfl,rfl,rfl,rfl⟩) h
theorem aN  {x:Operand} {b:Bool} {t:TypeId} (i:Nat) (hii:ops[i]? = some ⟨dst,.unOp .not t x,ty,pos,after,g⟩)  (hrr:(Za3 ops ℓ).contains i=true:=by kernel_rfl) (hdd:ZB n dst=true:=by exact rfl) (hg:Zq ops (sel ((⟨dst,.unOp .not t x,ty,pos,after,g⟩:Oper).looksAt ops) S) g=some true:=by exact rfl) (hd:ZB n dst=true:=by exact rfl) (hx:ev (sel ((⟨dst,.unOp .not t x,ty,pos,after,g⟩:Oper).looksAt ops) S) x=some (.bool b):=by exact rfl) (h:ZbR C k' n ops I (i :: ℓ) K (ZbZ S dst (.bool (!b))) D B L):ZbR C k' n ops I ℓ K S D B L:=Zau i hii hrr hdd (fun _ _ _=>Zud hg hd hx ⟨rfl,rfl,rfl,rfl⟩) h
theorem aNc  {x:Operand} {a:Addr} (i:Nat) (hii:ops[i]? = some ⟨dst,.nilCheck x,ty,pos,after,g⟩)  (hrr:(Za3 ops ℓ).contains i=true:=by kernel_rfl) (hdd:ZB n dst=true:=by exact rfl) (hg:Zq ops (sel ((⟨dst,.nilCheck x,ty,pos,after,g⟩:Oper).looksAt ops) S) g=some true:=by exact rfl) (hd:ZB n dst=true:=by exact rfl) (hx:ev (sel ((⟨dst,.nilCheck x,ty,pos,after,g⟩:Oper).looksAt ops) S) x=some (.pointer (some a)):=by exact rfl) (h:ZbR C k' n ops I (i :: ℓ) K (ZbZ S dst (.pointer (some a))) D B L):ZbR C k' n ops I ℓ K S D B L:=Zau i hii hrr hdd (fun _ _ _=>ZiX hg hd hx ⟨rfl,rfl,rfl,rfl⟩) h
theorem aV  {x:Operand} {t:TypeId} {e:TypeId} {p:Option Addr} {len:Nat} {cap:Nat} (i:Nat) (hii:ops[i]? = some ⟨dst,.call ⟨.builtin .len,#[x],#[t]⟩,ty,pos,after,g⟩) (hu:P.underlying t=some (.slice e)) (hrr:(Za3 ops ℓ).contains i=true:=by kernel_rfl) (hdd:ZB n dst=true:=by exact rfl) (hg:Zq ops (sel ((⟨dst,.call ⟨.builtin .len,#[x],#[t]⟩,ty,pos,after,g⟩:Oper).looksAt ops) S) g=some true:=by exact rfl) (hd:ZB n dst=true:=by exact rfl) (hx:ev (sel ((⟨dst,.call ⟨.builtin .len,#[x],#[t]⟩,ty,pos,after,g⟩:Oper).looksAt ops) S) x=some (.slice p len cap):=by exact rfl) (h:ZbR C k' n ops I (i :: ℓ) K (ZbZ S dst (.int .i64 len)) D B L):ZbR C k' n ops I ℓ K S D B L:=Zau i hii hrr hdd (fun _ _ _=>Zsz hg hd hu hx ⟨rfl,rfl,rfl,rfl⟩) h
theorem ZqM  {k:IntKind} {a b:Int} (i:Nat) (hii:ops[i]? = some ⟨dst,.binOp .lss t x y u,ty,pos,after,g⟩)  (hrr:(Za3 ops ℓ).contains i=true:=by kernel_rfl) (hdd:ZB n dst=true:=by exact rfl) (hg:Zq ops (sel ((⟨dst,.binOp .lss t x y u,ty,pos,after,g⟩:Oper).looksAt ops) S) g=some true:=by exact rfl) (hd:ZB n dst=true:=by exact rfl) (hx:ev (sel ((⟨dst,.binOp .lss t x y u,ty,pos,after,g⟩:Oper).looksAt ops) S) x=some (.int k a):=by exact rfl) (hy:ev (sel ((⟨dst,.binOp .lss t x y u,ty,pos,after,g⟩:Oper).looksAt ops) S) y=some (.int k b):=by exact rfl) (h:ZbR C k' n ops I (i :: ℓ) K (ZbZ S dst (.bool (decide (a<b)))) D B L):ZbR C k' n ops I ℓ K S D B L:=Zau i hii hrr hdd (fun _ _ _=>Zui hg hd hx hy ⟨rfl,rfl,rfl,rfl⟩) h
theorem Zt3  {k:IntKind} {a b:Int} (i:Nat) (hii:ops[i]? = some ⟨dst,.binOp .leq t x y u,ty,pos,after,g⟩)  (hrr:(Za3 ops ℓ).contains i=true:=by kernel_rfl) (hdd:ZB n dst=true:=by exact rfl) (hg:Zq ops (sel ((⟨dst,.binOp .leq t x y u,ty,pos,after,g⟩:Oper).looksAt ops) S) g=some true:=by exact rfl) (hd:ZB n dst=true:=by exact rfl) (hx:ev (sel ((⟨dst,.binOp .leq t x y u,ty,pos,after,g⟩:Oper).looksAt ops) S) x=some (.int k a):=by exact rfl) (hy:ev (sel ((⟨dst,.binOp .leq t x y u,ty,pos,after,g⟩:Oper).looksAt ops) S) y=some (.int k b):=by exact rfl) (h:ZbR C k' n ops I (i :: ℓ) K (ZbZ S dst (.bool (decide (a≤b)))) D B L):ZbR C k' n ops I ℓ K S D B L:=Zau i hii hrr hdd (fun _ _ _=>Zuj hg hd hx hy ⟨rfl,rfl,rfl,rfl⟩) h
theorem ZmG  {k:IntKind} {a b:Int} (i:Nat) (hii:ops[i]? = some ⟨dst,.binOp .gtr t x y u,ty,pos,after,g⟩)  (hrr:(Za3 ops ℓ).contains i=true:=by kernel_rfl) (hdd:ZB n dst=true:=by exact rfl) (hg:Zq ops (sel ((⟨dst,.binOp .gtr t x y u,ty,pos,after,g⟩:Oper).looksAt ops) S) g=some true:=by exact rfl) (hd:ZB n dst=true:=by exact rfl) (hx:ev (sel ((⟨dst,.binOp .gtr t x y u,ty,pos,after,g⟩:Oper).looksAt ops) S) x=some (.int k a):=by exact rfl) (hy:ev (sel ((⟨dst,.binOp .gtr t x y u,ty,pos,after,g⟩:Oper).looksAt ops) S) y=some (.int k b):=by exact rfl) (h:ZbR C k' n ops I (i :: ℓ) K (ZbZ S dst (.bool (decide (b<a)))) D B L):ZbR C k' n ops I ℓ K S D B L:=Zau i hii hrr hdd (fun _ _ _=>Zum hg hd hx hy ⟨rfl,rfl,rfl,rfl⟩) h
theorem Zvn  {k:IntKind} {a b:Int} (i:Nat) (hii:ops[i]? = some ⟨dst,.binOp .geq t x y u,ty,pos,after,g⟩)  (hrr:(Za3 ops ℓ).contains i=true:=by kernel_rfl) (hdd:ZB n dst=true:=by exact rfl) (hg:Zq ops (sel ((⟨dst,.binOp .geq t x y u,ty,pos,after,g⟩:Oper).looksAt ops) S) g=some true:=by exact rfl) (hd:ZB n dst=true:=by exact rfl) (hx:ev (sel ((⟨dst,.binOp .geq t x y u,ty,pos,after,g⟩:Oper).looksAt ops) S) x=some (.int k a):=by exact rfl) (hy:ev (sel ((⟨dst,.binOp .geq t x y u,ty,pos,after,g⟩:Oper).looksAt ops) S) y=some (.int k b):=by exact rfl) (h:ZbR C k' n ops I (i :: ℓ) K (ZbZ S dst (.bool (decide (b≤a)))) D B L):ZbR C k' n ops I ℓ K S D B L:=Zau i hii hrr hdd (fun _ _ _=>Zun hg hd hx hy ⟨rfl,rfl,rfl,rfl⟩) h
theorem ZqO  {k:IntKind} {a b:Int} (i:Nat) (hii:ops[i]? = some ⟨dst,.binOp .eql t x y u,ty,pos,after,g⟩)  (hrr:(Za3 ops ℓ).contains i=true:=by kernel_rfl) (hdd:ZB n dst=true:=by exact rfl) (hg:Zq ops (sel ((⟨dst,.binOp .eql t x y u,ty,pos,after,g⟩:Oper).looksAt ops) S) g=some true:=by exact rfl) (hd:ZB n dst=true:=by exact rfl) (hx:ev (sel ((⟨dst,.binOp .eql t x y u,ty,pos,after,g⟩:Oper).looksAt ops) S) x=some (.int k a):=by exact rfl) (hy:ev (sel ((⟨dst,.binOp .eql t x y u,ty,pos,after,g⟩:Oper).looksAt ops) S) y=some (.int k b):=by exact rfl) (h:ZbR C k' n ops I (i :: ℓ) K (ZbZ S dst (.bool (decide (a=b)))) D B L):ZbR C k' n ops I ℓ K S D B L:=Zau i hii hrr hdd (fun _ _ _=>ZsB hg hd hx hy ⟨rfl,rfl,rfl,rfl⟩) h
theorem Zvm  {k:IntKind} {a b:Int} (i:Nat) (hii:ops[i]? = some ⟨dst,.binOp .neq t x y u,ty,pos,after,g⟩)  (hrr:(Za3 ops ℓ).contains i=true:=by kernel_rfl) (hdd:ZB n dst=true:=by exact rfl) (hg:Zq ops (sel ((⟨dst,.binOp .neq t x y u,ty,pos,after,g⟩:Oper).looksAt ops) S) g=some true:=by exact rfl) (hd:ZB n dst=true:=by exact rfl) (hx:ev (sel ((⟨dst,.binOp .neq t x y u,ty,pos,after,g⟩:Oper).looksAt ops) S) x=some (.int k a):=by exact rfl) (hy:ev (sel ((⟨dst,.binOp .neq t x y u,ty,pos,after,g⟩:Oper).looksAt ops) S) y=some (.int k b):=by exact rfl) (h:ZbR C k' n ops I (i :: ℓ) K (ZbZ S dst (.bool (decide (a≠b)))) D B L):ZbR C k' n ops I ℓ K S D B L:=Zau i hii hrr hdd (fun _ _ _=>Zsw hg hd hx hy ⟨rfl,rfl,rfl,rfl⟩) h
theorem ZqN  {a b:List UInt8} (i:Nat) (hii:ops[i]? = some ⟨dst,.binOp .eql t x y u,ty,pos,after,g⟩)  (hrr:(Za3 ops ℓ).contains i=true:=by kernel_rfl) (hdd:ZB n dst=true:=by exact rfl) (hg:Zq ops (sel ((⟨dst,.binOp .eql t x y u,ty,pos,after,g⟩:Oper).looksAt ops) S) g=some true:=by exact rfl) (hd:ZB n dst=true:=by exact rfl) (hx:ev (sel ((⟨dst,.binOp .eql t x y u,ty,pos,after,g⟩:Oper).looksAt ops) S) x=some (str a):=by exact rfl) (hy:ev (sel ((⟨dst,.binOp .eql t x y u,ty,pos,after,g⟩:Oper).looksAt ops) S) y=some (str b):=by exact rfl) (h:ZbR C k' n ops I (i :: ℓ) K (ZbZ S dst (.bool (decide (a=b)))) D B L):ZbR C k' n ops I ℓ K S D B L:=Zau i hii hrr hdd (fun _ _ _=>ZsA hg hd hx hy ⟨rfl,rfl,rfl,rfl⟩) h
theorem aD  {k:IntKind} {a b r:Int} (i:Nat) (hii:ops[i]? = some ⟨dst,.binOp .add t x y u,ty,pos,after,g⟩)  (hrr:(Za3 ops ℓ).contains i=true:=by kernel_rfl) (hdd:ZB n dst=true:=by exact rfl) (hg:Zq ops (sel ((⟨dst,.binOp .add t x y u,ty,pos,after,g⟩:Oper).looksAt ops) S) g=some true:=by exact rfl) (hd:ZB n dst=true:=by exact rfl) (hx:ev (sel ((⟨dst,.binOp .add t x y u,ty,pos,after,g⟩:Oper).looksAt ops) S) x=some (.int k a):=by exact rfl) (hy:ev (sel ((⟨dst,.binOp .add t x y u,ty,pos,after,g⟩:Oper).looksAt ops) S) y=some (.int k b):=by exact rfl) (hr:k.wrap (a+b)=r:=by first | exact ZaK (by first | omega | (simp;done) | (simp;omega)) (by first | omega | (simp;done) | (simp;omega)) | exact rfl) (h:ZbR C k' n ops I (i :: ℓ) K (ZbZ S dst (.int k r)) D B L):ZbR C k' n ops I ℓ K S D B L:=Zau i hii hrr hdd (fun _ _ _=>Zeu hg hd hx hy hr ⟨rfl,rfl,rfl,rfl⟩) h
theorem aU  {k:IntKind} {a b r:Int} (i:Nat) (hii:ops[i]? = some ⟨dst,.binOp .sub t x y u,ty,pos,after,g⟩)  (hrr:(Za3 ops ℓ).contains i=true:=by kernel_rfl) (hdd:ZB n dst=true:=by exact rfl) (hg:Zq ops (sel ((⟨dst,.binOp .sub t x y u,ty,pos,after,g⟩:Oper).looksAt ops) S) g=some true:=by exact rfl) (hd:ZB n dst=true:=by exact rfl) (hx:ev (sel ((⟨dst,.binOp .sub t x y u,ty,pos,after,g⟩:Oper).looksAt ops) S) x=some (.int k a):=by exact rfl) (hy:ev (sel ((⟨dst,.binOp .sub t x y u,ty,pos,after,g⟩:Oper).looksAt ops) S) y=some (.int k b):=by exact rfl) (hr:k.wrap (a - b)=r:=by first | exact ZaK (by first | omega | (simp;done) | (simp;omega)) (by first | omega | (simp;done) | (simp;omega)) | exact rfl) (h:ZbR C k' n ops I (i :: ℓ) K (ZbZ S dst (.int k r)) D B L):ZbR C k' n ops I ℓ K S D B L:=Zau i hii hrr hdd (fun _ _ _=>ZiH hg hd hx hy hr ⟨rfl,rfl,rfl,rfl⟩) h
theorem aIx  {t:TypeId} {e:TypeId} {x:Operand} {y:Operand} {k:IntKind} {b:Nat} {o:Nat} {len:Nat} {cap:Nat} {sz:Nat} {ix:Int} (i:Nat) (hii:ops[i]? = some ⟨dst,.indexAddr t x y,ty,pos,after,g⟩) (hu:P.underlying t=some (.slice e)) (hsz:Zaa P e=some sz) (hrr:(Za3 ops ℓ).contains i=true:=by kernel_rfl) (hdd:ZB n dst=true:=by exact rfl) (hg:Zq ops (sel ((⟨dst,.indexAddr t x y,ty,pos,after,g⟩:Oper).looksAt ops) S) g=some true:=by exact rfl) (hd:ZB n dst=true:=by exact rfl) (hx:ev (sel ((⟨dst,.indexAddr t x y,ty,pos,after,g⟩:Oper).looksAt ops) S) x=some (.slice (some ⟨b,o,none⟩) len cap):=by exact rfl) (hy:ev (sel ((⟨dst,.indexAddr t x y,ty,pos,after,g⟩:Oper).looksAt ops) S) y=some (.int k ix):=by exact rfl) (h0:0≤ix:=by first | omega | (simp;done) | (simp;omega)) (h1:ix<len:=by first | omega | (simp;done) | (simp;omega)) (h:ZbR C k' n ops I (i :: ℓ) K (ZbZ S dst (ptr ⟨b,o+ix.toNat*sz,none⟩)) D B L):ZbR C k' n ops I ℓ K S D B L:=Zau i hii hrr hdd (fun _ _ _=>Zuk hg hd hu hsz hx hy h0 h1 ⟨rfl,rfl,rfl,rfl⟩) h
end
end Go.BL
namespace Go.BL
open Go
set_option linter.unusedVariables false
set_option linter.unusedSimpArgs false
def ZbB (c:UInt8):Bool:=(decide (97≤c.toNat) && decide (c.toNat≤122)) || (decide (48≤c.toNat) && decide (c.toNat≤57))
def Zaj (l:List UInt8):Bool:=l.all ZbB && decide (1≤l.length) && decide (l.length≤8)
theorem Zsf {l:List UInt8} {k:Nat} {c:UInt8} (hc:l[k]? = some c) (h:ZbB c=false):l.all ZbB=false:=by
  rw [Bool.eq_false_iff];intro ha
  have:=List.all_eq_true.1 ha c (List.mem_of_getElem? hc)
  rw [h] at this;cases this
theorem Znu {l:List UInt8} {k:Nat} {c:UInt8} (hc:l[k]? = some c) (h:ZbB c=true) (ha:(l.take k).all ZbB=true):(l.take (k+1)).all ZbB=true:=by
  rw [List.take_add_one,hc];simp only [Option.toList_some,List.all_append,ha,List.all_cons,h,List.all_nil];rfl
def word (l:List UInt8) (i:Nat):List UInt8:=(l.drop i).takeWhile ZbB
def Zdz (w:List UInt8):Bool:=decide (1≤w.length) && decide (w.length≤8)
theorem Zpi {o:Option UInt8} {f:UInt8→Bool} (h:(match o with | some c=>f c | none=>false)=true) :∃c,o=some c∧f c=true:=by
  cases o with
  | none=>cases h
  | some c=>exact ⟨c,rfl,h⟩
theorem Zb6 {α:Type} {l:List α} {k:Nat} {c:α} (h:l[k]? = some c):k<l.length:=(List.getElem?_eq_some_iff.1 h).1
theorem ZfQ {p:UInt8→Bool} :∀{m:List UInt8} {k:Nat},(m.take k).all p=true→(∀c,m[k]? = some c→p c=false)→m.takeWhile p=m.take k
  | [],k,_,_=>by simp
  | c :: m,0,_,h=>by simp [List.takeWhile,h c rfl]
  | c :: m,k+1,ha,h=>by
    simp only [List.take_succ_cons,List.all_cons,Bool.and_eq_true] at ha
    simp only [List.takeWhile,ha.1,List.take_succ_cons]
    rw [ZfQ ha.2 (fun c hc=>h c (by simpa using hc))]
theorem ZqX {l:List UInt8} {i k:Nat} (ha:((l.drop i).take k).all ZbB=true) (h :∀c,l[i+k]? = some c→ZbB c=false):word l i=(l.drop i).take k:=
  ZfQ ha (fun c hc=>h c (by simpa using hc))
theorem Zfe {l:List UInt8} {i k:Nat} : (l.take (i+k)).drop i=(l.drop i).take k:=by
  rw [List.drop_take,Nat.add_sub_cancel_left]
theorem Zi1 {a b c d:Value} (h:a=c) (h':b=d):Value.tuple #[a,b]=Value.tuple #[c,d]:=by rw [h,h']
def more:Nat→List UInt8→Nat→Bool × Nat
  | 0,_,i=>(true,i)
  | n+1,l,i=>if l[i]? = some 46 then (if Zdz (word l (i+1))=true then more n l (i+1+(word l (i+1)).length) else (false,i+1+(word l (i+1)).length)) else (true,i)
def dom (l:List UInt8) (i:Nat):Bool × Nat:=if Zdz (word l i)=true then more 2 l (i+(word l i).length) else (false,i+(word l i).length)
def Zip (l:List UInt8) (i:Nat):List UInt8:=if (dom l i).1=true then (l.take (dom l i).2).drop i else []
def Zmx (l:List UInt8) (i:Nat):Bool:=(dom l i).1 && decide ((dom l i).2 - i≤20)
theorem Zmw {l:List UInt8} {i:Nat} (h:Zdz (word l i)=false):dom l i=(false,i+(word l i).length):=by simp [dom,h]
theorem Zr4 {l:List UInt8} {i:Nat} (h:Zdz (word l i)=true):dom l i=more 2 l (i+(word l i).length):=by simp [dom,h]
theorem Zho {l:List UInt8} {i:Nat} (h:i≤l.length):i+(word l i).length≤l.length:=by
  have:=List.IsPrefix.length_le (List.takeWhile_prefix ZbB (l:=l.drop i))
  rw [List.length_drop] at this
  unfold word;omega
theorem ZhO {l:List UInt8} {n j:Nat} (h : ¬ l[j]? = some 46):more n l j=(true,j):=by
  cases n with
  | zero=>rfl
  | succ n=>rw [more,if_neg h]
theorem Zrr {l:List UInt8} {n j:Nat} (hn:1≤n) (h:l[j]? = some 46) (hw:Zdz (word l (j+1))=false):more n l j=(false,j+1+(word l (j+1)).length):=by
  cases n with
  | zero=>omega
  | succ n=>rw [more,if_pos h,if_neg (by simp [hw])]
theorem ZpD {l:List UInt8} {n j:Nat} (hn:1≤n) (h:l[j]? = some 46) (hw:Zdz (word l (j+1))=true):more n l j=more (n - 1) l (j+1+(word l (j+1)).length):=by
  cases n with
  | zero=>omega
  | succ n=>rw [more,if_pos h,if_pos hw];rfl
theorem Zeb {p:UInt8→Bool} :∀l:List UInt8,(l.takeWhile p).length=l.length↔l.all p=true
  | []=>by simp
  | c :: l=>by
    have h:=Zeb (p:=p) l
    cases hc:p c with
    | true=>simp [List.takeWhile,hc] at h ⊢;exact h
    | false=>simp [List.takeWhile,hc]
theorem Zdl {l:List UInt8} : Zaj l=(Zdz (word l 0) && decide ((word l 0).length=l.length)):=by
  have h:=Zeb (p:=ZbB) l
  have e:word l 0=l.takeWhile ZbB:=by simp [word]
  rw [Bool.eq_iff_iff]
  simp only [Zaj,Zdz,e,Bool.and_eq_true,decide_eq_true_eq]
  constructor
  · rintro ⟨⟨h1,h2⟩,h3⟩
    have:=h.2 h1
    omega
  · rintro ⟨⟨h1,h2⟩,h3⟩
    exact ⟨⟨h.1 h3,by omega⟩,by omega⟩
theorem ZpC {l:List UInt8} :∀(n j:Nat),j≤l.length→(more n l j).2≤l.length
  | 0,j,h=>h
  | n+1,j,h=>by
    rw [more]
    split
    · rename_i e
      have:=Zb6 e
      have h2:=Zho (l:=l) (i:=j+1) (by omega)
      split
      · exact ZpC n _ h2
      · exact h2
    · exact h
theorem Zva {l:List UInt8} {i:Nat} (h:i≤l.length):(dom l i).2≤l.length:=by
  unfold dom
  have h2:=Zho h
  split
  · exact ZpC 2 _ h2
  · exact h2
def glue (a:List UInt8):List (List UInt8)→List (List UInt8)
  | []=>[a]
  | p :: ps=>(a ++ p) :: ps
def cut (x:UInt8):List UInt8→List (List UInt8)
  | []=>[[]]
  | c :: r=>if c=x then [] :: cut x r else glue [c] (cut x r)
theorem Zns (x:UInt8) :∀l,cut x l≠[]
  | []=>by simp [cut]
  | c :: r=>by
    rw [cut]
    split
    · simp
    · cases cut x r <;> simp [glue]
theorem Znf {m:List (List UInt8)} (h:m≠[]):glue [] m=m:=by
  cases m with
  | nil=>exact absurd rfl h
  | cons p ps=>rfl
theorem Zp3 (a b:List UInt8) (m:List (List UInt8)):glue a (glue b m)=glue (a ++ b) m:=by
  cases m <;> simp [glue]
structure CutSt where
  i:Nat
  f:Nat
  m:Nat
  ps:List (List UInt8)
  q:Option Addr
  cp:Nat
  s:Cells
theorem ZvS {a b:UInt8} (h:(a.toNat:Int)=b.toNat):a=b:=UInt8.toNat_inj.1 (by exact_mod_cast h)
theorem ZtV {l:List UInt8} {x c:UInt8} {i:Nat} (h:l[i]? = some c) (e:c=x):cut x (l.drop i)=[] :: cut x (l.drop (i+1)):=by
  obtain ⟨hlt,he⟩:=List.getElem?_eq_some_iff.1 h
  rw [List.drop_eq_getElem_cons hlt,he,cut,if_pos e]
theorem Zr6 {l:List UInt8} {x c:UInt8} {i:Nat} (h:l[i]? = some c) (e:c≠x):cut x (l.drop i)=glue [c] (cut x (l.drop (i+1))):=by
  obtain ⟨hlt,he⟩:=List.getElem?_eq_some_iff.1 h
  rw [List.drop_eq_getElem_cons hlt,he,cut,if_neg e]
theorem ZvR {a b:UInt8} (h : ¬ (a.toNat:Int)=b.toNat):a≠b:=fun e=>h (by rw [e])
theorem Zo7 {l:List UInt8} {c:UInt8} {i f:Nat} (h:l[i]? = some c) (hf:f≤i):(l.take i).drop f ++ [c]=(l.take (i+1)).drop f:=by
  have hlt:=Zb6 h
  rw [List.take_add_one,h]
  simp only [Option.toList_some]
  rw [List.drop_append_of_le_length (by rw [List.length_take];omega)]
theorem ZrV (a:List UInt8) (m:List (List UInt8)):glue a ([] :: m)=a :: m:=by simp [glue]
def Zcb (l:List UInt8):Bool:=(cut 46 l).all Zaj && decide ((cut 46 l).length≤3) && decide (l.length≤20)
theorem ZrU {a:List UInt8} {m:List (List UInt8)} {n:Nat} (h :∀p,p∈m→p.length≤n) :∀p,p∈glue a m→p.length≤a.length+n:=by
  cases m with
  | nil=>intro p hp;simp [glue] at hp;subst hp;omega
  | cons q qs=>
    intro p hp
    simp only [glue,List.mem_cons] at hp
    rcases hp with rfl | hp
    · rw [List.length_append];have:=h q (List.mem_cons_self ..);omega
    · have:=h p (List.mem_cons_of_mem _ hp);omega
theorem Zmy (x:UInt8) :∀(l p:List UInt8),p∈cut x l→p.length≤l.length
  | [],p,h=>by simp [cut] at h;subst h;simp
  | c :: r,p,h=>by
    rw [cut] at h
    split at h
    · rcases List.mem_cons.1 h with rfl | h
      · simp
      · have:=Zmy x r p h;simp;omega
    · have:=ZrU (Zmy x r) p h;simp at this ⊢;omega
theorem Zlt {l:List (List UInt8)} {k:Nat} {c:List UInt8} (hc:l[k]? = some c) (h:Zaj c=false):l.all Zaj=false:=by
  rw [Bool.eq_false_iff];intro ha
  have:=List.all_eq_true.1 ha c (List.mem_of_getElem? hc)
  rw [h] at this;cases this
theorem ZiA {l:List (List UInt8)} {k:Nat} {c:List UInt8} (hc:l[k]? = some c) (h:Zaj c=true) (ha:(l.take k).all Zaj=true):(l.take (k+1)).all Zaj=true:=by
  rw [List.take_add_one,hc];simp only [Option.toList_some,List.all_append,ha,List.all_cons,h,List.all_nil];rfl
theorem Zln (x:UInt8) :∀l:List UInt8,(cut x l).length≤l.length+1
  | []=>by simp [cut]
  | c :: r=>by
    have h:=Zln x r
    rw [cut]
    split
    · simp;omega
    · cases hq:cut x r with
      | nil=>exact absurd hq (Zns x r)
      | cons p ps=>rw [hq] at h;simp [glue] at h ⊢;omega
end Go.BL
namespace Go.BL
open Go
set_option linter.unusedVariables false
set_option linter.unusedSimpArgs false
theorem Zj7 {x:UInt8} :∀{l:List UInt8},x ∉ l→cut x l=[l]
  | [],_=>rfl
  | c :: r,h=>by
    rw [cut,if_neg (fun e=>h (by rw [e];exact List.mem_cons_self ..)),Zj7 (fun hm=>h (List.mem_cons_of_mem _ hm))]
    rfl
theorem Ziq {x:UInt8} {b:List UInt8} :∀{a:List UInt8},x ∉ a→cut x (a ++ x :: b)=a :: cut x b
  | [],_=>by simp [cut]
  | c :: r,h=>by
    rw [List.cons_append,cut,if_neg (fun e=>h (by rw [e];exact List.mem_cons_self ..)),Ziq (fun hm=>h (List.mem_cons_of_mem _ hm))]
    rfl
theorem Zfo {x:UInt8} :∀{l:List UInt8},x∈l→∃a b,l=a ++ x :: b∧x ∉ a
  | c :: r,h=>by
    by_cases e:c=x
    · exact ⟨[],r,by simp [e],by simp⟩
    · have hr:x∈r:=(List.mem_cons.1 h).resolve_left (Ne.symm e)
      obtain ⟨a,b,h1,h2⟩:=Zfo hr
      exact ⟨c :: a,b,by simp [h1],by simp [Ne.symm e,h2]⟩
theorem ZiU (l:List UInt8) (i j:Nat):word l (i+j)=word (l.drop i) j:=by
  unfold word;rw [List.drop_drop]
theorem Zjg (l:List UInt8) (i:Nat) :∀n j,more n l (i+j)=((more n (l.drop i) j).1,i+(more n (l.drop i) j).2)
  | 0,j=>rfl
  | n+1,j=>by
    simp only [more,List.getElem?_drop]
    rw [show i+j+1=i+(j+1) from by omega,ZiU]
    split
    · split
      · rw [show i+(j+1)+(word (l.drop i) (j+1)).length=i+(j+1+(word (l.drop i) (j+1)).length) from by omega,Zjg l i n]
      · simp only [Prod.mk.injEq,true_and];omega
    · rfl
theorem ZqY {l:List UInt8} (h:l.all ZbB=true):word l 0=l:=by
  have:=(Zeb (p:=ZbB) l).2 h
  have h2:=List.takeWhile_prefix ZbB (l:=l)
  simp only [word,List.drop_zero]
  exact List.IsPrefix.eq_of_length h2 this
theorem ZgF {a b:List UInt8} {x:UInt8} (hx:ZbB x=false) (h:a.all ZbB=true):word (a ++ x :: b) 0=a:=by
  simp only [word,List.drop_zero]
  induction a with
  | nil=>simp [List.takeWhile,hx]
  | cons c a ih=>
    simp only [List.all_cons,Bool.and_eq_true] at h
    simp only [List.cons_append,List.takeWhile,h.1,ih h.2]
theorem ZgE {a:List UInt8} (b:List UInt8) (h:a.all ZbB=false):(word (a ++ b) 0).length<a.length∧word (a ++ b) 0=word a 0:=by
  simp only [word,List.drop_zero]
  induction a with
  | nil=>simp at h
  | cons c a ih=>
    cases hc:ZbB c with
    | false=>simp [List.takeWhile,hc]
    | true=>
      have h':a.all ZbB=false:=by simpa [hc] using h
      have:=ih h'
      simp only [List.cons_append,List.takeWhile,hc,List.length_cons]
      exact ⟨by omega,by rw [this.2]⟩
theorem Ztz {a:List UInt8} (b:List UInt8) {k:Nat} (h:k<a.length):(a ++ b)[k]? = a[k]?:=List.getElem?_append_left h
theorem Zic {x:UInt8} {a:List UInt8} (h:x ∉ a) (k:Nat):a[k]?≠some x:=fun e=>h (List.mem_of_getElem? e)
theorem Zpx :∀(n:Nat) (b:List UInt8),(Zdz (word b 0)=true∧more n b (word b 0).length=(true,b.length))↔((cut 46 b).all Zaj=true∧(cut 46 b).length≤n+1):=by
  intro n
  induction n with
  | zero=>
    intro b
    by_cases hd:(46:UInt8)∈b
    · obtain ⟨a,r,rfl,ha⟩:=Zfo hd
      rw [Ziq ha]
      have hlen:(word (a ++ 46 :: r) 0).length≤a.length:=by
        cases hna:a.all ZbB with
        | true=>rw [ZgF (by decide) hna];exact Nat.le_refl _
        | false=>exact Nat.le_of_lt (ZgE _ hna).1
      constructor
      · rintro ⟨_,h2⟩
        simp only [more,Prod.mk.injEq,true_and] at h2
        rw [List.length_append,List.length_cons] at h2
        omega
      · rintro ⟨_,h2⟩
        have:=Zns 46 r
        simp only [List.length_cons] at h2
        exact absurd (List.eq_nil_of_length_eq_zero (by omega)) this
    · rw [Zj7 hd]
      simp only [more,List.all_cons,List.all_nil,Bool.and_true,List.length_cons,List.length_nil,Nat.zero_add,Nat.le_refl,and_true,Prod.mk.injEq,true_and,Zdl,Bool.and_eq_true,decide_eq_true_eq]
  | succ n ih=>
    intro b
    by_cases hd:(46:UInt8)∈b
    · obtain ⟨a,r,rfl,ha⟩:=Zfo hd
      rw [Ziq ha]
      cases hna:a.all ZbB with
      | true=>
        rw [ZgF (by decide) hna]
        have hg:(a ++ 46 :: r)[a.length]? = some 46:=by simp
        have hdr:(a ++ 46 :: r).drop (a.length+1)=r:=by rw [List.drop_append];simp
        have hw:word (a ++ 46 :: r) (a.length+1)=word r 0:=by
          have:=ZiU (a ++ 46 :: r) (a.length+1) 0
          rw [Nat.add_zero,hdr] at this;exact this
        have hm:more n (a ++ 46 :: r) (a.length+1+(word r 0).length)=((more n r (word r 0).length).1,a.length+1+(more n r (word r 0).length).2):=by
          rw [Zjg,hdr]
        simp only [more,hg,if_true,hw,hm,List.all_cons,Bool.and_eq_true,List.length_cons]
        have hna':Zaj a=Zdz a:=by rw [Zdl,ZqY hna];simp
        have hi:=ih r
        constructor
        · rintro ⟨h1,h2⟩
          split at h2
          · rename_i h3
            simp only [Prod.mk.injEq,List.length_append,List.length_cons] at h2
            have:=hi.1 ⟨h3,by ext1;exact h2.1;simp only [];omega⟩
            exact ⟨⟨by rw [hna'];exact h1,this.1⟩,by omega⟩
          · simp at h2
        · rintro ⟨⟨h1,h2⟩,h3⟩
          obtain ⟨h4,h5⟩:=hi.2 ⟨h2,by omega⟩
          refine ⟨by rw [← hna'];exact h1,?_⟩
          rw [if_pos h4,h5]
          simp;omega
      | false=>
        obtain ⟨h1,h2⟩:=ZgE (46 :: r) hna
        have hne:Zaj a=false:=by simp [Zaj,hna]
        constructor
        · rintro ⟨_,h3⟩
          rw [ZhO (by rw [Ztz _ h1];exact Zic ha _)] at h3
          simp only [Prod.mk.injEq,true_and,List.length_append,List.length_cons] at h3
          omega
        · rintro ⟨h3,_⟩
          simp [hne] at h3
    · rw [Zj7 hd]
      rw [ZhO (Zic hd _)]
      simp only [List.all_cons,List.all_nil,Bool.and_true,List.length_cons,List.length_nil,Prod.mk.injEq,true_and,Zdl,Bool.and_eq_true,decide_eq_true_eq]
      constructor
      · rintro ⟨h1,h2⟩;exact ⟨⟨h1,h2⟩,by omega⟩
      · rintro ⟨⟨h1,h2⟩,_⟩;exact ⟨h1,h2⟩
theorem Zll (b:List UInt8):((dom b 0).1=true∧(dom b 0).2≤20∧(dom b 0).2=b.length)↔Zcb b=true:=by
  have h:=Zpx 2 b
  simp only [Zcb,Bool.and_eq_true,decide_eq_true_eq]
  constructor
  · rintro ⟨h1,h2,h3⟩
    cases hw:Zdz (word b 0) with
    | false=>simp [dom,hw] at h1
    | true=>
      simp only [dom,hw,if_true,Nat.zero_add] at h1 h2 h3
      have:=h.1 ⟨hw,by ext1;exact h1;exact h3⟩
      exact ⟨⟨this.1,this.2⟩,by omega⟩
  · rintro ⟨⟨h1,h2⟩,h3⟩
    obtain ⟨h4,h5⟩:=h.2 ⟨h1,h2⟩
    simp only [dom,h4,if_true,Nat.zero_add,h5]
    exact ⟨trivial,h3,trivial⟩
end Go.BL
namespace Go.BL
open Go
set_option linter.unusedVariables false
set_option linter.unusedSimpArgs false
theorem Zbl {α:Type} {p:α→Prop} {l:List α} {k:Nat} {x:α} (hx:l[k]? = some x) (h :∀y,y∈l.take k→p y) (hp:p x) :∀y,y∈l.take (k+1)→p y:=by
  intro y hy
  rw [List.take_add_one,hx] at hy
  simp only [Option.toList_some,List.mem_append,List.mem_singleton] at hy
  rcases hy with hy | rfl
  · exact h y hy
  · exact hp
def Zdw (us:List DUser) (u:Str):Int:=match us.findIdx? (fun x=>decide (x.name=u)) with | some i=>i | none=>-1
theorem ZrH {us:List DUser} {u:Str} {k:Nat} {x:DUser} (hx:us[k]? = some x) (he:x.name=u) (h :∀y,y∈us.take k→y.name≠u):Zdw us u=k:=by
  have:us.findIdx? (fun x=>decide (x.name=u))=some k:=by
    rw [List.findIdx?_eq_some_iff_getElem]
    obtain ⟨hk,rfl⟩:=List.getElem?_eq_some_iff.1 hx
    refine ⟨hk,by simpa using he,fun j hj=>?_⟩
    have:=h us[j] (by rw [List.mem_take_iff_getElem];exact ⟨j,by omega,rfl⟩)
    simpa using this
  rw [Zdw,this]
theorem ZpP {us:List DUser} {u:Str} (h :∀y,y∈us→y.name≠u):Zdw us u = -1:=by
  have:us.findIdx? (fun x=>decide (x.name=u))=none:=by
    rw [List.findIdx?_eq_none_iff]
    intro x hx
    simpa using h x hx
  rw [Zdw,this]
theorem Zxj {α:Type} {as:List α} {x:α} {inst:Decidable (x∈as)} (h :∀y,y∈as→y≠x):false=decide (x∈as):=by
  symm;rw [decide_eq_false_iff_not];intro hx;exact h x hx rfl
theorem Zxi {α:Type} {as:List α} {x y:α} {inst:Decidable (x∈as)} {k:Nat} (hy:as[k]? = some y) (e:y=x):true=decide (x∈as):=by
  symm;rw [decide_eq_true_eq];subst e;exact List.mem_of_getElem? hy
theorem ZbD {α:Type} {p:α→Prop} {l:List α} {k:Nat} (hk : ¬ (k:Int)<l.length) (h :∀y,y∈l.take k→p y) :∀y,y∈l→p y:=by
  rwa [List.take_of_length_le (by omega)] at h
theorem Zj6 {α:Type} {l:List α} {k:Nat} {x:α} (h:l[k]? = some x):l.drop k=x :: l.drop (k+1):=by
  obtain ⟨hlt,he⟩:=List.getElem?_eq_some_iff.1 h
  rw [List.drop_eq_getElem_cons hlt,he]
theorem Zqq {α:Type} {l:List α} {k:Nat} (h : ¬ (k:Int)<l.length):l.drop k=[]:=List.drop_eq_nil_of_le (by omega)
def ZcE (l:List Str):Bool:=l.all Zaj && decide l.Nodup && decide (l.length≤3)
def ZaL (x:DLetter):Bool:=Zaj x.fr && ZcE x.to_ && decide (0<x.to_.length) && decide (x.text.length≤20)
def Zcw (x:DItem):Bool:=ZaL ⟨x.fr,x.left,x.text⟩
def ZcO:Int→List DItem→Option Int
  | last,[]=>some last
  | last,x :: r=>if (last+1≤x.id∧x.id≤99)∧Zcw x=true then ZcO x.id r else none
def Zab (q:DQueue):Bool:=match ZcO 0 q.items with
  | some last=>decide (last+1≤q.next) && decide (q.next≤100) && decide (q.items.length≤6)
  | none=>false
theorem Zpw {α:Type} {l:List α} {k:Nat} {x:α} (hx:l[k]? = some x) (h:(l.take k).Nodup) (hn : ¬ x∈l.take k):(l.take (k+1)).Nodup:=by
  rw [List.take_add_one,hx]
  simp only [Option.toList_some]
  rw [List.nodup_append]
  exact ⟨h,by simp,fun a ha b hb=>by rw [List.mem_singleton.1 hb];exact fun e=>hn (e ▸ ha)⟩
theorem Zth {α:Type} {l:List α} {k:Nat} {x:α} (hx:l[k]? = some x) (h:x∈l.take k) : ¬ l.Nodup:=by
  intro hn
  have e:l=l.take k ++ l.drop k:=(List.take_append_drop k l).symm
  rw [e,Zj6 hx,List.nodup_append] at hn
  exact hn.2.2 x h x (List.mem_cons_self ..) rfl
theorem ZgP {l:List Str} {k:Nat} {x:Str} (hx:l[k]? = some x) (h:Zaj x=false):false=ZcE l:=by
  simp [ZcE,Zlt hx h]
theorem ZgO {l:List Str} {k:Nat} {x:Str} (hx:l[k]? = some x) (h:x∈l.take k):false=ZcE l:=by
  simp [ZcE,Zth hx h]
theorem ZhN {l:List Str} {k:Nat} (hk : ¬ (k:Int)<l.length) (ha:(l.take k).all Zaj=true) (hn:(l.take k).Nodup):decide ((l.length:Int)≤3)=ZcE l:=by
  rw [List.take_of_length_le (by omega)] at ha hn
  rw [Bool.eq_iff_iff];simp only [ZcE,ha,decide_eq_true hn,Bool.true_and,decide_eq_true_eq];omega
def ZaD {α:Type} (p:α→Bool) (xs:List α):Int:=match xs.findIdx? p with | some i=>i | none=>-1
theorem Zhf {α:Type} {p:α→Bool} {xs:List α} {k:Nat} {x:α} (hx:xs[k]? = some x) (he:p x=true) (h :∀y,y∈xs.take k→p y=false):ZaD p xs=k:=by
  have:xs.findIdx? p=some k:=by
    rw [List.findIdx?_eq_some_iff_getElem]
    obtain ⟨hk,rfl⟩:=List.getElem?_eq_some_iff.1 hx
    refine ⟨hk,he,fun j hj=>?_⟩
    have:=h xs[j] (by rw [List.mem_take_iff_getElem];exact ⟨j,by omega,rfl⟩)
    simpa using this
  rw [ZaD,this]
theorem ZeJ {α:Type} {p:α→Bool} {xs:List α} (h :∀y,y∈xs→p y=false):ZaD p xs = -1:=by
  have:xs.findIdx? p=none:=by
    rw [List.findIdx?_eq_none_iff]
    intro x hx
    simpa using h x hx
  rw [ZaD,this]
theorem ZdH {α:Type} {p:α→Bool} {xs:List α} : (0≤ZaD p xs)↔∃x,x∈xs∧p x=true:=by
  cases h:xs.findIdx? p with
  | none=>
    rw [List.findIdx?_eq_none_iff] at h
    simp only [ZaD,List.findIdx?_eq_none_iff.2 h]
    refine ⟨fun e=>absurd e (by omega),fun ⟨x,hx,hp⟩=>?_⟩
    rw [h x hx] at hp;cases hp
  | some i=>
    simp only [ZaD,h]
    rw [List.findIdx?_eq_some_iff_getElem] at h
    obtain ⟨hi,hp,_⟩:=h
    exact ⟨fun _=>⟨_,List.getElem_mem hi,hp⟩,fun _=>by omega⟩
def Zv5 (xs:List Str) (v:Str):Int:=ZaD (fun x=>decide (x=v)) xs
theorem ZrI {xs:List Str} {v:Str} : (0≤Zv5 xs v)↔v∈xs:=by
  rw [Zv5,ZdH];simp
theorem Zm2 {q:DQueue} (h:ZcO 0 q.items=none):false=Zab q:=by simp [Zab,h]
theorem Zm1 {q:DQueue} {last:Int} (h:ZcO 0 q.items=some last):(decide (last+1≤q.next) && decide (q.next≤100) && decide (q.items.length≤6))=Zab q:=by simp [Zab,h]
theorem Zpk {q:DQueue} {k:Nat} {last:Int} {x:DItem} (hs:ZcO 0 q.items=ZcO last (q.items.drop k)) (hx:q.items[k]? = some x):ZcO 0 q.items=if (last+1≤x.id∧x.id≤99)∧Zcw x=true then ZcO x.id (q.items.drop (k+1)) else none:=by
  rw [hs,Zj6 hx,ZcO]
def rep (l:Str) (n:Nat):Str:=(List.replicate n l).flatten
theorem ZjK (l:Str) (n:Nat):(rep l n).length=n*l.length:=by simp [rep]
theorem ZeF (x:DLetter):ZaL x=(Zaj x.fr && (decide (1≤x.to_.length) && ZcE x.to_) && decide ((x.text.length:Int)≤20)):=by
  rw [Bool.eq_iff_iff];simp only [ZaL,Bool.and_eq_true,decide_eq_true_eq]
  constructor
  · rintro ⟨⟨⟨a,b⟩,c⟩,d⟩;exact ⟨⟨a,by omega,b⟩,by omega⟩
  · rintro ⟨⟨a,c,b⟩,d⟩;exact ⟨⟨⟨a,b⟩,by omega⟩,by omega⟩
theorem Zak.mono {B B':Kn} {q:Option Addr} {m:Nat} (h:Zak B q m) (hle:B.le B'):Zak B' q m:=fun j hj=>by
  obtain ⟨a,c,h1,h2,h3⟩:=h j hj
  exact ⟨a,c,h1,h2,h3.mono hle⟩
theorem Zs4 (l:Str) (n:Nat) (h:n % 2=1):rep l n=l ++ rep (l ++ l) (n / 2):=by
  obtain ⟨k,rfl⟩ :∃k,n=2*k+1:=⟨n / 2,by omega⟩
  have e:(2*k+1) / 2=k:=by omega
  rw [e]
  clear h e
  induction k with
  | zero=>simp [rep]
  | succ k ih=>
    rw [show 2*(k+1)+1=(2*k+1)+1+1 from by omega]
    simp only [rep,List.replicate_succ,List.flatten_cons] at ih ⊢
    rw [ih];simp
theorem Zrb (l:Str) (n:Nat) (h:n % 2=0):rep l n=rep (l ++ l) (n / 2):=by
  obtain ⟨k,rfl⟩ :∃k,n=2*k:=⟨n / 2,by omega⟩
  have e:2*k / 2=k:=by omega
  rw [e]
  clear h e
  induction k with
  | zero=>simp [rep]
  | succ k ih=>
    rw [show 2*(k+1)=(2*k)+1+1 from by omega]
    simp only [rep,List.replicate_succ,List.flatten_cons] at ih ⊢
    rw [ih];simp
structure Gh (α:Type) where
  k:Nat
  p:Nat
  l:Cells
  a:Option Addr
  c:Nat
  xs:List α
theorem Zay {α:Type} {l:List α} {k:Nat} {x:α} (hx:l[k]? = some x):l.take (k+1)=l.take k ++ [x]:=by
  rw [List.take_add_one,hx];rfl
def Zhm (q:DQueue) (x:DLetter):DQueue × Bool:=
  if Zab q=true∧ZaL x=true then
    (if 6≤q.items.length∨99<q.next then (q,false) else (⟨q.next+1,q.items ++ [⟨q.next,x.fr,x.text,x.to_⟩]⟩,true))
  else (⟨0,[]⟩,false)
theorem ZqK {q:DQueue} {x:DLetter} (h:Zab q=false):Zhm q x=(⟨0,[]⟩,false):=by simp [Zhm,h]
theorem ZqJ {q:DQueue} {x:DLetter} (h:ZaL x=false):Zhm q x=(⟨0,[]⟩,false):=by simp [Zhm,h]
theorem Zlx {q:DQueue} {x:DLetter} (h:Zab q=true) (h':ZaL x=true) (hf:6≤q.items.length∨99<q.next):Zhm q x=(q,false):=by rw [Zhm,if_pos ⟨h,h'⟩,if_pos hf]
theorem Zt0 {q:DQueue} {x:DLetter} (h:Zab q=true) (h':ZaL x=true) (h1 : ¬ 6≤q.items.length) (h2 : ¬ 99<q.next):Zhm q x=(⟨q.next+1,q.items ++ [⟨q.next,x.fr,x.text,x.to_⟩]⟩,true):=by
  rw [Zhm,if_pos ⟨h,h'⟩,if_neg (by omega)]
theorem Zpl :∀{xs:List DItem} {l r:Int},ZcO l xs=some r→l≤r
  | [],l,r,h=>by simp only [ZcO,Option.some.injEq] at h;omega
  | x :: xs,l,r,h=>by
    rw [ZcO] at h
    split at h
    · rename_i e;have:=Zpl h;omega
    · cases h
theorem Zez {q:DQueue} (h:Zab q=true):1≤q.next∧q.next≤100∧q.items.length≤6:=by
  unfold Zab at h
  split at h
  · rename_i last e
    have:=Zpl e
    simp only [Bool.and_eq_true,decide_eq_true_eq] at h
    omega
  · cases h
structure Gh2 (α β:Type) where
  k:Nat
  p:Nat
  l:Cells
  a:Option Addr
  c:Nat
  xs:List α
  e:β
def without (xs:List Str) (u:Str):List Str:=xs.filter fun x=>decide (x≠u)
theorem Zkj {xs:List Str} {u:Str} {k:Nat} {x:Str} (hx:xs[k]? = some x) (h : ¬ x=u):without (xs.take (k+1)) u=without (xs.take k) u ++ [x]:=by
  rw [Zay hx,without,without,List.filter_append];simp [h]
theorem Zki {xs:List Str} {u:Str} {k:Nat} {x:Str} (hx:xs[k]? = some x) (h:x=u):without (xs.take (k+1)) u=without (xs.take k) u:=by
  rw [Zay hx,without,without,List.filter_append];simp [h]
theorem Zhp (xs:List Str) (u:Str):(without xs u).length≤xs.length:=List.length_filter_le _ _
def ZbE (id:Int) (u:Str) (x:DItem):DItem:=if x.id=id∧u∈x.left then ⟨x.id,x.fr,x.text,without x.left u⟩ else x
def Zeq (id:Int) (u:Str) (xs:List DItem):List DItem:=(xs.map (ZbE id u)).filter fun x=>decide (0<x.left.length)
def ZbS (id:Int) (u:Str) (s:Str × Bool) (x:DItem):Str × Bool:=if x.id=id∧u∈x.left then (x.text,true) else s
def Zfn (id:Int) (u:Str) (xs:List DItem):Str × Bool:=xs.foldl (ZbS id u) ([],false)
theorem Zev {id:Int} {u:Str} {x:DItem} (h:x.id=id) (h':u∈x.left):ZbE id u x=⟨x.id,x.fr,x.text,without x.left u⟩:=by rw [ZbE,if_pos ⟨h,h'⟩]
theorem ZgL {id:Int} {u:Str} {x:DItem} (h : ¬ x.id=id):ZbE id u x=x:=by rw [ZbE,if_neg (fun e=>h e.1)]
theorem ZgK {id:Int} {u:Str} {x:DItem} (h : ¬ u∈x.left):ZbE id u x=x:=by rw [ZbE,if_neg (fun e=>h e.2)]
theorem ZhA {id:Int} {u:Str} {xs:List DItem} {k:Nat} {x y:DItem} (hx:xs[k]? = some x) (e:ZbE id u x=y) (h:0<y.left.length):Zeq id u (xs.take (k+1))=Zeq id u (xs.take k) ++ [y]:=by
  rw [Zay hx,Zeq,Zeq,List.map_append,List.filter_append];simp [e,h]
theorem Zgh {id:Int} {u:Str} {xs:List DItem} {k:Nat} {x y:DItem} (hx:xs[k]? = some x) (e:ZbE id u x=y) (h : ¬ 0<y.left.length):Zeq id u (xs.take (k+1))=Zeq id u (xs.take k):=by
  rw [Zay hx,Zeq,Zeq,List.map_append,List.filter_append];simp [e,show y.left.length=0 by omega]
theorem ZkC {id:Int} {u:Str} {xs:List DItem} {k:Nat} {x:DItem} (hx:xs[k]? = some x) (h:x.id=id) (h':u∈x.left):Zfn id u (xs.take (k+1))=(x.text,true):=by
  rw [Zay hx,Zfn,List.foldl_append];simp [ZbS,h,h']
theorem ZkB {id:Int} {u:Str} {xs:List DItem} {k:Nat} {x:DItem} (hx:xs[k]? = some x) (h : ¬ x.id=id):Zfn id u (xs.take (k+1))=Zfn id u (xs.take k):=by
  rw [Zay hx,Zfn,List.foldl_append];simp [ZbS,h,Zfn]
theorem ZkA {id:Int} {u:Str} {xs:List DItem} {k:Nat} {x:DItem} (hx:xs[k]? = some x) (h : ¬ u∈x.left):Zfn id u (xs.take (k+1))=Zfn id u (xs.take k):=by
  rw [Zay hx,Zfn,List.foldl_append];simp [ZbS,h,Zfn]
theorem Zhz (id:Int) (u:Str) (xs:List DItem):(Zeq id u xs).length≤xs.length:=by
  unfold Zeq;exact Nat.le_trans (List.length_filter_le _ _) (by simp)
def Zb4 (q:DQueue) (id:Int) (u:Str):DQueue × Str × Bool:=(⟨q.next,Zeq id u q.items⟩,(Zfn id u q.items).1,(Zfn id u q.items).2)
def ZcX (q:DQueue) (id:Int) (u:Str):DQueue × Str × Bool:=if Zab q=true then Zb4 q id u else (⟨0,[]⟩,[],false)
structure GQ where
  k:Nat
  p:Nat
  l:Cells
  a:Option Addr
  c:Nat
  q:DQueue
structure GM where
  b:Nat
  p:Nat
  l:Cells
  a:Option Addr
  c:Nat
  q:DQueue
  f:Bool
theorem Zhl (q:DQueue) (x:DLetter):(Zhm q x).1.items.length≤q.items.length+1:=by
  unfold Zhm
  split
  · split
    · exact Nat.le_succ _
    · simp
  · exact Nat.zero_le _
theorem ZkN (q:DQueue) (id:Int) (u:Str):(ZcX q id u).1.items.length≤q.items.length:=by
  unfold ZcX
  split
  · exact Zhz _ _ _
  · exact Nat.zero_le _
structure QOf where
  p:Option Addr
  ys:List DItem
  xs:List DItem
  l:Cells
  q:Option Addr
  c:Nat
  cells:Cells
theorem Z3.slice0 {α:Type} {B:Kn} {l:Cells} {p:Option Addr} {c:Nat} {T:TypeId} {w sz:Nat} {R:Rel α} {xs:List α} (h:Z3 B l p c T w R xs):(if c=0 then p else p.map (fun a=>a.add (0*sz)))=p:=by
  obtain ⟨rows,_,_,_,⟨rfl,_,rfl,_⟩ | ⟨b,arr,rfl,_,_,_,_⟩⟩:=h
  · rfl
  · split
    · rfl
    · rw [Nat.zero_mul];simp [Addr.add_off]
theorem Zgj {q:DQueue} (h : ¬ (q.items.length≤6∧1≤q.next∧q.next≤100)):false=Zab q:=by
  symm;rw [Bool.eq_false_iff];intro hq
  have:=Zez hq
  omega
end Go.BL
namespace Go.BL
open Go
set_option linter.unusedVariables false
set_option linter.unusedSimpArgs false
def hat (xs:List Int) (k:Nat):Int:=xs.getD k 0
def swp (xs:List Int) (i j:Nat):List Int:=(xs.set i (hat xs j)).set j (hat xs i)
def Zdv (xs:List Int):Prop:=∀k,0<k→k<xs.length→hat xs ((k - 1) / 2)≤hat xs k
def ZfH (xs:List Int) (j:Nat):Prop:=(∀k,0<k→k<xs.length→k≠j→hat xs ((k - 1) / 2)≤hat xs k)∧(∀k,0<k→k<xs.length→(k - 1) / 2=j→0<j→hat xs ((j - 1) / 2)≤hat xs k)
theorem Ztx {xs:List Int} {k:Nat} {a:Int} (h:xs[k]? = some a):hat xs k=a:=by simp [hat,List.getD,h]
theorem Za5 {xs:List Int} {k:Nat} (h:k<xs.length):xs[k]? = some (hat xs k):=by simp [hat,List.getD,List.getElem?_eq_getElem h]
theorem Zdi (xs:List Int) (i j:Nat):(swp xs i j).length=xs.length:=by simp [swp]
theorem ZeK {xs:List Int} {i j:Nat} (hi:i<xs.length) (hj:j<xs.length) (k:Nat):hat (swp xs i j) k=if k=j then hat xs i else if k=i then hat xs j else hat xs k:=by
  simp only [hat,swp,List.getD,List.getElem?_set]
  by_cases h1:k=j
  · subst h1;simp [hj]
  · have h1' : ¬j=k:=fun h=>h1 h.symm
    by_cases h2:k=i
    · subst h2;simp [hi,h1,h1']
    · have h2' : ¬i=k:=fun h=>h2 h.symm
      simp [h1,h1',h2,h2']
theorem ZfS {xs:List Int} {i j:Nat} (hi:i<xs.length) (hj:j<xs.length):(swp xs i j).Perm xs:=by
  rw [List.perm_iff_count]
  intro a
  unfold swp
  rw [List.count_set (by simpa using hj),List.count_set hi]
  have e1:(xs.set i (hat xs j))[j]'(by simpa using hj)=hat xs j:=by
    rw [List.getElem_set];split
    · rfl
    · simp [hat,List.getD,List.getElem?_eq_getElem hj]
  have e2:xs[i]=hat xs i:=by simp [hat,List.getD,List.getElem?_eq_getElem hi]
  rw [e1,e2]
  have hp :∀v,(v == a)=true→v∈xs→0<List.count a xs:=fun v hv hm=>by
    rw [beq_iff_eq] at hv;subst hv;exact List.count_pos_iff.2 hm
  have hm1:hat xs i∈xs:=by rw [← e2];exact List.getElem_mem _
  by_cases h1:(hat xs i == a)=true <;> by_cases h2:(hat xs j == a)=true <;> simp [h1,h2] <;> (try have:=hp _ h1 hm1;omega)
theorem ZsV {xs:List Int} (h:ZfH xs 0):Zdv xs:=fun k h0 hk=>h.1 k h0 hk (by omega)
theorem ZsX {xs:List Int} {j:Nat} (h:ZfH xs j) (hj:hat xs ((j - 1) / 2)≤hat xs j):Zdv xs:=fun k h0 hk=>by
  by_cases e:k=j
  · subst e;exact hj
  · exact h.1 k h0 hk e
theorem ZsW {xs:List Int} {j:Nat} (h0:0<j) (hj:j<xs.length) (h:ZfH xs j) (hlt:hat xs j<hat xs ((j - 1) / 2)):ZfH (swp xs ((j - 1) / 2) j) ((j - 1) / 2):=by
  have hi:(j - 1) / 2<xs.length:=by omega
  have H:=fun k=>ZeK hi hj k
  generalize hii:(j - 1) / 2=i at *
  refine ⟨fun k hk0 hk hne=>?_,fun k hk0 hk hpar hi0=>?_⟩
  · rw [Zdi] at hk
    rw [H,H]
    by_cases e1:k=j
    · subst e1
      rw [hii];rw [if_neg (by omega),if_pos rfl,if_pos rfl];omega
    · rw [if_neg e1,if_neg hne]
      by_cases e2:(k - 1) / 2=j
      · rw [if_pos e2];have:=h.2 k hk0 hk e2 h0;rw [hii] at this;exact this
      · rw [if_neg e2]
        by_cases e3:(k - 1) / 2=i
        · rw [if_pos e3];have:=h.1 k hk0 hk e1;rw [e3] at this;omega
        · rw [if_neg e3];exact h.1 k hk0 hk e1
  · rw [Zdi] at hk
    rw [H,H]
    have hpi:(i - 1) / 2≠i:=by omega
    have hpj:(i - 1) / 2≠j:=by omega
    rw [if_neg hpj,if_neg hpi]
    have hii2:=h.1 i hi0 hi (by omega)
    by_cases e1:k=j
    · rw [if_pos e1];exact hii2
    · rw [if_neg e1,if_neg (by omega)]
      have:=h.1 k hk0 hk e1;rw [hpar] at this;omega
theorem ZrM {xs:List Int} (h:Zdv xs) :∀k,k<xs.length→hat xs 0≤hat xs k:=fun k=>by
  induction k using Nat.strongRecOn with
  | ind k ih=>
    intro hk
    by_cases h0:k=0
    · subst h0;exact Int.le_refl _
    · have h1:=ih ((k - 1) / 2) (by omega) (by omega)
      have h2:=h k (by omega) hk
      omega
def Zsr (xs:List Int) (n:Nat):Prop:=∀k,0<k→k<n→hat xs ((k - 1) / 2)≤hat xs k
def ZeV (xs:List Int) (n i:Nat):Prop:=(∀k,0<k→k<n→(k - 1) / 2≠i→hat xs ((k - 1) / 2)≤hat xs k)∧(∀k,0<k→k<n→(k - 1) / 2=i→0<i→hat xs ((i - 1) / 2)≤hat xs k)
theorem Zqs {xs:List Int} {n i:Nat} (h:ZeV xs n i) (hl:n≤2*i+1):Zsr xs n:=fun k h0 hk=>h.1 k h0 hk (by omega)
theorem Zio {xs:List Int} {n i:Nat} (h:ZeV xs n i) (hc :∀k,0<k→k<n→(k - 1) / 2=i→hat xs i≤hat xs k):Zsr xs n:=fun k h0 hk=>by
  by_cases e:(k - 1) / 2=i
  · rw [e];exact hc k h0 hk e
  · exact h.1 k h0 hk e
theorem Zin {xs:List Int} {n i j:Nat} (hn:n≤xs.length) (hj0:0<j) (hj:j<n) (hpj:(j - 1) / 2=i) (h:ZeV xs n i) (hmin :∀k,0<k→k<n→(k - 1) / 2=i→hat xs j≤hat xs k) (hlt:hat xs j<hat xs i):ZeV (swp xs i j) n j:=by
  have hi:i<xs.length:=by omega
  have hij:i≠j:=by omega
  have H:=fun k=>ZeK hi (show j<xs.length by omega) k
  refine ⟨fun k hk0 hk hne=>?_,fun k hk0 hk hpar _=>?_⟩
  · rw [H,H,if_neg hne]
    by_cases e1:k=j
    · subst e1;rw [if_pos hpj,if_pos rfl];omega
    · rw [if_neg e1]
      by_cases e2:(k - 1) / 2=i
      · rw [if_pos e2,if_neg (by omega)];exact hmin k hk0 hk e2
      · rw [if_neg e2]
        by_cases e3:k=i
        · rw [if_pos e3];subst e3;exact h.2 j hj0 hj hpj hk0
        · rw [if_neg e3];exact h.1 k hk0 hk e2
  · rw [H,H,hpj,if_neg hij,if_pos rfl,if_neg (by omega),if_neg (by omega)]
    have:=h.1 k hk0 hk (by omega)
    rwa [hpar] at this
theorem ZvT (k:Nat):Int.tdiv ((k:Int) - 1) 2=(((k - 1) / 2:Nat):Int):=by
  cases k with
  | zero=>rfl
  | succ k=>rw [show ((k+1:Nat):Int) - 1=(k:Int) from by omega,Int.tdiv_eq_ediv_of_nonneg (by omega)];simp
theorem ZpY {xs:List Int} {z:Int} {k:Nat} (h:k<xs.length):hat (xs ++ [z]) k=hat xs k:=by
  simp [hat,List.getD,List.getElem?_append_left h]
theorem Zrd {xs:List Int} {z:Int} (h:Zdv xs):ZfH (xs ++ [z]) xs.length:=by
  refine ⟨fun k h0 hk hne=>?_,fun k h0 hk hp _=>?_⟩
  · rw [List.length_append,List.length_singleton] at hk
    rw [ZpY (by omega),ZpY (by omega)]
    exact h k h0 (by omega)
  · rw [List.length_append,List.length_singleton] at hk
    omega
theorem Zs5 {xs:List Int} (h:Zdv xs) (h0:0<xs.length):ZeV (swp xs 0 (xs.length - 1)) (xs.length - 1) 0:=by
  refine ⟨fun k hk0 hk hne=>?_,fun k hk0 hk hpar hh=>absurd hh (by omega)⟩
  rw [ZeK h0 (by omega),ZeK h0 (by omega),if_neg (by omega),if_neg (by omega),if_neg (by omega),if_neg (by omega)]
  exact h k hk0 (by omega)
theorem Zq5 {xs:List Int} (h0:0<xs.length):hat (swp xs 0 (xs.length - 1)) (xs.length - 1)=hat xs 0:=by rw [ZeK h0 (by omega),if_pos rfl]
theorem Zne {xs:List Int} {n k:Nat} (h:k<n):hat (xs.take n) k=hat xs k:=by simp [hat,List.getD,List.getElem?_take,h]
theorem Zol {ys:List Int} {n:Nat} (h:Zsr ys n) (hn:n≤ys.length):Zdv (ys.take n):=fun k h0 hk=>by
  rw [List.length_take] at hk
  rw [Zne (by omega),Zne (by omega)]
  exact h k h0 (by omega)
theorem Zrg {xs ys:List Int} (h0:0<ys.length) (hp:ys.Perm xs) {z:Int} (hz:hat ys (ys.length - 1)=z):(z :: ys.take (ys.length - 1)).Perm xs:=by
  refine List.Perm.trans ?_ hp
  have e:ys=ys.take (ys.length - 1) ++ [z]:=by
    have h1:=Zay (Za5 (xs:=ys) (k:=ys.length - 1) (by omega))
    rw [show ys.length - 1+1=ys.length from by omega,List.take_length] at h1
    rw [hz] at h1;exact h1
  have h2:(z :: ys.take (ys.length - 1)).Perm (ys.take (ys.length - 1) ++ [z]):=(List.perm_append_singleton z _).symm
  rwa [← e] at h2
theorem ZrL:Zdv []:=fun k h0 hk=>by simp at hk
def asc:Int→Int→List Int→Bool
  | _,_,[]=>true
  | b,l,x :: r=>decide (b<x) && decide (x≤l) && asc x l r
theorem ZmE :∀{r:List Int} {b l z:Int},asc b l r=true→z∈r→b<z
  | [],_,_,_,_,hz=>by cases hz
  | x :: r,b,l,z,h,hz=>by
    simp only [asc,Bool.and_eq_true,decide_eq_true_eq] at h
    rcases List.mem_cons.1 hz with rfl | hz
    · exact h.1.1
    · have:=ZmE h.2 hz;omega
theorem Ztw {xs:List Int} {k:Nat} (h:k<xs.length):hat xs k∈xs:=List.mem_of_getElem? (Za5 h)
theorem Zsd {b l x:Int} {r ys:List Int} (hp:ys.Perm (x :: r)) (hh:Zdv ys) (hne:hat ys 0≠x):false=asc b l (x :: r):=by
  symm;rw [Bool.eq_false_iff]
  intro h
  have h0:0<ys.length:=by rw [hp.length_eq];simp
  have hm:=hp.mem_iff.1 (Ztw h0)
  simp only [asc,Bool.and_eq_true,decide_eq_true_eq] at h
  rcases List.mem_cons.1 hm with e | hm
  · exact hne e
  · have h1:=ZmE h.2 hm
    obtain ⟨k,hk⟩:=List.mem_iff_getElem?.1 (hp.mem_iff.2 (List.mem_cons_self (a:=x) (l:=r)))
    have h2:=ZrM hh k (List.getElem?_eq_some_iff.1 hk).1
    rw [Ztx hk] at h2
    omega
theorem Zsc {b l x:Int} {r:List Int} (h:x≤b):false=asc b l (x :: r):=by simp [asc,show ¬ b<x from by omega]
theorem Zsb {b l x:Int} {r:List Int} (h:l<x):false=asc b l (x :: r):=by simp [asc,show ¬ x≤l from by omega]
theorem Zvg {b l x:Int} {r:List Int} (h : ¬ x≤b) (h2 : ¬ l<x):asc b l (x :: r)=asc x l r:=by simp [asc,show b<x from by omega,show x≤l from by omega]
theorem ZmX :∀{xs:List DItem} {b:Int} {l:Int},l≤99→(match ZcO b xs with | some r=>decide (r≤l) | none=>false)=(decide (b≤l) && xs.all Zcw && asc b l (xs.map (·.id)))
  | [],b,l,_=>by simp [ZcO,asc]
  | x :: xs,b,l,hl=>by
    have ih:=ZmX (xs:=xs) (b:=x.id) hl
    rw [ZcO,List.map_cons,List.all_cons,asc]
    by_cases h1:b+1≤x.id
    · by_cases h2:Zcw x=true
      · by_cases h3:x.id≤99
        · rw [if_pos ⟨⟨h1,h3⟩,h2⟩,ih,h2]
          by_cases h4:x.id≤l
          · simp [h4,show b≤l from by omega,show b<x.id from by omega]
          · simp [h4]
        · rw [if_neg (fun h=>h3 h.1.2)]
          simp [show ¬ x.id≤l from by omega]
      · rw [if_neg (fun h=>h2 h.2)]
        simp [h2]
    · rw [if_neg (fun h=>h1 h.1.1)]
      simp [show ¬ b<x.id from by omega]
theorem ZcD (q:DQueue):Zab q=(decide (q.items.length≤6) && decide (1≤q.next) && decide (q.next≤100) && q.items.all Zcw && asc 0 (q.next - 1) (q.items.map (·.id))):=by
  by_cases h:q.next≤100
  · have:=ZmX (xs:=q.items) (b:=0) (l:=q.next - 1) (by omega)
    unfold Zab
    cases hs:ZcO 0 q.items with
    | none=>
      rw [hs] at this
      simp only at this
      rw [Bool.eq_iff_iff]
      simp only [Bool.and_eq_true,decide_eq_true_eq,Bool.false_eq_true,false_iff]
      rintro ⟨⟨⟨⟨_,h1⟩,_⟩,h2⟩,h3⟩
      rw [h2,h3] at this
      simp at this;omega
    | some r=>
      rw [hs] at this
      simp only at this
      rw [Bool.eq_iff_iff] at this ⊢
      simp only [Bool.and_eq_true,decide_eq_true_eq] at this ⊢
      constructor
      · rintro ⟨⟨h1,h2⟩,h3⟩
        obtain ⟨⟨a,b⟩,c⟩:=this.1 (by omega)
        exact ⟨⟨⟨⟨h3,by omega⟩,h⟩,b⟩,c⟩
      · rintro ⟨⟨⟨⟨h1,h2⟩,h3⟩,h4⟩,h5⟩
        have:=this.2 ⟨⟨by omega,h4⟩,h5⟩
        omega
  · unfold Zab
    cases ZcO 0 q.items <;> simp [h]
theorem Zvj {α:Type} {p:α→Bool} {l:List α} {k:Nat} {x:α} (hx:l[k]? = some x) (h:p x=false):l.all p=false:=by
  rw [Bool.eq_false_iff];intro hp
  rw [List.all_eq_true] at hp
  have:=hp x (List.mem_of_getElem? hx)
  rw [h] at this;cases this
theorem Zvi {α:Type} {p:α→Bool} {l:List α} {k:Nat} {x:α} (hx:l[k]? = some x) (h:p x=true) (ha:(l.take k).all p=true):(l.take (k+1)).all p=true:=by
  rw [Zay hx,List.all_append,ha];simp [h]
theorem Zl7 {q:DQueue} {k:Nat} {x:DItem} (hx:q.items[k]? = some x) (h:Zcw x=false):false=Zab q:=by
  rw [ZcD,Zvj hx h];simp
theorem Zl6 {q:DQueue} {k:Nat} (hk : ¬ (k:Int)<q.items.length) (ha:(q.items.take k).all Zcw=true) (h6:q.items.length≤6) (h1:1≤q.next) (h2:q.next≤100):asc 0 (q.next - 1) (q.items.map (·.id))=Zab q:=by
  rw [List.take_of_length_le (by omega)] at ha
  rw [ZcD,ha];simp [h6,h1,h2]
theorem Zlw {q:DQueue} {x:DLetter} (h:(Zhm q x).2=true):(Zhm q x).1=⟨q.next+1,q.items ++ [⟨q.next,x.fr,x.text,x.to_⟩]⟩∧Zab q=true∧ZaL x=true∧q.items.length<6∧q.next≤99:=by
  unfold Zhm at h ⊢
  by_cases h1:Zab q=true∧ZaL x=true
  · rw [if_pos h1] at h ⊢
    by_cases h2:6≤q.items.length∨99<q.next
    · rw [if_pos h2] at h;cases h
    · rw [if_neg h2];exact ⟨rfl,h1.1,h1.2,by omega,by omega⟩
  · rw [if_neg h1] at h;cases h
theorem ZmY :∀{xs:List DItem} {b r:Int} {y:DItem},ZcO b xs=some r→r+1≤y.id→y.id≤99→Zcw y=true→ZcO b (xs ++ [y])=some y.id
  | [],b,r,y,h,h1,h2,h3=>by
    simp only [ZcO,Option.some.injEq] at h;subst h
    simp only [List.nil_append,ZcO,if_pos (And.intro (And.intro h1 h2) h3)]
  | x :: xs,b,r,y,h,h1,h2,h3=>by
    rw [ZcO] at h
    split at h
    · rename_i hc
      rw [List.cons_append,ZcO,if_pos hc];exact ZmY h h1 h2 h3
    · cases h
theorem ZoC {q:DQueue} {x:DLetter} (h:(Zhm q x).2=true):Zab (Zhm q x).1=true:=by
  obtain ⟨he,hq,hx,h6,h9⟩:=Zlw h
  rw [he]
  unfold Zab at hq ⊢
  split at hq
  · rename_i last hs
    simp only [Bool.and_eq_true,decide_eq_true_eq] at hq
    have:=ZmY (y:=⟨q.next,x.fr,x.text,x.to_⟩) hs (by simp only [];omega) h9 hx
    rw [this]
    simp only [Bool.and_eq_true,decide_eq_true_eq,List.length_append,List.length_singleton]
    omega
  · cases hq
structure QLf where
  p:Option Addr
  ys:List DItem
  xs:List DItem
  cells:Cells
theorem ZsN :∀{ids:List Int} {b l:Int},asc b l ids=true→ids.Nodup
  | [],_,_,_=>by simp
  | x :: r,b,l,h=>by
    simp only [asc,Bool.and_eq_true,decide_eq_true_eq] at h
    rw [List.nodup_cons]
    exact ⟨fun hm=>by have:=ZmE h.2 hm;omega,ZsN h.2⟩
theorem Zl5 {q:DQueue} (h:Zab q=true):(q.items.map (·.id)).Nodup:=by
  rw [ZcD] at h
  simp only [Bool.and_eq_true] at h
  exact ZsN h.2
theorem ZdF {q:DQueue} (h:Zab q=true) {x:DItem} (hx:x∈q.items):Zcw x=true:=by
  rw [ZcD] at h
  simp only [Bool.and_eq_true] at h
  exact List.all_eq_true.1 h.1.2 x hx
theorem ZhX {x:DItem} (h:Zcw x=true):0<x.left.length∧x.left.Nodup:=by
  simp only [Zcw,ZaL,ZcE,Bool.and_eq_true,decide_eq_true_eq] at h
  exact ⟨h.1.2,h.1.1.2.1.2⟩
theorem Zkz {id:Int} {u:Str} {x:DItem} (h : ¬ (x.id=id∧u∈x.left)):ZbE id u x=x:=by rw [ZbE,if_neg h]
theorem ZfR {id:Int} {u:Str} :∀{xs:List DItem} {s:Str × Bool},(∀x,x∈xs→¬ (x.id=id∧u∈x.left))→xs.foldl (ZbS id u) s=s
  | [],_,_=>rfl
  | x :: xs,s,h=>by
    rw [List.foldl_cons,ZbS,if_neg (h x (List.mem_cons_self ..))]
    exact ZfR fun y hy=>h y (List.mem_cons_of_mem _ hy)
theorem Zhy {id:Int} {u:Str} {xs:List DItem} (h :∀x,x∈xs→¬ (x.id=id∧u∈x.left)) (hl :∀x,x∈xs→0<x.left.length):Zeq id u xs=xs:=by
  have e:xs.map (ZbE id u)=xs:=by
    conv=>rhs;rw [← List.map_id xs]
    exact List.map_congr_left fun x hx=>Zkz (h x hx)
  rw [Zeq,e]
  exact List.filter_eq_self.2 fun x hx=>by simpa using hl x hx
theorem Zq4 {q:DQueue} {id:Int} {u:Str} (hq:Zab q=true) (h :∀x,x∈q.items→¬ (x.id=id∧u∈x.left)):ZcX q id u=(q,[],false):=by
  rw [ZcX,if_pos hq,Zb4,Zhy h (fun x hx=>(ZhX (ZdF hq hx)).1),Zfn,ZfR h]
theorem ZpR {q:DQueue} (hq:Zab q=true) {pre ys:List DItem} {y:DItem} (hs:pre ++ y :: ys=q.items):(∀x,x∈pre→x.id≠y.id)∧∀x,x∈ys→x.id≠y.id:=by
  have h:=Zl5 hq
  rw [← hs,List.map_append,List.map_cons,List.nodup_append] at h
  obtain ⟨_,h2,h3⟩:=h
  rw [List.nodup_cons] at h2
  refine ⟨fun x hx=>h3 _ (List.mem_map.2 ⟨x,hx,rfl⟩) _ (List.mem_cons_self ..),fun x hx e=>h2.1 (List.mem_map.2 ⟨x,hx,e⟩)⟩
theorem ZlQ {q:DQueue} (hq:Zab q=true) {pre ys:List DItem} {y:DItem} (hs:pre ++ y :: ys=q.items) {u:Str} (hu:u∈y.left) :
    ZcX q y.id u=(⟨q.next,pre ++ (if 0<(without y.left u).length then ⟨y.id,y.fr,y.text,without y.left u⟩ :: ys else ys)⟩,y.text,true):=by
  obtain ⟨h1,h2⟩:=ZpR hq hs
  have hl :∀x,x∈q.items→0<x.left.length:=fun x hx=>(ZhX (ZdF hq hx)).1
  have n1 :∀x,x∈pre→¬ (x.id=y.id∧u∈x.left):=fun x hx e=>h1 x hx e.1
  have n2 :∀x,x∈ys→¬ (x.id=y.id∧u∈x.left):=fun x hx e=>h2 x hx e.1
  have l1:=Zhy n1 (fun x hx=>hl x (by rw [← hs];exact List.mem_append_left _ hx))
  have l2:=Zhy n2 (fun x hx=>hl x (by rw [← hs];exact List.mem_append_right _ (List.mem_cons_of_mem _ hx)))
  rw [ZcX,if_pos hq,Zb4,← hs]
  unfold Zeq at l1 l2 ⊢
  unfold Zfn
  rw [List.foldl_append,ZfR n1,List.foldl_cons,ZfR n2,ZbS,if_pos ⟨rfl,hu⟩,List.map_append,List.map_cons,List.filter_append,l1,Zev rfl hu,List.filter_cons,l2]
  simp only [decide_eq_true_eq]
theorem Zo6 {q:DQueue} {id:Int} {u:Str} (h:(ZcX q id u).2.2=true):Zab q=true∧∃pre y ys,pre ++ y :: ys=q.items∧y.id=id∧u∈y.left∧
    ZcX q id u=(⟨q.next,pre ++ (if 0<(without y.left u).length then ⟨y.id,y.fr,y.text,without y.left u⟩ :: ys else ys)⟩,y.text,true):=by
  have hq:Zab q=true:=by
    cases hq:Zab q with
    | true=>rfl
    | false=>simp [ZcX,hq] at h
  refine ⟨hq,?_⟩
  by_cases hx :∀x,x∈q.items→¬ (x.id=id∧u∈x.left)
  · rw [Zq4 hq hx] at h;cases h
  · simp only [Classical.not_forall,Classical.not_not] at hx
    obtain ⟨y,hy,hi,hu⟩:=hx
    obtain ⟨pre,ys,hs⟩:=List.append_of_mem hy
    exact ⟨pre,y,ys,hs.symm,hi,hu,by rw [← hi];exact ZlQ hq hs.symm hu⟩
theorem Zsa :∀{ids:List Int} {b b' l:Int},b'≤b→asc b l ids=true→asc b' l ids=true
  | [],_,_,_,_,_=>rfl
  | x :: r,b,b',l,hb,h=>by
    simp only [asc,Bool.and_eq_true,decide_eq_true_eq] at h ⊢
    exact ⟨⟨by omega,h.1.2⟩,h.2⟩
theorem ZqF :∀{a c:List Int} {b l x:Int},asc b l (a ++ x :: c)=true→asc b l (a ++ c)=true
  | [],c,b,l,x,h=>by
    simp only [List.nil_append,asc,Bool.and_eq_true,decide_eq_true_eq] at h ⊢
    exact Zsa (by omega) h.2
  | y :: a,c,b,l,x,h=>by
    simp only [List.cons_append,asc,Bool.and_eq_true,decide_eq_true_eq] at h ⊢
    exact ⟨h.1,ZqF h.2⟩
theorem ZiJ {y:DItem} {u:Str} (h:Zcw y=true) (h0:0<(without y.left u).length):Zcw ⟨y.id,y.fr,y.text,without y.left u⟩=true:=by
  simp only [Zcw,ZaL,ZcE,Bool.and_eq_true,decide_eq_true_eq,List.all_eq_true] at h ⊢
  obtain ⟨⟨⟨h1,⟨h2,h3⟩,h4⟩,h5⟩,h6⟩:=h
  have:=Zhp y.left u
  exact ⟨⟨⟨h1,⟨fun x hx=>h2 x (List.mem_filter.1 hx).1,h3.filter _⟩,by omega⟩,h0⟩,h6⟩
theorem ZnC {q:DQueue} {id:Int} {u:Str} (h:(ZcX q id u).2.2=true):Zab (ZcX q id u).1=true:=by
  obtain ⟨hq,pre,y,ys,hs,hi,hu,he⟩:=Zo6 h
  rw [he]
  have hq':=hq
  rw [ZcD,← hs] at hq'
  rw [ZcD]
  simp only [Bool.and_eq_true,decide_eq_true_eq,List.length_append,List.length_cons,List.all_append,List.all_cons,List.map_append,List.map_cons] at hq' ⊢
  obtain ⟨⟨⟨⟨h6,h1⟩,h2⟩,h3,h4,h5⟩,ha⟩:=hq'
  by_cases h0:0<(without y.left u).length
  · rw [if_pos h0]
    simp only [List.length_cons,List.all_cons,List.map_cons,Bool.and_eq_true]
    exact ⟨⟨⟨⟨by omega,h1⟩,h2⟩,h3,ZiJ h4 h0,h5⟩,ha⟩
  · rw [if_neg h0]
    exact ⟨⟨⟨⟨by omega,h1⟩,h2⟩,h3,h5⟩,ZqF ha⟩
structure QN where
  k:Nat
  a:Option Addr
  c:Nat
end Go.BL
namespace Go.BL
open Go
set_option linter.unusedVariables false
set_option linter.unusedSimpArgs false
def Zbw (m:DMail):Bool:=(decide (1≤m.uid) && decide (m.uid≤99)) && (decide (0≤m.flags) && decide (m.flags≤31)) && decide (m.text.length≤20)
def scn {α β:Type} (p:β→α→Bool) (nx:β→α→β) (b0:β) (xs:List α):Bool × β:=xs.foldl (fun s x=>(s.1 && p s.2 x,nx s.2 x)) (true,b0)
theorem Zey {α β:Type} {p:β→α→Bool} {nx:β→α→β} {b0:β} {xs:List α} : scn p nx b0 (xs.take 0)=(true,b0):=by simp [scn]
theorem ZmV {α β:Type} {p:β→α→Bool} {nx:β→α→β} {b0:β} {xs:List α} {k:Nat} {x:α} (hx:xs[k]? = some x):scn p nx b0 (xs.take (k+1))=((scn p nx b0 (xs.take k)).1 && p (scn p nx b0 (xs.take k)).2 x,nx (scn p nx b0 (xs.take k)).2 x):=by
  have:xs.take (k+1)=xs.take k ++ [x]:=by rw [List.take_add_one,hx];rfl
  rw [this,scn,List.foldl_append];rfl
theorem Zb5 {α β:Type} {p:β→α→Bool} {nx:β→α→β} :∀(xs:List α) (b:β),(xs.foldl (fun (s:Bool × β) x=>(s.1 && p s.2 x,nx s.2 x)) (false,b)).1=false
  | [],_=>rfl
  | x :: xs,b=>by simp only [List.foldl_cons,Bool.false_and];exact Zb5 xs _
theorem Zs0 {α β:Type} {p:β→α→Bool} {nx:β→α→β} {b0:β} {xs:List α} {k:Nat} (h:(scn p nx b0 (xs.take k)).1=false):(scn p nx b0 xs).1=false:=by
  have e:xs=xs.take k ++ xs.drop k:=(List.take_append_drop k xs).symm
  have:scn p nx b0 xs=(xs.drop k).foldl (fun s x=>(s.1 && p s.2 x,nx s.2 x)) (scn p nx b0 (xs.take k)):=by
    conv=>lhs;rw [e,scn,List.foldl_append]
    rfl
  rw [this]
  rcases hs:scn p nx b0 (xs.take k) with ⟨b,c⟩
  rw [hs] at h
  simp only at h
  subst h
  exact Zb5 _ _
theorem Zft {α β:Type} {p:β→α→Bool} {nx:β→α→β} {b0:β} {xs:List α} {k:Nat} {x:α} (hx:xs[k]? = some x) (h:p (scn p nx b0 (xs.take k)).2 x=false):(scn p nx b0 xs).1=false:=
  Zs0 (k:=k+1) (by rw [ZmV hx,h,Bool.and_false])
theorem Zb9 {α β:Type} {p:β→α→Bool} {nx:β→α→β} {b0 b:β} {xs:List α} {k:Nat} {x:α} (hx:xs[k]? = some x) (hs:scn p nx b0 (xs.take k)=(true,b)) (h:p b x=true):scn p nx b0 (xs.take (k+1))=(true,nx b x):=by
  rw [ZmV hx,hs];simp [h]
theorem ZdN {α β:Type} {p:β→α→Bool} {nx:β→α→β} {b0 b:β} {xs:List α} {k:Nat} (hs:scn p nx b0 (xs.take k)=(true,b)) (hk:xs.length≤k):scn p nx b0 xs=(true,b):=by
  rwa [List.take_of_length_le hk] at hs
def ZbJ (b:Int) (m:DMail):Bool:=Zbw m && decide (b<m.uid)
def Zca (ms:List DMail):Bool × Int:=scn ZbJ (fun _ m=>m.uid) 0 ms
def Zbh (b:DBox):Bool:=(Zca b.mail).1 && (decide ((Zca b.mail).2+1≤b.next) && decide (b.next≤100)) && decide (b.mail.length≤10)
def Zah (ms:List DMail):Nat:=(ms.map (·.text.length)).sum
theorem ZhD {ms:List DMail} {k:Nat} {x:DMail} (hx:ms[k]? = some x):Zah (ms.take (k+1))=Zah (ms.take k)+x.text.length:=by
  have:ms.take (k+1)=ms.take k ++ [x]:=by rw [List.take_add_one,hx];rfl
  simp [Zah,this]
theorem Zga {b:DBox} (h:(Zca b.mail).1=false):Zbh b=false:=by simp [Zbh,h]
theorem Zdr {b:DBox} {l:Int} (h:Zca b.mail=(true,l)):Zbh b=((decide (l+1≤b.next) && decide (b.next≤100)) && decide (b.mail.length≤10)):=by simp [Zbh,h]
theorem Zjh {m:DMail} (h:Zbw m=true):0≤m.uid∧m.uid≤99:=by
  simp only [Zbw,Bool.and_eq_true,decide_eq_true_eq] at h;omega
theorem Zi5 {ms:List DMail} {k n:Nat} (h:n=Zah (ms.take k)) (hk:ms.length≤k):n=Zah ms:=by rwa [List.take_of_length_le hk] at h
def ZdR (b:DBox):Int:=if Zbh b then (Zah b.mail:Int) else -1
def anyone:Str:=[97,110,121,111,110,101]
def Zcq (u:DUser):Bool:=Zaj u.name && decide (u.name≠anyone) && Zaj u.pass && (decide (0≤u.quota) && decide (u.quota≤200))
theorem Zbo :∀(a b:Str),Op.bytesLess a b = !(Op.bytesLess b a || decide (b=a))
  | [],[]=>by simp [Op.bytesLess]
  | [],_ :: _=>by simp [Op.bytesLess]
  | _ :: _,[]=>by simp [Op.bytesLess]
  | a :: x,b :: y=>by
    have ih:=Zbo x y
    simp only [Op.bytesLess,ih]
    rcases UInt8.lt_or_lt_of_ne (a:=a) (b:=b) with h
    by_cases e:a=b
    · subst e
      have : ¬ a<a:=UInt8.lt_irrefl a
      simp [this,ih]
    · rcases h e with h | h
      · have h2 : ¬ b<a:=UInt8.lt_asymm h
        simp [h,h2,e,Ne.symm e]
      · have h2 : ¬ a<b:=UInt8.lt_asymm h
        simp [h,h2,e]
def Zdh (b:Str) (u:DUser):Bool:=Zcq u && Op.bytesLess b u.name
def ZdB (us:List DUser):Bool × Str:=scn Zdh (fun _ u=>u.name) [] us
def Zaq (us:List DUser):Bool:=(ZdB us).1 && (decide (1≤us.length) && decide (us.length≤4))
theorem Zfl {us:List DUser} (h:(ZdB us).1=false):Zaq us=false:=by simp [Zaq,h]
theorem Zhu {us:List DUser} {b:Str} (h:ZdB us=(true,b)):Zaq us=(decide (1≤us.length) && decide (us.length≤4)):=by simp [Zaq,h]
def Zpu:DUser:=⟨[],[],0⟩
def ZfD (t:DUser→Bool) (us:List DUser):DUser × Bool:=match us.find? t with | some x=>(x,true) | none=>(Zpu,false)
theorem Zli {α:Type} {t:α→Bool} {xs:List α} (h :∀y,y∈xs→t y=false):xs.find? t=none:=List.find?_eq_none.2 fun y hy=>by simp [h y hy]
theorem ZrX {α:Type} {t:α→Bool} {xs:List α} {k:Nat} {x:α} (hx:xs[k]? = some x) (ht:t x=true) (h :∀y,y∈xs.take k→t y=false):xs.find? t=some x:=by
  have hlt:=(List.getElem?_eq_some_iff.1 hx).1
  have e:xs=xs.take k ++ (x :: xs.drop (k+1)):=by
    rw [← (List.getElem?_eq_some_iff.1 hx).2,← List.drop_eq_getElem_cons hlt,List.take_append_drop]
  rw [e,List.find?_append,Zli h];simp [ht]
theorem Zqe {t:DUser→Bool} {us:List DUser} {k:Nat} {x:DUser} (hx:us[k]? = some x) (ht:t x=true) (h :∀y,y∈us.take k→t y=false):ZfD t us=(x,true):=by simp [ZfD,ZrX hx ht h]
theorem Zos {t:DUser→Bool} {us:List DUser} (h :∀y,y∈us→t y=false):ZfD t us=(Zpu,false):=by simp [ZfD,Zli h]
theorem ZjJ {B:Kn} {b:Nat} {T:TypeId} {vs:List Value} (h :∀p,p∈ZaY b vs T→B.mem p.1=some p.2):Za9 B b 0 vs:=fun L j u hu=>
  ⟨rfl,vs.toArray,T,(0,0),.inl (h (b,.cells vs.toArray T) (List.mem_singleton.2 rfl)),by simpa using hu⟩
def ZaW (us:List DUser) (n:Str):DUser × Bool:=if Zaq us then ZfD (fun y=>decide (y.name=n)) us else (Zpu,false)
def inF (o n:Str) (f:DFolder):Bool:=decide (f.owner=o) && decide (f.name=n)
def Zc6 (us:List DUser) (x:DItem):Bool:=(ZaW us x.fr).2 && x.left.all fun n=>(ZaW us n).2
theorem ZcN {α:Type} {p:α→Bool} {xs:List α} {k:Nat} {x:α} (hx:xs[k]? = some x) (h:p x=false):xs.all p=false:=by
  rw [List.all_eq_false];exact ⟨x,List.mem_of_getElem? hx,by simp [h]⟩
theorem Zek {α:Type} {p:α→Bool} {xs:List α} (h :∀y,y∈xs→p y=true):xs.all p=true:=List.all_eq_true.2 h
def ZbU (a b:DFolder):Bool:=Op.bytesLess a.owner b.owner || (decide (a.owner=b.owner) && Op.bytesLess a.name b.name)
theorem ZcL (a:Str):Op.bytesLess a a=false:=by
  have:=Zbo a a
  cases h:Op.bytesLess a a with
  | false=>rfl
  | true=>rw [h] at this;simp at this
end Go.BL
namespace Go.BL
open Go
set_option linter.unusedVariables false
set_option linter.unusedSimpArgs false
inductive Prev {α β:Type} (f:α→β) (z:β) (xs:List α):Nat→β→Prop
  | zero:Prev f z xs 0 z
  | succ {k:Nat} {x:α} : xs[k]? = some x→Prev f z xs (k+1) (f x)
theorem Prev.at {α β:Type} {f:α→β} {z:β} {xs:List α} {k:Nat} {b:β} {y:α} (h:Prev f z xs k b) (hy:xs[((k:Int) - 1).toNat]? = some y) (hk:0<(k:Int)):b=f y:=by
  cases h with
  | zero=>omega
  | succ hx=>
    rename_i k x
    rw [show (((k+1:Nat):Int) - 1).toNat=k from by omega,hx] at hy
    cases hy;rfl
theorem Prev.at0 {α β:Type} {f:α→β} {z:β} {xs:List α} {k:Nat} {b:β} (h:Prev f z xs k b) (hk:(k:Int)≤0):b=z:=by
  cases h with
  | zero=>rfl
  | succ hx=>omega
theorem Zg7 {α β:Type} {p:β→α→Bool} {nx:β→α→β} {b0 b:β} {xs:List α} {k:Nat} {x:α} (hx:xs[k]? = some x) (hs:scn p nx b0 (xs.take k)=(true,b)) (h:p b x=false):(scn p nx b0 xs).1=false:=
  Zft hx (by rw [congrArg Prod.snd hs];exact h)
theorem Zdg {us:List DUser} {k:Nat} {x:DUser} {nm:Str} (hx:us[k]? = some x) (hs:ZdB (us.take k)=(true,nm)) (h:Zdh nm x=false):Zaq us=false:=
  Zfl (Zg7 hx hs h)
theorem Zm7 {s:Str} (h:0<s.length):Op.bytesLess [] s=true:=by
  cases s with
  | nil=>cases h
  | cons a s=>rfl
theorem Zjf {s:Str} (h:Zaj s=true):0<s.length:=by
  cases s with
  | nil=>simp [Zaj] at h
  | cons a s=>simp
def Zck (b:Str) (g:DGrant):Bool:=Zaj g.user && (decide (1≤g.rights) && decide (g.rights≤63)) && Op.bytesLess b g.user
def ZcT (gs:List DGrant):Bool × Str:=scn Zck (fun _ g=>g.user) [] gs
def ZbK (gs:List DGrant):Bool:=(ZcT gs).1 && decide (gs.length≤4)
theorem Zdt {gs:List DGrant} {k:Nat} {x:DGrant} {nm:Str} (hx:gs[k]? = some x) (hs:ZcT (gs.take k)=(true,nm)) (h:Zck nm x=false):ZbK gs=false:=by
  rw [ZbK,show (ZcT gs).1=false from Zg7 hx hs h,Bool.false_and]
theorem ZlA {gs:List DGrant} {b:Str} (h:ZcT gs=(true,b)):ZbK gs=decide (gs.length≤4):=by rw [ZbK,h,Bool.true_and]
def DFolder.box (f:DFolder):DBox:=⟨f.next,f.mail⟩
def inbox:Str:=[105,110,98,111,120]
def Z1 (us:List DUser) (f:DFolder):Bool:=decide (0≤Zdw us f.owner) && Zaj f.name && ZbK f.grants && Zbh f.box
def ZbQ (us:List DUser) (b:Option DFolder) (f:DFolder):Bool:=Z1 us f && (match b with | none=>true | some y=>ZbU y f)
def Zdd (us:List DUser) (fs:List DFolder):Bool × Option DFolder:=scn (ZbQ us) (fun _ f=>some f) none fs
def Zb8 (us:List DUser) (fs:List DFolder):Bool:=(Zdd us fs).1 && decide (fs.length≤8)
theorem Zcx {us:List DUser} {fs:List DFolder} {k:Nat} {x:DFolder} {b:Option DFolder} (hx:fs[k]? = some x) (hs:Zdd us (fs.take k)=(true,b)) (h:ZbQ us b x=false):Zb8 us fs=false:=by
  rw [Zb8,show (Zdd us fs).1=false from Zg7 hx hs h,Bool.false_and]
theorem Zj3 {us:List DUser} {fs:List DFolder} {b:Option DFolder} (h:Zdd us fs=(true,b)):Zb8 us fs=decide (fs.length≤8):=by rw [Zb8,h,Bool.true_and]
def Zbb (fs:List DFolder) (u:Str):Nat:=(fs.map fun f=>if f.owner=u then Zah f.mail else 0).sum
theorem Zi0 {fs:List DFolder} {u:Str} {k:Nat} {x:DFolder} (hx:fs[k]? = some x):Zbb (fs.take (k+1)) u=Zbb (fs.take k) u+if x.owner=u then Zah x.mail else 0:=by
  have:fs.take (k+1)=fs.take k ++ [x]:=by rw [List.take_add_one,hx];rfl
  simp [Zbb,this]
theorem Zo4 {fs:List DFolder} {u:Str} {k n:Nat} (h:n=Zbb (fs.take k) u) (hk:fs.length≤k):n=Zbb fs u:=by rwa [List.take_of_length_le hk] at h
def Zf3 (us:List DUser) (ns:List Str):Bool:=ns.all fun n=>decide (0≤Zdw us n)
def ZaN (fs:List DFolder) (u:DUser):Bool:=decide (0≤ZaD (inF u.name inbox) fs) && decide ((Zbb fs u.name:Int)≤u.quota)
def ZaG (us:List DUser) (x:DItem):Bool:=decide (0≤Zdw us x.fr) && Zf3 us x.left
def ZA (h:DHost):Bool:=Zcb h.domain && Zaq h.users && Zab h.queue && Zb8 h.users h.folders && h.users.all (ZaN h.folders) && h.queue.items.all (ZaG h.users)
theorem Z4 {B:Kn} {q:Option Addr} {cp:Nat} {ms:List DMail} (h:SlK B q cp 3 ZJ ms):Zah ms≤4000000000000:=by
  have h1 :∀m,m∈ms→m.text.length≤2000000:=fun m hm=>by
    obtain ⟨i,hi⟩:=List.mem_iff_getElem?.1 hm
    obtain ⟨b,o,row,_,h2,_⟩:=h.rows i m hi
    exact h2.2
  have h2 :∀l:List DMail,(∀m,m∈l→m.text.length≤2000000)→Zah l≤l.length*2000000:=by
    intro l
    induction l with
    | nil=>intro _;simp [Zah]
    | cons m l ih=>
      intro hl
      have:=ih fun y hy=>hl y (List.mem_cons_of_mem _ hy)
      have:=hl m (List.mem_cons_self ..)
      simp only [Zah,List.map_cons,List.sum_cons,List.length_cons] at *
      omega
  have:=h2 ms h1
  have:=h.len
  omega
theorem Zh1 {h:DHost} {k:Nat} {u:DUser} (hu:h.users[k]? = some u) (hf:ZaN h.folders u=false):ZA h=false:=by
  rw [ZA,ZcN hu hf,Bool.and_false,Bool.false_and]
theorem Zh2 {h:DHost} {k:Nat} {y:DItem} (hy:h.queue.items[k]? = some y) (hf:ZaG h.users y=false):ZA h=false:=by
  rw [ZA,ZcN hy hf,Bool.and_false]
theorem Zog {h:DHost} (h1:Zcb h.domain=true) (h2:Zaq h.users=true) (h3:Zab h.queue=true) (h4:Zb8 h.users h.folders=true) (h5:h.users.all (ZaN h.folders)=true) (h6:h.queue.items.all (ZaG h.users)=true):ZA h=true:=by
  rw [ZA,h1,h2,h3,h4,h5,h6];rfl
theorem Zku {fs:List DFolder} {u:DUser} (h:ZaD (inF u.name inbox) fs<0):ZaN fs u=false:=by
  rw [ZaN,decide_eq_false (by omega),Bool.false_and]
theorem Zkt {fs:List DFolder} {u:DUser} (h:u.quota<Zbb fs u.name):ZaN fs u=false:=by
  rw [ZaN,decide_eq_false (p:=(Zbb fs u.name:Int)≤u.quota) (by omega),Bool.and_false]
theorem Zks {fs:List DFolder} {u:DUser} (h:0≤ZaD (inF u.name inbox) fs) (h':(Zbb fs u.name:Int)≤u.quota):ZaN fs u=true:=by
  rw [ZaN,decide_eq_true h,decide_eq_true h'];rfl
theorem ZjW {us:List DUser} {x:DItem} (h:Zdw us x.fr<0):ZaG us x=false:=by rw [ZaG,decide_eq_false (by omega),Bool.false_and]
theorem ZjV {us:List DUser} {x:DItem} (h:Zf3 us x.left=false):ZaG us x=false:=by rw [ZaG,h,Bool.and_false]
theorem ZjU {us:List DUser} {x:DItem} (h:0≤Zdw us x.fr) (h':Zf3 us x.left=true):ZaG us x=true:=by rw [ZaG,decide_eq_true h,h'];rfl
theorem Zdb :∀{a b c:Str},Op.bytesLess a b=true→Op.bytesLess b c=true→Op.bytesLess a c=true
  | [],[],_,h,_=>by simp [Op.bytesLess] at h
  | _ :: _,[],_,h,_=>by simp [Op.bytesLess] at h
  | _,_ :: _,[],_,h=>by simp [Op.bytesLess] at h
  | [],_ :: _,_ :: _,_,_=>by simp [Op.bytesLess]
  | a :: x,b :: y,c :: z,h,h'=>by
    simp only [Op.bytesLess,Bool.or_eq_true,decide_eq_true_eq,Bool.and_eq_true,beq_iff_eq] at h h' ⊢
    rcases h with h | ⟨rfl,h⟩
    · rcases h' with h' | ⟨rfl,h'⟩
      · exact .inl (UInt8.lt_trans h h')
      · exact .inl h
    · rcases h' with h' | ⟨rfl,h'⟩
      · exact .inl h'
      · exact .inr ⟨rfl,Zdb h h'⟩
def ZeI (gs:List DGrant):List (Str × Int):=gs.map fun g=>(g.user,g.rights)
theorem ZgU :∀(xs:List DGrant) (b0 b:Str),xs.foldl (fun s x=>(s.1 && Zck s.2 x,x.user)) (true,b0)=(true,b)→(∀y,y∈xs→y.user=b∨Op.bytesLess y.user b=true)∧(b=b0∨Op.bytesLess b0 b=true)
  | [],b0,b,h=>by
    cases h;exact ⟨by simp,.inl rfl⟩
  | x :: xs,b0,b,h=>by
    simp only [List.foldl_cons,Bool.true_and] at h
    cases hp:Zck b0 x with
    | false=>
      rw [hp] at h
      have:=Zb5 (p:=Zck) (nx:=fun _ g=>g.user) xs x.user
      rw [h] at this;cases this
    | true=>
      rw [hp] at h
      obtain ⟨h1,h2⟩:=ZgU xs x.user b h
      have hl:Op.bytesLess b0 x.user=true:=by
        simp only [Zck,Bool.and_eq_true] at hp;exact hp.2
      refine ⟨fun y hy=>?_,.inr ?_⟩
      · rcases List.mem_cons.1 hy with rfl | hy
        · rcases h2 with h2 | h2
          · exact .inl h2.symm
          · exact .inr h2
        · exact h1 y hy
      · rcases h2 with rfl | h2
        · exact hl
        · exact Zdb hl h2
theorem Zrq {kvs:List (Str × Int)} {k:Str} {v:Int} (h:k ∉ kvs.map (·.1)):mput kvs k v=kvs ++ [(k,v)]:=by
  induction kvs with
  | nil=>rfl
  | cons p r ih=>
    simp only [List.map_cons,List.mem_cons,not_or] at h
    simp only [mput,if_neg h.1,ih h.2,List.cons_append]
theorem Ztp {gs:List DGrant} {k:Nat} {m:DGrant} {nm:Str} (hm:gs[k]? = some m) (hs:ZcT (gs.take k)=(true,nm)) (hl:Op.bytesLess nm m.user=true):mput (ZeI (gs.take k)) m.user m.rights=ZeI (gs.take (k+1)):=by
  have h1:=(ZgU _ _ _ hs).1
  rw [Zrq]
  · rw [ZeI,ZeI,List.take_add_one,hm];simp
  · intro hc
    simp only [ZeI,List.map_map,List.mem_map,Function.comp] at hc
    obtain ⟨y,hy,e⟩:=hc
    rcases h1 y hy with h | h
    · rw [← e,h,ZcL] at hl;cases hl
    · rw [e] at h
      have:=Zdb hl h
      rw [ZcL] at this;cases this
def ZmH (gs:List DGrant) (B:Kn):Value→Kn→List Cells→Prop:=fun v B' Ls=>∃m l,v = .tuple #[.map m,.bool (ZbK gs)]∧Ls=[l]∧B'=B∧(ZbK gs=true→∃b,m=some b∧Zt4 l b (ZeI gs))
theorem Zim {P:PJ} {S:Env} {B:Kn} {L:List Cells} {rs:List ResultVar} {gs:List DGrant} (e:Exit) (he:e = .ret∨e = .normal) (vs:List Value) (hr:Zen P S B L rs vs) (h:ZbK gs=false) (hv:ZdU vs = .tuple #[.map none,.bool false]:=by rfl):ZiQ P rs (ZmH gs B) e S [] B L:=
  ZtL e he vs hr ⟨none,[],by rw [hv,h],rfl,rfl,fun hc=>by rw [h] at hc;cases hc⟩
theorem ZtK {P:PJ} {S:Env} {B:Kn} {L:List Cells} {rs:List ResultVar} {gs:List DGrant} (e:Exit) (he:e = .ret∨e = .normal) (vs:List Value) {b:Nat} {l:Cells} {r:List Cells} (hp:ZbM L [0]=some ([l],r)) (hr:Zen P S B L rs vs) (h:ZbK gs=true) (hm:Zt4 l b (ZeI gs)) (hv:ZdU vs = .tuple #[.map (some b),.bool true]:=by rfl):ZiQ P rs (ZmH gs B) e S [] B L:=
  Zaf e he vs [0] hp hr ⟨some b,l,by rw [hv,h],rfl,rfl,fun _=>⟨b,rfl,hm⟩⟩
def Zvb (f:DFolder) (ow nm:Str):Int:=if Lib.compareBytes f.owner ow≠0 then Lib.compareBytes f.owner ow else Lib.compareBytes f.name nm
theorem Zlo (f g:DFolder):0≤Zvb f g.owner g.name↔ZbU f g=false:=by
  have h1:=ZmB f.owner g.owner
  have h2:=ZmB f.name g.name
  unfold Zvb ZbU
  by_cases e:f.owner=g.owner
  · have e0:=h1.2.2 e
    have e1:Op.bytesLess f.owner g.owner=false:=by rw [e];exact ZcL _
    rw [if_neg (fun h=>h e0),e1,decide_eq_true e,Bool.true_and,Bool.false_or,Bool.eq_false_iff,ne_eq,← h2.1];omega
  · have e0:Lib.compareBytes f.owner g.owner≠0:=fun h=>e (h1.2.1 h)
    rw [if_pos e0,decide_eq_false e,Bool.false_and,Bool.or_false,Bool.eq_false_iff,ne_eq,← h1.1];omega
def Zfm (fs:List DFolder) (u:Str):Int:=(fs.map fun f=>if f.owner=u then ZdR ⟨f.next,f.mail⟩ else 0).sum
theorem ZiZ {fs:List DFolder} {u:Str} {k:Nat} {x:DFolder} (hx:fs[k]? = some x):Zfm (fs.take (k+1)) u=Zfm (fs.take k) u+if x.owner=u then ZdR ⟨x.next,x.mail⟩ else 0:=by
  have:fs.take (k+1)=fs.take k ++ [x]:=by rw [List.take_add_one,hx];rfl
  simp [Zfm,this]
theorem Zo1 {fs:List DFolder} {u:Str} {k:Nat} {n:Int} (h:n=Zfm (fs.take k) u) (hk:fs.length≤k):n=Zfm fs u:=by rwa [List.take_of_length_le hk] at h
theorem Zm8 :∀(xs:List DMail) (b0 b:Int),xs.foldl (fun s x=>(s.1 && ZbJ s.2 x,x.uid)) (true,b0)=(true,b)→∀y,y∈xs→Zbw y=true
  | [],_,_,_,_,h=>by cases h
  | x :: xs,b0,b,h,y,hy=>by
    simp only [List.foldl_cons,Bool.true_and] at h
    cases hp:ZbJ b0 x with
    | false=>
      rw [hp] at h
      have:=Zb5 (p:=ZbJ) (nx:=fun _ m=>m.uid) xs x.uid
      rw [h] at this;cases this
    | true=>
      rw [hp] at h
      rcases List.mem_cons.1 hy with rfl | hy
      · simp only [ZbJ,Bool.and_eq_true] at hp;exact hp.1
      · exact Zm8 xs x.uid b h y hy
theorem Zdq {b:DBox} (h:Zbh b=true):(∀y,y∈b.mail→Zbw y=true)∧b.mail.length≤10:=by
  simp only [Zbh,Bool.and_eq_true,decide_eq_true_eq] at h
  exact ⟨Zm8 b.mail 0 (Zca b.mail).2 (Prod.ext h.1.1 rfl),h.2⟩
theorem Zfr :∀l:List DMail,(∀m,m∈l→Zbw m=true)→Zah l≤l.length*20
  | [],_=>by simp [Zah]
  | m :: l,h=>by
    have h1:=Zfr l fun y hy=>h y (List.mem_cons_of_mem _ hy)
    have h2:=h m (List.mem_cons_self ..)
    simp only [Zbw,Bool.and_eq_true,decide_eq_true_eq] at h2
    simp only [Zah,List.map_cons,List.sum_cons,List.length_cons] at *
    omega
theorem Zjx (b:DBox) : -1≤ZdR b∧ZdR b≤200:=by
  unfold ZdR
  split
  · rename_i h
    obtain ⟨h1,h2⟩:=Zdq h
    have:=Zfr _ h1
    omega
  · omega
theorem Zq3 (fs:List DFolder) (u:Str) : -1*fs.length≤Zfm fs u∧Zfm fs u≤fs.length*200:=by
  induction fs with
  | nil=>simp [Zfm]
  | cons f fs ih=>
    have:=Zjx ⟨f.next,f.mail⟩
    simp only [Zfm,List.map_cons,List.sum_cons,List.length_cons] at *
    split <;> omega
def Zei (x:DHost) (u:Str) (more:Int):Bool:=!(ZaW x.users u).2 || decide ((ZaW x.users u).1.quota<Zfm x.folders u+more)
def ZcK (x:DHost) (w:DUser):Bool:=decide (0≤ZaD (inF w.name inbox) x.folders) && !Zei x w.name 0
theorem Zkx {x:DHost} {w:DUser} (h:ZaD (inF w.name inbox) x.folders<0):ZcK x w=false:=by rw [ZcK,decide_eq_false (by omega),Bool.false_and]
theorem Zkw {x:DHost} {w:DUser} (h:Zei x w.name 0=true):ZcK x w=false:=by rw [ZcK,h];simp
theorem Zkv {x:DHost} {w:DUser} (h:0≤ZaD (inF w.name inbox) x.folders) (h':Zei x w.name 0=false):ZcK x w=true:=by rw [ZcK,h',decide_eq_true h];rfl
def Zhv (x:DHost):Bool:=x.users.all (ZcK x)
def ZmI:Rel Bool:=fun _ row x=>row=[.bool x]
theorem ZmI.mono:Mono ZmI:=fun _ _ _ h=>h
theorem ZmI.one {B:Kn} :∀row y,ZmI B row y→row.all Zg1=true∧row.length=1:=by rintro _ y rfl;exact ⟨rfl,rfl⟩
def ZaX (us:List DUser) (f:DFolder):Bool:=(ZaW us f.owner).2 && Zaj f.name && ZbK f.grants && Zbh f.box
theorem Zg9 (C i:Nat):(some (ptr (Addr.add ⟨C,0,none⟩ ((i:Int).toNat*1))):Option Value)=some (ptr ⟨C,i,none⟩):=by
  rw [Addr.add_off _ _ rfl];simp
def ZqT (x:DHost) (i:Nat):Value:=.bool (match x.folders[i]? with | some m=>ZaX x.users m | none=>false)
theorem ZmR {x:DHost} {i:Nat} {m:DFolder} (h:x.folders[i]? = some m):ZqT x i = .bool (ZaX x.users m):=by simp [ZqT,h]
theorem ZoZ {B:Kn} {x:DHost} {C:Nat} {T:TypeId} (hm :∀p,p∈[(C,Obj.cells ((List.range x.folders.length).map (ZqT x)).toArray T (0,0))]→B.mem p.1=some p.2) (hl:x.folders.length≤2000000):SlK B (some ⟨C,0,none⟩) (x.folders.map (ZaX x.users)).length 1 ZmI (x.folders.map (ZaX x.users)):=by
  refine ⟨fun i y hy=>⟨C,0,[.bool y],rfl,rfl,fun j u hu=>?_⟩,by simp,by simpa using hl⟩
  have hj:j=0:=by
    cases j with
    | zero=>rfl
    | succ j=>simp at hu
  subst hj
  simp only [List.getElem?_cons_zero,Option.some.injEq] at hu
  subst hu
  rw [List.getElem?_map] at hy
  obtain ⟨m,hm',rfl⟩:=Option.map_eq_some_iff.1 hy
  have hi:i<x.folders.length:=(List.getElem?_eq_some_iff.1 hm').1
  refine ⟨rfl,_,T,(0,0),.inl (hm _ (List.mem_singleton.2 rfl)),?_⟩
  simp only [Nat.mul_one,Nat.zero_add,Nat.add_zero,List.getElem?_toArray,List.getElem?_map,List.getElem?_range hi,Option.map_some,ZmR hm']
theorem Zke {us:List DUser} {fs:List DFolder} : (!decide (0≤ZaD (fun y=>decide (false=y)) (fs.map (ZaX us))))=fs.all (ZaX us):=by
  by_cases h :∀f,f∈fs→ZaX us f=true
  · rw [List.all_eq_true.2 h,ZeJ (fun y hy=>by
      obtain ⟨f,hf,rfl⟩:=List.mem_map.1 hy
      simp [h f hf])]
    rfl
  · have h2:fs.all (ZaX us)=false:=by
      rw [Bool.eq_false_iff,ne_eq,List.all_eq_true];exact h
    rw [h2]
    have h3 :∃k,(fs.map (ZaX us)).findIdx? (fun y=>decide (false=y))=some k:=by
      cases hk:(fs.map (ZaX us)).findIdx? (fun y=>decide (false=y)) with
      | some k=>exact ⟨k,rfl⟩
      | none=>
        exfalso;apply h
        intro f hf
        have:=List.findIdx?_eq_none_iff.1 hk (ZaX us f) (List.mem_map_of_mem hf)
        cases hq:ZaX us f with
        | true=>rfl
        | false=>rw [hq] at this;simp at this
    obtain ⟨k,hk⟩:=h3
    have e:ZaD (fun y=>decide (false=y)) (fs.map (ZaX us))=(k:Int):=by unfold ZaD;rw [hk]
    rw [e];simp
def Zgd:List DFolder→Bool
  | []=>true
  | [_]=>true
  | a :: b :: r=>ZbU a b && Zgd (b :: r)
def Zdm (x:DHost):Bool:=Zcb x.domain && Zaq x.users && Zab x.queue && decide (x.folders.length≤8) && Zgd x.folders && (x.folders.all (ZaX x.users) && Zhv x && x.queue.items.all (Zc6 x.users))
def Zsn (fs:List DFolder) (k:Nat):Prop:=∀i a b,i<k→fs[i]? = some a→fs[i+1]? = some b→ZbU a b=true
theorem ZnV {fs:List DFolder} : Zsn fs 0:=fun i a b h=>by omega
theorem ZnW {fs:List DFolder} {k:Nat} {x y:DFolder} (h:Zsn fs k) (hx:fs[k]? = some x) (hy:fs[k+1]? = some y) (hl:ZbU x y=true):Zsn fs (k+1):=fun i a b hi ha hb=>by
  rcases Nat.lt_or_ge i k with h' | h'
  · exact h i a b h' ha hb
  · obtain rfl:i=k:=by omega
    rw [hx] at ha;rw [hy] at hb
    cases ha;cases hb;exact hl
theorem Zha :∀(fs:List DFolder),Zgd fs=true↔∀i a b,fs[i]? = some a→fs[i+1]? = some b→ZbU a b=true
  | []=>by simp [Zgd]
  | [_]=>by simp [Zgd]
  | x :: y :: r=>by
    rw [Zgd,Bool.and_eq_true,Zha (y :: r)]
    constructor
    · rintro ⟨h1,h2⟩ i a b ha hb
      cases i with
      | zero=>simp at ha hb;rw [← ha,← hb];exact h1
      | succ i=>exact h2 i a b (by simpa using ha) (by simpa using hb)
    · intro h
      exact ⟨h 0 x y rfl rfl,fun i a b ha hb=>h (i+1) a b (by simpa using ha) (by simpa using hb)⟩
theorem Zrn {fs:List DFolder} {k:Nat} {x y:DFolder} (hx:fs[k]? = some x) (hy:fs[k+1]? = some y) (hl:ZbU x y=false):Zgd fs=false:=by
  rw [Bool.eq_false_iff,ne_eq,Zha]
  intro h
  have:=h k x y hx hy
  rw [hl] at this;cases this
theorem Zrm {fs:List DFolder} (h :∀i a b,i<fs.length - 1→fs[i]? = some a→fs[i+1]? = some b→ZbU a b=true):Zgd fs=true:=
  (Zha fs).2 fun i a b ha hb=>h i a b (by have:=(List.getElem?_eq_some_iff.1 hb).1;omega) ha hb
theorem Zfu {α:Type} {p:Str→α→Bool} {f:α→Str} (hp :∀b x,p b x=true→Op.bytesLess b (f x)=true) :∀(xs:List α) (b0 b:Str),xs.foldl (fun s x=>(s.1 && p s.2 x,f x)) (true,b0)=(true,b)→(∀y,y∈xs→Op.bytesLess b0 (f y)=true)∧xs.Pairwise (fun x y=>Op.bytesLess (f x) (f y)=true)
  | [],_,_,_=>⟨by simp,.nil⟩
  | x :: xs,b0,b,h=>by
    simp only [List.foldl_cons,Bool.true_and] at h
    cases hq:p b0 x with
    | false=>
      rw [hq] at h
      have:=Zb5 (p:=p) (nx:=fun _ g=>f g) xs (f x)
      rw [h] at this;cases this
    | true=>
      rw [hq] at h
      obtain ⟨h1,h2⟩:=Zfu hp xs (f x) b h
      refine ⟨fun y hy=>?_,.cons h1 h2⟩
      rcases List.mem_cons.1 hy with rfl | hy
      · exact hp _ _ hq
      · exact Zdb (hp _ _ hq) (h1 y hy)
theorem ZdL {us:List DUser} (h:Zaq us=true):us.Pairwise fun x y=>Op.bytesLess x.name y.name=true:=by
  simp only [Zaq,Bool.and_eq_true] at h
  exact (Zfu (p:=Zdh) (f:=fun u=>u.name) (fun b x hq=>by simp only [Zdh,Bool.and_eq_true] at hq;exact hq.2) us [] (ZdB us).2 (Prod.ext h.1 rfl)).2
theorem Zcc {us:List DUser} {u:Str} : 0≤Zdw us u↔∃x,x∈us∧x.name=u:=by
  unfold Zdw
  cases h:us.findIdx? (fun x=>decide (x.name=u)) with
  | none=>
    have:=List.findIdx?_eq_none_iff.1 h
    simp only [decide_eq_false_iff_not] at this
    exact ⟨fun hc=>absurd hc (by simp only [];omega),fun ⟨x,hx,e⟩=>absurd e (this x hx)⟩
  | some i=>
    rw [List.findIdx?_eq_some_iff_getElem] at h
    obtain ⟨hi,h1,_⟩:=h
    exact ⟨fun _=>⟨us[i],List.getElem_mem hi,by simpa using h1⟩,fun _=>by simp only [];omega⟩
theorem Zqd {us:List DUser} {t:DUser→Bool} : (ZfD t us).2=true↔∃x,x∈us∧t x=true:=by
  unfold ZfD
  cases h:us.find? t with
  | none=>simp only [Bool.false_eq_true,false_iff];rintro ⟨x,hx,e⟩;have:=List.find?_eq_none.1 h x hx;exact this e
  | some x=>simp only [true_iff];exact ⟨x,List.mem_of_find?_eq_some h,List.find?_some h⟩
theorem ZdC {us:List DUser} (h:Zaq us=true) (n:Str):(ZaW us n).2=decide (0≤Zdw us n):=by
  rw [ZaW,if_pos h,Bool.eq_iff_iff,Zqd,decide_eq_true_eq,Zcc];simp
theorem ZfC :∀{us:List DUser},us.Pairwise (fun x y=>Op.bytesLess x.name y.name=true)→∀w,w∈us→us.find? (fun y=>decide (y.name=w.name))=some w
  | [],_,w,h=>by cases h
  | x :: us,hp,w,h=>by
    cases hp with
    | cons h1 h2=>
      rw [List.find?_cons]
      rcases List.mem_cons.1 h with rfl | h
      · simp
      · have hne:x.name≠w.name:=fun e=>by
          have:=h1 w h
          rw [e,ZcL] at this;cases this
        simp only [hne,decide_false]
        exact ZfC h2 w h
theorem ZjB {us:List DUser} (h:Zaq us=true) {w:DUser} (hw:w∈us):ZaW us w.name=(w,true):=by
  rw [ZaW,if_pos h,ZfD,ZfC (ZdL h) w hw]
theorem Zoq {us:List DUser} (h:Zaq us=true) (f:DFolder):ZaX us f=Z1 us f:=by
  rw [ZaX,Z1,ZdC h]
theorem Zeo {us:List DUser} :∀(fs:List DFolder) (b0:Option DFolder),(fs.foldl (fun s x=>(s.1 && ZbQ us s.2 x,some x)) (true,b0)).1=(fs.all (Z1 us) && Zgd ((match b0 with | none=>[] | some y=>[y]) ++ fs))
  | [],none=>rfl
  | [],some y=>rfl
  | x :: fs,b0=>by
    simp only [List.foldl_cons,Bool.true_and]
    have hstep:(fs.foldl (fun (s:Bool × Option DFolder) x=>(s.1 && ZbQ us s.2 x,some x)) (ZbQ us b0 x,some x)).1=(ZbQ us b0 x && (fs.all (Z1 us) && Zgd (x :: fs))):=by
      cases hq:ZbQ us b0 x with
      | false=>rw [Bool.false_and];exact Zb5 (p:=ZbQ us) (nx:=fun _ f=>some f) fs (some x)
      | true=>rw [Bool.true_and];exact Zeo fs (some x)
    rw [hstep]
    cases b0 with
    | none=>
      simp only [ZbQ,Bool.and_true,List.all_cons,List.nil_append]
      cases Z1 us x <;> simp
    | some y=>
      simp only [ZbQ,List.all_cons,List.cons_append,List.nil_append,Zgd]
      cases Z1 us x <;> cases ZbU y x <;> simp
theorem Zdn {us:List DUser} {fs:List DFolder} : Zb8 us fs=(fs.all (Z1 us) && Zgd fs && decide (fs.length≤8)):=by
  rw [Zb8,show (Zdd us fs).1=_ from Zeo fs none];rfl
theorem ZmS {us:List DUser} {u:Str} :∀{fs:List DFolder},fs.all (Z1 us)=true→Zfm fs u=(Zbb fs u:Int)
  | [],_=>rfl
  | f :: fs,h=>by
    simp only [List.all_cons,Bool.and_eq_true] at h
    have ih:=ZmS (u:=u) h.2
    have hb:Zbh ⟨f.next,f.mail⟩=true:=by
      have:=h.1;simp only [Z1,Bool.and_eq_true] at this;exact this.2
    simp only [Zfm,Zbb,List.map_cons,List.sum_cons] at ih ⊢
    rw [ih]
    by_cases he:f.owner=u
    · simp [he,ZdR,hb]
    · simp [he]
theorem ZlP {x:DHost} (hu:Zaq x.users=true) (hf:x.folders.all (Z1 x.users)=true) {w:DUser} (hw:w∈x.users):ZcK x w=ZaN x.folders w:=by
  rw [ZcK,ZaN,Zei,ZjB hu hw,ZmS hf]
  simp only [Bool.not_true,Bool.false_or,Int.add_zero]
  congr 1
  rw [Bool.eq_iff_iff];simp
theorem Zmk {us:List DUser} (h:Zaq us=true) (y:DItem):Zc6 us y=ZaG us y:=by
  rw [Zc6,ZaG,ZdC h,Zf3]
  simp only [ZdC h]
theorem ZqH {α:Type} {p q:α→Bool} {xs:List α} (h :∀x,x∈xs→p x=q x):xs.all p=xs.all q:=by
  rw [Bool.eq_iff_iff,List.all_eq_true,List.all_eq_true]
  exact ⟨fun a x hx=>h x hx ▸ a x hx,fun a x hx=>(h x hx).symm ▸ a x hx⟩
theorem Zoh (x:DHost):Zdm x=ZA x:=by
  cases hu:Zaq x.users with
  | false=>simp [Zdm,ZA,hu]
  | true=>
    have e1:x.folders.all (ZaX x.users)=x.folders.all (Z1 x.users):=ZqH fun f _=>Zoq hu f
    have e2:x.queue.items.all (Zc6 x.users)=x.queue.items.all (ZaG x.users):=ZqH fun y _=>Zmk hu y
    rw [Zdm,ZA,hu,e1,e2,Zdn]
    cases hf:x.folders.all (Z1 x.users) with
    | false=>simp
    | true=>
      have e3:Zhv x=x.users.all (ZaN x.folders):=ZqH fun w hw=>ZlP hu hf hw
      rw [e3]
      cases Zcb x.domain <;> cases Zab x.queue <;> cases Zgd x.folders <;> cases decide (x.folders.length≤8) <;> simp
end Go.BL
namespace Go.BL
open Go
set_option linter.unusedVariables false
set_option linter.unusedSimpArgs false
theorem ZgR {x:DHost} (h:ZA x=true):Zaq x.users=true:=by
  simp only [ZA,Bool.and_eq_true] at h;exact h.1.1.1.1.2
theorem Zmq {x:DHost} (h:ZA x=true) (n:Str):(ZaW x.users n).2=decide (0≤Zdw x.users n):=ZdC (ZgR h) n
theorem ZrW {us:List DUser} {n:Str} (h:0≤Zdw us n) {x:DUser} (hx:us[(Zdw us n).toNat]? = some x):ZfD (fun y=>decide (y.name=n)) us=(x,true):=by
  unfold Zdw at h hx
  cases hf:us.findIdx? (fun x=>decide (x.name=n)) with
  | none=>rw [hf] at h;simp at h
  | some i=>
    rw [hf] at hx
    simp only [Int.toNat_natCast] at hx
    rw [List.findIdx?_eq_some_iff_getElem] at hf
    obtain ⟨hi,h1,h2⟩:=hf
    rw [List.getElem?_eq_getElem hi] at hx
    cases hx
    have:us.find? (fun y=>decide (y.name=n))=some us[i]:=by
      rw [List.find?_eq_some_iff_getElem]
      exact ⟨h1,i,hi,rfl,fun j hj=>by simpa using h2 j hj⟩
    rw [ZfD,this]
structure DSess where
  user:Str
  owner:Str
  name:Str
deriving DecidableEq
theorem ZpQ (us:List DUser) (n:Str):Zdw us n<us.length∧Zdw us n ≥ -1:=by
  unfold Zdw
  cases hf:us.findIdx? (fun x=>decide (x.name=n)) with
  | none=>simp only [];omega
  | some i=>
    rw [List.findIdx?_eq_some_iff_getElem] at hf
    obtain ⟨hi,_⟩:=hf
    simp only [];omega
end Go.BL
namespace Go.BL
open Go
set_option linter.unusedVariables false
set_option linter.unusedSimpArgs false
def ZjM (n:Str):DFolder:=⟨n,inbox,[],1,[]⟩
def Zpv (d:Str) (us:List DUser):DHost:=⟨d,us,us.map fun u=>ZjM u.name,⟨1,[]⟩⟩
def Za4:DHost:=⟨[],[],[],⟨0,[]⟩⟩
def Zcd (d:Str) (us:List DUser):DHost × Bool:=if Zcb d=true∧Zaq us=true then (Zpv d us,true) else (Za4,false)
theorem ZjG {α β:Type} {p:β→α→Bool} {nx:β→α→β} :∀(xs:List α) (b:β),(xs.foldl (fun (s:Bool × β) x=>(s.1 && p s.2 x,nx s.2 x)) (true,b)).1=true→∀x,x∈xs→∃b',p b' x=true
  | [],_,_,x,hx=>by cases hx
  | x :: xs,b,h,y,hy=>by
    simp only [List.foldl_cons,Bool.true_and] at h
    cases hq:p b x with
    | false=>
      rw [hq] at h
      have:=Zb5 (p:=p) (nx:=nx) xs (nx b x)
      rw [this] at h;cases h
    | true=>
      rw [hq] at h
      rcases List.mem_cons.1 hy with rfl | hy
      · exact ⟨b,hq⟩
      · exact ZjG xs _ h y hy
theorem ZgI {us:List DUser} (h:Zaq us=true) {u:DUser} (hu:u∈us):Zcq u=true:=by
  simp only [Zaq,Bool.and_eq_true] at h
  obtain ⟨b,hb⟩:=ZjG (p:=Zdh) (nx:=fun _ u=>u.name) us [] h.1 u hu
  simp only [Zdh,Bool.and_eq_true] at hb;exact hb.1
theorem Zm4 :∀{us:List DUser},us.Pairwise (fun x y=>Op.bytesLess x.name y.name=true)→Zgd (us.map fun u=>ZjM u.name)=true
  | [],_=>rfl
  | [_],_=>rfl
  | a :: b :: r,h=>by
    cases h with
    | cons h1 h2=>
      have h3:=h1 b (List.mem_cons_self ..)
      show (ZbU (ZjM a.name) (ZjM b.name) && Zgd ((b :: r).map fun u=>ZjM u.name))=true
      rw [Zm4 h2,Bool.and_true,ZbU]
      simp only [ZjM,h3,Bool.true_or]
theorem Zo2 (us:List DUser) (n:Str):Zbb (us.map fun u=>ZjM u.name) n=0:=by
  induction us with
  | nil=>rfl
  | cons u us ih=>
    simp only [Zbb,List.map_cons,List.sum_cons] at ih ⊢
    rw [ih]
    simp [ZjM,Zah]
theorem Ztg {us:List DUser} {u:DUser} (h:u∈us):0≤ZaD (inF u.name inbox) (us.map fun u=>ZjM u.name):=
  ZdH.2 ⟨ZjM u.name,List.mem_map.2 ⟨u,h,rfl⟩,by simp [inF,ZjM]⟩
theorem Zma (d:Str) (us:List DUser):ZA (Zpv d us)=(Zcb d && Zaq us):=by
  cases hu:Zaq us with
  | false=>simp [ZA,Zpv,hu]
  | true=>
    have h1:Zb8 us (us.map fun u=>ZjM u.name)=true:=by
      rw [Zdn,Zm4 (ZdL hu)]
      have h2:(us.map fun u=>ZjM u.name).all (Z1 us)=true:=by
        rw [List.all_eq_true]
        intro f hf
        obtain ⟨u,hm,rfl⟩:=List.mem_map.1 hf
        have e1:Zaj inbox=true:=by decide
        have e2:ZbK []=true:=by decide
        have e3:Zbh ⟨1,[]⟩=true:=by decide
        simp only [Z1,ZjM,DFolder.box,e1,e2,e3,Bool.and_true]
        exact decide_eq_true (Zcc.2 ⟨u,hm,rfl⟩)
      have h3:us.length≤4:=by simp only [Zaq,Bool.and_eq_true,decide_eq_true_eq] at hu;exact hu.2.2
      rw [h2];simp;omega
    have h4:us.all (ZaN (us.map fun u=>ZjM u.name))=true:=by
      rw [List.all_eq_true]
      intro u hm
      have:=ZgI hu hm
      simp only [Zcq,Bool.and_eq_true,decide_eq_true_eq] at this
      simp only [ZaN,Zo2,Bool.and_eq_true,decide_eq_true_eq]
      exact ⟨Ztg hm,by omega⟩
    have h5:Zab ⟨1,[]⟩=true:=by decide
    simp only [ZA,Zpv,hu,h1,h4,h5,List.all_nil,Bool.and_true]
theorem Zh3 {d:Str} {us:List DUser} (h:ZA (Zpv d us)=true):Zcd d us=(Zpv d us,true):=by
  rw [Zma,Bool.and_eq_true] at h;rw [Zcd,if_pos h]
theorem Zoi {d:Str} {us:List DUser} (h:ZA (Zpv d us)=false):Zcd d us=(Za4,false):=by
  rw [Zma] at h;rw [Zcd,if_neg (by rw [← Bool.and_eq_true,h];exact Bool.false_ne_true)]
def Zhb:DFolder:=⟨[],[],[],0,[]⟩
def Zae (x:DHost) (o n:Str):DFolder × Bool:=if ZA x=true then (match x.folders.find? (inF o n) with | some f=>(f,true) | none=>(Zhb,false)) else (Zhb,false)
theorem ZiL {x:DHost} {o n:Str} (h:ZA x=false):Zae x o n=(Zhb,false):=by simp [Zae,h]
theorem Zh5 {x:DHost} {o n:Str} (h:ZaD (inF o n) x.folders<0):Zae x o n=(Zhb,false):=by
  have:x.folders.find? (inF o n)=none:=List.find?_eq_none.2 fun y hy hp=>by have:=ZdH.2 ⟨y,hy,hp⟩;omega
  rw [Zae,this];split <;> rfl
theorem Zh4 {x:DHost} {o n:Str} (hx:ZA x=true) (h:0≤ZaD (inF o n) x.folders) {f:DFolder} (hf:x.folders[(ZaD (inF o n) x.folders).toNat]? = some f):Zae x o n=(f,true):=by
  unfold ZaD at h hf
  cases hq:x.folders.findIdx? (inF o n) with
  | none=>rw [hq] at h;simp at h
  | some i=>
    rw [hq] at hf
    simp only [Int.toNat_natCast] at hf
    rw [List.findIdx?_eq_some_iff_getElem] at hq
    obtain ⟨hi,h1,h2⟩:=hq
    rw [List.getElem?_eq_getElem hi] at hf
    cases hf
    have:x.folders.find? (inF o n)=some x.folders[i]:=by
      rw [List.find?_eq_some_iff_getElem]
      exact ⟨h1,i,hi,rfl,fun j hj=>by simpa using h2 j hj⟩
    rw [Zae,if_pos hx,this]
theorem ZcG {α:Type} (p:α→Bool) (xs:List α):ZaD p xs<xs.length∧ZaD p xs ≥ -1:=by
  unfold ZaD
  cases hf:xs.findIdx? p with
  | none=>simp only [];omega
  | some i=>
    rw [List.findIdx?_eq_some_iff_getElem] at hf
    obtain ⟨hi,_⟩:=hf
    simp only [];omega
end Go.BL
namespace Go.BL
open Go
set_option linter.unusedVariables false
set_option linter.unusedSimpArgs false
end Go.BL
namespace Go.BL
open Go
set_option linter.unusedVariables false
set_option linter.unusedSimpArgs false
def Zbt (k:Nat):Int:=([1,2,4,8,16,32]:List Int).getD k 0
theorem ZqC {k:Nat} (h:k<6):(k=0∧Zbt k=1)∨(k=1∧Zbt k=2)∨(k=2∧Zbt k=4)∨(k=3∧Zbt k=8)∨(k=4∧Zbt k=16)∨(k=5∧Zbt k=32):=by
  have:k=0∨k=1∨k=2∨k=3∨k=4∨k=5:=by omega
  rcases this with rfl | rfl | rfl | rfl | rfl | rfl <;> simp [Zbt]
theorem Zkb {k:Nat} (h:k<6):0<Zbt k∧Zbt k≤32:=by rcases ZqC h with h | h | h | h | h | h <;> omega
theorem ZdK {α:Type} {p:α→Bool} {xs:List α} {k:Nat} {x:α} (hx:xs[k]? = some x):(xs.take (k+1)).any p=((xs.take k).any p || p x):=by
  rw [Zay hx,List.any_append];simp
theorem ZqG {α:Type} {p:α→Bool} {xs:List α} {k:Nat} {b:Bool} (h:b=(xs.take k).any p) (hk:xs.length≤k):b=xs.any p:=by rwa [List.take_of_length_le hk] at h
def onB (u:Str) (b:Int) (g:DGrant):Bool:=(decide (g.user=u) || decide (g.user=anyone)) && decide (Int.tmod (Int.tdiv g.rights b) 2=1)
def Zfg (gs:List DGrant) (u:Str):Nat→Int
  | 0=>0
  | k+1=>if gs.any (onB u (Zbt k))=true then Zfg gs u k+Zbt k else Zfg gs u k
theorem Zix (gs:List DGrant) (u:Str) :∀k,k≤6→0≤Zfg gs u k∧Zfg gs u k≤100*k
  | 0,_=>by simp [Zfg]
  | k+1,h=>by
    have:=Zix gs u k (by omega)
    have:=Zkb (k:=k) (by omega)
    simp only [Zfg]
    split <;> omega
def ZbF (gs:List DGrant) (u:Str):Int:=Zfg gs u 6
def ZiP (f:DFolder) (u:Str) (r:Int):Bool:=decide (u=f.owner) || decide (Int.tmod (Int.tdiv (ZbF f.grants u) r) 2=1)
def Zf9 (us:List DUser) (fs:List DFolder) (u:Str) (k:Int) (r:Int):Int:=
  if Zdw us u<0∨k<0 then 1 else match fs[k.toNat]? with
    | none=>1
    | some f=>if ZiP f u 1=false then 1 else if ZiP f u r=false then 2 else 0
theorem Zj9 {us:List DUser} {fs:List DFolder} {u:Str} {k r:Int} (h:Zdw us u<0∨k<0):Zf9 us fs u k r=1:=by rw [Zf9,if_pos h]
theorem Zqy {us:List DUser} {fs:List DFolder} {u:Str} {k r:Int} {f:DFolder} (h : ¬ (Zdw us u<0∨k<0)) (hf:fs[k.toNat]? = some f):Zf9 us fs u k r=if ZiP f u 1=false then 1 else if ZiP f u r=false then 2 else 0:=by
  rw [Zf9,if_neg h,hf]
theorem Zdp {us:List DUser} {fs:List DFolder} {u:Str} {k r:Int} (h:Zf9 us fs u k r=0):0≤Zdw us u∧0≤k∧∃f,fs[k.toNat]? = some f∧ZiP f u 1=true∧ZiP f u r=true:=by
  unfold Zf9 at h
  split at h
  · cases h
  · split at h
    · cases h
    · rename_i f hf
      split at h
      · cases h
      · split at h
        · cases h
        · rename_i h1 h2 h3
          exact ⟨by omega,by omega,f,hf,by simpa using h2,by simpa using h3⟩
def ZgA (b:DBox) (fl:Int) (t:Str):DBox × Bool:=if 10≤b.mail.length∨99<b.next then (b,false) else (⟨b.next+1,b.mail ++ [⟨b.next,fl,t⟩]⟩,true)
theorem Zly {b:DBox} {fl:Int} {t:Str} (h:10≤b.mail.length∨99<b.next):ZgA b fl t=(b,false):=by rw [ZgA,if_pos h]
theorem Zt1 {b:DBox} {fl:Int} {t:Str} (h : ¬ (10≤b.mail.length∨99<b.next)):ZgA b fl t=(⟨b.next+1,b.mail ++ [⟨b.next,fl,t⟩]⟩,true):=by rw [ZgA,if_neg h]
def DFolder.withBox (f:DFolder) (b:DBox):DFolder:=⟨f.owner,f.name,f.grants,b.next,b.mail⟩
def DHost.withFolders (x:DHost) (fs:List DFolder):DHost:=⟨x.domain,x.users,fs,x.queue⟩
def DHost.withQueue (x:DHost) (q:DQueue):DHost:=⟨x.domain,x.users,x.folders,q⟩
def ZdO (us:List DUser) (n:Str):Int:=match us[(Zdw us n).toNat]? with | some w=>w.quota | none=>0
def ZbI (x:DHost) (k:Nat) (fl:Int) (t:Str):DHost × Int:=
  match x.folders[k]? with
  | none=>(x,0)
  | some f=>if ZdO x.users f.owner<(Zbb x.folders f.owner:Int)+t.length then (x,3)
    else if (ZgA f.box fl t).2=true then (x.withFolders (x.folders.set k (f.withBox (ZgA f.box fl t).1)),0) else (x,4)
theorem Zl9 {x:DHost} {k:Nat} {fl:Int} {t:Str} {f:DFolder} (hf:x.folders[k]? = some f) (h:ZdO x.users f.owner<(Zbb x.folders f.owner:Int)+t.length):ZbI x k fl t=(x,3):=by simp only [ZbI,hf,if_pos h]
theorem ZnS {x:DHost} {k:Nat} {fl:Int} {t:Str} {f:DFolder} (hf:x.folders[k]? = some f) (h : ¬ ZdO x.users f.owner<(Zbb x.folders f.owner:Int)+t.length) (h2:(ZgA f.box fl t).2=false):ZbI x k fl t=(x,4):=by simp only [ZbI,hf,if_neg h,h2];rfl
theorem ZnT {x:DHost} {k:Nat} {fl:Int} {t:Str} {f:DFolder} (hf:x.folders[k]? = some f) (h : ¬ ZdO x.users f.owner<(Zbb x.folders f.owner:Int)+t.length) (h2:(ZgA f.box fl t).2=true):ZbI x k fl t=(x.withFolders (x.folders.set k (f.withBox (ZgA f.box fl t).1)),0):=by simp only [ZbI,hf,if_neg h,h2,if_true]
def ZaQ (n:Int):Bool:=decide (0≤n) && decide (n≤31)
def Zj0 (x:DHost) (by_ o n:Str) (fl:Int) (t:Str):DHost × Int:=
  if ¬ (ZA x=true∧ZaQ fl=true∧t.length≤20) then (Za4,5)
  else if Zf9 x.users x.folders by_ (ZaD (inF o n) x.folders) 8≠0 then (x,Zf9 x.users x.folders by_ (ZaD (inF o n) x.folders) 8)
  else ZbI x (ZaD (inF o n) x.folders).toNat fl t
def ZeE (o n:Str):DFolder:=⟨o,n,[],1,[]⟩
def Zgq (fs:List DFolder) (f:DFolder):Nat:=(fs.takeWhile fun y=>ZbU y f).length
def Zg2 (fs:List DFolder) (f:DFolder):List DFolder:=fs.take (Zgq fs f) ++ [f] ++ fs.drop (Zgq fs f)
def Zbg (x:DHost) (u n:Str):DHost × Int:=
  if ¬ (ZA x=true∧Zaj n=true) then (Za4,5)
  else if Zdw x.users u<0 then (x,1)
  else if 0≤ZaD (inF u n) x.folders∨8≤x.folders.length then (x,4)
  else (x.withFolders (Zg2 x.folders (ZeE u n)),0)
def ZeT (u:Str) (r:Int) (s:Bool × List DGrant) (g:DGrant):Bool × List DGrant:=
  let s1:Bool × List DGrant:=if s.1=false∧Op.bytesLess g.user u=false then (true,s.2 ++ [⟨u,r⟩]) else s
  if g.user≠u then (s1.1,s1.2 ++ [g]) else s1
def Zel (u:Str) (r:Int) (gs:List DGrant):Bool × List DGrant:=gs.foldl (ZeT u r) (decide (r=0),[])
theorem Zco {u:Str} {r:Int} {gs:List DGrant} {k:Nat} {x:DGrant} (hx:gs[k]? = some x):Zel u r (gs.take (k+1))=ZeT u r (Zel u r (gs.take k)) x:=by
  rw [Zay hx,Zel,List.foldl_append];rfl
def Zgc (gs:List DGrant) (u:Str) (r:Int):List DGrant:=if (Zel u r gs).1=true then (Zel u r gs).2 else (Zel u r gs).2 ++ [⟨u,r⟩]
def ZdE (r:Int):Bool:=decide (0≤r) && decide (r≤63)
def Zb1 (gs:List DGrant) (u:Str) (r:Int):List DGrant × Bool:=
  if ¬ (ZbK gs=true∧Zaj u=true∧ZdE r=true) then ([],false)
  else if ZbK (Zgc gs u r)=true then (Zgc gs u r,true) else (gs,false)
def DFolder.withGrants (f:DFolder) (gs:List DGrant):DFolder:=⟨f.owner,f.name,gs,f.next,f.mail⟩
def ZeL (x:DHost) (k:Nat) (u:Str) (r:Int):DHost × Int:=
  match x.folders[k]? with
  | none=>(x,0)
  | some f=>if (Zb1 f.grants u r).2=true then (x.withFolders (x.folders.set k (f.withGrants (Zb1 f.grants u r).1)),0) else (x,4)
def Zb0 (x:DHost) (by_ o n u:Str) (r:Int):DHost × Int:=
  if ¬ (ZA x=true∧ZdE r=true) then (Za4,5)
  else if Zf9 x.users x.folders by_ (ZaD (inF o n) x.folders) 32≠0 then (x,Zf9 x.users x.folders by_ (ZaD (inF o n) x.folders) 32)
  else if u≠anyone∧Zdw x.users u<0 then (x,1)
  else ZeL x (ZaD (inF o n) x.folders).toNat u r
def Zbp (x:DHost) (l:DLetter):DHost × Int:=
  if ¬ (ZA x=true∧ZaL l=true) then (Za4,5)
  else if Zdw x.users l.fr<0∨Zf3 x.users l.to_=false then (x,1)
  else if (Zhm x.queue l).2=true then (x.withQueue (Zhm x.queue l).1,0) else (x,4)
def ZaP (x:DHost) (id:Int) (u:Str):DHost × Int:=
  if ZA x=false then (Za4,5)
  else if (Zb4 x.queue id u).2.2=false then (x,1)
  else if (ZbI x (ZaD (inF u inbox) x.folders).toNat 0 (Zb4 x.queue id u).2.1).2≠4 then
    ((ZbI x (ZaD (inF u inbox) x.folders).toNat 0 (Zb4 x.queue id u).2.1).1.withQueue (Zb4 x.queue id u).1,(ZbI x (ZaD (inF u inbox) x.folders).toNat 0 (Zb4 x.queue id u).2.1).2)
  else ZbI x (ZaD (inF u inbox) x.folders).toNat 0 (Zb4 x.queue id u).2.1
def ZkG (s:DSpan):Bool:=(decide (0≤s.low) && decide (s.low≤99)) && (decide (0≤s.high) && decide (s.high≤99))
def ZhE (s:List DSpan):Bool:=s.all ZkG && (decide (1≤s.length) && decide (s.length≤6))
def ZdM (last n:Int) (s:DSpan):Bool:=decide (min (if s.low=0 then last else s.low) (if s.high=0 then last else s.high)≤n) && decide (n≤max (if s.low=0 then last else s.low) (if s.high=0 then last else s.high))
def ZfX (s:List DSpan) (last n:Int):Bool:=s.any (ZdM last n)
def ZcQ (s:List DSpan) (last:Int):Nat→List Int
  | 0=>[]
  | n+1=>if ZfX s last (n+1:Nat)=true then ZcQ s last n ++ [((n+1:Nat):Int)] else ZcQ s last n
def ZaC (s:List DSpan) (last:Int):List Int:=if ZhE s=true then ZcQ s (min last 99) (min last 99).toNat else []
def Zjy (n:Int) (k:Nat):Int:=Int.tmod (Int.tdiv n (Zbt k)) 2
def ZeQ (fl how ot:Int) (k:Nat):Bool:=(decide (how=1) && decide (0<Zjy fl k+Zjy ot k)) || (decide (how = -1) && decide (Zjy fl k=1) && decide (Zjy ot k=0)) || (decide (how=0) && decide (Zjy ot k=1))
def Zit (fl how ot:Int):Nat→Int
  | 0=>0
  | k+1=>if ZeQ fl how ot k=true then Zit fl how ot k+Zbt k else Zit fl how ot k
theorem Znt (fl how ot:Int) :∀k,k≤5→0≤Zit fl how ot k∧Zit fl how ot k≤100*k
  | 0,_=>by simp [Zit]
  | k+1,h=>by
    have:=Znt fl how ot k (by omega)
    have:=Zkb (k:=k) (by omega)
    simp only [Zit]
    split <;> omega
def chg (fl how ot:Int):Int:=Zit fl how ot 5
theorem ZsL (fl how ot:Int):0≤chg fl how ot∧chg fl how ot≤31:=by
  unfold chg
  simp only [Zit,show Zbt 0=1 from rfl,show Zbt 1=2 from rfl,show Zbt 2=4 from rfl,show Zbt 3=8 from rfl,show Zbt 4=16 from rfl]
  split <;> split <;> split <;> split <;> split <;> omega
def Zpt (n:Nat) (b x:Int):Bool:=(decide (1≤x) && decide (x≤n)) && decide (b<x)
def ZdG (n:Nat) (xs:List Int):Bool × Int:=scn (Zpt n) (fun _ x=>x) 0 xs
def ZdY (n:Nat) (xs:List Int):Bool:=(ZdG n xs).1
def Zgv (ms:List DMail) (how fl:Int) (acc:List DMail) (n:Int):List DMail:=
  match acc[(n - 1).toNat]?,ms[(n - 1).toNat]? with
  | some a,some m=>acc.set (n - 1).toNat ⟨a.uid,chg m.flags how fl,a.text⟩
  | _,_=>acc
def ZdQ (ms:List DMail) (how fl:Int) (ns:List Int):List DMail:=ns.foldl (Zgv ms how fl) ms
def ZjY (how:Int):Bool:=decide (-1≤how) && decide (how≤1)
def Zbf (b:DBox) (ns:List Int) (how fl:Int):DBox × Bool:=
  if Zbh b=true∧ZdY b.mail.length ns=true∧ZjY how=true∧ZaQ fl=true then (⟨b.next,ZdQ b.mail how fl ns⟩,true) else (⟨0,[]⟩,false)
def ZoK (m:DMail):Bool:=decide (Int.tmod (Int.tdiv m.flags 8) 2=1)
def Zcv (ms:List DMail):List DMail:=ms.filter fun m=>!ZoK m
def Zc7 (s:Nat × List Int) (m:DMail):Nat × List Int:=if ZoK m=true then (s.1,s.2 ++ [((s.1+1:Nat):Int)]) else (s.1+1,s.2)
def Zj1 (ms:List DMail):Nat × List Int:=ms.foldl Zc7 (0,[])
def expunge (b:DBox):DBox × List Int:=if Zbh b=true then (⟨b.next,Zcv b.mail⟩,(Zj1 b.mail).2) else (⟨0,[]⟩,[])
def atF (x:DHost) (s:DSess) (r:Int):Int × Int:=
  if Zf9 x.users x.folders s.user (ZaD (inF s.owner s.name) x.folders) 2≠0 then (ZaD (inF s.owner s.name) x.folders,Zf9 x.users x.folders s.user (ZaD (inF s.owner s.name) x.folders) 2)
  else (ZaD (inF s.owner s.name) x.folders,Zf9 x.users x.folders s.user (ZaD (inF s.owner s.name) x.folders) r)
def Zg3 (x:DHost) (k:Nat):DBox:=match x.folders[k]? with | some f=>f.box | none=>⟨0,[]⟩
def Zi6 (x:DHost) (k:Nat) (b:DBox):DHost:=match x.folders[k]? with | some f=>x.withFolders (x.folders.set k (f.withBox b)) | none=>x
def Zb7 (x:DHost) (s:DSess) (set:List DSpan) (how fl:Int):DHost × Int:=
  if ¬ (ZA x=true∧ZhE set=true∧ZaQ fl=true∧ZjY how=true) then (Za4,5)
  else if (atF x s 4).2≠0 then (x,(atF x s 4).2)
  else (Zi6 x (atF x s 4).1.toNat (Zbf (Zg3 x (atF x s 4).1.toNat) (ZaC set (Zg3 x (atF x s 4).1.toNat).mail.length) how fl).1,0)
def ZaM (x:DHost) (s:DSess):DHost × List Int × Int:=
  if ZA x=false then (Za4,[],5)
  else if (atF x s 16).2≠0 then (x,[],(atF x s 16).2)
  else (Zi6 x (atF x s 16).1.toNat (expunge (Zg3 x (atF x s 16).1.toNat)).1,(expunge (Zg3 x (atF x s 16).1.toNat)).2,0)
def ZbH (to:Nat) (s:DHost × Int) (m:DMail):DHost × Int:=if s.2=0 then ZbI s.1 to m.flags m.text else s
def Zir (x:DHost) (ms:List DMail) (to:Nat):DHost × Int:=ms.foldl (ZbH to) (x,0)
def Zc0 (ms:List DMail) (n:Int):DMail:=match ms[(n - 1).toNat]? with | some m=>m | none=>⟨0,0,[]⟩
def Zeh (x:DHost) (s:DSess) (set:List DSpan) (o n:Str):DHost × Int:=
  if ¬ (ZA x=true∧ZhE set=true) then (Za4,5)
  else if (atF x s 2).2≠0 then (x,(atF x s 2).2)
  else if Zf9 x.users x.folders s.user (ZaD (inF o n) x.folders) 8≠0 then (x,Zf9 x.users x.folders s.user (ZaD (inF o n) x.folders) 8)
  else
    let ms:=(ZaC set (Zg3 x (atF x s 2).1.toNat).mail.length).map (Zc0 (Zg3 x (atF x s 2).1.toNat).mail)
    if (Zir x ms (ZaD (inF o n) x.folders).toNat).2=0 then Zir x ms (ZaD (inF o n) x.folders).toNat else (x,(Zir x ms (ZaD (inF o n) x.folders).toNat).2)
structure DEvent where
  kind:Int
  by_:Str
  owner:Str
  name:Str
  to_:Str
  text:Str
  a:Int
  b:Int
deriving DecidableEq
def Zhi (x:DHost) (e:DEvent):DHost × Int:=
  if e.kind=1 then Zbg x e.by_ e.name
  else if e.kind=2 then Zb0 x e.by_ e.owner e.name e.to_ e.a
  else if e.kind=3 then Zj0 x e.by_ e.owner e.name e.a e.text
  else if e.kind=4 then Zbp x ⟨e.by_,[e.to_],e.text⟩
  else if e.kind=5 then ZaP x e.a e.to_
  else if e.kind=6 then Zb7 x ⟨e.by_,e.owner,e.name⟩ [⟨e.a,e.a⟩] 1 e.b
  else if e.kind=7 then ((ZaM x ⟨e.by_,e.owner,e.name⟩).1,(ZaM x ⟨e.by_,e.owner,e.name⟩).2.2)
  else if e.kind=8 then Zeh x ⟨e.by_,e.owner,e.name⟩ [⟨e.a,e.a⟩] e.to_ inbox
  else (Za4,5)
def hDo (x:DHost) (e:DEvent):DHost × Int:=if ZA x=false then (Za4,5) else if (Zhi x e).2=5 then (x,5) else Zhi x e
end Go.BL
namespace Go.BL
open Go
set_option linter.unusedVariables false
set_option linter.unusedSimpArgs false
theorem ZaO {x:DHost} : ZA x=true↔(Zcb x.domain=true∧Zaq x.users=true∧Zab x.queue=true)∧((∀f,f∈x.folders→Z1 x.users f=true)∧Zgd x.folders=true∧x.folders.length≤8)∧(∀u,u∈x.users→ZaN x.folders u=true)∧(∀y,y∈x.queue.items→ZaG x.users y=true):=by
  simp only [ZA,Zdn,Bool.and_eq_true,decide_eq_true_eq,List.all_eq_true]
  constructor
  · rintro ⟨⟨⟨⟨⟨h1,h2⟩,h3⟩,⟨h4,h5⟩,h6⟩,h7⟩,h8⟩
    exact ⟨⟨h1,h2,h3⟩,⟨h4,h5,h6⟩,h7,h8⟩
  · rintro ⟨⟨h1,h2,h3⟩,⟨h4,h5,h6⟩,h7,h8⟩
    exact ⟨⟨⟨⟨⟨h1,h2⟩,h3⟩,⟨h4,h5⟩,h6⟩,h7⟩,h8⟩
theorem Zib {α:Type} {fs:List α} {k i:Nat} {y g:α} (h:(fs.set k y)[i]? = some g):(i=k∧g=y∧k<fs.length)∨(i≠k∧fs[i]? = some g):=by
  have hi:=(List.getElem?_eq_some_iff.1 h).1
  rw [List.length_set] at hi
  rw [List.getElem?_set] at h
  split at h
  · rename_i e
    subst e
    simp [hi] at h
    exact .inl ⟨rfl,h.symm,hi⟩
  · rename_i e
    exact .inr ⟨fun e'=>e e'.symm,h⟩
theorem Zky :∀{fs:List DFolder} {k:Nat} {f:DFolder} (f':DFolder) (u:Str),fs[k]? = some f→Zbb (fs.set k f') u+(if f.owner=u then Zah f.mail else 0)=Zbb fs u+(if f'.owner=u then Zah f'.mail else 0)
  | [],_,_,_,_,h=>by simp at h
  | g :: fs,0,f,f',u,h=>by
    simp only [List.getElem?_cons_zero,Option.some.injEq] at h
    subst h
    simp only [List.set_cons_zero,Zbb,List.map_cons,List.sum_cons]
    omega
  | g :: fs,k+1,f,f',u,h=>by
    have:=Zky (fs:=fs) (k:=k) f' u (by simpa using h)
    simp only [Zbb] at this
    simp only [List.set_cons_succ,Zbb,List.map_cons,List.sum_cons]
    omega
theorem ZkW {a b a' b':DFolder} (h1:a.owner=a'.owner) (h2:a.name=a'.name) (h3:b.owner=b'.owner) (h4:b.name=b'.name):ZbU a b=ZbU a' b':=by simp only [ZbU,h1,h2,h3,h4]
theorem Zrl {fs:List DFolder} {k:Nat} {f f':DFolder} (h:Zgd fs=true) (hf:fs[k]? = some f) (ho:f'.owner=f.owner) (hn:f'.name=f.name):Zgd (fs.set k f')=true:=by
  rw [Zha] at h ⊢
  intro i a b ha hb
  rcases Zib ha with ⟨e1,e2,_⟩ | ⟨hi,ha'⟩
  · rcases Zib hb with ⟨e,_,_⟩ | ⟨_,hb'⟩
    · omega
    · rw [e2,ZkW ho hn rfl rfl];exact h i _ _ (by rw [e1];exact hf) hb'
  · rcases Zib hb with ⟨e,e2,_⟩ | ⟨_,hb'⟩
    · rw [e2,ZkW rfl rfl ho hn];exact h i _ _ ha' (by rw [e];exact hf)
    · exact h _ _ _ ha' hb'
theorem Ztu {fs:List DFolder} {k:Nat} {f f':DFolder} {o n:Str} (hf:fs[k]? = some f) (ho:f'.owner=f.owner) (hn:f'.name=f.name) (h:0≤ZaD (inF o n) fs):0≤ZaD (inF o n) (fs.set k f'):=by
  rw [ZdH] at h ⊢
  obtain ⟨y,hy,hp⟩:=h
  obtain ⟨i,hi⟩:=List.mem_iff_getElem?.1 hy
  by_cases e:i=k
  · subst e
    rw [hf] at hi;cases hi
    refine ⟨f',List.mem_iff_getElem?.2 ⟨i,?_⟩,by simp only [inF,ho,hn] at hp ⊢;exact hp⟩
    have:=(List.getElem?_eq_some_iff.1 hf).1
    simp [List.getElem?_set,this]
  · exact ⟨y,List.mem_iff_getElem?.2 ⟨i,by rw [List.getElem?_set,if_neg (fun e'=>e e'.symm)];exact hi⟩,hp⟩
theorem ZnR {us:List DUser} (h:Zaq us=true) {w:DUser} (hw:w∈us):ZdO us w.name=w.quota:=by
  have h0:0≤Zdw us w.name:=Zcc.2 ⟨w,hw,rfl⟩
  have h1:=ZpQ us w.name
  obtain ⟨v,hv⟩ :∃v,us[(Zdw us w.name).toNat]? = some v:=⟨_,List.getElem?_eq_getElem (by omega)⟩
  have h2:=ZrW h0 hv
  rw [ZfD,ZfC (ZdL h) w hw] at h2
  cases h2
  simp only [ZdO,hv]
theorem Zrk {us:List DUser} {f:DFolder} (h:Z1 us f=true) :∃w,w∈us∧w.name=f.owner:=by
  simp only [Z1,Bool.and_eq_true,decide_eq_true_eq] at h
  exact Zcc.1 h.1.1.1
theorem Zgr {x:DHost} {k:Nat} {f f':DFolder} (h:ZA x=true) (hf:x.folders[k]? = some f) (ho:f'.owner=f.owner) (hn:f'.name=f.name) (hi:Z1 x.users f'=true)
    (hq:(Zbb x.folders f.owner:Int)+Zah f'.mail≤ZdO x.users f.owner+Zah f.mail∨Zah f'.mail≤Zah f.mail):ZA (x.withFolders (x.folders.set k f'))=true:=by
  rw [ZaO] at h ⊢
  obtain ⟨⟨h1,h2,h3⟩,⟨h4,h5,h6⟩,h7,h8⟩:=h
  refine ⟨⟨h1,h2,h3⟩,⟨?_,Zrl h5 hf ho hn,by simpa [DHost.withFolders] using h6⟩,?_,h8⟩
  · intro g hg
    obtain ⟨i,hg⟩:=List.mem_iff_getElem?.1 hg
    rcases Zib hg with ⟨_,rfl,_⟩ | ⟨_,hg⟩
    · exact hi
    · exact h4 g (List.mem_of_getElem? hg)
  · intro w hw
    have:=h7 w hw
    simp only [ZaN,Bool.and_eq_true,decide_eq_true_eq] at this ⊢
    refine ⟨Ztu hf ho hn this.1,?_⟩
    have hu:=Zky f' w.name hf
    simp only [DHost.withFolders]
    by_cases e:f.owner=w.name
    · rw [if_pos e,if_pos (ho.trans e)] at hu
      rw [e,ZnR h2 hw] at hq
      omega
    · rw [if_neg e,if_neg (fun e'=>e (ho ▸ e'))] at hu
      omega
theorem Zm5 :∀{fs:List DFolder} {f:DFolder},Zgd fs=true→(∀g,g∈fs→¬ (g.owner=f.owner∧g.name=f.name))→Zgd (Zg2 fs f)=true
  | [],f,_,_=>rfl
  | a :: r,f,h,hk=>by
    cases hl:ZbU a f with
    | true=>
      have e:Zg2 (a :: r) f=a :: Zg2 r f:=by simp [Zg2,Zgq,hl]
      have ih:=Zm5 (fs:=r) (f:=f) (by cases r with | nil=>rfl | cons b r=>simp only [Zgd,Bool.and_eq_true] at h;exact h.2) (fun g hg=>hk g (List.mem_cons_of_mem _ hg))
      rw [e]
      cases r with
      | nil=>simp [Zg2,Zgq,Zgd,hl]
      | cons b r=>
        simp only [Zgd,Bool.and_eq_true] at h
        cases hb:ZbU b f with
        | true=>
          have e2:Zg2 (b :: r) f=b :: Zg2 r f:=by simp [Zg2,Zgq,hb]
          rw [e2] at ih ⊢
          simp only [Zgd,h.1,Bool.true_and];exact ih
        | false=>
          have e2:Zg2 (b :: r) f=f :: b :: r:=by simp [Zg2,Zgq,hb]
          rw [e2] at ih ⊢
          simp only [Zgd,hl,Bool.true_and] at ih ⊢;exact ih
    | false=>
      have e:Zg2 (a :: r) f=f :: a :: r:=by simp [Zg2,Zgq,hl]
      rw [e]
      have hne:=hk a (List.mem_cons_self ..)
      have:ZbU f a=true:=by
        unfold ZbU at hl ⊢
        rw [Zbo f.owner a.owner,Zbo f.name a.name]
        simp only [Bool.or_eq_false_iff,Bool.and_eq_false_iff,decide_eq_false_iff_not] at hl
        by_cases e:a.owner=f.owner
        · have e2:a.name≠f.name:=fun e2=>hne ⟨e,e2⟩
          rcases hl.2 with h2 | h2
          · exact absurd e h2
          · simp [e,ZcL,h2,e2]
        · simp [hl.1,e]
      simp only [Zgd,this,Bool.true_and];exact h
theorem ZpE {fs:List DFolder} {f g:DFolder} : g∈Zg2 fs f↔g∈fs∨g=f:=by
  have e:fs=fs.take (Zgq fs f) ++ fs.drop (Zgq fs f):=(List.take_append_drop _ _).symm
  constructor
  · intro h
    simp only [Zg2,List.mem_append,List.mem_singleton] at h
    rcases h with (h | h) | h
    · exact .inl (List.mem_of_mem_take h)
    · exact .inr h
    · exact .inl (List.mem_of_mem_drop h)
  · intro h
    simp only [Zg2,List.mem_append,List.mem_singleton]
    rcases h with h | h
    · rw [e,List.mem_append] at h
      rcases h with h | h
      · exact .inl (.inl h)
      · exact .inr h
    · exact .inl (.inr h)
theorem Zhx (as bs:List DFolder) (u:Str):Zbb (as ++ bs) u=Zbb as u+Zbb bs u:=by simp [Zbb]
theorem Zo3 (fs:List DFolder) (f:DFolder) (u:Str):Zbb (Zg2 fs f) u=Zbb fs u+(if f.owner=u then Zah f.mail else 0):=by
  have e:Zbb fs u=Zbb (fs.take (Zgq fs f)) u+Zbb (fs.drop (Zgq fs f)) u:=by rw [← Zhx,List.take_append_drop]
  rw [Zg2,Zhx,Zhx,e]
  simp only [Zbb,List.map_cons,List.map_nil,List.sum_cons,List.sum_nil];omega
theorem Zts (fs:List DFolder) (f:DFolder):(Zg2 fs f).length=fs.length+1:=by
  have:=congrArg List.length (List.take_append_drop (Zgq fs f) fs)
  simp only [List.length_append] at this
  simp only [Zg2,List.length_append,List.length_cons,List.length_nil];omega
theorem ZjZ {x:DHost} {u n:Str} (h:ZA x=true) (hn:Zaj n=true) (hu : ¬ Zdw x.users u<0) (hk : ¬ (0≤ZaD (inF u n) x.folders∨8≤x.folders.length)):ZA (x.withFolders (Zg2 x.folders (ZeE u n)))=true:=by
  rw [ZaO] at h ⊢
  obtain ⟨⟨h1,h2,h3⟩,⟨h4,h5,h6⟩,h7,h8⟩:=h
  refine ⟨⟨h1,h2,h3⟩,⟨?_,Zm5 h5 ?_,by show (Zg2 x.folders _).length≤8;rw [Zts];omega⟩,?_,h8⟩
  · intro g hg
    rcases ZpE.1 hg with hg | rfl
    · exact h4 g hg
    · have e2:ZbK []=true:=by decide
      have e3:Zbh ⟨1,[]⟩=true:=by decide
      simp only [Z1,ZeE,DFolder.box,e2,e3,hn,Bool.and_true]
      exact decide_eq_true (by simp only [DHost.withFolders];omega)
  · rintro g hg ⟨e1,e2⟩
    exact hk (.inl (ZdH.2 ⟨g,hg,by simp [inF,e1,e2,ZeE]⟩))
  · intro w hw
    have:=h7 w hw
    simp only [ZaN,Bool.and_eq_true,decide_eq_true_eq] at this ⊢
    have e:Zbb (Zg2 x.folders (ZeE u n)) w.name=Zbb x.folders w.name:=by
      rw [Zo3];simp [ZeE,Zah]
    obtain ⟨g,hg,hp⟩:=ZdH.1 this.1
    refine ⟨ZdH.2 ⟨g,ZpE.2 (.inl hg),hp⟩,?_⟩
    show ((Zbb (Zg2 x.folders (ZeE u n)) w.name:Nat):Int)≤w.quota
    rw [e];exact this.2
theorem Zop {x:DHost} {u n:Str} (h:ZA x=true):(Zbg x u n).2=5∨ZA (Zbg x u n).1=true:=by
  unfold Zbg
  split
  · exact .inl rfl
  · rename_i h1
    split
    · exact .inr h
    · rename_i h2
      split
      · exact .inr h
      · rename_i h3
        exact .inr (ZjZ h (by simp only [h,true_and,Decidable.not_not] at h1;exact h1) h2 h3)
theorem ZkU {ms:List DMail} {b:Int} {m:DMail} (h:Zca ms=(true,b)) (hm:ZbJ b m=true):Zca (ms ++ [m])=(true,m.uid):=by
  rw [Zca,scn,List.foldl_append]
  have:ms.foldl (fun (s:Bool × Int) x=>(s.1 && ZbJ s.2 x,x.uid)) (true,0)=(true,b):=h
  rw [this];simp [hm]
theorem Ze4 {b:DBox} (h:Zbh b=true) :∃l,Zca b.mail=(true,l)∧l+1≤b.next∧b.next≤100∧b.mail.length≤10:=by
  simp only [Zbh,Bool.and_eq_true,decide_eq_true_eq] at h
  exact ⟨(Zca b.mail).2,Prod.ext h.1.1 rfl,h.1.2.1,h.1.2.2,h.2⟩
theorem ZjH :∀(xs:List DMail) (b0 b:Int),xs.foldl (fun (s:Bool × Int) x=>(s.1 && ZbJ s.2 x,x.uid)) (true,b0)=(true,b)→b0≤b
  | [],b0,b,h=>by cases h;omega
  | x :: xs,b0,b,h=>by
    simp only [List.foldl_cons,Bool.true_and] at h
    cases hp:ZbJ b0 x with
    | false=>
      rw [hp] at h
      have:=Zb5 (p:=ZbJ) (nx:=fun _ m=>m.uid) xs x.uid
      rw [h] at this;cases this
    | true=>
      rw [hp] at h
      have:=ZjH xs x.uid b h
      simp only [ZbJ,Bool.and_eq_true,decide_eq_true_eq] at hp
      omega
theorem ZoD {b:DBox} {fl:Int} {t:Str} (h:Zbh b=true) (hf:ZaQ fl=true) (ht:t.length≤20) (h2:(ZgA b fl t).2=true):Zbh (ZgA b fl t).1=true∧Zah (ZgA b fl t).1.mail=Zah b.mail+t.length:=by
  obtain ⟨l,hs,hl,hn,hk⟩:=Ze4 h
  have h0:=ZjH b.mail 0 l hs
  unfold ZgA at h2 ⊢
  split at h2
  · cases h2
  · rename_i hc
    rw [if_neg hc]
    simp only [ZaQ,Bool.and_eq_true,decide_eq_true_eq] at hf
    have hm:ZbJ l ⟨b.next,fl,t⟩=true:=by
      simp only [ZbJ,Zbw,Bool.and_eq_true,decide_eq_true_eq];omega
    refine ⟨?_,by simp [Zah]⟩
    rw [Zdr (ZkU hs hm)]
    simp only [Bool.and_eq_true,decide_eq_true_eq,List.length_append,List.length_cons,List.length_nil]
    omega
theorem ZgV {us:List DUser} {f:DFolder} {b:DBox} (h:Z1 us f=true) (hb:Zbh b=true):Z1 us (f.withBox b)=true:=by
  simp only [Z1,Bool.and_eq_true,decide_eq_true_eq] at h ⊢
  exact ⟨⟨⟨h.1.1.1,h.1.1.2⟩,h.1.2⟩,hb⟩
theorem Zbq {x:DHost} {k:Nat} {f:DFolder} (h:ZA x=true) (hf:x.folders[k]? = some f):Z1 x.users f=true:=(ZaO.1 h).2.1.1 f (List.mem_of_getElem? hf)
theorem ZbY {us:List DUser} {f:DFolder} (h:Z1 us f=true):Zbh f.box=true:=by simp only [Z1,Bool.and_eq_true] at h;exact h.2
theorem Zg8 {x:DHost} {k:Nat} {fl:Int} {t:Str} (h:ZA x=true) (hf:ZaQ fl=true) (ht:t.length≤20):ZA (ZbI x k fl t).1=true:=by
  unfold ZbI
  split
  · exact h
  · rename_i f hk
    split
    · exact h
    · rename_i hq
      split
      · rename_i h2
        obtain ⟨h3,h4⟩:=ZoD (ZbY (Zbq h hk)) hf ht h2
        refine Zgr h hk rfl rfl (ZgV (Zbq h hk) h3) (.inl ?_)
        show (Zbb x.folders f.owner:Int)+Zah (ZgA f.box fl t).1.mail≤ZdO x.users f.owner+Zah f.mail
        rw [h4,show f.box.mail=f.mail from rfl];omega
      · exact h
theorem ZS {x:DHost} {k:Nat} {fl:Int} {t:Str} : (ZbI x k fl t).1.users=x.users∧(ZbI x k fl t).1.queue=x.queue∧(ZbI x k fl t).1.domain=x.domain∧(ZbI x k fl t).1.folders.length=x.folders.length:=by
  unfold ZbI
  split
  · exact ⟨rfl,rfl,rfl,rfl⟩
  · split
    · exact ⟨rfl,rfl,rfl,rfl⟩
    · split
      · exact ⟨rfl,rfl,rfl,by simp [DHost.withFolders]⟩
      · exact ⟨rfl,rfl,rfl,rfl⟩
theorem Zty {x:DHost} {b o n:Str} {fl:Int} {t:Str} (h:ZA x=true):(Zj0 x b o n fl t).2=5∨ZA (Zj0 x b o n fl t).1=true:=by
  unfold Zj0
  split
  · exact .inl rfl
  · rename_i h1
    simp only [h,true_and,Decidable.not_not] at h1
    split
    · exact .inr h
    · exact .inr (Zg8 h h1.1 h1.2)
theorem ZqL {gs:List DGrant} {u:Str} {r:Int} (h:(Zb1 gs u r).2=true):ZbK (Zb1 gs u r).1=true:=by
  unfold Zb1 at h ⊢
  split
  · rename_i h1;rw [if_pos h1] at h;cases h
  · rename_i h1
    rw [if_neg h1] at h
    split
    · assumption
    · rename_i h2;rw [if_neg h2] at h;cases h
theorem Zp1 {x:DHost} {b o n u:Str} {r:Int} (h:ZA x=true):(Zb0 x b o n u r).2=5∨ZA (Zb0 x b o n u r).1=true:=by
  unfold Zb0
  split
  · exact .inl rfl
  · split
    · exact .inr h
    · split
      · exact .inr h
      · right
        unfold ZeL
        split
        · exact h
        · rename_i f hk
          split
          · rename_i h2
            refine Zgr h hk rfl rfl ?_ (.inr (Nat.le_refl _))
            have:=Zbq h hk
            simp only [Z1,Bool.and_eq_true,decide_eq_true_eq] at this ⊢
            exact ⟨⟨⟨this.1.1.1,this.1.1.2⟩,ZqL h2⟩,this.2⟩
          · exact h
theorem ZgS {x:DHost} {q:DQueue} (h:ZA x=true) (hq:Zab q=true) (hi :∀y,y∈q.items→ZaG x.users y=true):ZA (x.withQueue q)=true:=by
  rw [ZaO] at h ⊢
  exact ⟨⟨h.1.1,h.1.2.1,hq⟩,h.2.1,h.2.2.1,hi⟩
theorem Zhg {x:DHost} (h:ZA x=true):Zab x.queue=true:=(ZaO.1 h).1.2.2
theorem Zoo {x:DHost} {l:DLetter} (h:ZA x=true):(Zbp x l).2=5∨ZA (Zbp x l).1=true:=by
  unfold Zbp
  split
  · exact .inl rfl
  · split
    · exact .inr h
    · rename_i h2
      split
      · rename_i h3
        refine .inr (ZgS h (ZoC h3) fun y hy=>?_)
        rw [(Zlw h3).1] at hy
        simp only [List.mem_append,List.mem_singleton] at hy
        rcases hy with hy | rfl
        · exact (ZaO.1 h).2.2.2 y hy
        · simp only [not_or,Bool.not_eq_false] at h2
          simp only [ZaG,h2.2,Bool.and_true]
          exact decide_eq_true (by omega)
      · exact .inr h
theorem ZnD {id:Int} {u:Str} {xs:List DItem} {y:DItem} (h:y∈Zeq id u xs) :∃z,z∈xs∧y.fr=z.fr∧(∀n,n∈y.left→n∈z.left):=by
  simp only [Zeq,List.mem_filter,List.mem_map] at h
  obtain ⟨⟨z,hz,rfl⟩,_⟩:=h
  refine ⟨z,hz,?_,?_⟩
  · unfold ZbE;split <;> rfl
  · intro n hn
    unfold ZbE at hn
    split at hn
    · exact (List.mem_filter.1 hn).1
    · exact hn
theorem Zi2 :∀(xs:List DItem) {id:Int} {u:Str} (s:Str × Bool),(xs.foldl (ZbS id u) s).2=true→s.2=true∨∃y,y∈xs∧u∈y.left
  | [],_,_,s,h=>.inl h
  | x :: xs,id,u,s,h=>by
    rcases Zi2 xs (ZbS id u s x) h with h | ⟨y,hy,hu⟩
    · unfold ZbS at h
      split at h
      · rename_i hc;exact .inr ⟨x,List.mem_cons_self ..,hc.2⟩
      · exact .inl h
    · exact .inr ⟨y,List.mem_cons_of_mem _ hy,hu⟩
theorem Zou {x:DHost} {id:Int} {u:Str} (h:ZA x=true) (hf:(Zb4 x.queue id u).2.2=true):0≤ZaD (inF u inbox) x.folders:=by
  obtain ⟨_,_,h7,h8⟩:=ZaO.1 h
  rcases Zi2 x.queue.items (id:=id) (u:=u) ([],false) hf with h0 | ⟨y,hy,hu⟩
  · cases h0
  · have:=h8 y hy
    simp only [ZaG,Zf3,Bool.and_eq_true,List.all_eq_true,decide_eq_true_eq] at this
    obtain ⟨w,hw,rfl⟩:=Zcc.1 (this.2 u hu)
    have:=h7 w hw
    simp only [ZaN,Bool.and_eq_true,decide_eq_true_eq] at this
    exact this.1
theorem ZmT :∀(xs:List DItem) {id:Int} {u:Str} (s:Str × Bool),s.1.length≤20→(∀y,y∈xs→Zcw y=true)→(xs.foldl (ZbS id u) s).1.length≤20
  | [],_,_,s,h,_=>h
  | x :: xs,id,u,s,h,ha=>by
    refine ZmT xs (ZbS id u s x) ?_ fun y hy=>ha y (List.mem_cons_of_mem _ hy)
    unfold ZbS
    split
    · have:=ha x (List.mem_cons_self ..)
      simp only [Zcw,ZaL,Bool.and_eq_true,decide_eq_true_eq] at this
      exact this.2
    · exact h
theorem Zg0 {x:DHost} {id:Int} {u:Str} (h:ZA x=true):(Zb4 x.queue id u).2.1.length≤20:=
  ZmT x.queue.items ([],false) (by simp) fun y hy=>ZdF (Zhg h) hy
theorem Zms {x:DHost} {id:Int} {u:Str} (h:ZA x=true):(ZaP x id u).2=5∨ZA (ZaP x id u).1=true:=by
  right
  unfold ZaP
  rw [if_neg (show ¬ ZA x=false by simp [h])]
  split
  · exact h
  · rename_i hf
    have hp:ZA (ZbI x (ZaD (inF u inbox) x.folders).toNat 0 (Zb4 x.queue id u).2.1).1=true:=Zg8 h (by decide) (Zg0 h)
    split
    · have e:=ZS (x:=x) (k:=(ZaD (inF u inbox) x.folders).toNat) (fl:=0) (t:=(Zb4 x.queue id u).2.1)
      have hq:ZcX x.queue id u=Zb4 x.queue id u:=by rw [ZcX,if_pos (Zhg h)]
      refine ZgS hp ?_ fun y hy=>?_
      · rw [← hq];exact ZnC (by rw [hq];simpa using hf)
      · obtain ⟨z,hz,e1,e2⟩:=ZnD (show y∈Zeq id u x.queue.items from hy)
        have:=(ZaO.1 h).2.2.2 z hz
        simp only [ZaG,Zf3,Bool.and_eq_true,List.all_eq_true,e.1,e1] at this ⊢
        exact ⟨this.1,fun n hn=>this.2 n (e2 n hn)⟩
    · exact hp
theorem ZkH {x:DHost} {k:Nat} {b:DBox} (h:ZA x=true) (hb :∀f,x.folders[k]? = some f→Zbh b=true∧Zah b.mail≤Zah f.mail):ZA (Zi6 x k b)=true:=by
  unfold Zi6
  split
  · rename_i f hf
    exact Zgr h hf rfl rfl (ZgV (Zbq h hf) (hb f hf).1) (.inr (hb f hf).2)
  · exact h
def Like (ms ms':List DMail):Prop:=ms'.length=ms.length∧∀(i:Nat) (a b:DMail),ms[i]? = some a→ms'[i]? = some b→b.uid=a.uid∧b.text=a.text∧(b.flags=a.flags∨(0≤b.flags∧b.flags≤31))
theorem Like.refl (ms:List DMail):Like ms ms:=⟨rfl,fun i a b h1 h2=>by rw [h1] at h2;cases h2;exact ⟨rfl,rfl,.inl rfl⟩⟩
theorem Like.set {ms acc:List DMail} {k:Nat} {a:DMail} {fl:Int} (h:Like ms acc) (ha:acc[k]? = some a) (hf:0≤fl∧fl≤31):Like ms (acc.set k ⟨a.uid,fl,a.text⟩):=by
  refine ⟨by rw [List.length_set];exact h.1,fun i c d hc hd=>?_⟩
  rcases Zib hd with ⟨rfl,rfl,_⟩ | ⟨_,hd⟩
  · have:=h.2 _ _ _ hc ha
    exact ⟨this.1,this.2.1,.inr hf⟩
  · exact h.2 _ _ _ hc hd
theorem Zlh {ms acc:List DMail} {how fl n:Int} (h:Like ms acc):Like ms (Zgv ms how fl acc n):=by
  unfold Zgv
  split
  · rename_i a m ha hm;exact h.set ha (ZsL _ _ _)
  · exact h
theorem ZgY {ms:List DMail} {how fl:Int} :∀(ns:List Int) {acc:List DMail},Like ms acc→Like ms (ns.foldl (Zgv ms how fl) acc)
  | [],_,h=>h
  | n :: ns,_,h=>ZgY ns (Zlh h)
theorem ZkV :∀{ms ms':List DMail} (b0 b:Int),Like ms ms'→ms.foldl (fun (s:Bool × Int) x=>(s.1 && ZbJ s.2 x,x.uid)) (true,b0)=(true,b)→ms'.foldl (fun (s:Bool × Int) x=>(s.1 && ZbJ s.2 x,x.uid)) (true,b0)=(true,b)∧Zah ms'=Zah ms
  | [],ms',b0,b,h,hs=>by
    have:ms'=[]:=List.length_eq_zero_iff.1 h.1
    subst this;exact ⟨hs,rfl⟩
  | x :: ms,[],b0,b,h,hs=>by cases h.1
  | x :: ms,y :: ms',b0,b,h,hs=>by
    obtain ⟨h1,h2⟩:=h
    obtain ⟨e1,e2,e3⟩:=h2 0 x y rfl rfl
    simp only [List.foldl_cons,Bool.true_and] at hs ⊢
    cases hp:ZbJ b0 x with
    | false=>
      rw [hp] at hs
      have:=Zb5 (p:=ZbJ) (nx:=fun _ m=>m.uid) ms x.uid
      rw [hs] at this;cases this
    | true=>
      rw [hp] at hs
      have hq:ZbJ b0 y=true:=by
        simp only [ZbJ,Zbw,Bool.and_eq_true,decide_eq_true_eq] at hp ⊢
        rw [e1,e2]
        rcases e3 with e3 | e3
        · rw [e3];exact hp
        · omega
      rw [hq,e1]
      obtain ⟨h3,h4⟩:=ZkV (ms:=ms) (ms':=ms') x.uid b ⟨by simpa using h1,fun i a c ha hc=>h2 (i+1) a c (by simpa using ha) (by simpa using hc)⟩ hs
      refine ⟨h3,?_⟩
      simp only [Zah,List.map_cons,List.sum_cons,e2] at h4 ⊢
      omega
theorem Zrv {b:DBox} {ms:List DMail} (h:Zbh b=true) (hl:Like b.mail ms):Zbh ⟨b.next,ms⟩=true∧Zah ms=Zah b.mail:=by
  obtain ⟨l,hs,h1,h2,h3⟩:=Ze4 h
  obtain ⟨h4,h5⟩:=ZkV 0 l hl hs
  refine ⟨?_,h5⟩
  rw [Zdr (b:=⟨b.next,ms⟩) h4]
  simp only [Bool.and_eq_true,decide_eq_true_eq,hl.1];omega
theorem ZhW :∀(ms:List DMail) (b0 b1 b:Int),b1≤b0→ms.foldl (fun (s:Bool × Int) x=>(s.1 && ZbJ s.2 x,x.uid)) (true,b0)=(true,b)→∃c,c≤b∧(Zcv ms).foldl (fun (s:Bool × Int) x=>(s.1 && ZbJ s.2 x,x.uid)) (true,b1)=(true,c)∧Zah (Zcv ms)≤Zah ms
  | [],b0,b1,b,hb,h=>by cases h;exact ⟨b1,hb,rfl,Nat.le_refl _⟩
  | x :: ms,b0,b1,b,hb,h=>by
    simp only [List.foldl_cons,Bool.true_and] at h
    cases hp:ZbJ b0 x with
    | false=>
      rw [hp] at h
      have:=Zb5 (p:=ZbJ) (nx:=fun _ m=>m.uid) ms x.uid
      rw [h] at this;cases this
    | true=>
      rw [hp] at h
      have hx:b0<x.uid:=by simp only [ZbJ,Bool.and_eq_true,decide_eq_true_eq] at hp;exact hp.2
      cases hd:ZoK x with
      | true=>
        obtain ⟨c,h1,h2,h3⟩:=ZhW ms x.uid b1 b (by omega) h
        have e:Zcv (x :: ms)=Zcv ms:=by simp [Zcv,hd]
        rw [e]
        refine ⟨c,h1,h2,?_⟩
        simp only [Zah,List.map_cons,List.sum_cons] at h3 ⊢;omega
      | false=>
        obtain ⟨c,h1,h2,h3⟩:=ZhW ms x.uid x.uid b (by omega) h
        have e:Zcv (x :: ms)=x :: Zcv ms:=by simp [Zcv,hd]
        rw [e]
        have hq:ZbJ b1 x=true:=by
          simp only [ZbJ,Bool.and_eq_true,decide_eq_true_eq] at hp ⊢
          exact ⟨hp.1,by omega⟩
        refine ⟨c,h1,?_,?_⟩
        · simp only [List.foldl_cons,Bool.true_and,hq];exact h2
        · simp only [Zah,List.map_cons,List.sum_cons] at h3 ⊢;omega
theorem ZrE {b:DBox} (h:Zbh b=true):Zbh ⟨b.next,Zcv b.mail⟩=true∧Zah (Zcv b.mail)≤Zah b.mail:=by
  obtain ⟨l,hs,h1,h2,h3⟩:=Ze4 h
  obtain ⟨c,h4,h5,h6⟩:=ZhW b.mail 0 0 l (by omega) hs
  refine ⟨?_,h6⟩
  have:(Zcv b.mail).length≤b.mail.length:=List.length_filter_le _ _
  rw [Zdr (b:=⟨b.next,Zcv b.mail⟩) h5]
  simp only [Bool.and_eq_true,decide_eq_true_eq];omega
theorem Zdf {x:DHost} {k:Nat} {f:DFolder} (h:x.folders[k]? = some f):Zg3 x k=f.box:=by simp only [Zg3,h]
theorem Zhj {x:DHost} {s:DSess} {r:Int} (h:(atF x s r).2=0):(atF x s r).1=ZaD (inF s.owner s.name) x.folders∧0≤(atF x s r).1∧0≤Zdw x.users s.user∧∃f,x.folders[(atF x s r).1.toNat]? = some f∧ZiP f s.user 1=true∧ZiP f s.user 2=true∧ZiP f s.user r=true:=by
  unfold atF at h ⊢
  split at h
  · rename_i h1;exact absurd h h1
  · rename_i h1
    rw [if_neg h1]
    obtain ⟨h2,h3,f,hf,h4,h5⟩:=Zdp h
    obtain ⟨_,_,f',hf',_,h6⟩:=Zdp (Decidable.not_not.1 h1)
    rw [hf] at hf';cases hf'
    exact ⟨rfl,h3,h2,f,hf,h4,h6,h5⟩
theorem Zp0 {x:DHost} {s:DSess} {set:List DSpan} {how fl:Int} (h:ZA x=true):(Zb7 x s set how fl).2=5∨ZA (Zb7 x s set how fl).1=true∨(ZdY (Zg3 x (atF x s 4).1.toNat).mail.length (ZaC set (Zg3 x (atF x s 4).1.toNat).mail.length)=false):=by
  unfold Zb7
  split
  · exact .inl rfl
  · rename_i h1
    split
    · exact .inr (.inl h)
    · rename_i h2
      cases hn:ZdY (Zg3 x (atF x s 4).1.toNat).mail.length (ZaC set (Zg3 x (atF x s 4).1.toNat).mail.length) with
      | false=>exact .inr (.inr rfl)
      | true=>
        refine .inr (.inl (ZkH h fun f hf=>?_))
        simp only [h,true_and,Decidable.not_not] at h1
        have hb:=ZbY (Zbq h hf)
        rw [Zdf hf] at hn ⊢
        rw [Zbf,if_pos ⟨hb,hn,h1.2.2,h1.2.1⟩]
        obtain ⟨h4,h5⟩:=Zrv hb (ZgY (how:=how) (fl:=fl) (ZaC set f.box.mail.length) (Like.refl f.box.mail))
        exact ⟨h4,Nat.le_of_eq h5⟩
theorem Zmr {x:DHost} {s:DSess} (h:ZA x=true):(ZaM x s).2.2=5∨ZA (ZaM x s).1=true:=by
  unfold ZaM
  split
  · exact .inl rfl
  · split
    · exact .inr h
    · refine .inr (ZkH h fun f hf=>?_)
      have hb:=ZbY (Zbq h hf)
      rw [Zdf hf,expunge,if_pos hb]
      exact ZrE hb
theorem Zgk (s:List DSpan) (last:Int) :∀(n:Nat) (y:Int),y∈ZcQ s last n→1≤y∧y≤n
  | 0,y,h=>by cases h
  | n+1,y,h=>by
    simp only [ZcQ] at h
    split at h
    · rw [List.mem_append,List.mem_singleton] at h
      rcases h with h | rfl
      · have:=Zgk s last n y h;omega
      · omega
    · have:=Zgk s last n y h;omega
theorem ZkR {m:Nat} {xs:List Int} {b y:Int} (h:ZdG m xs=(true,b)) (hy:Zpt m b y=true):ZdG m (xs ++ [y])=(true,y):=by
  rw [ZdG,scn,List.foldl_append]
  have:xs.foldl (fun (s:Bool × Int) x=>(s.1 && Zpt m s.2 x,x)) (true,0)=(true,b):=h
  rw [this];simp [hy]
theorem ZhL (s:List DSpan) (last:Int) (m:Nat) :∀n,n≤m→∃b,ZdG m (ZcQ s last n)=(true,b)∧b≤n
  | 0,_=>⟨0,rfl,by simp⟩
  | n+1,h=>by
    obtain ⟨b,h1,h2⟩:=ZhL s last m n (by omega)
    simp only [ZcQ]
    split
    · exact ⟨_,ZkR h1 (by simp only [Zpt,Bool.and_eq_true,decide_eq_true_eq];omega),by omega⟩
    · exact ⟨b,h1,by omega⟩
theorem Zps (s:List DSpan) (m:Nat):ZdY m (ZaC s m)=true:=by
  unfold ZaC
  split
  · obtain ⟨b,h,_⟩:=ZhL s (min (m:Int) 99) m (min (m:Int) 99).toNat (by omega)
    rw [ZdY,h]
  · rfl
theorem Zjd {s:List DSpan} {m:Nat} {y:Int} (h:y∈ZaC s m):1≤y∧y≤m:=by
  unfold ZaC at h
  split at h
  · have:=Zgk _ _ _ _ h;omega
  · cases h
theorem Zjb (s:List DSpan) (last:Int) :∀n,(ZcQ s last n).length≤n
  | 0=>by simp [ZcQ]
  | n+1=>by
    have:=Zjb s last n
    simp only [ZcQ]
    split
    · simp;omega
    · omega
theorem Zmz {to:Nat} {s:DHost × Int} {m:DMail} (h:ZA s.1=true) (hm:Zbw m=true):ZA (ZbH to s m).1=true:=by
  unfold ZbH
  simp only [Zbw,Bool.and_eq_true,decide_eq_true_eq] at hm
  split
  · exact Zg8 h (by simp only [ZaQ,Bool.and_eq_true,decide_eq_true_eq];exact hm.1.2) hm.2
  · exact h
theorem Zis {to:Nat} :∀(ms:List DMail) (s:DHost × Int),ZA s.1=true→(∀m,m∈ms→Zbw m=true)→ZA (ms.foldl (ZbH to) s).1=true
  | [],_,h,_=>h
  | m :: ms,s,h,hm=>Zis ms _ (Zmz h (hm m (List.mem_cons_self ..))) fun y hy=>hm y (List.mem_cons_of_mem _ hy)
theorem ZpH {b:DBox} (h:Zbh b=true) {y:Int} (hy:1≤y∧y≤b.mail.length):Zbw (Zc0 b.mail y)=true:=by
  unfold Zc0
  have :∃m,b.mail[(y - 1).toNat]? = some m:=⟨_,List.getElem?_eq_getElem (by omega)⟩
  obtain ⟨m,hm⟩:=this
  simp only [hm]
  exact (Zdq h).1 m (List.mem_of_getElem? hm)
theorem ZrR {x:DHost} {s:DSess} {set:List DSpan} {o n:Str} (h:ZA x=true):(Zeh x s set o n).2=5∨ZA (Zeh x s set o n).1=true:=by
  unfold Zeh
  split
  · exact .inl rfl
  · split
    · exact .inr h
    · rename_i h2
      split
      · exact .inr h
      · obtain ⟨_,_,_,f,hf,_⟩:=Zhj (Decidable.not_not.1 h2)
        have hb:=ZbY (Zbq h hf)
        simp only []
        split
        · refine .inr (Zis _ _ h fun m hm=>?_)
          obtain ⟨y,hy,rfl⟩:=List.mem_map.1 hm
          rw [Zdf hf] at hy ⊢
          exact ZpH hb (Zjd hy)
        · exact .inr h
theorem ZtD {x:DHost} {e:DEvent} (h:ZA x=true):(Zhi x e).2=5∨ZA (Zhi x e).1=true:=by
  unfold Zhi
  split
  · exact Zop h
  · split
    · exact Zp1 h
    · split
      · exact Zty h
      · split
        · exact Zoo h
        · split
          · exact Zms h
          · split
            · rcases Zp0 (x:=x) (s:=⟨e.by_,e.owner,e.name⟩) (set:=[⟨e.a,e.a⟩]) (how:=1) (fl:=e.b) h with h | h | h
              · exact .inl h
              · exact .inr h
              · rw [Zps] at h;cases h
            · split
              · exact Zmr h
              · split
                · exact ZrR h
                · exact .inl rfl
theorem ZuQ {x:DHost} {e:DEvent} (h:ZA x=true):ZA (hDo x e).1=true:=by
  unfold hDo
  rw [h]
  simp only [Bool.true_eq_false,if_false]
  split
  · exact h
  · rename_i h2
    rcases ZtD (e:=e) h with h3 | h3
    · exact absurd h3 h2
    · exact h3
end Go.BL
namespace Go.BL
open Go
set_option linter.unusedVariables false
set_option linter.unusedSimpArgs false
theorem Zrf {k:Nat} {e:Int} (h:([1,2,4,8,16,32]:List Int)[k]? = some e):e=Zbt k:=by rw [Zbt,List.getD_eq_getElem?_getD,h];rfl
theorem Zpp {k:Nat} {e:Int} (h:([1,2,4,8,16]:List Int)[k]? = some e):e=Zbt k:=by
  have hk:=(List.getElem?_eq_some_iff.1 h).1
  simp only [List.length_cons,List.length_nil] at hk
  have:k=0∨k=1∨k=2∨k=3∨k=4:=by omega
  rcases this with rfl | rfl | rfl | rfl | rfl <;> simp at h <;> rw [← h] <;> rfl
theorem Zja {a b:Int} (h0:0≤a) (h1:a≤1000000) (hb:0<b):IntKind.i64.wrap (Int.tdiv a b)=Int.tdiv a b:=
  ZaK (Int.le_trans (by decide) (Int.tdiv_nonneg h0 (by omega))) (Int.le_trans (Int.tdiv_le_self _ h0) (by omega))
theorem ZeU {gs:List DGrant} (h:ZbK gs=true) :∀y,y∈gs→0≤y.rights∧y.rights≤63:=by
  intro y hy
  simp only [ZbK,Bool.and_eq_true] at h
  obtain ⟨b,hb⟩:=ZjG (p:=Zck) (nx:=fun _ g=>g.user) gs [] h.1 y hy
  simp only [Zck,Bool.and_eq_true,decide_eq_true_eq] at hb;omega
def Zhn (fs:List DFolder):Prop:=∀f,f∈fs→∀y,y∈f.grants→0≤y.rights∧y.rights≤63
theorem ZbV {x:DHost} (h:ZA x=true):Zhn x.folders:=fun f hf=>by
  have:=(ZaO.1 h).2.1.1 f hf
  simp only [Z1,Bool.and_eq_true] at this
  exact ZeU this.1.2
theorem Zl3 (gs:List DGrant) (u:Str):0≤ZbF gs u∧ZbF gs u≤600:=Zix gs u 6 (Nat.le_refl _)
theorem Zo0 :∀{fs:List DFolder} (us:List DUser) (u:Str),(∀f,f∈fs→Z1 us f=true)→Zbb fs u≤fs.length*200
  | [],_,_,_=>by simp [Zbb]
  | f :: fs,us,u,h=>by
    have ih:=Zo0 us u fun g hg=>h g (List.mem_cons_of_mem _ hg)
    obtain ⟨h1,h2⟩:=Zdq (ZbY (h f (List.mem_cons_self ..)))
    have h3:Zah f.mail≤f.mail.length*20:=Zfr _ h1
    have h4:f.mail.length≤10:=h2
    simp only [Zbb,List.map_cons,List.sum_cons,List.length_cons] at ih ⊢
    split <;> omega
theorem Zmo {x:DHost} (h:ZA x=true) (u:Str):Zbb x.folders u≤1600:=by
  obtain ⟨_,⟨h4,_,h6⟩,_⟩:=ZaO.1 h
  have:=Zo0 x.users u h4
  omega
theorem Zde {b:DBox} (h:Zbh b=true):1≤b.next∧b.next≤100∧b.mail.length≤10:=by
  obtain ⟨l,hs,h1,h2,h3⟩:=Ze4 h
  have:=ZjH b.mail 0 l hs
  omega
structure GHC where
  q1:Option Addr
  c1:Nat
  q3:Option Addr
  c3:Nat
  b:Nat
theorem ZgJ {α:Type} {p:α→Bool} :∀{fs:List α} {k:Nat},(∀y,y∈fs.take k→p y=true)→(fs.length≤k∨∃z,fs[k]? = some z∧p z=false)→k≤fs.length→(fs.takeWhile p).length=k
  | [],k,_,_,hk=>by simp at hk;subst hk;rfl
  | a :: fs,0,_,he,_=>by
    rcases he with he | ⟨z,hz,hp⟩
    · simp at he
    · simp at hz;subst hz;simp [hp]
  | a :: fs,k+1,ha,he,hk=>by
    have h1:p a=true:=ha a (by simp)
    have ih:=ZgJ (fs:=fs) (k:=k) (fun y hy=>ha y (by simp [hy])) (by
      rcases he with he | ⟨z,hz,hp⟩
      · exact .inl (by simpa using he)
      · exact .inr ⟨z,by simpa using hz,hp⟩) (by simpa using hk)
    simp [h1,ih]
theorem Zcj {x:DHost} {u n:Str} {k:Nat} (h1:ZA x=true) (h2:Zaj n=true) (h3 : ¬ Zdw x.users u<0) (h4 : ¬ 0≤ZaD (inF u n) x.folders) (h5 : ¬ 8≤x.folders.length) (hk:k≤x.folders.length)
    (ha :∀y,y∈x.folders.take k→ZbU y (ZeE u n)=true) (he:x.folders.length≤k∨∃z,x.folders[k]? = some z∧ZbU z (ZeE u n)=false) :
    Zbg x u n=(x.withFolders (((x.folders.take k).drop 0 ++ [⟨u,n,[],1,[]⟩]) ++ (x.folders.take x.folders.length).drop k),0):=by
  rw [Zbg,if_neg (fun h=>h ⟨h1,h2⟩),if_neg h3,if_neg (fun h=>h.elim h4 h5),Zg2,show Zgq x.folders (ZeE u n)=k from ZgJ ha he hk,List.drop_zero,List.take_length]
  rfl
theorem ZgB {gs:List DGrant} {u:Str} {r:Int} (h : ¬ (ZbK gs=true∧Zaj u=true∧ZdE r=true)):Zb1 gs u r=([],false):=by rw [Zb1,if_pos h]
theorem Zlz {gs:List DGrant} {u:Str} {r:Int} (h:ZbK gs=true∧Zaj u=true∧ZdE r=true) (h2:ZbK (Zgc gs u r)=false):Zb1 gs u r=(gs,false):=by rw [Zb1,if_neg (fun a=>a h),if_neg (by rw [h2];exact Bool.false_ne_true)]
theorem Zjz {gs:List DGrant} {u:Str} {r:Int} (h:ZbK gs=true∧Zaj u=true∧ZdE r=true) (h2:ZbK (Zgc gs u r)=true):Zb1 gs u r=(Zgc gs u r,true):=by rw [Zb1,if_neg (fun a=>a h),if_pos h2]
theorem ZgC {gs xs:List DGrant} {u:Str} {r:Int} (h:(true,xs)=Zel u r gs):Zgc gs u r=xs:=by rw [Zgc,← h];rfl
theorem ZgD {gs xs:List DGrant} {u:Str} {r:Int} (h:(false,xs)=Zel u r gs):Zgc gs u r=xs ++ [⟨u,r⟩]:=by rw [Zgc,← h];rfl
theorem ZiC {gs:List DGrant} (h:ZbK gs=true):gs.length≤4:=by simp only [ZbK,Bool.and_eq_true,decide_eq_true_eq] at h;exact h.2
theorem Zjm {x:DHost} {k:Nat} {f:DFolder} {u:Str} {r:Int} (hf:x.folders[k]? = some f) (h:(Zb1 f.grants u r).2=false):ZeL x k u r=(x,4):=by simp only [ZeL,hf,h];rfl
theorem Zia {x:DHost} {k:Nat} {f:DFolder} {u:Str} {r:Int} (hf:x.folders[k]? = some f) (h:(Zb1 f.grants u r).2=true):ZeL x k u r=(x.withFolders (x.folders.set k (f.withGrants (Zb1 f.grants u r).1)),0):=by simp only [ZeL,hf,h,if_true]
theorem Zjc {n:Nat} {xs:List Int} {k:Nat} {x b:Int} (hx:xs[k]? = some x) (hs:ZdG n (xs.take k)=(true,b)) (h:Zpt n b x=false):ZdY n xs=false:=Zg7 hx hs h
theorem Zn0 {n:Nat} {xs:List Int} {b:Int} (h:ZdG n xs=(true,b)):ZdY n xs=true:=by rw [ZdY,h]
theorem ZnZ {n:Nat} {xs:List Int} (h:ZdY n xs=true) :∀y,y∈xs→1≤y∧y≤n:=by
  intro y hy
  obtain ⟨b,hb⟩:=ZjG (p:=Zpt n) (nx:=fun _ x=>x) xs 0 h y hy
  simp only [Zpt,Bool.and_eq_true,decide_eq_true_eq] at hb;omega
theorem Zlg {ms:List DMail} {how fl:Int} {ns:List Int} {k:Nat} {y:Int} {a m:DMail} (hy:ns[k]? = some y) (ha:(ZdQ ms how fl (ns.take k))[(y - 1).toNat]? = some a) (hm:ms[(y - 1).toNat]? = some m) :
    ZdQ ms how fl (ns.take (k+1))=(ZdQ ms how fl (ns.take k)).set (y - 1).toNat ⟨a.uid,chg m.flags how fl,a.text⟩:=by
  have e:ZdQ ms how fl (ns.take (k+1))=Zgv ms how fl (ZdQ ms how fl (ns.take k)) y:=by rw [Zay hy,ZdQ,List.foldl_append];rfl
  rw [e,Zgv,ha,hm]
theorem ZfF {b:DBox} (h:Zbh b=true) {m:DMail} (hm:m∈b.mail):0≤m.flags∧m.flags≤31:=by
  have:=(Zdq h).1 m hm
  simp only [Zbw,Bool.and_eq_true,decide_eq_true_eq] at this;exact this.1.2
theorem ZrC {ms:List DMail} {k:Nat} {x:DMail} (hx:ms[k]? = some x) (h:ZoK x=false):Zcv (ms.take (k+1))=Zcv (ms.take k) ++ [x]:=by
  rw [Zay hx,Zcv,List.filter_append];simp [Zcv,h]
theorem Ztq {ms:List DMail} {k:Nat} {x:DMail} (hx:ms[k]? = some x) (h:ZoK x=true):Zcv (ms.take (k+1))=Zcv (ms.take k):=by
  rw [Zay hx,Zcv,List.filter_append];simp [Zcv,h]
theorem Zjn {ms:List DMail} {k:Nat} {x:DMail} (hx:ms[k]? = some x):Zj1 (ms.take (k+1))=Zc7 (Zj1 (ms.take k)) x:=by
  rw [Zay hx,Zj1,List.foldl_append];rfl
theorem Zp2 (ms:List DMail):(Zj1 ms).1=(Zcv ms).length:=by
  have key :∀(ms:List DMail) (s:Nat × List Int),(ms.foldl Zc7 s).1=s.1+(Zcv ms).length:=by
    intro ms
    induction ms with
    | nil=>intro s;rfl
    | cons m ms ih=>
      intro s
      rw [List.foldl_cons,ih,Zc7]
      cases hd:ZoK m with
      | true=>simp [Zcv,hd]
      | false=>simp [Zcv,hd];omega
  rw [Zj1,key];simp
theorem ZrD (ms:List DMail) (k:Nat):(Zcv (ms.take k)).length≤k:=Nat.le_trans (List.length_filter_le _ _) (by rw [List.length_take];omega)
theorem ZnY {s:List DSpan} {last:Int} {n:Nat} (h:ZfX s last (n+1:Nat)=true):ZcQ s last (n+1)=ZcQ s last n ++ [((n+1:Nat):Int)]:=by simp only [ZcQ,h,if_true]
theorem Zpr {s:List DSpan} {last:Int} {n:Nat} (h:ZfX s last (n+1:Nat)=false):ZcQ s last (n+1)=ZcQ s last n:=by simp only [ZcQ,h];rfl
theorem ZhF {x:DHost} {k:Nat} {b:DBox} {f:DFolder} (h:x.folders[k]? = some f):Zi6 x k b=x.withFolders (x.folders.set k (f.withBox b)):=by simp only [Zi6,h]
theorem Zej {b:DBox} {ns:List Int} {how fl:Int} (h : ¬ (Zbh b=true∧ZdY b.mail.length ns=true∧ZjY how=true∧ZaQ fl=true)):Zbf b ns how fl=(⟨0,[]⟩,false):=by rw [Zbf,if_neg h]
theorem Zlq {b:DBox} {ns:List Int} {how fl:Int} (h:Zbh b=true∧ZdY b.mail.length ns=true∧ZjY how=true∧ZaQ fl=true):Zbf b ns how fl=(⟨b.next,ZdQ b.mail how fl ns⟩,true):=by rw [Zbf,if_pos h]
structure GEx where
  k:Nat
  m:Gh DMail
  n:Gh Int
structure GCp where
  k:Nat
  x:DHost
  c:Int
  q1:Option Addr
  c1:Nat
  q2:Option Addr
  c2:Nat
  q3:Option Addr
  c3:Nat
theorem Zqw {ns:List Int} {ms:List DMail} {to k:Nat} {y:Int} {s:DHost × Int} (hy:ns[k]? = some y):((ns.take (k+1)).map (Zc0 ms)).foldl (ZbH to) s=ZbH to (((ns.take k).map (Zc0 ms)).foldl (ZbH to) s) (Zc0 ms y):=by
  rw [Zay hy,List.map_append,List.foldl_append];rfl
theorem Zgx {to:Nat} :∀(ms:List DMail) (s:DHost × Int),s.2≠0→ms.foldl (ZbH to) s=s
  | [],_,_=>rfl
  | m :: ms,s,h=>by rw [List.foldl_cons,ZbH,if_neg h];exact Zgx ms s h
theorem Zqv {ns:List Int} {ms:List DMail} {to k:Nat} {s:DHost × Int} {y:DHost} {c:Int} (h:(y,c)=((ns.take k).map (Zc0 ms)).foldl (ZbH to) s) (hc : ¬ c=0):(y,c)=(ns.map (Zc0 ms)).foldl (ZbH to) s:=by
  have e:ns=ns.take k ++ ns.drop k:=(List.take_append_drop k ns).symm
  conv=>rhs;rw [e,List.map_append,List.foldl_append,← h,Zgx _ _ hc]
theorem Zlb {x:DHost} {s:DSess} {set:List DSpan} {o n:Str} {f:DFolder} {y:DHost} {c:Int} (h : ¬ ¬ (ZA x=true∧ZhE set=true)) (ha:(atF x s 2).2=0) (hf:x.folders[(atF x s 2).1.toNat]? = some f)
    (hr:(y,c)=((ZaC set f.mail.length).map (Zc0 f.mail)).foldl (ZbH (ZaD (inF o n) x.folders).toNat) (x,Zf9 x.users x.folders s.user (ZaD (inF o n) x.folders) 8)):Zeh x s set o n=if c=0 then (y,0) else (x,c):=by
  rw [Zeh,if_neg h,if_neg (fun h=>h ha),Zdf hf]
  by_cases h8:Zf9 x.users x.folders s.user (ZaD (inF o n) x.folders) 8=0
  · rw [if_neg (fun h=>h h8)]
    rw [h8] at hr
    have e:Zir x ((ZaC set f.mail.length).map (Zc0 f.mail)) (ZaD (inF o n) x.folders).toNat=(y,c):=hr.symm
    show (if (Zir x ((ZaC set f.mail.length).map (Zc0 f.mail)) (ZaD (inF o n) x.folders).toNat).2=0 then Zir x ((ZaC set f.mail.length).map (Zc0 f.mail)) (ZaD (inF o n) x.folders).toNat else (x,(Zir x ((ZaC set f.mail.length).map (Zc0 f.mail)) (ZaD (inF o n) x.folders).toNat).2))=_
    rw [e]
    by_cases hc:c=0
    · simp only [hc,if_true]
    · simp only [hc,if_false]
  · rw [if_pos h8]
    rw [Zgx _ _ h8] at hr
    cases hr
    rw [if_neg h8]
theorem Zn1 (s:List DSpan) (m:Nat):(ZaC s m).length≤m:=by
  unfold ZaC
  split
  · have:=Zjb s (min (m:Int) 99) (min (m:Int) 99).toNat
    omega
  · simp
theorem Ze5 (gs:List DGrant) (u:Str) (r:Int):(Zb1 gs u r).1.length≤gs.length+4:=by
  unfold Zb1
  split
  · simp
  · split
    · rename_i h;have:=ZiC h;simp only [];omega
    · simp only [];omega
theorem Zsj (b:DBox) (fl:Int) (t:Str):(ZgA b fl t).1.mail.length≤b.mail.length+1:=by
  unfold ZgA;split <;> simp
theorem Zmv (b:DBox):(expunge b).1.mail.length≤b.mail.length∧(expunge b).2.length≤b.mail.length:=by
  unfold expunge
  split
  · have key :∀(ms:List DMail) (s:Nat × List Int),(ms.foldl Zc7 s).2.length≤s.2.length+ms.length:=by
      intro ms
      induction ms with
      | nil=>intro s;simp
      | cons m ms ih=>
        intro s
        rw [List.foldl_cons]
        cases hd:ZoK m with
        | true=>
          have:=ih (s.1,s.2 ++ [((s.1+1:Nat):Int)])
          rw [Zc7,if_pos hd]
          simp only [List.length_append,List.length_cons,List.length_nil] at this ⊢;omega
        | false=>
          have:=ih (s.1+1,s.2)
          rw [Zc7,if_neg (by simp [hd])]
          simp only [List.length_cons] at this ⊢;omega
    have:=key b.mail (0,[])
    exact ⟨List.length_filter_le _ _,by simpa [Zj1] using this⟩
  · simp
def ZP (b:DBox) (fl:Int) (t:Str):DBox × Bool:=if Zbh b=true∧ZaQ fl=true∧t.length≤20 then ZgA b fl t else (⟨0,[]⟩,false)
theorem ZeR {b:DBox} {fl:Int} {t:Str} (h : ¬ (Zbh b=true∧ZaQ fl=true∧t.length≤20)):ZP b fl t=(⟨0,[]⟩,false):=by rw [ZP,if_neg h]
theorem Zka {b:DBox} {fl:Int} {t:Str} (h:Zbh b=true∧ZaQ fl=true∧t.length≤20):ZP b fl t=ZgA b fl t:=by rw [ZP,if_pos h]
theorem ZdJ (b:DBox) (fl:Int) (t:Str):0≤(ZP b fl t).1.next∧(ZP b fl t).1.next≤101∧(ZP b fl t).1.mail.length≤11:=by
  unfold ZP
  split
  · rename_i h
    have:=Zde h.1
    unfold ZgA
    split
    · simp only [];omega
    · simp;omega
  · simp
theorem ZC (b:DBox):0≤(expunge b).1.next∧(expunge b).1.next≤101∧(expunge b).1.mail.length≤10:=by
  unfold expunge
  split
  · rename_i h
    have:=Zde h
    have:=List.length_filter_le (fun m=>!ZoK m) b.mail
    simp only [Zcv];omega
  · simp
theorem Zf6 {us:List DUser} {f:DFolder} (h:Z1 us f=true):f.grants.length≤4:=by
  simp only [Z1,Bool.and_eq_true] at h;exact ZiC h.1.2
theorem Zmp {x:DHost} (h:ZA x=true) :∀y,y∈x.queue.items→0<y.left.length:=fun y hy=>by
  have:=ZdF (Zhg h) hy
  simp only [Zcw,ZaL,Bool.and_eq_true,decide_eq_true_eq] at this
  exact this.1.2
theorem Zof {x:DHost} (h:ZA x=true):0<x.folders.length∧0<x.users.length:=by
  obtain ⟨⟨_,h2,_⟩,_,h7,_⟩:=ZaO.1 h
  simp only [Zaq,Bool.and_eq_true,decide_eq_true_eq] at h2
  have hu:0<x.users.length:=by omega
  refine ⟨?_,hu⟩
  have:=h7 _ (List.getElem_mem hu)
  simp only [ZaN,Bool.and_eq_true,decide_eq_true_eq] at this
  obtain ⟨f,hf,_⟩:=ZdH.1 this.1
  exact List.length_pos_of_mem hf
def Zff (a b:Int):List DUser:=[⟨[97,109,121],[97,49],60⟩,⟨[98,111,98],[98,50],20+a⟩,⟨[99,121,100],[99,51],100+b⟩]
theorem Zqr {a b:Int} (h1:0≤a) (h2:a<60) (h3:0≤b) (h4:b<100):Zcd [104,111,115,116,46,111,114,103] (Zff a b)=(Zpv [104,111,115,116,46,111,114,103] (Zff a b),true)∧ZA (Zpv [104,111,115,116,46,111,114,103] (Zff a b))=true:=by
  have hd:Zcb [104,111,115,116,46,111,114,103]=true:=by decide
  have hu:Zaq (Zff a b)=true:=by
    have e1:Zdh [] ⟨[97,109,121],[97,49],60⟩=true:=by decide
    have e2:Zdh [97,109,121] ⟨[98,111,98],[98,50],20+a⟩=true:=by
      have:(decide (0≤20+a) && decide (20+a≤200))=true:=by simp;omega
      simp only [Zdh,Zcq,this,Bool.and_true];rfl
    have e3:Zdh [98,111,98] ⟨[99,121,100],[99,51],100+b⟩=true:=by
      have:(decide (0≤100+b) && decide (100+b≤200))=true:=by simp;omega
      simp only [Zdh,Zcq,this,Bool.and_true];rfl
    simp [Zaq,ZdB,scn,Zff,e1,e2,e3]
  have:=Zma [104,111,115,116,46,111,114,103] (Zff a b)
  rw [hd,hu] at this
  exact ⟨Zh3 this,this⟩
structure GHo where
  k:Nat
  p:Nat
  x:DHost
  q1:Option Addr
  c1:Nat
  q2:Option Addr
  c2:Nat
  q3:Option Addr
  c3:Nat
structure GBo where
  k:Nat
  p:Nat
  l:Cells
  a:Option Addr
  c:Nat
  x:DBox
structure GAc where
  k:Nat
  p:Nat
  l:Cells
  a:Option Addr
  c:Nat
  xs:List DGrant
theorem ZkQ :∀{fs:List DFolder},Zgd fs=true→fs.Pairwise fun a b=>ZbU a b=true
  | [],_=>.nil
  | [_],_=>.cons (by simp) .nil
  | a :: b :: r,h=>by
    simp only [Zgd,Bool.and_eq_true] at h
    have ih:=ZkQ (fs:=b :: r) h.2
    have tr :∀c,c∈b :: r→ZbU a c=true:=by
      intro c hc
      rcases List.mem_cons.1 hc with rfl | hc
      · exact h.1
      · have h2:ZbU b c=true:=by cases ih with | cons h3 _=>exact h3 c hc
        have h1:=h.1
        simp only [ZbU,Bool.or_eq_true,Bool.and_eq_true,decide_eq_true_eq] at h1 h2 ⊢
        rcases h1 with h1 | ⟨e1,h1⟩
        · rcases h2 with h2 | ⟨e2,h2⟩
          · exact .inl (Zdb h1 h2)
          · exact .inl (e2 ▸ h1)
        · rcases h2 with h2 | ⟨e2,h2⟩
          · exact .inl (e1 ▸ h2)
          · exact .inr ⟨e1.trans e2,Zdb h1 h2⟩
    exact .cons tr ih
theorem Zrw {a b:DFolder} (h:ZbU a b=true) : ¬ (a.owner=b.owner∧a.name=b.name):=by
  rintro ⟨e1,e2⟩
  simp only [ZbU,e1,e2,ZcL,Bool.and_false,Bool.or_false] at h
  cases h
theorem Znk :∀{fs:List DFolder},fs.Pairwise (fun a b=>ZbU a b=true)→∀f,f∈fs→fs.find? (inF f.owner f.name)=some f
  | [],_,f,h=>by cases h
  | a :: fs,hp,f,h=>by
    cases hp with
    | cons h1 h2=>
      rw [List.find?_cons]
      rcases List.mem_cons.1 h with rfl | h
      · simp [inF]
      · have:=Zrw (h1 f h)
        have e:inF f.owner f.name a=false:=by
          rw [Bool.eq_false_iff];intro hc
          simp only [inF,Bool.and_eq_true,decide_eq_true_eq] at hc
          exact this hc
        rw [e]
        exact Znk h2 f h
theorem Ze9 {x:DHost} (h:ZA x=true) {f:DFolder} (hf:f∈x.folders):Zae x f.owner f.name=(f,true):=by
  rw [Zae,if_pos h,Znk (ZkQ (ZaO.1 h).2.1.2.1) f hf]
end Go.BL
namespace Go.BL
open Go
set_option linter.unusedVariables false
set_option linter.unusedSimpArgs false
def Ze7 (gs:List DGrant) (o u:Str):Int:=
  if ¬ (ZbK gs=true∧Zaj o=true∧Zaj u=true) then -1 else if u=o then 63 else orI ((mget (ZeI gs) u).getD 0) ((mget (ZeI gs) anyone).getD 0)
theorem Zkf {gs:List DGrant} {o u:Str} (h : ¬ (ZbK gs=true∧Zaj o=true∧Zaj u=true)):Ze7 gs o u = -1:=by rw [Ze7,if_pos h]
theorem Zsk {gs:List DGrant} {o u:Str} (h1:ZbK gs=true) (h2:Zaj o=true) (h3:Zaj u=true):Ze7 gs o u=if u=o then 63 else orI ((mget (ZeI gs) u).getD 0) ((mget (ZeI gs) anyone).getD 0):=by rw [Ze7,if_neg (fun h=>h ⟨h1,h2,h3⟩)]
def ZpG (us:List DUser) (f:DFolder) (u:Str) (r:Int):Bool:=(ZaW us u).2 && (decide (0≤Ze7 f.grants f.owner u) && !decide (Zvh (Ze7 f.grants f.owner u) r=0))
theorem ZoE {gs:List DGrant} (h:ZbK gs=true):gs.Pairwise fun x y=>Op.bytesLess x.user y.user=true:=by
  simp only [ZbK,Bool.and_eq_true] at h
  exact (Zfu (p:=Zck) (f:=fun u=>u.user) (fun b x hq=>by simp only [Zck,Bool.and_eq_true] at hq;exact hq.2) gs [] (ZcT gs).2 (Prod.ext h.1 rfl)).2
def Zg4 (r b:Int):Bool:=decide (Int.tmod (Int.tdiv r b) 2=1)
theorem ZjP (u:Str) (b:Int) (h0:Zg4 0 b=false) :∀{gs:List DGrant},gs.Pairwise (fun x y=>Op.bytesLess x.user y.user=true)→(gs.any fun g=>decide (g.user=u) && Zg4 g.rights b)=Zg4 ((mget (ZeI gs) u).getD 0) b
  | [],_=>by simp [ZeI,mget,h0]
  | g :: gs,hp=>by
    obtain ⟨h1,h2⟩:=List.pairwise_cons.1 hp
    have ih:=ZjP u b h0 h2
    simp only [ZeI,List.map_cons,mget,List.any_cons] at ih ⊢
    by_cases hu:u=g.user
    · subst hu
      have hn:(gs.any fun x=>decide (x.user=g.user) && Zg4 x.rights b)=false:=by
        rw [List.any_eq_false]
        intro x hx hc
        simp only [Bool.and_eq_true,decide_eq_true_eq] at hc
        have:=h1 x hx
        rw [hc.1,ZcL] at this;cases this
      simp [hn]
    · rw [if_neg hu,decide_eq_false (Ne.symm hu),← ih];simp
theorem Zmb (u:Str) :∀{gs:List DGrant},(∀y,y∈gs→0≤y.rights∧y.rights≤63)→0≤(mget (ZeI gs) u).getD 0∧(mget (ZeI gs) u).getD 0≤63
  | [],_=>by simp [ZeI,mget]
  | g :: gs,h=>by
    have ih:=Zmb u (gs:=gs) fun y hy=>h y (List.mem_cons_of_mem _ hy)
    simp only [ZeI,List.map_cons,mget] at ih ⊢
    by_cases hu:u=g.user
    · rw [if_pos hu];exact h g (List.mem_cons_self ..)
    · rw [if_neg hu];exact ih
theorem ZuJ :∀a,a<64→∀b,b<64→0≤orI (a:Nat) (b:Nat)∧orI (a:Nat) (b:Nat)≤63∧(∀k,k<6→(!decide (Zvh (orI (a:Nat) (b:Nat)) (Zbt k)=0))=(Zg4 (a:Nat) (Zbt k) || Zg4 (b:Nat) (Zbt k)))∧(!decide (Int.tmod (orI (a:Nat) (b:Nat)) 2=0))=(Zg4 (a:Nat) 1 || Zg4 (b:Nat) 1)∧(!decide (Int.tmod (Int.tdiv (orI (a:Nat) (b:Nat)) 2) 2=0))=(Zg4 (a:Nat) 2 || Zg4 (b:Nat) 2):=by
  decide +kernel
theorem Ztc :∀k,k<6→(!decide (Zvh 63 (Zbt k)=0))=true:=by decide +kernel
def Zxd (b0 b1 b2 b3 b4 b5:Bool):Int:=
  let s0:Int:=if b0=true then 0+Zbt 0 else 0
  let s1:=if b1=true then s0+Zbt 1 else s0
  let s2:=if b2=true then s1+Zbt 2 else s1
  let s3:=if b3=true then s2+Zbt 3 else s2
  let s4:=if b4=true then s3+Zbt 4 else s3
  if b5=true then s4+Zbt 5 else s4
theorem Zr9 :∀b0 b1 b2 b3 b4 b5:Bool,∀k,k<6→Zg4 (Zxd b0 b1 b2 b3 b4 b5) (Zbt k)=[b0,b1,b2,b3,b4,b5].getD k false:=by decide +kernel
theorem ZnN {gs:List DGrant} {u:Str} {k:Nat} (hk:k<6):Zg4 (ZbF gs u) (Zbt k)=gs.any (onB u (Zbt k)):=by
  have e:ZbF gs u=Zxd (gs.any (onB u (Zbt 0))) (gs.any (onB u (Zbt 1))) (gs.any (onB u (Zbt 2))) (gs.any (onB u (Zbt 3))) (gs.any (onB u (Zbt 4))) (gs.any (onB u (Zbt 5))):=rfl
  rw [e,Zr9 _ _ _ _ _ _ k hk]
  have:k=0∨k=1∨k=2∨k=3∨k=4∨k=5:=by omega
  rcases this with rfl | rfl | rfl | rfl | rfl | rfl <;> rfl
theorem Zte {gs:List DGrant} {u:Str} {b:Int} : gs.any (onB u b)=((gs.any fun g=>decide (g.user=u) && Zg4 g.rights b) || (gs.any fun g=>decide (g.user=anyone) && Zg4 g.rights b)):=by
  induction gs with
  | nil=>rfl
  | cons g gs ih=>
    simp only [List.any_cons,ih,onB,Zg4]
    cases decide (g.user=u) <;> cases decide (g.user=anyone) <;> cases decide (Int.tmod (Int.tdiv g.rights b) 2=1) <;> simp
theorem ZmK {k:Nat} (hk:k<6):Zg4 0 (Zbt k)=false:=by
  have:k=0∨k=1∨k=2∨k=3∨k=4∨k=5:=by omega
  rcases this with rfl | rfl | rfl | rfl | rfl | rfl <;> rfl
theorem ZkL {gs:List DGrant} {u:Str} (h:ZbK gs=true) {k:Nat} (hk:k<6):(!decide (Zvh (orI ((mget (ZeI gs) u).getD 0) ((mget (ZeI gs) anyone).getD 0)) (Zbt k)=0))=Zg4 (ZbF gs u) (Zbt k)∧0≤orI ((mget (ZeI gs) u).getD 0) ((mget (ZeI gs) anyone).getD 0)∧orI ((mget (ZeI gs) u).getD 0) ((mget (ZeI gs) anyone).getD 0)≤63∧(!decide (Int.tmod (orI ((mget (ZeI gs) u).getD 0) ((mget (ZeI gs) anyone).getD 0)) 2=0))=Zg4 (ZbF gs u) 1∧(!decide (Int.tmod (Int.tdiv (orI ((mget (ZeI gs) u).getD 0) ((mget (ZeI gs) anyone).getD 0)) 2) 2=0))=Zg4 (ZbF gs u) 2:=by
  obtain ⟨a0,a1⟩:=Zmb u (ZeU h)
  obtain ⟨b0,b1⟩:=Zmb anyone (ZeU h)
  have hs:=ZoE h
  have e1 :∀k,k<6→Zg4 (ZbF gs u) (Zbt k)=(Zg4 ((mget (ZeI gs) u).getD 0) (Zbt k) || Zg4 ((mget (ZeI gs) anyone).getD 0) (Zbt k)):=fun k hk=>by
    rw [ZnN hk,Zte,ZjP u _ (ZmK hk) hs,ZjP anyone _ (ZmK hk) hs]
  generalize (mget (ZeI gs) u).getD 0=a at *
  generalize (mget (ZeI gs) anyone).getD 0=b at *
  obtain ⟨n,rfl⟩:=Int.eq_ofNat_of_zero_le a0
  obtain ⟨m,rfl⟩:=Int.eq_ofNat_of_zero_le b0
  obtain ⟨t1,t2,t3,t4,t5⟩:=ZuJ n (by omega) m (by omega)
  have h0:=e1 0 (by omega)
  exact ⟨by rw [t3 k hk,e1 k hk],t1,t2,by rw [t4];exact h0.symm,by rw [t5];exact (e1 1 (by omega)).symm⟩
theorem Zkr {x:DHost} {u:Str} (h:ZA x=true) (hu:0≤Zdw x.users u):Zaj u=true:=by
  obtain ⟨w,hw,rfl⟩:=Zcc.1 hu
  have:=ZgI (ZgR h) hw
  simp only [Zcq,Bool.and_eq_true] at this
  exact this.1.1.1
theorem Znw {x:DHost} {f:DFolder} {u:Str} (h:ZA x=true) (hf:f∈x.folders) (hu:0≤Zdw x.users u):Ze7 f.grants f.owner u=if u=f.owner then 63 else orI ((mget (ZeI f.grants) u).getD 0) ((mget (ZeI f.grants) anyone).getD 0):=by
  have hi:=(ZaO.1 h).2.1.1 f hf
  simp only [Z1,Bool.and_eq_true,decide_eq_true_eq] at hi
  rw [Ze7,if_neg (fun hc=>hc ⟨hi.1.2,Zkr h hi.1.1.1,Zkr h hu⟩)]
theorem ZsO {x:DHost} {f:DFolder} (h:ZA x=true) (hf:f∈x.folders):ZbK f.grants=true:=by
  have hi:=(ZaO.1 h).2.1.1 f hf
  simp only [Z1,Bool.and_eq_true] at hi
  exact hi.1.2
theorem ZpF {x:DHost} {f:DFolder} {u:Str} {k:Nat} (h:ZA x=true) (hf:f∈x.folders) (hk:k<6):ZpG x.users f u (Zbt k)=(decide (0≤Zdw x.users u) && ZiP f u (Zbt k)):=by
  rw [ZpG,Zmq h]
  by_cases hu:0≤Zdw x.users u
  · rw [Znw h hf hu,ZiP]
    obtain ⟨r1,r2,r3,r4,r5⟩:=ZkL (gs:=f.grants) (u:=u) (ZsO h hf) hk
    by_cases ho:u=f.owner
    · rw [if_pos ho,decide_eq_true ho,Ztc k hk];simp
    · rw [if_neg ho,decide_eq_false ho,r1,decide_eq_true r2];simp [Zg4]
  · simp [hu]
theorem ZsZ {x:DHost} {f:DFolder} {u:Str} (h:ZA x=true) (hf:f∈x.folders) (hu:0≤Zdw x.users u):(!decide (Int.tmod (Ze7 f.grants f.owner u) 2=0))=ZiP f u 1∧(!decide (Int.tmod (Int.tdiv (Ze7 f.grants f.owner u) 2) 2=0))=ZiP f u 2∧0≤Ze7 f.grants f.owner u∧Ze7 f.grants f.owner u≤63:=by
  rw [Znw h hf hu,ZiP,ZiP]
  obtain ⟨r1,r2,r3,r4,r5⟩:=ZkL (gs:=f.grants) (u:=u) (ZsO h hf) (k:=0) (by omega)
  by_cases ho:u=f.owner
  · rw [if_pos ho,decide_eq_true ho];exact ⟨rfl,rfl,by omega,by omega⟩
  · rw [if_neg ho,decide_eq_false ho,r4,r5];exact ⟨by simp [Zg4],by simp [Zg4],r2,r3⟩
def Zkd:Nat→Int→Int→Bool
  | 0,_,_=>true
  | n+1,a,b=>if b≤0 then true else if Int.tmod b 2=1∧Int.tmod a 2=0 then false else Zkd n (Int.tdiv a 2) (Int.tdiv b 2)
theorem Znv (a:Int):Zkd 1 a 1 = !decide (Int.tmod a 2=0):=by
  rw [Zkd,if_neg (by decide)]
  by_cases h:Int.tmod a 2=0
  · rw [if_pos ⟨by decide,h⟩,decide_eq_true h];rfl
  · rw [if_neg (fun hc=>h hc.2),decide_eq_false h];rfl
theorem Zsg (a:Int):Zkd 2 a 2 = !decide (Int.tmod (Int.tdiv a 2) 2=0):=by
  rw [Zkd,if_neg (by decide),if_neg (fun hc=>absurd hc.1 (by decide)),show Int.tdiv 2 2=1 from rfl,Znv]
theorem ZpZ {a:Int} (h1 : -100≤a) (h2:a≤100) : -100≤Int.tdiv a 2∧Int.tdiv a 2≤100∧(0≤a→0≤Int.tdiv a 2)∧(0<a→Int.tdiv a 2≤a - 1):=by
  rcases Int.le_total 0 a with h | h
  · rw [Int.tdiv_eq_ediv_of_nonneg h];omega
  · have e:Int.tdiv a 2 = -((-a) / 2):=by
      rw [← Int.tdiv_eq_ediv_of_nonneg (by omega:0≤-a),Int.neg_tdiv,Int.neg_neg]
    rw [e];omega
theorem Zsi {n:Nat} {a b:Int} (h:b≤0):Zkd n a b=true:=by
  cases n with
  | zero=>rfl
  | succ n=>rw [Zkd,if_pos h]
theorem Zsh {n:Nat} {a b:Int} (h:0<b) (hn:b≤n) (h1:Int.tmod b 2=1) (h2:Int.tmod a 2=0):Zkd n a b=false:=by
  obtain ⟨k,rfl⟩ :∃k,n=k+1:=⟨n - 1,by omega⟩
  rw [Zkd,if_neg (by omega),if_pos ⟨h1,h2⟩]
theorem Zlv {n:Nat} {a b:Int} (h:0<b) (hn:b≤n) (h1 : ¬ (Int.tmod b 2=1∧Int.tmod a 2=0)):Zkd n a b=Zkd (n - 1) (Int.tdiv a 2) (Int.tdiv b 2):=by
  obtain ⟨k,rfl⟩ :∃k,n=k+1:=⟨n - 1,by omega⟩
  rw [Zkd,if_neg (by omega),if_neg h1];rfl
def Zb3 (x:DHost) (u o n:Str):Int:=if (Zae x o n).2=true then Ze7 (Zae x o n).1.grants o u else 0
theorem ZnO {x:DHost} {u o n:Str} (h:(Zae x o n).2=false):Zb3 x u o n=0:=by rw [Zb3,if_neg (by rw [h];exact Bool.false_ne_true)]
theorem ZhH {x:DHost} {u o n:Str} (h:(Zae x o n).2=true):Zb3 x u o n=Ze7 (Zae x o n).1.grants o u:=by rw [Zb3,if_pos h]
theorem Zl2 {x:DHost} {f:DFolder} {u:Str} (h:ZA x=true) (hf:f∈x.folders):Zb3 x u f.owner f.name=Ze7 f.grants f.owner u:=by
  rw [ZhH (by rw [Ze9 h hf]),Ze9 h hf]
end Go.BL
namespace Go.BL
open Go
set_option linter.unusedVariables false
set_option linter.unusedSimpArgs false
end Go.BL
namespace Go.BL
open Go
set_option linter.unusedVariables false
set_option linter.unusedSimpArgs false
end Go.BL
namespace Go.BL
open Go
set_option linter.unusedVariables false
set_option linter.unusedSimpArgs false
def ZlG (us:List DUser) (fs:List DFolder) (u o n:Str) (r:Int):Nat:=
  if ZaD (inF o n) fs<0 then 1 else match fs[(ZaD (inF o n) fs).toNat]? with
    | none=>1
    | some f=>if ZpG us f u 1=false then 1 else if ZpG us f u r=false then 2 else 0
theorem Zqx {us:List DUser} {fs:List DFolder} {u o n:Str} {r:Int} (h:ZaD (inF o n) fs<0):ZlG us fs u o n r=1:=by rw [ZlG,if_pos h]
theorem Zj8 {us:List DUser} {fs:List DFolder} {u o n:Str} {r:Int} {f:DFolder} (h : ¬ ZaD (inF o n) fs<0) (hf:fs[(ZaD (inF o n) fs).toNat]? = some f):ZlG us fs u o n r=if ZpG us f u 1=false then 1 else if ZpG us f u r=false then 2 else 0:=by
  rw [ZlG,if_neg h,hf]
theorem ZtW (us:List DUser) (fs:List DFolder) (u o n:Str) (r:Int):ZlG us fs u o n r<3:=by
  unfold ZlG
  split
  · omega
  · split
    · omega
    · split
      · omega
      · split <;> omega
theorem ZtX {x:DHost} {u o n:Str} {k:Nat} (h:ZA x=true) (hk:k<6):((ZlG x.users x.folders u o n (Zbt k):Nat):Int)=Zf9 x.users x.folders u (ZaD (inF o n) x.folders) (Zbt k):=by
  by_cases h0:ZaD (inF o n) x.folders<0
  · rw [Zqx h0,Zj9 (.inr h0)];rfl
  · have hl:=ZcG (inF o n) x.folders
    obtain ⟨f,hf⟩:=Zd7 (xs:=x.folders) (i:=ZaD (inF o n) x.folders) (by omega) (by omega)
    have hm:=List.mem_of_getElem? hf
    rw [Zj8 h0 hf]
    have e1:ZpG x.users f u 1=(decide (0≤Zdw x.users u) && ZiP f u 1):=ZpF (k:=0) h hm (by omega)
    rw [e1,ZpF h hm hk]
    by_cases hu:Zdw x.users u<0
    · rw [Zj9 (.inl hu),decide_eq_false (by omega)];rfl
    · rw [Zqy (by omega) hf,decide_eq_true (by omega)]
      cases ZiP f u 1 <;> cases ZiP f u (Zbt k) <;> rfl
def ZlE (x:DHost) (s:DSess) (o n:Str):DSess × Int:=
  if ZA x=true then (if Zf9 x.users x.folders s.user (ZaD (inF o n) x.folders) 2=0 then (⟨s.user,o,n⟩,0) else (s,Zf9 x.users x.folders s.user (ZaD (inF o n) x.folders) 2)) else (⟨[],[],[]⟩,5)
theorem ZjF {x:DHost} {s:DSess} {o n:Str} (h:ZA x=false):ZlE x s o n=(⟨[],[],[]⟩,5):=by rw [ZlE,if_neg (by rw [h];exact Bool.false_ne_true)]
theorem Zl0 {x:DHost} {s:DSess} {o n:Str} (h:ZA x=true) (hc:Zf9 x.users x.folders s.user (ZaD (inF o n) x.folders) 2≠0):ZlE x s o n=(s,Zf9 x.users x.folders s.user (ZaD (inF o n) x.folders) 2):=by rw [ZlE,if_pos h,if_neg hc]
theorem ZjE {x:DHost} {s:DSess} {o n:Str} (h:ZA x=true) (hc:Zf9 x.users x.folders s.user (ZaD (inF o n) x.folders) 2=0):ZlE x s o n=(⟨s.user,o,n⟩,0):=by rw [ZlE,if_pos h,if_pos hc]
theorem Zr7 {x:DHost} {u o n:Str} (h:ZA x=true):((ZlG x.users x.folders u o n 2:Nat):Int)=Zf9 x.users x.folders u (ZaD (inF o n) x.folders) 2:=ZtX (k:=1) h (by omega)
end Go.BL
namespace Go.BL
open Go
set_option linter.unusedVariables false
set_option linter.unusedSimpArgs false
end Go.BL
namespace Go.BL
open Go
set_option linter.unusedVariables false
set_option linter.unusedSimpArgs false
theorem ZrJ {α:Type} {p:α→Bool} {xs:List α} {x:α} (h:0≤ZaD p xs) (hx:xs[(ZaD p xs).toNat]? = some x):p x=true:=by
  unfold ZaD at h hx
  cases hq:xs.findIdx? p with
  | none=>rw [hq] at h;exact absurd h (by decide)
  | some i=>
    rw [hq] at hx
    obtain ⟨hl,hp,_⟩:=List.findIdx?_eq_some_iff_getElem.1 hq
    simp only [Int.toNat_natCast] at hx
    rw [List.getElem?_eq_getElem hl] at hx
    cases hx;exact hp
theorem Zpj {x:DHost} {s:DSess} {o n:Str} (h:(ZlE x s o n).2=0):ZlE x s o n=(⟨s.user,o,n⟩,0)∧-1≤Zb3 x s.user o n∧Zb3 x s.user o n≤63∧Zkd 1 (Zb3 x s.user o n) 1=true∧Zkd 2 (Zb3 x s.user o n) 2=true:=by
  have hok:ZA x=true:=by
    cases hh:ZA x with
    | true=>rfl
    | false=>rw [ZjF hh] at h;cases h
  have hc:Zf9 x.users x.folders s.user (ZaD (inF o n) x.folders) 2=0:=by
    apply Decidable.byContradiction;intro hc;rw [Zl0 hok hc] at h;exact hc h
  obtain ⟨hu,hk,f,hf,c1,c2⟩:=Zdp hc
  have hp:=ZrJ hk hf
  simp only [inF,Bool.and_eq_true,decide_eq_true_eq] at hp
  obtain ⟨rfl,rfl⟩:=hp
  have hm:=List.mem_of_getElem? hf
  obtain ⟨s1,s2,s3,s4⟩:=ZsZ hok hm hu
  have e:=Zl2 (u:=s.user) hok hm
  refine ⟨ZjE hok hc,by omega,by omega,?_,?_⟩
  · rw [e,Znv,s1];exact c1
  · rw [e,Zsg,s2];exact c2
end Go.BL
namespace Go.BL
open Go
set_option linter.unusedVariables false
set_option linter.unusedSimpArgs false
end Go.BL
namespace Go.BL
open Go
set_option linter.unusedVariables false
set_option linter.unusedSimpArgs false
end Go.BL
namespace Go.BL
section
variable {P:PJ} {n:Nat} {ops:Array Oper} {i:Nat} {K:ZaF} {S:Env} {D:List Deferred} {B:Kn} {L:List Cells}
variable {dst:Option Tmp} {ty:TypeId} {pos:String} {after:Array Edge} {g:Option (Nat × Bool)}
end
end Go.BL
