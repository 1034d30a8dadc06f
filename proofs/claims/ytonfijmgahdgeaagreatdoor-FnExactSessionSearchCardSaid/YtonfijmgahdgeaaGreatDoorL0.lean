/-
  THE WALK'S LOGIC: owned cells and known cells, goroutines started and awaited, calls, loops, data, and plain laws on lists: no program in sight.
-/
import Derived.Test.YtonfijmgahdgeaaGreatDoorQ0
import Derived.Test.YtonfijmgahdgeaaGreatDoorB2
import Derived.Conc.Fork
import Derived.Conc.CrowdRun
import Derived.Conc.MuLib
set_option linter.unusedVariables false
set_option linter.unusedSimpArgs false
set_option linter.unusedSectionVars false
namespace Go.BL
open Go.Conc Go.ConcN Go.RowKit Go.Conc.Lib Go.ConcR.Gen Go.ConcN.Gen
open Go.ConcR (KK wgBlock WgAt stA smA rd wr mk Payload)
def fb (f:FuncId) (kind:CallKind):Frame:={ fn:=f,tmps:=#[],todo:=[],defers:=[],mode:=.run,kind:=kind }
theorem ZdN (f:FuncId) (kind:CallKind) (T:Array Value) (D:List Deferred) (todo:List Item):fat (fb f kind) T D todo=(fb f kind).at ⟨T,D⟩ todo:=rfl
section
variable {P:PJ} {n:Nat} {ops:Array Oper} {i:Nat} {S:Env} {D:List Deferred} {B:Kn} {L:List Cells}
theorem Zwp {C:Cx P} {o:Oper} {f:FuncId} {vs:List Value} (hg:Zk ops S o.guard=some true)
  (hv :∀ρ:Operand→Value,(∀x u,ev S x=some u→ρ x=u)→∀(Q:Next→Kn→Cells→Prop) F,Q (.enter f vs.toArray) B (L.flatten ++ F)→hb P (execOp ρ o) Q B (L.flatten ++ F)) (hnd:Zid o.op=false)
  {todo:List Nat} {k:List Item} {T:Array Value} (ho:ops[i]? = some o) (hT:Ag T S)
  (h:C.X.R (G (Frame.enter P f vs.toArray .normal) (fat C.b T D (.inRegion ops (i :: todo) :: k) :: C.cs)) B (L.flatten ++ C.F)):C.X.R (G (fat C.b T D (.inRegion ops (i :: todo) :: k)) C.cs) B (L.flatten ++ C.F):=by
 refine C.X.step rfl fun w s=>?_
 obtain ⟨a,w',es,B',L',h1,h2,h3,rfl,rfl,rfl⟩:=Zcq _ _ _ _ (hv (evT T) (fun x v hx=>ZeL hT hx) (fun nx B' L'=>nx = .enter f vs.toArray∧B'=B∧L'=L.flatten ++ C.F) C.F ⟨rfl,rfl,rfl⟩) w #[] s
 simp only [Array.empty_append] at h1
 rw [ZjL hnd ho (ZbW hT hg)]
 have hk:(fat C.b T D (.inRegion ops (i :: todo) :: k)).kind≠.early:=C.early
 exact ⟨_,w',_,B',L.flatten ++ C.F,Zf3 hk (by intro a b c d r;simp [fat]) h1,fun e he=>h2 e (ZbY he),h3,h⟩
end
section
variable [Payload] (P:Program) (ty:TypeId) (Wg C n:Nat) (val:Nat→Value) (K:Goroutine→Kn→Cells→Prop)
def phL (p:PTag) (j:Nat):Lg (.lone P) where
 main:=true
 R:=PhaseR P ty Wg C n val K p j
 conv:=fun hle hs hb hl h=>.conv hle hs hb hl h
 step:=fun hg h=>PhaseR.step (by rw [hg];rfl) fun w s _=>let ⟨g',w',es,B',L',h1,h2,h3,h4⟩:=h w s;⟨g',w',es,B',L',h1,fun e he=>.inl (h2 e he),h3,h4⟩
 join:=fun h=>h.elim
def Zy0 (i:Nat) (v:Value):Lg (.lone P) where
 main:=false
 R:=ZeF P ty Wg C n i v
 conv:=fun hle hs hb hl h=>ZeF.conv hle hs hb hl h
 step:=fun hg h=>ZeF.step hg h
 join:=fun h=>h.elim
end
section
variable [Payload] {Lk:WgLink} {P:Program} {ty:TypeId} {Wg C n N:Nat} {val:Nat→Value} {K:Goroutine→Kn→Cells→Prop} {j:Nat} {B:Kn} {Lc:Cells} {f:FuncId} {kind:CallKind} {cs:List Frame} {ops:Array Oper} {i:Nat} {todo:List Nat} {k:List Item} {T:Array Value} {S:Env} {D:List Deferred}
 {dst:Option Tmp} {t':TypeId} {pos:String} {after:Array Edge} {ats:Array TypeId}
theorem Zlq (T:Array Value) (D:List Deferred) (dst:Option Tmp) (v:Value):Act.put ⟨T,D⟩ dst v=⟨putT T dst v,D⟩:=by cases dst <;> rfl
theorem Zju {fn:Func} {c:Code} {args:Array Value} (hf:P.funcs[f]? = some fn) (hb:fn.body=some c):Frame.enter P f args .normal=(base f).at ⟨args ++ Array.replicate (fn.ntmps - args.size) undef,[]⟩ [.code c]:=by
 simp [Frame.enter,hf,hb,base,Frame.at]
set_option maxRecDepth 100000 in
theorem ZzH (H:WgLib P Lk) (hj:j<n) {x y:Operand} (ho:ops[i]? = some ⟨dst,.call ⟨.value (.func Lk.add),#[x,y],ats⟩,t',pos,after,none⟩) (he:enters P Lk.add=true) (hx:ev S x=some (.pointer (some ⟨Wg,0,none⟩))) (hy:ev S y=some (.int .i64 1)) (hT:Ag T S) (hk:kind≠.early)
  (h:PhaseR P Lk.tWg Wg C n val K .a2 j (G (fat (fb f kind) (putT T dst (.tuple #[])) D (.inRegion ops todo :: k)) cs) B Lc):PhaseR P Lk.tWg Wg C n val K .a5 j (G (fat (fb f kind) T D (.inRegion ops (i :: todo) :: k)) cs) B Lc:=by
 have key:=Zwp (P:=.lone P) (C:=⟨phL P Lk.tWg Wg C n val K .a5 j,fb f kind,cs,[],hk⟩) (L:=[Lc]) (B:=B) (D:=D) (k:=k) (todo:=todo) (vs:=[.pointer (some ⟨Wg,0,none⟩),.int .i64 1]) (f:=Lk.add) (S:=S) (T:=T) rfl (fun ρ hρ Q F q=>by
   have:=ZeD (P:=.lone P) (B:=B) (L:=[Lc]) (dst:=dst) (ty:=t') (pos:=pos) (after:=after) (g:=none) (x:=.func Lk.add) (first:=#[]) (cap:=#[]) (ats:=ats) (S:=S) (xs:=[x,y]) (vs:=[.pointer (some ⟨Wg,0,none⟩),.int .i64 1]) he rfl (by simp [evs,hx,hy]) ρ hρ Q F
   exact this (by simpa using q)) rfl ho hT
 simp only [List.flatten_cons,List.flatten_nil,List.append_nil] at key
 refine key ?_
 have e:=Zju (args:=#[.pointer (some ⟨Wg,0,none⟩),.int .i64 1]) H.f_add (c:=body_add Lk) rfl
 have:=ZF0 (a₀:=⟨T,D⟩) (b₀:=fb f kind) (ops₀:=ops) (i₀:=i) (rest₀:=todo) (k₀:=k) (cs:=cs) H hj (by rw [ho];simp only [Option.bind_some,Zlq];exact h) _ (ZF1 Lk Wg)
 show PhaseR P Lk.tWg Wg C n val K .a5 j (G (Frame.enter P Lk.add #[.pointer (some ⟨Wg,0,none⟩),.int .i64 1] .normal) _) B Lc
 rw [e]
 exact this
set_option maxRecDepth 100000 in
theorem Zxu {Jn:JoinT} {X:Lg ⟨P,Jn⟩} (H:WgLib P Lk) (hn:n<2147483648) {x:Operand} (ho:ops[i]? = some ⟨dst,.call ⟨.value (.func Lk.wait),#[x],ats⟩,t',pos,after,none⟩) (he:enters P Lk.wait=true) (hx:ev S x=some (.pointer (some ⟨Wg,0,none⟩))) (hT:Ag T S) (hk:kind≠.early)
  (hK :∀g B L,X.R g B L→K g B L) (h:X.R (G (fat (fb f kind) (putT T dst (.tuple #[])) D (.inRegion ops todo :: k)) cs) B ((C,.cells ((List.range n).map val).toArray Payload.ety (0,0)) :: Lc)):PhaseR P Lk.tWg Wg C n val K .a5 n (G (fat (fb f kind) T D (.inRegion ops (i :: todo) :: k)) cs) B Lc:=by
 have key:=Zwp (P:=.lone P) (C:=⟨phL P Lk.tWg Wg C n val K .a5 n,fb f kind,cs,[],hk⟩) (L:=[Lc]) (B:=B) (D:=D) (k:=k) (todo:=todo) (vs:=[.pointer (some ⟨Wg,0,none⟩)]) (f:=Lk.wait) (S:=S) (T:=T) rfl (fun ρ hρ Q F q=>by
   have:=ZeD (P:=.lone P) (B:=B) (L:=[Lc]) (dst:=dst) (ty:=t') (pos:=pos) (after:=after) (g:=none) (x:=.func Lk.wait) (first:=#[]) (cap:=#[]) (ats:=ats) (S:=S) (xs:=[x]) (vs:=[.pointer (some ⟨Wg,0,none⟩)]) he rfl (by simp [evs,hx]) ρ hρ Q F
   exact this (by simpa using q)) rfl ho hT
 simp only [List.flatten_cons,List.flatten_nil,List.append_nil] at key
 refine key ?_
 have e:=Zju (args:=#[.pointer (some ⟨Wg,0,none⟩)]) H.f_wait (c:=body_wait Lk) rfl
 have:=ZBh (a₀:=⟨T,D⟩) (b₀:=fb f kind) (ops₀:=ops) (i₀:=i) (rest₀:=todo) (k₀:=k) (cs:=cs) (X:=X) H hn hK (by rw [ho];simp only [Option.bind_some,Zlq];exact h) _ (ZBj Lk Wg)
 show PhaseR P Lk.tWg Wg C n val K .a5 n (G (Frame.enter P Lk.wait #[.pointer (some ⟨Wg,0,none⟩)] .normal) _) B Lc
 rw [e]
 exact this
def Zf2 (P:Program):Frame:={ (default:Frame) with fn:=P.funcs.size,defers:=[],mode:=.panicking [goexitEntry] }
theorem ZBV {x:Operand} {h:FuncId} {caps:List Value} {fn:Func} {code:Code} (ho:ops[i]? = some ⟨dst,.go ⟨.value x,#[],ats⟩,t',pos,after,none⟩) (hx:ev S x=some (.func (.func h) #[] caps.toArray)) (hT:Ag T S) (hk:kind≠.early) (hf:P.funcs[h]? = some fn) (hb:fn.body=some code) (hname:(fn.name == "runtime.NumGoroutine")=false)
  (hc:ZeF P ty Wg C n j (val j) (G (Frame.enter P h caps.toArray .deferred) [Zf2 P]) B []) (hnext:PhaseR P ty Wg C n val K .a5 (j+1) (G (fat (fb f kind) (putT T dst undef) D (.inRegion ops todo :: k)) cs) B Lc) :
  PhaseR P ty Wg C n val K .a2 j (G (fat (fb f kind) T D (.inRegion ops (i :: todo) :: k)) cs) B Lc:=by
 have hev:evT T x = .func (.func h) #[] caps.toArray:=ZeL hT hx
 have hr :∀w,(execOp (Act.eval ⟨T,D⟩) ⟨dst,.go ⟨.value x,#[],ats⟩,t',pos,after,none⟩).run P w = .ok (.spawn ⟨.fn (.func h) caps.toArray,#[]⟩) w:=fun w=>by
  have e:Act.eval ⟨T,D⟩ x = .func (.func h) #[] caps.toArray:=by rw [← hev];cases x <;> rfl
  unfold execOp
  simp [resolve,Deferred.ofValue,e]
 have hl :∀w,(execOp (Act.eval ⟨T,D⟩) ⟨dst,.go ⟨.value x,#[],ats⟩,t',pos,after,none⟩).events P w #[] = #[]:=fun w=>by
  have e:Act.eval ⟨T,D⟩ x = .func (.func h) #[] caps.toArray:=by rw [← hev];cases x <;> rfl
  unfold execOp
  simp [resolve,Deferred.ofValue,e]
 rw [ZdN]
 refine PhaseR.go (g':=G (fat (fb f kind) (putT T dst undef) D (.inRegion ops todo :: k)) cs) (child:=born P ⟨.fn (.func h) caps.toArray,#[]⟩) rfl (fun w s=>?_) ?_ hnext
 ·rw [stepG_spawn (a:=⟨T,D⟩) ho rfl hk (hr w) rfl,Zlq,← ZdN]
  unfold listed
  rw [hl w,seen_none]
 ·refine ZeF.step rfl fun w s=>⟨_,w,#[],B,[],?_,by simp,Ok.refl s,hc⟩
  have h1 : ¬ fn.name = "runtime.NumGoroutine":=by simpa using hname
  simp [born,stepG,unwind,callDeferred,invoke,callFunc,hf,h1,hb,GStep.after,seen_none,G,Zf2]
end
end Go.BL
namespace Go.BL
open Go.Conc Go.ConcN Go.RowKit Go.Conc.Lib Go.ConcR.Gen Go.ConcN.Gen
open Go.ConcR (KK wgBlock WgAt stA smA rd wr mk Payload)
section
variable [Payload] {Lk:WgLink} {P:Program} {ty:TypeId} {Wg C n nt:Nat} {i:Nat} {v:Value} {B:Kn} {L:Cells} {h:FuncId} {fn:Func} {ops:Array Oper} {m:Nat} {T:Array Value} {S:Env}
 {dst:Option Tmp} {t t':TypeId} {pos:String} {after:Array Edge} {ats:Array TypeId} {x y:Operand}
theorem ZBr (hf:P.funcs[h]? = some fn) (hr:fn.results = #[]) (T:Array Value) (todo:List Item):QuitsD P 2 0 (G { (fb h .deferred).at ⟨T,[]⟩ todo with mode:=.returning } [Zf2 P]):=by
 refine QuitsD.ctl (g':=G (Zf2 P) []) rfl (fun w=>?_) ?_
 ·simp [G,stepG,unwind,doReturn,results,Frame.at,fb,Zf2,hf,hr,seen,GStep.after,goexitEntry]
 refine QuitsD.ctl (g':={ G (Zf2 P) [] with status:=.finished }) rfl (fun w=>?_) ⟨rfl,rfl⟩
 simp [G,stepG,unwind,Zf2,goexitEntry,Frame.catches]
 rfl
theorem Zpf {main:Bool} {b:Frame} {a:Act} {k:List Item} {cs:List Frame} {w:World} {rest:List Nat} {o:Oper} (ho:ops[m]? = some o) (hw:Region.wanted o (yielded ops a.tmps)=true) (hk:b.kind≠.early) (hop:o.op = .store t x y) (hs :∀w,(sizeOf t).run P w = .ok 1 w) (hse :∀w es,(sizeOf t).events P w es=es)
  {ad:Addr} {u:Value} {q:Bool} (hx:a.eval x = .pointer (some ad)) (hy:a.eval y = .bool q) (hc:w.cell? ad=some u) (hz:w.frozen? ad=false) (hq:(P.funcs[b.fn]?).any (·.norace)=false) :
  stepG P main (G (b.at a (.inRegion ops (m :: rest) :: k)) cs) w = .go (G (b.at (a.put o.dst undef) (.inRegion ops rest :: k)) cs) (w.setCell ad (.bool q)) #[⟨.cell ad,true,false⟩]:=by
 have hr:(execOp a.eval o).run P w = .ok .skip (w.setCell ad (.bool q)):=by
  unfold execOp
  simp only [hop,hx,hy]
  simp [go_sem,stored,hc,hz,hs]
 have he:(execOp a.eval o).events P w #[] = #[⟨.cell ad,true,false⟩]:=by
  unfold execOp
  simp only [hop,hx,hy]
  simp [go_sem,storedEv,hc,hz,hs,hse]
  rw [events_store P w _ ad (.bool q) .plain rfl]
  simp [storedEv,hc,hz]
 rw [stepG_none ho hw hk hr]
 unfold listed
 rw [he,seen_eq hq (by simp)]
theorem Zqv (H:WgLib P Lk) {q:Bool} {D:List Deferred} (hD:D=[dcall Lk.done #[.pointer (some ⟨Wg,0,none⟩)]]) (hin:i<n) (ho:ops[m]? = some ⟨none,.store t x y,t',pos,after,none⟩) (hs :∀w,(sizeOf t).run P w = .ok 1 w) (hse :∀w es,(sizeOf t).events P w es=es)
  (hx:ev S x=some (.pointer (some ⟨C,i,none⟩))) (hy:ev S y=some (.bool q)) (hT:Ag T S) (hq:(P.funcs[h]?).any (·.norace)=false) (hf:P.funcs[h]? = some fn) (hr:fn.results = #[]) :
  ZeF P Lk.tWg Wg C n i (.bool q) (G (fat (fb h .deferred) T D [.inRegion ops [m]]) [Zf2 P]) B L:=by
 subst hD
 have e1:Act.eval ⟨T,[dcall Lk.done #[.pointer (some ⟨Wg,0,none⟩)]]⟩ x = .pointer (some ⟨C,i,none⟩):=by have:=ZeL hT hx;rw [← this];cases x <;> rfl
 have e2:Act.eval ⟨T,[dcall Lk.done #[.pointer (some ⟨Wg,0,none⟩)]]⟩ y = .bool q:=by have:=ZeL hT hy;rw [← this];cases y <;> rfl
 rw [ZdN]
 refine ZeF.stop rfl fun w s ⟨cs,hc,hn⟩=>⟨_,Zpf (a:=⟨T,[dcall Lk.done #[.pointer (some ⟨Wg,0,none⟩)]]⟩) (u:=cs[i]'(by omega)) ho rfl (by simp [fb]) rfl hs hse e1 e2 (by simp [World.cell?,hc,hn,hin]) (by simp [World.frozen?,hc]) hq,fun w' hl hh=>⟨26,?_⟩⟩
 have hK:WgLive Lk.tWg Wg w'∧Has C i (.bool q) w':=⟨hl,hh⟩
 simp only [Zlq,putT]
 u_c stepG_region_end kn_rely hK
 u_c stepG_end kn_rely hK
 u_in kn_rely hK
 rw [stepG_unwind_enter rfl H.f_done (nm_done Lk) rfl]
 simp only [goes_go]
 refine ⟨by u_nil,?_⟩
 have:=doneN H (Own:=FF) (Rd:=FF) (C:=C) (n:=n) (Low:=0) (k:=i+1) (val:=.bool q) (c:={ (fb h .deferred).at ⟨T,[]⟩ [] with mode:=.returning }) (cs:=[Zf2 P]) (qt:=2) rfl (ZBr hf hr T []) _ hK
 exact this
theorem Zf7 (hT:Ag T S) (H:WgLib P Lk) {q q0:Bool} {D:List Deferred} (hq0:q=q0) (hD:D=[dcall Lk.done #[.pointer (some ⟨Wg,0,none⟩)]]) (hin:i<n) (ho:ops[m]? = some ⟨none,.store t x y,t',pos,after,none⟩) (hs :∀w,(sizeOf t).run P w = .ok 1 w) (hse :∀w es,(sizeOf t).events P w es=es)
  (hx:ev S x=some (.pointer (some ⟨C,i,none⟩))) (hy:ev S y=some (.bool q)) (hq:(P.funcs[h]?).any (·.norace)=false) (hf:P.funcs[h]? = some fn) (hr:fn.results = #[]) :
  ZeF P Lk.tWg Wg C n i (.bool q0) (G (fat (fb h .deferred) T D [.inRegion ops [m]]) [Zf2 P]) B L:=by
 subst hq0
 exact Zqv H hD hin ho hs hse hx hy hT hq hf hr
def wc (P:Program) (ty:TypeId) (Wg C n i:Nat) (v:Value) (h:FuncId):Cx (.lone P):=⟨Zy0 P ty Wg C n i v,fb h .deferred,[Zf2 P],[],by simp [fb]⟩
theorem ZwS (H:WgLib P Lk) {id0 id1:Nat} {l:List Oper} {caps:List Value} {s0:Nat} {I:Kn→List Cells→Prop} {K:Zag} (hf:P.funcs[h]? = some fn)
  (hb:fn.body=some (.seq (.region id0 #[⟨none,.defer ⟨.value (.func Lk.done),#[.tmp s0],ats⟩,t',pos,after,none⟩] false) (.region id1 l.toArray true))) (hn:fn.ntmps=nt) (hc:caps.length≤nt) (hs0:get (ZdA caps 0) s0=some (.pointer (some ⟨Wg,0,none⟩)))
  (hm:P.follows .mixedOrders=true) (hd:Zdw l.toArray=true) (hI:I B []) (hK :∀S D B L,¬ K S D B L)
  (hw:Zbr (wc P Lk.tWg Wg C n i v h) [] nt l.toArray I [] K (ZdA caps 0) [dcall Lk.done #[.pointer (some ⟨Wg,0,none⟩)]] B []) :
  ZeF P Lk.tWg Wg C n i v (G (Frame.enter P h caps.toArray .deferred) [Zf2 P]) B []:=by
 let T0:Array Value:=caps.toArray ++ Array.replicate (nt - caps.length) undef
 have hen:Frame.enter P h caps.toArray .deferred=fat (fb h .deferred) T0 [] [.code (.seq (.region id0 #[⟨none,.defer ⟨.value (.func Lk.done),#[.tmp s0],ats⟩,t',pos,after,none⟩] false) (.region id1 l.toArray true))]:=by
  simp [Frame.enter,fat,fb,hf,hb,hn,T0]
 have hT:Ag T0 (ZdA caps 0):=fun i v hv=>by
  obtain ⟨_,h2⟩:=Zdl caps 0 i v hv
  have hlt:=ZS (a:=caps.toArray) (i:=i) (x:=v) (by simpa using h2)
  simp only [T0]
  rw [Array.getElem?_append_left hlt]
  simpa using h2
 have hT0:T0.size=nt:=by simp [T0];omega
 rw [hen]
 let X:=Zy0 P Lk.tWg Wg C n i v
 show X.R _ B []
 refine X.ctl rfl (fun w=>Zle) (X.ctl rfl (fun w=>Zgg) ?_)
 show X.R (G (fat (fb h .deferred) T0 [] (.inRegion #[⟨none,.defer ⟨.value (.func Lk.done),#[.tmp s0],ats⟩,t',pos,after,none⟩] [0] :: [.code (.region id1 l.toArray true)])) [Zf2 P]) B []
 have e1:Act.eval ⟨T0,[]⟩ (.tmp s0) = .pointer (some ⟨Wg,0,none⟩):=by
  have:=hT s0 _ hs0
  simp [Act.eval,Array.getD_eq_getD_getElem?,this]
 refine X.ctl (g':=G (fat (fb h .deferred) T0 [dcall Lk.done #[.pointer (some ⟨Wg,0,none⟩)]] (.inRegion #[⟨none,.defer ⟨.value (.func Lk.done),#[.tmp s0],ats⟩,t',pos,after,none⟩] [] :: [.code (.region id1 l.toArray true)])) [Zf2 P]) rfl (fun w=>?_) ?_
 ·rw [ZdN,stepG_defer (a:=⟨T0,[]⟩) (by rfl) rfl (by simp [fb]) rfl]
  simp only [List.map_toArray,List.map_cons,List.map_nil,e1]
  rfl
 refine X.ctl rfl (fun w=>Zcm) ?_
 refine X.step rfl fun w s=>⟨_,_,_,B,[],Zfz,by simp,⟨Kn.le.refl B,⟨s.ro,s.own,s.nodup,s.apart⟩,Nat.le_refl _,fun _ _ _=>rfl,fun b o hb=>.inl (by rw [hb];rfl),fun p hp=>.inl ⟨p,hp,rfl⟩,rfl,rfl,rfl⟩,?_⟩
 exact hw T0 [] [] _ (Zoh (P:=.lone P) hm hd _) (fun i hi=>by cases hi) (fun i hi=>by cases hi) (fun i hi=>by cases hi) (fun p hp=>by cases hp) trivial hT0 trivial hT hI fun S' D' B' L' T' hle hq _ _=>absurd hq (hK _ _ _ _)
end
end Go.BL
namespace Go.BL
open Go.Conc Go.ConcN
theorem Zvm {W w:World} (h:KW W w):W.keptBut w (fun _=>False)∧W.heap.size≤w.heap.size:=by
 refine ⟨⟨h.os,h.output,fun i hi=>?_⟩,h.size⟩
 rw [h.same i hi]
 cases W.heap[i]? with
 | none=>trivial
 | some o=>cases o <;> first | rfl | exact .inr ⟨rfl,rfl⟩ | exact ⟨rfl,rfl,rfl,fun _ _=>rfl⟩
theorem ZxR {W w:World} (h:KW W w):Kept W w:=⟨h.same,Zvm h⟩
theorem FrameS.solo (P:Program) (W:World) (g:Goroutine):FrameS P W (fun _=>False) #[g] W #[] (fun _=>0) g (Zas W) []:=by
 refine ⟨rfl,fun i x hi hx=>?_,⟨noRace_nil,fun i a ha=>by simp [touchAt,Trace.act?] at ha,fun i x hg=>by simp [Trace.g?] at hg,Deaf_absent fun i op hi=>by simp at hi,fun op hop=>by simp at hop⟩,fun op hop=>by simp at hop,ZAW W,fun l hl=>hl.elim,⟨fun _ _=>rfl,Nat.le_refl _,rfl,rfl,rfl⟩,fun p hp=>by cases hp⟩
 have:i<1:=by simpa using (Array.getElem?_eq_some_iff.1 hx).1
 omega
theorem Zxo {P:Program} {f:FuncId} {fn:Func} {code:Code} {t:Tmp} (n:Nat) (hf:P.funcs[f]? = some fn) (hbd:fn.body=some code) (hn:fn.ntmps=n) (hrs:fn.results.toList=[.tmp t]) (hi:P.inits.idxOf? f=none) {args:List Value} (ha:args.length≤n) {Post:Value→Kn→List Cells→Prop} {W:World}
  (h:wpS ⟨P,Zqj P⟩ n code (Zgz ⟨P,Zqj P⟩ [.tmp t] Post) (ZdA args 0) [] (Zas W) []) :
∃M last o w' t',runNT P (M+1) (solo (G (Frame.enter P f args.toArray .normal) []) W) #[]=(.ended o w',t')∧runN P M (solo (G (Frame.enter P f args.toArray .normal) []) W) = .next last∧step P last = .ended o w'∧
   Go.Conc.Good P (fun v w'=>Kept W w'∧∃(B':Kn) (Ls':List Cells),Sat B' Ls'.flatten w'∧Post v B' Ls') last o w' t':=by
 let b0:Frame:={ fn:=f,tmps:=#[],todo:=[],defers:=[],mode:=.run,kind:=.normal }
 let T0:Array Value:=args.toArray ++ Array.replicate (n - args.length) undef
 have hen:Frame.enter P f args.toArray .normal=fat b0 T0 [] [.code code]:=by
  simp [Frame.enter,fat,hf,hbd,hn,b0,T0]
 have hT:Ag T0 (ZdA args 0):=fun i v hv=>by
  obtain ⟨_,h2⟩:=Zdl args 0 i v hv
  have hlt:=ZS (a:=args.toArray) (i:=i) (x:=v) (by simpa using h2)
  simp only [T0]
  rw [Array.getElem?_append_left hlt]
  simpa using h2
 let PostF:Value→World→Prop:=fun v w'=>Kept W w'∧∃(B':Kn) (Ls':List Cells),Sat B' Ls'.flatten w'∧Post v B' Ls'
 have key:=h ⟨Zsq P PostF W,b0,[],[],by simp [b0]⟩ [] T0 (by simp [T0];omega) hT fun e S' D' B' L' T' hle hq hn' hT'=>by
  obtain ⟨he,rfl,vs,Lr,hr,⟨gl,hp⟩,hq⟩:=hq
  have fin :∀fr:Frame,fr.fn=f→fr.mode = .returning→fr.defers=[]→fr.kind = .normal→fr.tmps=T'→(Zsq P PostF W).R (G fr []) B' (L'.flatten ++ []):=fun fr f1 f2 f3 f4 f5=>by
   refine Zbc.ended rfl fun w s kw=>?_
   match vs,hr with
   | [v],⟨h1,_⟩=>
    have hr2:fn.results = #[.tmp t]:=by apply Array.ext';rw [hrs]
    have h2:=hT' t v h1
    refine ⟨v,#[],?_,by simp,ZxR kw,B',Lr,(s.perm (by rw [List.append_nil];exact hp)).left,hq⟩
    simp [G,stepG,f2,unwind,doReturn,f1,f3,f4,hf,results,hr2,f5,Sem.run,Sem.events,Sem.runT,Array.getD_eq_getD_getElem?,h2,Pure.pure,Bind.bind,Sem.bind,Functor.map,seen,GStep.after,hi]
  rcases he with rfl | rfl
  ·refine ⟨rfl,fun todo=>?_⟩
   exact fin _ rfl rfl rfl rfl rfl
  ·exact (Zsq P PostF W).ctl rfl (fun w=>Zi3 rfl) (fin _ rfl rfl rfl rfl rfl)
 rw [hen]
 exact key #[G (fat b0 T0 [] [.code code]) []] W none #[] (fun _=>0) (fun _=>False) (FrameS.solo P W _)
end Go.BL
namespace Go.BL
open Go.Conc Go.ConcN Go.RowKit Go.Conc.Lib
open Go.ConcR (KK wgBlock WgAt stA smA rd wr mk Payload)
def Joins (P:Program) (J:JoinT):Prop:=(∀(main:Bool) (R:Goroutine→Kn→Cells→Prop) (g:Goroutine) (B:Kn) (L:Cells),ZyR P main R g B L→J.rel main R g B L)∧
∀(main:Bool) (R:Goroutine→Kn→Cells→Prop) (g:Goroutine) (B:Kn) (L:Cells),(main=true→g.status = .running∧LockR P R 0 g B L)→J.rel main R g B L
theorem Znt (P:Program):Joins P (Zqj P):=⟨fun main R g B L h=>.base h,fun main R g B L h=>.lock h⟩
theorem ZhH {P:PJ} {f:FuncId} {fn:Func} {code:Code} (n:Nat) (hf:P.funcs[f]? = some fn) (hb:fn.body=some code) (hn:fn.ntmps=n) {args:List Value} (ha:args.length≤n) {B:Kn} {Ls:List Cells} {Post:Value→Kn→List Cells→Prop}
  (h :∀(X:Lg P) (kind:CallKind) (c:Frame) (cs:List Frame) (F:Cells) (T:Array Value),Bk kind c→kind≠.early→(∀v B' Ls',B.le B'→Post v B' Ls'→X.R (G (Zej kind c v) cs) B' (Ls'.flatten ++ F))→T.size=n→Ag T (ZdA args 0)→
   X.R (G (fat (fb f kind) T [] [.code code]) (c :: cs)) B (Ls.flatten ++ F)):Zu P f args B Ls Post:=fun X kind c cs F hk hA=>by
 have hke:kind≠.early:=by rcases hk with rfl | ⟨rfl,_⟩ <;> simp
 have hen:Frame.enter P f args.toArray kind=fat (fb f kind) (args.toArray ++ Array.replicate (n - args.length) undef) [] [.code code]:=by
  simp [Frame.enter,fat,fb,hf,hb,hn]
 rw [hen]
 refine h X kind c cs F _ hk hke hA (by simp;omega) fun i v hv=>?_
 obtain ⟨_,h2⟩:=Zdl args 0 i v hv
 have hlt:=ZS (a:=args.toArray) (i:=i) (x:=v) (by simpa using h2)
 rw [Array.getElem?_append_left hlt]
 simpa using h2
theorem Zys {P:PJ} {X:Lg P} {f:FuncId} {fn:Func} {kind:CallKind} {c:Frame} {cs:List Frame} {F:Cells} {T:Array Value} {code:Code} {n:Nat} {rs:List ResultVar} {S:Env} {B:Kn} {L:List Cells} {Post:Value→Kn→List Cells→Prop} (hf:P.funcs[f]? = some fn) (hrs:fn.results.toList=rs) (hk:Bk kind c) (hke:kind≠.early) (hn:T.size=n) (hT:Ag T S)
  (hA :∀v B' Ls',B.le B'→Post v B' Ls'→X.R (G (Zej kind c v) cs) B' (Ls'.flatten ++ F)) (h:wpS P n code (Zgz P rs Post) S [] B L):X.R (G (fat (fb f kind) T [] [.code code]) (c :: cs)) B (L.flatten ++ F):=
 h ⟨X,fb f kind,c :: cs,F,hke⟩ [] T hn hT fun e S' D' B' L' T' hle hq hn' hT'=>by
  obtain ⟨he,rfl,vs,Lr,hr,⟨gl,hp⟩,hq⟩:=hq
  rw [← hrs] at hr
  rcases he with rfl | rfl
  ·refine ⟨rfl,fun todo=>?_⟩
   exact Zcd hf hk rfl rfl rfl rfl hT' hr hp (hA _ B' Lr hle hq)
  ·exact X.ctl rfl (fun w=>Zi3 rfl) (Zcd hf hk rfl rfl rfl rfl hT' hr hp (hA _ B' Lr hle hq))
theorem Zqh [Payload] {P:Program} {main:Bool} {f:FuncId} {kind:CallKind} {T:Array Value} {D:List Deferred} {ops:Array Oper} {i:Nat} {rest:List Nat} {k:List Item} {cs:List Frame} {w:World} {dst:Option Tmp} {t ty:TypeId} {pos:String} {after:Array Edge} {z:Value} (ho:ops[i]? = some ⟨dst,.alloc t,ty,pos,after,none⟩) (hk:kind≠.early) (hz:ZZ P t=some z) :
  stepG P main (G (fat (fb f kind) T D (.inRegion ops (i :: rest) :: k)) cs) w = .go (G (fat (fb f kind) (putT T dst (ptr ⟨w.heap.size,0,none⟩)) D (.inRegion ops rest :: k)) cs) { w with heap:=w.heap.push (.cells z.cells t) } #[]:=by
 have hi :∃inf,P.info? t=some inf∧inf.zero=some z:=by
  unfold ZZ at hz
  exact Option.bind_eq_some_iff.1 hz
 obtain ⟨inf,h1,h2⟩:=hi
 have hrT:(execOp (Act.eval ⟨T,D⟩) ⟨dst,.alloc t,ty,pos,after,none⟩).runT P w #[]=(.ok (.value (ptr ⟨w.heap.size,0,none⟩)) { w with heap:=w.heap.push (.cells z.cells t) },#[]):=by
  simp only [execOp,Instr.alloc,newVar,newRow,newObj,zeroValue,typeInfo,Go.program,Bind.bind,Pure.pure,Sem.bind,Sem.runT,h1,h2]
 obtain ⟨hr,he⟩:=Zbf (P:=.lone P) hrT
 rw [ZdN,stepG_value ho rfl hk hr]
 unfold listed
 rw [he,seen_none,Zlq,← ZdN]
theorem ZuC [pay:Payload] {P:Program} {J:JoinT} (hJ:Joins P J) {X:Lg ⟨P,J⟩} {f:FuncId} {kind:CallKind} {cs:List Frame} {T:Array Value} {D:List Deferred} {ops:Array Oper} {i:Nat} {todo:List Nat} {k:List Item} {dst:Option Tmp} {t ty:TypeId} {pos:String} {after:Array Edge} {C n:Nat} {val:Nat→Value} {cells:Array Value} {B:Kn} {L L₁:Cells}
  (ho:ops[i]? = some ⟨dst,.alloc t,ty,pos,after,none⟩) (hk:kind≠.early) {z:Value} (hz:ZZ P t=some z) (hzc:z.cells = #[.int .u64 0,.int .u32 0]) (hn:n<2147483648) (hc:cells.size=n) (hp:L.Perm ((C,.cells cells pay.ety (0,0)) :: L₁))
  (h:X.main=true→∀Wg,B.mem Wg=none→(∀p,p∈L→p.1≠Wg)→PhaseR P t Wg C n val X.R .a5 0 (G (fat (fb f kind) (putT T dst (ptr ⟨Wg,0,none⟩)) D (.inRegion ops todo :: k)) cs) B L₁) :
  X.R (G (fat (fb f kind) T D (.inRegion ops (i :: todo) :: k)) cs) B L:=by
 refine X.join (hJ.1 _ _ _ _ _ fun hm=>⟨rfl,pay,t,C,n,val,cells,L₁,fun b=>G (fat (fb f kind) (putT T dst (ptr ⟨b,0,none⟩)) D (.inRegion ops todo :: k)) cs,hn,hc,hp,fun w s=>?_,fun Wg h1 h2=>h hm Wg h1 h2⟩)
 rw [Zqh ho hk hz,hzc]
 rfl
theorem Zxv [Payload] {P:Program} {t:TypeId} {Wg C n nt:Nat} {val:Nat→Value} {K:Goroutine→Kn→Cells→Prop} {f:FuncId} {kind:CallKind} {cs:List Frame} {body:Code} {k:List Item} (St:Nat→Env) {B:Kn} {Lc:Cells}
  (round :∀j,j≤n→∀B' T',B.le B'→T'.size=nt→Ag T' (St j)→(j<n→∀B'' T'',B'.le B''→T''.size=nt→Ag T'' (St (j+1))→PhaseR P t Wg C n val K .a5 (j+1) (G (fat (fb f kind) T'' [] (.inLoop body :: k)) cs) B'' Lc)→PhaseR P t Wg C n val K .a5 j (G (fat (fb f kind) T' [] (.code body :: .inLoop body :: k)) cs) B' Lc)
  {T:Array Value} (hn:T.size=nt) (hT:Ag T (St 0)):PhaseR P t Wg C n val K .a5 0 (G (fat (fb f kind) T [] (.code (.loop body) :: k)) cs) B Lc:=by
 have key :∀d j,j+d=n→∀B' T',B.le B'→T'.size=nt→Ag T' (St j)→PhaseR P t Wg C n val K .a5 j (G (fat (fb f kind) T' [] (.code body :: .inLoop body :: k)) cs) B' Lc:=by
  intro d
  induction d with
  | zero=>
   intro j hj B' T' hle hn' hT'
   exact round j (by omega) B' T' hle hn' hT' fun h=>by omega
  | succ d ih=>
   intro j hj B' T' hle hn' hT'
   refine round j (by omega) B' T' hle hn' hT' fun h B'' T'' hle' hn'' hT''=>?_
   exact (phL P t Wg C n val K .a5 (j+1)).ctl rfl (fun w=>ZhZ) (ih (j+1) (by omega) B'' T'' (hle.trans hle') hn'' hT'')
 exact (phL P t Wg C n val K .a5 0).ctl rfl (fun w=>ZmW) (key n 0 (by omega) B T (Kn.le.refl B) hn hT)
end Go.BL
namespace Go.BL
open Go.Conc Go.ConcN Go.RowKit
open Go.Conc.Locks (MuLink MuLib lockFn unlockFn ilockFn iunlockFn disableFn enableFn acquireFn relMergeFn cas32Fn add32Fn)
open Go.ConcR (mk)
theorem Znd {b:Nat} {v0:Value} (v:Value) {rest:List Value} {T:TypeId} {B:Kn} {F:Cells} {w:World} (s:Sat B (ZP b (v0 :: rest) T ++ F) w) :
  w.cell? ⟨b,0,none⟩=some v0∧w.frozen? ⟨b,0,none⟩=false∧Ok B (ZP b (v0 :: rest) T ++ F) w B (ZP b (v :: rest) T ++ F) (w.setCell ⟨b,0,none⟩ v):=by
 have hw:w.heap[b]? = some (.cells (v0 :: rest).toArray T (0,0)):=s.own (b,_) (by simp [ZP])
 refine ⟨by simp [World.cell?,hw],by simp [World.frozen?,hw],?_⟩
 refine Ok.turn s (o:=.cells (v0 :: rest).toArray T (0,0)) (List.Perm.refl _) (by simp [World.setCell]) ?_ (fun c hc=>?_) rfl rfl rfl
 ·simp [World.setCell,getElem?_modify',hw]
 ·simp only [World.setCell,getElem?_modify'];rw [if_neg (Ne.symm hc)]
theorem ZA2 (T:Array Value) (D:List Deferred) (dst:Option Tmp) (v:Value):Act.put ⟨T,D⟩ dst v=⟨putT T dst v,D⟩:=by cases dst <;> rfl
theorem Zg9 (L:MuLink):((disableFn L).name == "runtime.NumGoroutine")=false:=by kernel_rfl
theorem Zhb (L:MuLink):(disableFn L).body.isNone=true:=by kernel_rfl
theorem Zg8 (L:MuLink):Extern.findNext (disableFn L)=none:=by kernel_rfl
theorem Zha (L:MuLink):Extern.find (disableFn L)=some (fun _=>do mark .disable;pure Extern.Race.none_):=by kernel_rfl
theorem ZhL (L:MuLink):((enableFn L).name == "runtime.NumGoroutine")=false:=by kernel_rfl
theorem ZhN (L:MuLink):(enableFn L).body.isNone=true:=by kernel_rfl
theorem ZhK (L:MuLink):Extern.findNext (enableFn L)=none:=by kernel_rfl
theorem ZhM (L:MuLink):Extern.find (enableFn L)=some (fun _=>do mark .enable;pure Extern.Race.none_):=by kernel_rfl
theorem ZkT (L:MuLink):((acquireFn L).name == "runtime.NumGoroutine")=false:=by kernel_rfl
theorem ZkV (L:MuLink):(acquireFn L).body.isNone=true:=by kernel_rfl
theorem ZkS (L:MuLink):Extern.findNext (acquireFn L)=none:=by kernel_rfl
theorem ZkU (L:MuLink):Extern.find (acquireFn L)=some (Extern.Race.marked .acquire):=by kernel_rfl
theorem ZtK (L:MuLink):((relMergeFn L).name == "runtime.NumGoroutine")=false:=by kernel_rfl
theorem ZtM (L:MuLink):(relMergeFn L).body.isNone=true:=by kernel_rfl
theorem ZtJ (L:MuLink):Extern.findNext (relMergeFn L)=none:=by kernel_rfl
theorem ZtL (L:MuLink):Extern.find (relMergeFn L)=some (Extern.Race.marked .releaseMerge):=by kernel_rfl
theorem ZtO (L:MuLink):((cas32Fn L).name == "runtime.NumGoroutine")=false:=by kernel_rfl
theorem ZtQ (L:MuLink):(cas32Fn L).body.isNone=true:=by kernel_rfl
theorem ZtN (L:MuLink):Extern.findNext (cas32Fn L)=none:=by kernel_rfl
theorem ZtP (L:MuLink):Extern.find (cas32Fn L)=some (Extern.Atomic.casT (.int .i32)):=by kernel_rfl
theorem ZtS (L:MuLink):((add32Fn L).name == "runtime.NumGoroutine")=false:=by kernel_rfl
theorem ZtU (L:MuLink):(add32Fn L).body.isNone=true:=by kernel_rfl
theorem ZtR (L:MuLink):Extern.findNext (add32Fn L)=none:=by kernel_rfl
theorem ZtT (L:MuLink):Extern.find (add32Fn L)=some (Extern.Atomic.update (Op.intArith .add) .i32 true):=by kernel_rfl
section
variable {P:Program} {K:Goroutine→Kn→Cells→Prop} {d d':Nat} {f:FuncId} {kind:CallKind} {cs:List Frame} {T:Array Value} {D:List Deferred} {ops:Array Oper} {i:Nat} {todo:List Nat} {k:List Item} {B:Kn} {L:Cells} {dst:Option Tmp} {v:Value} {es:Array Event}
theorem ZoW {S:Env} (hT:Ag T S) {x:Operand} (h:ev S x=some v):Act.eval ⟨T,D⟩ x=v:=by
 have:=ZeL hT h
 rw [← this];cases x <;> rfl
theorem ZgT (d':Nat) (hst :∀w,stepG P true (G ((fb f kind).at ⟨T,D⟩ (.inRegion ops (i :: todo) :: k)) cs) w = .go (G ((fb f kind).at (Act.put ⟨T,D⟩ dst v) (.inRegion ops todo :: k)) cs) w es) (hev :∀e,e∈es→(MemAct.ofEvent e).touch? = none) (hd:deafBehind d es=d')
  (h:LockR P K d' (G (fat (fb f kind) (putT T dst v) D (.inRegion ops todo :: k)) cs) B L):LockR P K d (G (fat (fb f kind) T D (.inRegion ops (i :: todo) :: k)) cs) B L:=
 LockR.step d' rfl fun w s=>⟨_,w,es,B,L,(by rw [ZdN];exact hst w),fun e he x hx=>(by rw [hev e he] at hx;cases hx),hd,Ok.refl s,(by rw [ZA2,← ZdN];exact h)⟩
theorem ZrV {b:Nat} {v0 v1:Value} {rest:List Value} {Tb:TypeId} {F:Cells} (hst :∀w:World,w.cell? ⟨b,0,none⟩=some v0→w.frozen? ⟨b,0,none⟩=false→stepG P true (G ((fb f kind).at ⟨T,D⟩ (.inRegion ops (i :: todo) :: k)) cs) w = .go (G ((fb f kind).at (Act.put ⟨T,D⟩ dst v) (.inRegion ops todo :: k)) cs) (w.setCell ⟨b,0,none⟩ v1) #[⟨.cell ⟨b,0,none⟩,false,true⟩,⟨.cell ⟨b,0,none⟩,true,true⟩])
  (h:LockR P K d (G (fat (fb f kind) (putT T dst v) D (.inRegion ops todo :: k)) cs) B (ZP b (v1 :: rest) Tb ++ F)):LockR P K d (G (fat (fb f kind) T D (.inRegion ops (i :: todo) :: k)) cs) B (ZP b (v0 :: rest) Tb ++ F):=
 LockR.step d rfl fun w s=>by
  obtain ⟨hc,hz,hok⟩:=Znd v1 s
  refine ⟨_,_,_,B,_,(by rw [ZdN];exact hst w hc hz),fun e he x hx=>?_,deafBehind_still (fun e he=>?_) d,hok,(by rw [ZA2,← ZdN];exact h)⟩
  ·simp only [List.mem_toArray,List.mem_cons,List.not_mem_nil,or_false] at he
   have hb :∃o,(b,o)∈ZP b (v0 :: rest) Tb ++ F:=⟨_,List.mem_append_left _ (List.mem_singleton.2 rfl)⟩
   rcases he with rfl | rfl <;> (simp only [MemAct.ofEvent,MemAct.touch?,Option.some.injEq] at hx;first | (subst hx;exact ⟨b,rfl,.inl hb⟩) | (simp at hx;subst hx;exact ⟨b,rfl,.inl hb⟩))
  ·simp only [List.mem_toArray,List.mem_cons,List.not_mem_nil,or_false] at he
   rcases he with rfl | rfl <;> simp
theorem Zws {o:Oper} (v:Value) (ho:ops[i]? = some o) (hw:Region.wanted o (yielded ops T)=true) (hk:kind≠.early) (hr :∀w,Sat B L w→(execOp (Act.eval ⟨T,D⟩) o).run P w = .ok (.value v) w) (he :∀w,Sat B L w→(execOp (Act.eval ⟨T,D⟩) o).events P w #[] = #[])
  (h:LockR P K d (G (fat (fb f kind) (putT T o.dst v) D (.inRegion ops todo :: k)) cs) B L):LockR P K d (G (fat (fb f kind) T D (.inRegion ops (i :: todo) :: k)) cs) B L:=
 LockR.step d rfl fun w s=>⟨_,w,#[],B,L,(by rw [ZdN,stepG_value (a:=⟨T,D⟩) ho hw hk (hr w s)];unfold listed;rw [he w s,seen_none]),fun e he=>(by simp at he),rfl,Ok.refl s,(by rw [ZA2,← ZdN];exact h)⟩
end
section
variable {P:Program} {J:JoinT} {Lk:MuLink} {b:Nat} {T:TypeId} {rest:List Value} {B:Kn}
set_option maxRecDepth 100000 in
theorem ZAa (hJ:Joins P J) (H:MuLib P Lk) (hfo:Zr P Lk.tIMutex 0=some 0):Zu ⟨P,J⟩ Lk.ilock [ptr ⟨b,0,none⟩] B [ZP b (.int .i32 0 :: rest) T] (fun v B' Ls=>B'=B∧v = .tuple #[]∧Ls=[ZP b (.int .i32 1 :: rest) T]):=
 ZhH (P:=⟨P,J⟩) (fn:=ilockFn Lk) 13 H.f_ilock rfl rfl (by simp) fun X kind c cs F T0 hk hke hA hn hT=>by
  refine X.join (hJ.2 _ _ _ _ _ fun hm=>⟨rfl,?_⟩)
  let C0:Cx (.lone P):=⟨ZuZ P X.R 0,fb Lk.ilock kind,c :: cs,F,hke⟩
  let C1:Cx (.lone P):=⟨ZuZ P X.R 1,fb Lk.ilock kind,c :: cs,F,hke⟩
  replace hT:Ag T0 [(0,ptr ⟨b,0,none⟩)]:=hT
  refine Zbl (C:=C0) (L:=[ZP b (.int .i32 0 :: rest) T]) ?_
  refine ZaD (C:=C0) (L:=[ZP b (.int .i32 0 :: rest) T]) ?_
  refine ZgT (i:=0) (todo:=[]) (dst:=some 2) (v:=.tuple #[]) (es:=#[⟨.mark .disable,false,true⟩]) 1 (fun w=>?_) (by intro e he;simp at he;subst he;rfl) rfl ?_
  ·exact (stepG_mark0 .disable (by simp) (by rfl) (by rfl) (by exact hke) (by rfl) H.f_disable (Zg9 Lk) (Zhb Lk) (Zg8 Lk) (Zha Lk)).trans (by rfl)
  have hT1:=hT.putT hn (dst:=some 2) rfl (.tuple #[])
  have hn1:=(Zao T0 (some 2) (.tuple #[])).trans hn
  generalize putT T0 (some 2) (.tuple #[])=T1 at hT1 hn1 ⊢
  refine ZY (C:=C1) (L:=[ZP b (.int .i32 0 :: rest) T]) ?_
  refine Zbl (C:=C1) (L:=[ZP b (.int .i32 0 :: rest) T]) ?_
  refine Zbl (C:=C1) (L:=[ZP b (.int .i32 0 :: rest) T]) ?_
  refine ZaD (C:=C1) (L:=[ZP b (.int .i32 0 :: rest) T]) ?_
  refine Zch (C:=C1) (L:=[ZP b (.int .i32 0 :: rest) T]) (i:=0) (todo:=[1,2,3]) rfl hn1 hT1 (Zh (Za9 rfl rfl rfl fun T2 hn2 hT2=>?_))
  refine Zch (C:=C1) (L:=[ZP b (.int .i32 0 :: rest) T]) (i:=1) (todo:=[2,3]) rfl hn2 hT2 (Zh (ZaF rfl rfl rfl fun T3 hn3 hT3=>?_))
  refine Zch (C:=C1) (L:=[ZP b (.int .i32 0 :: rest) T]) (i:=2) (todo:=[3]) rfl hn3 hT3 (Zh (Zac rfl rfl hfo rfl fun T4 hn4 hT4=>?_))
  refine ZrV (i:=3) (todo:=[]) (dst:=some 6) (v:=.bool true) (v1:=.int .i32 1) (fun w hc hz=>?_) ?_
  ·exact (stepG_cas_hit (by rfl) (by rfl) (by exact hke) (by rfl) H.f_cas32 (ZtO Lk) (ZtQ Lk) (ZtN Lk) .i32 (ZtP Lk) (by exact ZoW hT4 rfl) (by rfl) (by rfl) hc hz).trans (by rfl)
  have hT5:=hT4.putT hn4 (dst:=some 6) rfl (.bool true)
  have hn5:=(Zao T4 (some 6) (.bool true)).trans hn4
  generalize putT T4 (some 6) (.bool true)=T5 at hT5 hn5 ⊢
  refine ZY (C:=C1) (L:=[ZP b (.int .i32 1 :: rest) T]) ?_
  refine Zg3 (t:=true) (C:=C1) (L:=[ZP b (.int .i32 1 :: rest) T]) rfl hT5 ?_
  refine Zbl (C:=C1) (L:=[ZP b (.int .i32 1 :: rest) T]) ?_
  refine Zg3 (t:=true) (C:=C1) (L:=[ZP b (.int .i32 1 :: rest) T]) rfl hT5 ?_
  refine Zbl (C:=C1) (L:=[ZP b (.int .i32 1 :: rest) T]) ?_
  refine ZaD (C:=C1) (L:=[ZP b (.int .i32 1 :: rest) T]) ?_
  refine ZgT (i:=0) (todo:=[]) (dst:=some 7) (v:=.tuple #[]) (es:=#[⟨.mark .enable,false,true⟩]) 0 (fun w=>?_) (by intro e he;simp at he;subst he;rfl) rfl ?_
  ·exact (stepG_mark0 .enable (by simp) (by rfl) (by rfl) (by exact hke) (by rfl) H.f_enable (ZhL Lk) (ZhN Lk) (ZhK Lk) (ZhM Lk)).trans (by rfl)
  have hT6:=hT5.putT hn5 (dst:=some 7) rfl (.tuple #[])
  have hn6:=(Zao T5 (some 7) (.tuple #[])).trans hn5
  generalize putT T5 (some 7) (.tuple #[])=T6 at hT6 hn6 ⊢
  refine ZY (C:=C0) (L:=[ZP b (.int .i32 1 :: rest) T]) ?_
  refine ZaD (C:=C0) (L:=[ZP b (.int .i32 1 :: rest) T]) ?_
  refine Zch (C:=C0) (L:=[ZP b (.int .i32 1 :: rest) T]) (i:=0) (todo:=[1,2]) rfl hn6 hT6 (Zh (Za9 rfl rfl rfl fun T7 hn7 hT7=>?_))
  have cell :∀w:World,Sat B ([ZP b (.int .i32 1 :: rest) T].flatten ++ F) w→w.cell? ⟨b,0,none⟩=some (.int .i32 1):=fun w s=>(Znd (v0:=.int .i32 1) (F:=F) (.int .i32 1) s).1
  refine Zws (i:=1) (todo:=[2]) (ptr ⟨b,0,none⟩) rfl rfl hke (fun w s=>?_) (fun w s=>?_) ?_
  ·have e:T7[8]?.getD undef=ptr ⟨b,0,none⟩:=by have:=hT7 8 _ rfl;simp [this]
   have hcv:=run_convert_to_unsafe (P:=P) H.underlying_tPIMutex H.underlying_tUP H.room_tIMutex (cell w s)
   simp [execOp,e,hcv,Sem.run_bind,go_sem]
  ·have e:T7[8]?.getD undef=ptr ⟨b,0,none⟩:=by have:=hT7 8 _ rfl;simp [this]
   have hce:=fun es=>events_convert_to_unsafe (P:=P) H.underlying_tPIMutex H.underlying_tUP H.room_tIMutex (cell w s) es
   simp [execOp,e,hce,go_sem]
  have hT8:=hT7.putT hn7 (dst:=some 9) rfl (ptr ⟨b,0,none⟩)
  have hn8:=(Zao T7 (some 9) (ptr ⟨b,0,none⟩)).trans hn7
  show LockR P X.R 0 (G (fat (fb Lk.ilock kind) (putT T7 (some 9) (ptr ⟨b,0,none⟩)) [] _) (c :: cs)) B _
  generalize putT T7 (some 9) (ptr ⟨b,0,none⟩)=T8 at hT8 hn8 ⊢
  refine ZgT (i:=2) (todo:=[]) (dst:=some 10) (v:=.tuple #[]) (es:=#[⟨.mark (.acquire ⟨b,0,none⟩),false,true⟩]) 0 (fun w=>?_) (by intro e he;simp at he;subst he;rfl) rfl ?_
  ·exact (stepG_markAt .acquire (by simp) (by rfl) (by rfl) (by exact hke) (by rfl) H.f_acquire (ZkT Lk) (ZkV Lk) (ZkS Lk) (ZkU Lk) (by simp only [List.map_toArray,List.map_cons,List.map_nil];rw [ZoW hT8 (x:=.tmp 9) rfl];rfl)).trans (by rfl)
  refine ZY (C:=C0) (L:=[ZP b (.int .i32 1 :: rest) T]) ?_
  refine LockR.done ?_
  refine X.ctl rfl (fun w=>Zwn rfl) ?_
  exact Zcd (X:=X) (L:=[ZP b (.int .i32 1 :: rest) T]) (Lr:=[ZP b (.int .i32 1 :: rest) T]) (S:=[]) (vs:=[]) (gl:=[]) H.f_ilock hk rfl rfl rfl rfl (fun i v h=>by cases h) trivial (by simp) (hA _ B _ (Kn.le.refl B) ⟨rfl,rfl,rfl⟩)
set_option maxRecDepth 100000 in
theorem Zu3 (hJ:Joins P J) (H:MuLib P Lk) (hfo:Zr P Lk.tIMutex 0=some 0) (hlk:lk P 21=some none):Zu ⟨P,J⟩ Lk.iunlock [ptr ⟨b,0,none⟩] B [ZP b (.int .i32 1 :: rest) T] (fun v B' Ls=>B'=B∧v = .tuple #[]∧Ls=[ZP b (.int .i32 0 :: rest) T]):=
 ZhH (P:=⟨P,J⟩) (fn:=iunlockFn Lk) 21 H.f_iunlock rfl rfl (by simp) fun X kind c cs F T0 hk hke hA hn hT=>by
  refine X.join (hJ.2 _ _ _ _ _ fun hm=>⟨rfl,?_⟩)
  let C0:Cx (.lone P):=⟨ZuZ P X.R 0,fb Lk.iunlock kind,c :: cs,F,hke⟩
  let C1:Cx (.lone P):=⟨ZuZ P X.R 1,fb Lk.iunlock kind,c :: cs,F,hke⟩
  replace hT:Ag T0 [(0,ptr ⟨b,0,none⟩)]:=hT
  refine Zbl (C:=C0) (L:=[ZP b (.int .i32 1 :: rest) T]) ?_
  refine Zg3 (t:=true) (C:=C0) (L:=[ZP b (.int .i32 1 :: rest) T]) rfl hT ?_
  refine Zbl (C:=C0) (L:=[ZP b (.int .i32 1 :: rest) T]) ?_
  refine ZaD (C:=C0) (L:=[ZP b (.int .i32 1 :: rest) T]) ?_
  refine Zch (C:=C0) (L:=[ZP b (.int .i32 1 :: rest) T]) (i:=0) (todo:=[1,2,3]) rfl hn hT (Zh (Za9 rfl rfl rfl fun T1 hn1 hT1=>?_))
  refine Zch (C:=C0) (L:=[ZP b (.int .i32 1 :: rest) T]) (i:=1) (todo:=[2,3]) rfl hn1 hT1 (Zh (ZaF rfl rfl rfl fun T2 hn2 hT2=>?_))
  refine Zch (C:=C0) (L:=[ZP b (.int .i32 1 :: rest) T]) (i:=2) (todo:=[3]) rfl hn2 hT2 (Zh (Zac rfl rfl hfo rfl fun T3 hn3 hT3=>?_))
  refine Zch (C:=C0) (L:=[ZP b (.int .i32 1 :: rest) T]) (i:=3) (todo:=[]) rfl hn3 hT3 (Zh (Zn rfl rfl hlk rfl (atL 0 rfl rfl rfl) fun T4 hn4 hT4=>?_))
  refine ZY (C:=C0) (L:=[ZP b (.int .i32 1 :: rest) T]) ?_
  refine Zbl (C:=C0) (L:=[ZP b (.int .i32 1 :: rest) T]) ?_
  refine ZaD (C:=C0) (L:=[ZP b (.int .i32 1 :: rest) T]) ?_
  refine Zch (C:=C0) (L:=[ZP b (.int .i32 1 :: rest) T]) (i:=0) (todo:=[1,2]) rfl hn4 hT4 (Zh (Za9 rfl rfl rfl fun T7 hn7 hT7=>?_))
  have cell :∀w:World,Sat B ([ZP b (.int .i32 1 :: rest) T].flatten ++ F) w→w.cell? ⟨b,0,none⟩=some (.int .i32 1):=fun w s=>(Znd (v0:=.int .i32 1) (F:=F) (.int .i32 1) s).1
  have e7:T7[7]?.getD undef=ptr ⟨b,0,none⟩:=by have:=hT7 7 _ rfl;simp [this]
  refine Zws (i:=1) (todo:=[2]) (ptr ⟨b,0,none⟩) rfl rfl hke (fun w s=>?_) (fun w s=>?_) ?_
  ·have hcv:=run_convert_to_unsafe (P:=P) H.underlying_tPIMutex H.underlying_tUP H.room_tIMutex (cell w s)
   simp [execOp,e7,hcv,Sem.run_bind,go_sem]
  ·have hce:=fun es=>events_convert_to_unsafe (P:=P) H.underlying_tPIMutex H.underlying_tUP H.room_tIMutex (cell w s) es
   simp [execOp,e7,hce,go_sem]
  have hT8:=hT7.putT hn7 (dst:=some 8) rfl (ptr ⟨b,0,none⟩)
  have hn8:=(Zao T7 (some 8) (ptr ⟨b,0,none⟩)).trans hn7
  show LockR P X.R 0 (G (fat (fb Lk.iunlock kind) (putT T7 (some 8) (ptr ⟨b,0,none⟩)) [] _) (c :: cs)) B _
  generalize putT T7 (some 8) (ptr ⟨b,0,none⟩)=T8 at hT8 hn8 ⊢
  refine ZgT (i:=2) (todo:=[]) (dst:=some 9) (v:=.tuple #[]) (es:=#[⟨.mark (.releaseMerge ⟨b,0,none⟩),false,true⟩]) 0 (fun w=>?_) (by intro e he;simp at he;subst he;rfl) rfl ?_
  ·exact (stepG_markAt .releaseMerge (by simp) (by rfl) (by rfl) (by exact hke) (by rfl) H.f_relMerge (ZtK Lk) (ZtM Lk) (ZtJ Lk) (ZtL Lk) (by simp only [List.map_toArray,List.map_cons,List.map_nil];rw [ZoW hT8 (x:=.tmp 8) rfl];rfl)).trans (by rfl)
  have hT9:=hT8.putT hn8 (dst:=some 9) rfl (.tuple #[])
  have hn9:=(Zao T8 (some 9) (.tuple #[])).trans hn8
  generalize putT T8 (some 9) (.tuple #[])=T9 at hT9 hn9 ⊢
  refine ZY (C:=C0) (L:=[ZP b (.int .i32 1 :: rest) T]) ?_
  refine ZaD (C:=C0) (L:=[ZP b (.int .i32 1 :: rest) T]) ?_
  refine ZgT (i:=0) (todo:=[]) (dst:=some 10) (v:=.tuple #[]) (es:=#[⟨.mark .disable,false,true⟩]) 1 (fun w=>?_) (by intro e he;simp at he;subst he;rfl) rfl ?_
  ·exact (stepG_mark0 .disable (by simp) (by rfl) (by rfl) (by exact hke) (by rfl) H.f_disable (Zg9 Lk) (Zhb Lk) (Zg8 Lk) (Zha Lk)).trans (by rfl)
  have hT10:=hT9.putT hn9 (dst:=some 10) rfl (.tuple #[])
  have hn10:=(Zao T9 (some 10) (.tuple #[])).trans hn9
  generalize putT T9 (some 10) (.tuple #[])=T10 at hT10 hn10 ⊢
  refine ZY (C:=C1) (L:=[ZP b (.int .i32 1 :: rest) T]) ?_
  refine Zbl (C:=C1) (L:=[ZP b (.int .i32 1 :: rest) T]) ?_
  refine ZaD (C:=C1) (L:=[ZP b (.int .i32 1 :: rest) T]) ?_
  refine Zch (C:=C1) (L:=[ZP b (.int .i32 1 :: rest) T]) (i:=0) (todo:=[1,2,3,4]) rfl hn10 hT10 (Zh (Za9 rfl rfl rfl fun T11 hn11 hT11=>?_))
  refine Zch (C:=C1) (L:=[ZP b (.int .i32 1 :: rest) T]) (i:=1) (todo:=[2,3,4]) rfl hn11 hT11 (Zh (ZaF rfl rfl rfl fun T12 hn12 hT12=>?_))
  refine Zch (C:=C1) (L:=[ZP b (.int .i32 1 :: rest) T]) (i:=2) (todo:=[3,4]) rfl hn12 hT12 (Zh (Zac rfl rfl hfo rfl fun T13 hn13 hT13=>?_))
  refine ZrV (i:=3) (todo:=[4]) (dst:=some 14) (v:=.int .i32 0) (v1:=.int .i32 0) (fun w hc hz=>?_) ?_
  ·exact (stepG_add_atomic (by rfl) (by rfl) (by exact hke) (by rfl) H.f_add32 (ZtS Lk) (ZtU Lk) (ZtR Lk) .i32 (ZtT Lk) (d:=-1) (by exact ZoW hT13 rfl) (by rfl) hc hz).trans (by rfl)
  have hT14:=hT13.putT hn13 (dst:=some 14) rfl (.int .i32 0)
  have hn14:=(Zao T13 (some 14) (.int .i32 0)).trans hn13
  generalize putT T13 (some 14) (.int .i32 0)=T14 at hT14 hn14 ⊢
  refine Zch (C:=C1) (L:=[ZP b (.int .i32 0 :: rest) T]) (i:=4) (todo:=[]) rfl hn14 hT14 (Zh (ZbF rfl rfl rfl fun T15 hn15 hT15=>?_))
  refine ZY (C:=C1) (L:=[ZP b (.int .i32 0 :: rest) T]) ?_
  refine Zbl (C:=C1) (L:=[ZP b (.int .i32 0 :: rest) T]) ?_
  refine Zbl (C:=C1) (L:=[ZP b (.int .i32 0 :: rest) T]) ?_
  refine ZaD (C:=C1) (L:=[ZP b (.int .i32 0 :: rest) T]) ?_
  refine Zch (C:=C1) (L:=[ZP b (.int .i32 0 :: rest) T]) (i:=0) (todo:=[1]) rfl hn15 hT15 (Zh (Za9 rfl rfl rfl fun T16 hn16 hT16=>?_))
  refine Zch (C:=C1) (L:=[ZP b (.int .i32 0 :: rest) T]) (i:=1) (todo:=[]) rfl hn16 hT16 (Zh (ZqC rfl rfl rfl rfl fun T17 hn17 hT17=>?_))
  refine ZY (C:=C1) (L:=[ZP b (.int .i32 0 :: rest) T]) ?_
  refine Zg3 (t:=false) (C:=C1) (L:=[ZP b (.int .i32 0 :: rest) T]) rfl hT17 ?_
  refine Ztc (C:=C1) (L:=[ZP b (.int .i32 0 :: rest) T]) ?_
  refine ZaD (C:=C1) (L:=[ZP b (.int .i32 0 :: rest) T]) ?_
  refine ZgT (i:=0) (todo:=[]) (dst:=some 20) (v:=.tuple #[]) (es:=#[⟨.mark .enable,false,true⟩]) 0 (fun w=>?_) (by intro e he;simp at he;subst he;rfl) rfl ?_
  ·exact (stepG_mark0 .enable (by simp) (by rfl) (by rfl) (by exact hke) (by rfl) H.f_enable (ZhL Lk) (ZhN Lk) (ZhK Lk) (ZhM Lk)).trans (by rfl)
  refine ZY (C:=C0) (L:=[ZP b (.int .i32 0 :: rest) T]) ?_
  refine LockR.done ?_
  refine X.ctl rfl (fun w=>Zi3 rfl) ?_
  exact Zcd (X:=X) (L:=[ZP b (.int .i32 0 :: rest) T]) (Lr:=[ZP b (.int .i32 0 :: rest) T]) (S:=[]) (vs:=[]) (gl:=[]) H.f_iunlock hk rfl rfl rfl rfl (fun i v h=>by cases h) trivial (by simp) (hA _ B _ (Kn.le.refl B) ⟨rfl,rfl,rfl⟩)
theorem ZBY (hJ:Joins P J) (H:MuLib P Lk) (hfo:Zr P Lk.tIMutex 0=some 0) (hfm:Zr P Lk.tMutex 1=some 0) (he:enters P Lk.ilock=true):Zu ⟨P,J⟩ Lk.lock [ptr ⟨b,0,none⟩] B [ZP b (.int .i32 0 :: rest) T] (fun v B' Ls=>B'=B∧v = .tuple #[]∧Ls=[ZP b (.int .i32 1 :: rest) T]):=
 Zdy (P:=⟨P,J⟩) (rs:=[]) 6 H.f_lock rfl rfl rfl (by simp) (by
  refine Zd (Zh (Za9 rfl rfl rfl ?_))
  refine Zh (ZaF rfl rfl rfl ?_)
  refine Zh (Zac rfl rfl hfm rfl ?_)
  refine Zh (Zbx [0] rfl rfl rfl rfl he rfl (ZAa hJ H hfo) ?_)
  rintro _ _ _ hle ⟨rfl,rfl,rfl⟩
  exact Zdh .normal (.inr rfl) [] [0] rfl trivial ⟨rfl,rfl,rfl⟩)
theorem ZmP (hJ:Joins P J) (H:MuLib P Lk) (hfo:Zr P Lk.tIMutex 0=some 0) (hlk:lk P 21=some none) (hfm:Zr P Lk.tMutex 1=some 0) (he:enters P Lk.iunlock=true):Zu ⟨P,J⟩ Lk.unlock [ptr ⟨b,0,none⟩] B [ZP b (.int .i32 1 :: rest) T] (fun v B' Ls=>B'=B∧v = .tuple #[]∧Ls=[ZP b (.int .i32 0 :: rest) T]):=
 Zdy (P:=⟨P,J⟩) (rs:=[]) 6 H.f_unlock rfl rfl rfl (by simp) (by
  refine Zd (Zh (Za9 rfl rfl rfl ?_))
  refine Zh (ZaF rfl rfl rfl ?_)
  refine Zh (Zac rfl rfl hfm rfl ?_)
  refine Zh (Zbx [0] rfl rfl rfl rfl he rfl (Zu3 hJ H hfo hlk) ?_)
  rintro _ _ _ hle ⟨rfl,rfl,rfl⟩
  exact Zdh .normal (.inr rfl) [] [0] rfl trivial ⟨rfl,rfl,rfl⟩)
end
section
variable {P:PJ} {X:Lg P} {f u:FuncId} {fn fu:Func} {cu:Code} {kind:CallKind} {c:Frame} {cs:List Frame} {F:Cells} {T:Array Value} {S:Env} {B:Kn} {L:List Cells} {av:List Value} {todo:List Item}
theorem Zq8 {main:Bool} {w:World} (hfu:P.funcs[u]? = some fu) (hnu:(fu.name == "runtime.NumGoroutine")=false) (hbu:fu.body=some cu) :
  stepG P main (G { fat (fb f kind) T [dcall u av.toArray] todo with mode:=.returning } (c :: cs)) w = .go (G (Frame.enter P u av.toArray .deferred) ({ fat (fb f kind) T [] todo with mode:=.returning } :: c :: cs)) w #[]:=by
 have h1 : ¬ fu.name = "runtime.NumGoroutine":=by simpa using hnu
 simp [G,stepG,unwind,callDeferred,fat,fb,dcall,invoke,callFunc,hfu,h1,hbu,GStep.after,seen_none]
theorem ZfA (hf:P.funcs[f]? = some fn) (hk:Bk kind c) (hfu:P.funcs[u]? = some fu) (hnu:(fu.name == "runtime.NumGoroutine")=false) (hbu:fu.body=some cu) (hT:Ag T S) {vs:List Value} (hr :∀B L,Zcb P S B L fn.results.toList vs) {Lr:List Cells} {gl:Cells} (hp:L.flatten.Perm (Lr.flatten ++ gl)) {Post:Value→Kn→List Cells→Prop}
  (hu:Zu P u av B Lr (fun _ B' Ls'=>Post (Zc4 vs) B' Ls')) (hA :∀v B' Ls',B.le B'→Post v B' Ls'→X.R (G (Zej kind c v) cs) B' (Ls'.flatten ++ F)):X.R (G { fat (fb f kind) T [dcall u av.toArray] todo with mode:=.returning } (c :: cs)) B (L.flatten ++ F):=by
 refine X.ctl rfl (fun w=>Zq8 hfu hnu hbu) ?_
 refine X.drop (r:=Lr.flatten ++ F) (gl:=gl) ((hp.append_right F).trans (by rw [List.append_assoc,List.append_assoc];exact List.Perm.append_left _ List.perm_append_comm)) ?_
 refine hu X .deferred { fat (fb f kind) T [] todo with mode:=.returning } (c :: cs) F (.inr ⟨rfl,.inl rfl⟩) fun v B' Ls' hle hq=>?_
 exact Zcd (X:=X) (L:=Ls') (Lr:=Ls') (gl:=[]) hf hk rfl rfl rfl rfl hT (hr B' Ls') (by simp) (hA _ B' Ls' hle hq)
theorem Zmc {code:Code} {n:Nat} (hf:P.funcs[f]? = some fn) (hk:Bk kind c) (hke:kind≠.early) (hfu:P.funcs[u]? = some fu) (hnu:(fu.name == "runtime.NumGoroutine")=false) (hbu:fu.body=some cu) {Post:Value→Kn→List Cells→Prop} (hn:T.size=n) (hT:Ag T S)
  (hA :∀v B' Ls',B.le B'→Post v B' Ls'→X.R (G (Zej kind c v) cs) B' (Ls'.flatten ++ F))
  (h:wpS P n code (fun e S D B L=>(e = .ret∨e = .normal)∧D=[dcall u av.toArray]∧∃vs Lr,(∀B L,Zcb P S B L fn.results.toList vs)∧(∃gl,L.flatten.Perm (Lr.flatten ++ gl))∧Zu P u av B Lr (fun _ B' Ls'=>Post (Zc4 vs) B' Ls')) S [dcall u av.toArray] B L) :
  X.R (G (fat (fb f kind) T [dcall u av.toArray] [.code code]) (c :: cs)) B (L.flatten ++ F):=
 h ⟨X,fb f kind,c :: cs,F,hke⟩ [] T hn hT fun e S' D' B' L' T' hle hq hn' hT'=>by
  obtain ⟨he,rfl,vs,Lr,hr,⟨gl,hp⟩,hu⟩:=hq
  have hA' :∀v B'' Ls',B'.le B''→Post v B'' Ls'→X.R (G (Zej kind c v) cs) B'' (Ls'.flatten ++ F):=fun v B'' Ls' hle' hq=>hA v B'' Ls' (hle.trans hle') hq
  rcases he with rfl | rfl
  ·exact ⟨rfl,fun todo=>ZfA hf hk hfu hnu hbu hT' hr hp hu hA'⟩
  ·exact X.ctl rfl (fun w=>Zi3 rfl) (ZfA hf hk hfu hnu hbu hT' hr hp hu hA')
theorem Zu.frame1 {f:FuncId} {args:List Value} {s:Cells} {r:List Cells} {Post:Value→Kn→List Cells→Prop} (h:Zu P f args B [s] Post):Zu P f args B (s :: r) (fun v B' Ls=>∃Ls1,Post v B' Ls1∧Ls=Ls1 ++ r):=fun X kind c cs F hk hA=>by
 have:=h X kind c cs (r.flatten ++ F) hk fun v B' Ls' hle hq=>by
  have:=hA v B' (Ls' ++ r) hle ⟨Ls',hq,rfl⟩
  rw [List.flatten_append,List.append_assoc] at this;exact this
 simpa [List.append_assoc] using this
theorem ZCo {rs:List ResultVar} {Q:List Value→Value→Kn→List Cells→Prop} {e:Exit} (he:e = .ret∨e = .normal) (vs:List Value) (js:List Nat) {ss r:List Cells} (hp:ZaA L js=some (ss,r)) (hr :∀B L,Zcb P S B L rs vs) (hu:Zu P u av B ss (Q vs)) :
  (e = .ret∨e = .normal)∧[dcall u av.toArray]=[dcall u av.toArray]∧∃vs Lr,(∀B L,Zcb P S B L rs vs)∧(∃gl,L.flatten.Perm (Lr.flatten ++ gl))∧Zu P u av B Lr (Q vs):=
 ⟨he,rfl,vs,ss,hr,⟨r.flatten,Zau js L ss r hp⟩,hu⟩
theorem Zp8 {ops:Array Oper} {i:Nat} {rest:List Nat} {k:List Item} {xs:List Operand} {ats:Array TypeId} {ty:TypeId} {pos:String} {after:Array Edge} {dst:Option Tmp} {Lc:Cells} (hke:kind≠.early) (ho:ops[i]? = some ⟨dst,.defer ⟨.value (.func u),xs.toArray,ats⟩,ty,pos,after,none⟩) (hT:Ag T S) (ha:evs S xs=some av)
  (h:X.R (G (fat (fb f kind) (putT T dst undef) [dcall u av.toArray] (.inRegion ops rest :: k)) cs) B Lc):X.R (G (fat (fb f kind) T [] (.inRegion ops (i :: rest) :: k)) cs) B Lc:=by
 have e0:Act.eval (⟨T,[]⟩:Act)=evT T:=funext fun x=>by cases x <;> rfl
 have e:xs.map (Act.eval ⟨T,[]⟩)=av:=by rw [e0];exact Zkw hT ha
 refine X.ctl rfl (fun w=>?_) h
 rw [ZdN,stepG_defer (a:=⟨T,[]⟩) ho rfl (by simpa [fb] using hke) rfl,ZA2,← ZdN]
 simp only [List.map_toArray,e]
end
end Go.BL
namespace Go.BL
open Go.Conc Go.ConcN
theorem Zam.drop2 {B:Kn} {b:Nat} {v0 v1:Value} {row:List Value} (h:Zam B b 0 (v0 :: v1 :: row)):Zam B b 2 row:=fun L j u hj=>by
 have:=h L (j+2) u (by simpa using hj)
 rwa [show 0+(j+2)=2+j from by omega] at this
section
variable {P:PJ} {C:Cx P} {g:Goroutine} {B:Kn} {L:List Cells}
theorem ZFZ (L':List Cells) (hl:L=L') (h:C.X.R g B (L'.flatten ++ C.F)):C.X.R g B (L.flatten ++ C.F):=by subst hl;exact h
end
end Go.BL
