/-
  THE WALK'S LOGIC: owned cells and known cells, goroutines started and awaited, calls, loops, data, and plain laws on lists: no program in sight.
-/
import Derived.Test.YtonfijmgahdgeaaGreatDoorQ0
import Derived.Test.YtonfijmgahdgeaaGreatDoorB1
import Derived.Conc.Fork
import Derived.Conc.CrowdRun
import Derived.Conc.MuLib
set_option linter.unusedVariables false
set_option linter.unusedSimpArgs false
set_option linter.unusedSectionVars false
namespace Go.BL
open Go.Conc Go.ConcN Go.RowKit Go.Conc.Lib Go.ConcR.Gen Go.ConcN.Gen
open Go.ConcR (KK wgBlock WgAt stA smA rd wr mk Payload)
def fb (f:FuncId) (kind:CallKind):Frame:={ fn:=f,tmps:=#[],todo:=[],defers:=[],mode:=.run,kind:=kind }
theorem ZdO (f:FuncId) (kind:CallKind) (T:Array Value) (D:List Deferred) (todo:List Item):fat (fb f kind) T D todo=(fb f kind).at ⟨T,D⟩ todo:=rfl
section
variable {P:PJ} {n:Nat} {ops:Array Oper} {i:Nat} {S:Env} {D:List Deferred} {B:Kn} {L:List Cells}
theorem Zun {C:Cx P} {o:Oper} {f:FuncId} {vs:List Value} (hg:Zk ops S o.guard=some true)
  (hv :∀ρ:Operand→Value,(∀x u,ev S x=some u→ρ x=u)→∀(Q:Next→Kn→Cells→Prop) F,Q (.enter f vs.toArray) B (L.flatten ++ F)→hb P (execOp ρ o) Q B (L.flatten ++ F)) (hnd:Zh2 o.op=false)
  {todo:List Nat} {k:List Item} {T:Array Value} (ho:ops[i]? = some o) (hT:Ag T S)
  (h:C.X.R (G (Frame.enter P f vs.toArray .normal) (fat C.b T D (.inRegion ops (i :: todo) :: k) :: C.cs)) B (L.flatten ++ C.F)):C.X.R (G (fat C.b T D (.inRegion ops (i :: todo) :: k)) C.cs) B (L.flatten ++ C.F):=by
 refine C.X.step rfl fun w s=>?_
 obtain ⟨a,w',es,B',L',h1,h2,h3,rfl,rfl,rfl⟩:=Zcs _ _ _ _ (hv (evT T) (fun x v hx=>ZeO hT hx) (fun nx B' L'=>nx = .enter f vs.toArray∧B'=B∧L'=L.flatten ++ C.F) C.F ⟨rfl,rfl,rfl⟩) w #[] s
 simp only [Array.empty_append] at h1
 rw [Zjn hnd ho (ZbS hT hg)]
 have hk:(fat C.b T D (.inRegion ops (i :: todo) :: k)).kind≠.early:=C.early
 exact ⟨_,w',_,B',L.flatten ++ C.F,Zf9 hk (by intro a b c d r;simp [fat]) h1,fun e he=>h2 e (ZbV he),h3,h⟩
end
section
variable [Payload] (P:Program) (ty:TypeId) (Wg C n:Nat) (val:Nat→Value) (K:Goroutine→Kn→Cells→Prop)
def phL (p:PTag) (j:Nat):Lg (.lone P) where
 main:=true
 R:=PhaseR P ty Wg C n val K p j
 conv:=fun hle hs hb hl h=>.conv hle hs hb hl h
 step:=fun hg h=>PhaseR.step (by rw [hg];rfl) fun w s _=>let ⟨g',w',es,B',L',h1,h2,h3,h4⟩:=h w s;⟨g',w',es,B',L',h1,fun e he=>.inl (h2 e he),h3,h4⟩
 join:=fun h=>h.elim
def Zwm (i:Nat) (v:Value):Lg (.lone P) where
 main:=false
 R:=ZeJ P ty Wg C n i v
 conv:=fun hle hs hb hl h=>ZeJ.conv hle hs hb hl h
 step:=fun hg h=>ZeJ.step hg h
 join:=fun h=>h.elim
end
section
variable [Payload] {Lk:WgLink} {P:Program} {ty:TypeId} {Wg C n N:Nat} {val:Nat→Value} {K:Goroutine→Kn→Cells→Prop} {j:Nat} {B:Kn} {Lc:Cells} {f:FuncId} {kind:CallKind} {cs:List Frame} {ops:Array Oper} {i:Nat} {todo:List Nat} {k:List Item} {T:Array Value} {S:Env} {D:List Deferred}
 {dst:Option Tmp} {t':TypeId} {pos:String} {after:Array Edge} {ats:Array TypeId}
theorem ZkN (T:Array Value) (D:List Deferred) (dst:Option Tmp) (v:Value):Act.put ⟨T,D⟩ dst v=⟨putT T dst v,D⟩:=by cases dst <;> rfl
theorem Zja {fn:Func} {c:Code} {args:Array Value} (hf:P.funcs[f]? = some fn) (hb:fn.body=some c):Frame.enter P f args .normal=(base f).at ⟨args ++ Array.replicate (fn.ntmps - args.size) undef,[]⟩ [.code c]:=by
 simp [Frame.enter,hf,hb,base,Frame.at]
set_option maxRecDepth 100000 in
theorem ZwZ (H:WgLib P Lk) (hj:j<n) {x y:Operand} (ho:ops[i]? = some ⟨dst,.call ⟨.value (.func Lk.add),#[x,y],ats⟩,t',pos,after,none⟩) (he:enters P Lk.add=true) (hx:ev S x=some (.pointer (some ⟨Wg,0,none⟩))) (hy:ev S y=some (.int .i64 1)) (hT:Ag T S) (hk:kind≠.early)
  (h:PhaseR P Lk.tWg Wg C n val K .a2 j (G (fat (fb f kind) (putT T dst (.tuple #[])) D (.inRegion ops todo :: k)) cs) B Lc):PhaseR P Lk.tWg Wg C n val K .a5 j (G (fat (fb f kind) T D (.inRegion ops (i :: todo) :: k)) cs) B Lc:=by
 have key:=Zun (P:=.lone P) (C:=⟨phL P Lk.tWg Wg C n val K .a5 j,fb f kind,cs,[],hk⟩) (L:=[Lc]) (B:=B) (D:=D) (k:=k) (todo:=todo) (vs:=[.pointer (some ⟨Wg,0,none⟩),.int .i64 1]) (f:=Lk.add) (S:=S) (T:=T) rfl (fun ρ hρ Q F q=>by
   have:=ZeI (P:=.lone P) (B:=B) (L:=[Lc]) (dst:=dst) (ty:=t') (pos:=pos) (after:=after) (g:=none) (x:=.func Lk.add) (first:=#[]) (cap:=#[]) (ats:=ats) (S:=S) (xs:=[x,y]) (vs:=[.pointer (some ⟨Wg,0,none⟩),.int .i64 1]) he rfl (by simp [evs,hx,hy]) ρ hρ Q F
   exact this (by simpa using q)) rfl ho hT
 simp only [List.flatten_cons,List.flatten_nil,List.append_nil] at key
 refine key ?_
 have e:=Zja (args:=#[.pointer (some ⟨Wg,0,none⟩),.int .i64 1]) H.f_add (c:=body_add Lk) rfl
 have:=ZCb (a₀:=⟨T,D⟩) (b₀:=fb f kind) (ops₀:=ops) (i₀:=i) (rest₀:=todo) (k₀:=k) (cs:=cs) H hj (by rw [ho];simp only [Option.bind_some,ZkN];exact h) _ (ZCc Lk Wg)
 show PhaseR P Lk.tWg Wg C n val K .a5 j (G (Frame.enter P Lk.add #[.pointer (some ⟨Wg,0,none⟩),.int .i64 1] .normal) _) B Lc
 rw [e]
 exact this
set_option maxRecDepth 100000 in
theorem Zu4 {Jn:JoinT} {X:Lg ⟨P,Jn⟩} (H:WgLib P Lk) (hn:n<2147483648) {x:Operand} (ho:ops[i]? = some ⟨dst,.call ⟨.value (.func Lk.wait),#[x],ats⟩,t',pos,after,none⟩) (he:enters P Lk.wait=true) (hx:ev S x=some (.pointer (some ⟨Wg,0,none⟩))) (hT:Ag T S) (hk:kind≠.early)
  (hK :∀g B L,X.R g B L→K g B L) (h:X.R (G (fat (fb f kind) (putT T dst (.tuple #[])) D (.inRegion ops todo :: k)) cs) B ((C,.cells ((List.range n).map val).toArray Payload.ety (0,0)) :: Lc)):PhaseR P Lk.tWg Wg C n val K .a5 n (G (fat (fb f kind) T D (.inRegion ops (i :: todo) :: k)) cs) B Lc:=by
 have key:=Zun (P:=.lone P) (C:=⟨phL P Lk.tWg Wg C n val K .a5 n,fb f kind,cs,[],hk⟩) (L:=[Lc]) (B:=B) (D:=D) (k:=k) (todo:=todo) (vs:=[.pointer (some ⟨Wg,0,none⟩)]) (f:=Lk.wait) (S:=S) (T:=T) rfl (fun ρ hρ Q F q=>by
   have:=ZeI (P:=.lone P) (B:=B) (L:=[Lc]) (dst:=dst) (ty:=t') (pos:=pos) (after:=after) (g:=none) (x:=.func Lk.wait) (first:=#[]) (cap:=#[]) (ats:=ats) (S:=S) (xs:=[x]) (vs:=[.pointer (some ⟨Wg,0,none⟩)]) he rfl (by simp [evs,hx]) ρ hρ Q F
   exact this (by simpa using q)) rfl ho hT
 simp only [List.flatten_cons,List.flatten_nil,List.append_nil] at key
 refine key ?_
 have e:=Zja (args:=#[.pointer (some ⟨Wg,0,none⟩)]) H.f_wait (c:=body_wait Lk) rfl
 have:=Zyl (a₀:=⟨T,D⟩) (b₀:=fb f kind) (ops₀:=ops) (i₀:=i) (rest₀:=todo) (k₀:=k) (cs:=cs) (X:=X) H hn hK (by rw [ho];simp only [Option.bind_some,ZkN];exact h) _ (Zyn Lk Wg)
 show PhaseR P Lk.tWg Wg C n val K .a5 n (G (Frame.enter P Lk.wait #[.pointer (some ⟨Wg,0,none⟩)] .normal) _) B Lc
 rw [e]
 exact this
def Zf7 (P:Program):Frame:={ (default:Frame) with fn:=P.funcs.size,defers:=[],mode:=.panicking [goexitEntry] }
theorem ZyJ {x:Operand} {h:FuncId} {caps:List Value} {fn:Func} {code:Code} (ho:ops[i]? = some ⟨dst,.go ⟨.value x,#[],ats⟩,t',pos,after,none⟩) (hx:ev S x=some (.func (.func h) #[] caps.toArray)) (hT:Ag T S) (hk:kind≠.early) (hf:P.funcs[h]? = some fn) (hb:fn.body=some code) (hname:(fn.name == "runtime.NumGoroutine")=false)
  (hc:ZeJ P ty Wg C n j (val j) (G (Frame.enter P h caps.toArray .deferred) [Zf7 P]) B []) (hnext:PhaseR P ty Wg C n val K .a5 (j+1) (G (fat (fb f kind) (putT T dst undef) D (.inRegion ops todo :: k)) cs) B Lc) :
  PhaseR P ty Wg C n val K .a2 j (G (fat (fb f kind) T D (.inRegion ops (i :: todo) :: k)) cs) B Lc:=by
 have hev:evT T x = .func (.func h) #[] caps.toArray:=ZeO hT hx
 have hr :∀w,(execOp (Act.eval ⟨T,D⟩) ⟨dst,.go ⟨.value x,#[],ats⟩,t',pos,after,none⟩).run P w = .ok (.spawn ⟨.fn (.func h) caps.toArray,#[]⟩) w:=fun w=>by
  have e:Act.eval ⟨T,D⟩ x = .func (.func h) #[] caps.toArray:=by rw [← hev];cases x <;> rfl
  unfold execOp
  simp [resolve,Deferred.ofValue,e]
 have hl :∀w,(execOp (Act.eval ⟨T,D⟩) ⟨dst,.go ⟨.value x,#[],ats⟩,t',pos,after,none⟩).events P w #[] = #[]:=fun w=>by
  have e:Act.eval ⟨T,D⟩ x = .func (.func h) #[] caps.toArray:=by rw [← hev];cases x <;> rfl
  unfold execOp
  simp [resolve,Deferred.ofValue,e]
 rw [ZdO]
 refine PhaseR.go (g':=G (fat (fb f kind) (putT T dst undef) D (.inRegion ops todo :: k)) cs) (child:=born P ⟨.fn (.func h) caps.toArray,#[]⟩) rfl (fun w s=>?_) ?_ hnext
 ·rw [stepG_spawn (a:=⟨T,D⟩) ho rfl hk (hr w) rfl,ZkN,← ZdO]
  unfold listed
  rw [hl w,seen_none]
 ·refine ZeJ.step rfl fun w s=>⟨_,w,#[],B,[],?_,by simp,Ok.refl s,hc⟩
  have h1 : ¬ fn.name = "runtime.NumGoroutine":=by simpa using hname
  simp [born,stepG,unwind,callDeferred,invoke,callFunc,hf,h1,hb,GStep.after,seen_none,G,Zf7]
end
end Go.BL
namespace Go.BL
open Go.Conc Go.ConcN Go.RowKit Go.Conc.Lib Go.ConcR.Gen Go.ConcN.Gen
open Go.ConcR (KK wgBlock WgAt stA smA rd wr mk Payload)
section
variable [Payload] {Lk:WgLink} {P:Program} {ty:TypeId} {Wg C n nt:Nat} {i:Nat} {v:Value} {B:Kn} {L:Cells} {h:FuncId} {fn:Func} {ops:Array Oper} {m:Nat} {T:Array Value} {S:Env}
 {dst:Option Tmp} {t t':TypeId} {pos:String} {after:Array Edge} {ats:Array TypeId} {x y:Operand}
theorem Zyv (hf:P.funcs[h]? = some fn) (hr:fn.results = #[]) (T:Array Value) (todo:List Item):QuitsD P 2 0 (G { (fb h .deferred).at ⟨T,[]⟩ todo with mode:=.returning } [Zf7 P]):=by
 refine QuitsD.ctl (g':=G (Zf7 P) []) rfl (fun w=>?_) ?_
 ·simp [G,stepG,unwind,doReturn,results,Frame.at,fb,Zf7,hf,hr,seen,GStep.after,goexitEntry]
 refine QuitsD.ctl (g':={ G (Zf7 P) [] with status:=.finished }) rfl (fun w=>?_) ⟨rfl,rfl⟩
 simp [G,stepG,unwind,Zf7,goexitEntry,Frame.catches]
 rfl
theorem Zoe {main:Bool} {b:Frame} {a:Act} {k:List Item} {cs:List Frame} {w:World} {rest:List Nat} {o:Oper} (ho:ops[m]? = some o) (hw:Region.wanted o (yielded ops a.tmps)=true) (hk:b.kind≠.early) (hop:o.op = .store t x y) (hs :∀w,(sizeOf t).run P w = .ok 1 w) (hse :∀w es,(sizeOf t).events P w es=es)
  {ad:Addr} {u:Value} {q:Bool} (hx:a.eval x = .pointer (some ad)) (hy:a.eval y = .bool q) (hc:w.cell? ad=some u) (hz:w.frozen? ad=false) (hq:(P.funcs[b.fn]?).any (·.norace)=false) :
  stepG P main (G (b.at a (.inRegion ops (m :: rest) :: k)) cs) w = .go (G (b.at (a.put o.dst undef) (.inRegion ops rest :: k)) cs) (w.setCell ad (.bool q)) #[⟨.cell ad,true,false⟩]:=by
 have hr:(execOp a.eval o).run P w = .ok .skip (w.setCell ad (.bool q)):=by
  unfold execOp
  simp only [hop,hx,hy]
  simp [go_sem,stored,hc,hz,hs]
 have he:(execOp a.eval o).events P w #[] = #[⟨.cell ad,true,false⟩]:=by
  unfold execOp
  simp only [hop,hx,hy]
  simp [go_sem,storedEv,hc,hz,hs,hse]
  rw [events_store P w _ ad (.bool q) .plain rfl]
  simp [storedEv,hc,hz]
 rw [stepG_none ho hw hk hr]
 unfold listed
 rw [he,seen_eq hq (by simp)]
theorem Zpf (H:WgLib P Lk) {q:Bool} {D:List Deferred} (hD:D=[dcall Lk.done #[.pointer (some ⟨Wg,0,none⟩)]]) (hin:i<n) (ho:ops[m]? = some ⟨none,.store t x y,t',pos,after,none⟩) (hs :∀w,(sizeOf t).run P w = .ok 1 w) (hse :∀w es,(sizeOf t).events P w es=es)
  (hx:ev S x=some (.pointer (some ⟨C,i,none⟩))) (hy:ev S y=some (.bool q)) (hT:Ag T S) (hq:(P.funcs[h]?).any (·.norace)=false) (hf:P.funcs[h]? = some fn) (hr:fn.results = #[]) :
  ZeJ P Lk.tWg Wg C n i (.bool q) (G (fat (fb h .deferred) T D [.inRegion ops [m]]) [Zf7 P]) B L:=by
 subst hD
 have e1:Act.eval ⟨T,[dcall Lk.done #[.pointer (some ⟨Wg,0,none⟩)]]⟩ x = .pointer (some ⟨C,i,none⟩):=by have:=ZeO hT hx;rw [← this];cases x <;> rfl
 have e2:Act.eval ⟨T,[dcall Lk.done #[.pointer (some ⟨Wg,0,none⟩)]]⟩ y = .bool q:=by have:=ZeO hT hy;rw [← this];cases y <;> rfl
 rw [ZdO]
 refine ZeJ.stop rfl fun w s ⟨cs,hc,hn⟩=>⟨_,Zoe (a:=⟨T,[dcall Lk.done #[.pointer (some ⟨Wg,0,none⟩)]]⟩) (u:=cs[i]'(by omega)) ho rfl (by simp [fb]) rfl hs hse e1 e2 (by simp [World.cell?,hc,hn,hin]) (by simp [World.frozen?,hc]) hq,fun w' hl hh=>⟨26,?_⟩⟩
 have hK:WgLive Lk.tWg Wg w'∧Has C i (.bool q) w':=⟨hl,hh⟩
 simp only [ZkN,putT]
 u_c stepG_region_end kn_rely hK
 u_c stepG_end kn_rely hK
 u_in kn_rely hK
 rw [stepG_unwind_enter rfl H.f_done (nm_done Lk) rfl]
 simp only [goes_go]
 refine ⟨by u_nil,?_⟩
 have:=doneN H (Own:=FF) (Rd:=FF) (C:=C) (n:=n) (Low:=0) (k:=i+1) (val:=.bool q) (c:={ (fb h .deferred).at ⟨T,[]⟩ [] with mode:=.returning }) (cs:=[Zf7 P]) (qt:=2) rfl (Zyv hf hr T []) _ hK
 exact this
theorem Zgb (hT:Ag T S) (H:WgLib P Lk) {q q0:Bool} {D:List Deferred} (hq0:q=q0) (hD:D=[dcall Lk.done #[.pointer (some ⟨Wg,0,none⟩)]]) (hin:i<n) (ho:ops[m]? = some ⟨none,.store t x y,t',pos,after,none⟩) (hs :∀w,(sizeOf t).run P w = .ok 1 w) (hse :∀w es,(sizeOf t).events P w es=es)
  (hx:ev S x=some (.pointer (some ⟨C,i,none⟩))) (hy:ev S y=some (.bool q)) (hq:(P.funcs[h]?).any (·.norace)=false) (hf:P.funcs[h]? = some fn) (hr:fn.results = #[]) :
  ZeJ P Lk.tWg Wg C n i (.bool q0) (G (fat (fb h .deferred) T D [.inRegion ops [m]]) [Zf7 P]) B L:=by
 subst hq0
 exact Zpf H hD hin ho hs hse hx hy hT hq hf hr
def wc (P:Program) (ty:TypeId) (Wg C n i:Nat) (v:Value) (h:FuncId):Cx (.lone P):=⟨Zwm P ty Wg C n i v,fb h .deferred,[Zf7 P],[],by simp [fb]⟩
theorem ZuG (H:WgLib P Lk) {id0 id1:Nat} {l:List Oper} {caps:List Value} {s0:Nat} {I:Kn→List Cells→Prop} {K:Zai} (hf:P.funcs[h]? = some fn)
  (hb:fn.body=some (.seq (.region id0 #[⟨none,.defer ⟨.value (.func Lk.done),#[.tmp s0],ats⟩,t',pos,after,none⟩] false) (.region id1 l.toArray true))) (hn:fn.ntmps=nt) (hc:caps.length≤nt) (hs0:get (ZdD caps 0) s0=some (.pointer (some ⟨Wg,0,none⟩)))
  (hm:P.follows .mixedOrders=true) (hd:ZdB l.toArray=true) (hI:I B []) (hK :∀S D B L,¬ K S D B L)
  (hw:Zbl (wc P Lk.tWg Wg C n i v h) [] nt l.toArray I [] K (ZdD caps 0) [dcall Lk.done #[.pointer (some ⟨Wg,0,none⟩)]] B []) :
  ZeJ P Lk.tWg Wg C n i v (G (Frame.enter P h caps.toArray .deferred) [Zf7 P]) B []:=by
 let T0:Array Value:=caps.toArray ++ Array.replicate (nt - caps.length) undef
 have hen:Frame.enter P h caps.toArray .deferred=fat (fb h .deferred) T0 [] [.code (.seq (.region id0 #[⟨none,.defer ⟨.value (.func Lk.done),#[.tmp s0],ats⟩,t',pos,after,none⟩] false) (.region id1 l.toArray true))]:=by
  simp [Frame.enter,fat,fb,hf,hb,hn,T0]
 have hT:Ag T0 (ZdD caps 0):=fun i v hv=>by
  obtain ⟨_,h2⟩:=Zdk caps 0 i v hv
  have hlt:=ZV (a:=caps.toArray) (i:=i) (x:=v) (by simpa using h2)
  simp only [T0]
  rw [Array.getElem?_append_left hlt]
  simpa using h2
 have hT0:T0.size=nt:=by simp [T0];omega
 rw [hen]
 let X:=Zwm P Lk.tWg Wg C n i v
 show X.R _ B []
 refine X.ctl rfl (fun w=>ZkB) (X.ctl rfl (fun w=>Zgh) ?_)
 show X.R (G (fat (fb h .deferred) T0 [] (.inRegion #[⟨none,.defer ⟨.value (.func Lk.done),#[.tmp s0],ats⟩,t',pos,after,none⟩] [0] :: [.code (.region id1 l.toArray true)])) [Zf7 P]) B []
 have e1:Act.eval ⟨T0,[]⟩ (.tmp s0) = .pointer (some ⟨Wg,0,none⟩):=by
  have:=hT s0 _ hs0
  simp [Act.eval,Array.getD_eq_getD_getElem?,this]
 refine X.ctl (g':=G (fat (fb h .deferred) T0 [dcall Lk.done #[.pointer (some ⟨Wg,0,none⟩)]] (.inRegion #[⟨none,.defer ⟨.value (.func Lk.done),#[.tmp s0],ats⟩,t',pos,after,none⟩] [] :: [.code (.region id1 l.toArray true)])) [Zf7 P]) rfl (fun w=>?_) ?_
 ·rw [ZdO,stepG_defer (a:=⟨T0,[]⟩) (by rfl) rfl (by simp [fb]) rfl]
  simp only [List.map_toArray,List.map_cons,List.map_nil,e1]
  rfl
 refine X.ctl rfl (fun w=>Zco) ?_
 refine X.step rfl fun w s=>⟨_,_,_,B,[],ZfC,by simp,⟨Kn.le.refl B,⟨s.ro,s.own,s.nodup,s.apart⟩,Nat.le_refl _,fun _ _ _=>rfl,fun b o hb=>.inl (by rw [hb];rfl),fun p hp=>.inl ⟨p,hp,rfl⟩,fun _=>rfl,rfl,rfl,rfl⟩,?_⟩
 exact hw T0 [] [] _ (Zns (P:=.lone P) hm hd _) (fun i hi=>by cases hi) (fun i hi=>by cases hi) (fun i hi=>by cases hi) (fun p hp=>by cases hp) trivial hT0 trivial hT hI fun S' D' B' L' T' hle hq _ _=>absurd hq (hK _ _ _ _)
end
end Go.BL
namespace Go.BL
open Go.Conc Go.ConcN
theorem Ztq {W w:World} (h:KW W w):Go.RowKit.Grown W w:=by
 refine ⟨⟨h.os,h.output,fun i hi=>?_⟩,h.fz,h.size⟩
 rw [h.same i hi]
 cases W.heap[i]? with
 | none=>trivial
 | some o=>cases o <;> first | rfl | exact .inr ⟨rfl,rfl⟩ | exact ⟨rfl,rfl,rfl,fun _ _=>rfl⟩
theorem Zvo {W w:World} (h:KW W w):Kept W w:=⟨h.same,Ztq h⟩
theorem FrameS.solo (P:Program) (W:World) (g:Goroutine):FrameS P W (fun _=>False) #[g] W #[] (fun _=>0) g (Za2 W) []:=by
 refine ⟨rfl,fun i x hi hx=>?_,⟨noRace_nil,fun i a ha=>by simp [touchAt,Trace.act?] at ha,fun i x hg=>by simp [Trace.g?] at hg,Deaf_absent fun i op hi=>by simp at hi,fun op hop=>by simp at hop⟩,fun op hop=>by simp at hop,ZxX W,fun l hl=>hl.elim,⟨fun _ _=>rfl,Nat.le_refl _,fun _=>rfl,rfl,rfl,rfl⟩,fun p hp=>by cases hp⟩
 have:i<1:=by simpa using (Array.getElem?_eq_some_iff.1 hx).1
 omega
theorem Zu0 {P:Program} {f:FuncId} {fn:Func} {code:Code} {t:Tmp} (n:Nat) (hf:P.funcs[f]? = some fn) (hbd:fn.body=some code) (hn:fn.ntmps=n) (hrs:fn.results.toList=[.tmp t]) (hi:P.inits.idxOf? f=none) {args:List Value} (ha:args.length≤n) {Post:Value→Kn→List Cells→Prop} {W:World}
  (h:wpS ⟨P,Zo9 P⟩ n code (Zf8 ⟨P,Zo9 P⟩ [.tmp t] Post) (ZdD args 0) [] (Za2 W) []) :
∃M last o w' t',runNT P (M+1) (solo (G (Frame.enter P f args.toArray .normal) []) W) #[]=(.ended o w',t')∧runN P M (solo (G (Frame.enter P f args.toArray .normal) []) W) = .next last∧step P last = .ended o w'∧
   Go.Conc.Good P (fun v w'=>Kept W w'∧∃(B':Kn) (Ls':List Cells),Sat B' Ls'.flatten w'∧Post v B' Ls') last o w' t':=by
 let b0:Frame:={ fn:=f,tmps:=#[],todo:=[],defers:=[],mode:=.run,kind:=.normal }
 let T0:Array Value:=args.toArray ++ Array.replicate (n - args.length) undef
 have hen:Frame.enter P f args.toArray .normal=fat b0 T0 [] [.code code]:=by
  simp [Frame.enter,fat,hf,hbd,hn,b0,T0]
 have hT:Ag T0 (ZdD args 0):=fun i v hv=>by
  obtain ⟨_,h2⟩:=Zdk args 0 i v hv
  have hlt:=ZV (a:=args.toArray) (i:=i) (x:=v) (by simpa using h2)
  simp only [T0]
  rw [Array.getElem?_append_left hlt]
  simpa using h2
 let PostF:Value→World→Prop:=fun v w'=>Kept W w'∧∃(B':Kn) (Ls':List Cells),Sat B' Ls'.flatten w'∧Post v B' Ls'
 have key:=h ⟨ZqN P PostF W,b0,[],[],by simp [b0]⟩ [] T0 (by simp [T0];omega) hT fun e S' D' B' L' T' hle hq hn' hT'=>by
  obtain ⟨he,rfl,vs,Lr,hr,⟨gl,hp⟩,hq⟩:=hq
  have fin :∀fr:Frame,fr.fn=f→fr.mode = .returning→fr.defers=[]→fr.kind = .normal→fr.tmps=T'→(ZqN P PostF W).R (G fr []) B' (L'.flatten ++ []):=fun fr f1 f2 f3 f4 f5=>by
   refine Za8.ended rfl fun w s kw=>?_
   match vs,hr with
   | [v],⟨h1,_⟩=>
    have hr2:fn.results = #[.tmp t]:=by apply Array.ext';rw [hrs]
    have h2:=hT' t v h1
    refine ⟨v,#[],?_,by simp,Zvo kw,B',Lr,(s.perm (by rw [List.append_nil];exact hp)).left,hq⟩
    simp [G,stepG,f2,unwind,doReturn,f1,f3,f4,hf,results,hr2,f5,Sem.run,Sem.events,Sem.runT,Array.getD_eq_getD_getElem?,h2,Pure.pure,Bind.bind,Sem.bind,Functor.map,seen,GStep.after,hi]
  rcases he with rfl | rfl
  ·refine ⟨rfl,fun todo=>?_⟩
   exact fin _ rfl rfl rfl rfl rfl
  ·exact (ZqN P PostF W).ctl rfl (fun w=>ZiO rfl) (fin _ rfl rfl rfl rfl rfl)
 rw [hen]
 exact key #[G (fat b0 T0 [] [.code code]) []] W none #[] (fun _=>0) (fun _=>False) (FrameS.solo P W _)
end Go.BL
namespace Go.BL
open Go.Conc Go.ConcN Go.RowKit Go.Conc.Lib
open Go.ConcR (KK wgBlock WgAt stA smA rd wr mk Payload)
def Joins (P:Program) (J:JoinT):Prop:=(∀(main:Bool) (R:Goroutine→Kn→Cells→Prop) (g:Goroutine) (B:Kn) (L:Cells),Zwe P main R g B L→J.rel main R g B L)∧
∀(main:Bool) (R:Goroutine→Kn→Cells→Prop) (g:Goroutine) (B:Kn) (L:Cells),(main=true→g.status = .running∧LockR P R 0 g B L)→J.rel main R g B L
theorem ZmD (P:Program):Joins P (Zo9 P):=⟨fun main R g B L h=>.base h,fun main R g B L h=>.lock h⟩
theorem Zhx {P:PJ} {f:FuncId} {fn:Func} {code:Code} (n:Nat) (hf:P.funcs[f]? = some fn) (hb:fn.body=some code) (hn:fn.ntmps=n) {args:List Value} (ha:args.length≤n) {B:Kn} {Ls:List Cells} {Post:Value→Kn→List Cells→Prop}
  (h :∀(X:Lg P) (kind:CallKind) (c:Frame) (cs:List Frame) (F:Cells) (T:Array Value),Bk kind c→kind≠.early→(∀v B' Ls',B.le B'→Post v B' Ls'→X.R (G (Zeg kind c v) cs) B' (Ls'.flatten ++ F))→T.size=n→Ag T (ZdD args 0)→
   X.R (G (fat (fb f kind) T [] [.code code]) (c :: cs)) B (Ls.flatten ++ F)):Zw P f args B Ls Post:=fun X kind c cs F hk hA=>by
 have hke:kind≠.early:=by rcases hk with rfl | ⟨rfl,_⟩ <;> simp
 have hen:Frame.enter P f args.toArray kind=fat (fb f kind) (args.toArray ++ Array.replicate (n - args.length) undef) [] [.code code]:=by
  simp [Frame.enter,fat,fb,hf,hb,hn]
 rw [hen]
 refine h X kind c cs F _ hk hke hA (by simp;omega) fun i v hv=>?_
 obtain ⟨_,h2⟩:=Zdk args 0 i v hv
 have hlt:=ZV (a:=args.toArray) (i:=i) (x:=v) (by simpa using h2)
 rw [Array.getElem?_append_left hlt]
 simpa using h2
theorem ZvN {P:PJ} {X:Lg P} {f:FuncId} {fn:Func} {kind:CallKind} {c:Frame} {cs:List Frame} {F:Cells} {T:Array Value} {code:Code} {n:Nat} {rs:List ResultVar} {S:Env} {B:Kn} {L:List Cells} {Post:Value→Kn→List Cells→Prop} (hf:P.funcs[f]? = some fn) (hrs:fn.results.toList=rs) (hk:Bk kind c) (hke:kind≠.early) (hn:T.size=n) (hT:Ag T S)
  (hA :∀v B' Ls',B.le B'→Post v B' Ls'→X.R (G (Zeg kind c v) cs) B' (Ls'.flatten ++ F)) (h:wpS P n code (Zf8 P rs Post) S [] B L):X.R (G (fat (fb f kind) T [] [.code code]) (c :: cs)) B (L.flatten ++ F):=
 h ⟨X,fb f kind,c :: cs,F,hke⟩ [] T hn hT fun e S' D' B' L' T' hle hq hn' hT'=>by
  obtain ⟨he,rfl,vs,Lr,hr,⟨gl,hp⟩,hq⟩:=hq
  rw [← hrs] at hr
  rcases he with rfl | rfl
  ·refine ⟨rfl,fun todo=>?_⟩
   exact Zcc hf hk rfl rfl rfl rfl hT' hr hp (hA _ B' Lr hle hq)
  ·exact X.ctl rfl (fun w=>ZiO rfl) (Zcc hf hk rfl rfl rfl rfl hT' hr hp (hA _ B' Lr hle hq))
theorem Zo6 [Payload] {P:Program} {main:Bool} {f:FuncId} {kind:CallKind} {T:Array Value} {D:List Deferred} {ops:Array Oper} {i:Nat} {rest:List Nat} {k:List Item} {cs:List Frame} {w:World} {dst:Option Tmp} {t ty:TypeId} {pos:String} {after:Array Edge} {z:Value} (ho:ops[i]? = some ⟨dst,.alloc t,ty,pos,after,none⟩) (hk:kind≠.early) (hz:Zak P t=some z) :
  stepG P main (G (fat (fb f kind) T D (.inRegion ops (i :: rest) :: k)) cs) w = .go (G (fat (fb f kind) (putT T dst (ptr ⟨w.heap.size,0,none⟩)) D (.inRegion ops rest :: k)) cs) { w with heap:=w.heap.push (.cells z.cells t) } #[]:=by
 have hi :∃inf,P.info? t=some inf∧inf.zero=some z:=by
  unfold Zak at hz
  exact Option.bind_eq_some_iff.1 hz
 obtain ⟨inf,h1,h2⟩:=hi
 have hrT:(execOp (Act.eval ⟨T,D⟩) ⟨dst,.alloc t,ty,pos,after,none⟩).runT P w #[]=(.ok (.value (ptr ⟨w.heap.size,0,none⟩)) { w with heap:=w.heap.push (.cells z.cells t) },#[]):=by
  simp only [execOp,Instr.alloc,newVar,newRow,newObj,zeroValue,typeInfo,Go.program,Bind.bind,Pure.pure,Sem.bind,Sem.runT,h1,h2]
 obtain ⟨hr,he⟩:=Zbc (P:=.lone P) hrT
 rw [ZdO,stepG_value ho rfl hk hr]
 unfold listed
 rw [he,seen_none,ZkN,← ZdO]
theorem ZsM [pay:Payload] {P:Program} {J:JoinT} (hJ:Joins P J) {X:Lg ⟨P,J⟩} {f:FuncId} {kind:CallKind} {cs:List Frame} {T:Array Value} {D:List Deferred} {ops:Array Oper} {i:Nat} {todo:List Nat} {k:List Item} {dst:Option Tmp} {t ty:TypeId} {pos:String} {after:Array Edge} {C n:Nat} {val:Nat→Value} {cells:Array Value} {B:Kn} {L L₁:Cells}
  (ho:ops[i]? = some ⟨dst,.alloc t,ty,pos,after,none⟩) (hk:kind≠.early) {z:Value} (hz:Zak P t=some z) (hzc:z.cells = #[.int .u64 0,.int .u32 0]) (hn:n<2147483648) (hc:cells.size=n) (hp:L.Perm ((C,.cells cells pay.ety (0,0)) :: L₁))
  (h:X.main=true→∀Wg,B.mem Wg=none→(∀p,p∈L→p.1≠Wg)→PhaseR P t Wg C n val X.R .a5 0 (G (fat (fb f kind) (putT T dst (ptr ⟨Wg,0,none⟩)) D (.inRegion ops todo :: k)) cs) B L₁) :
  X.R (G (fat (fb f kind) T D (.inRegion ops (i :: todo) :: k)) cs) B L:=by
 refine X.join (hJ.1 _ _ _ _ _ fun hm=>⟨rfl,pay,t,C,n,val,cells,L₁,fun b=>G (fat (fb f kind) (putT T dst (ptr ⟨b,0,none⟩)) D (.inRegion ops todo :: k)) cs,hn,hc,hp,fun w s=>?_,fun Wg h1 h2=>h hm Wg h1 h2⟩)
 rw [Zo6 ho hk hz,hzc]
 rfl
theorem Zu5 [Payload] {P:Program} {t:TypeId} {Wg C n nt:Nat} {val:Nat→Value} {K:Goroutine→Kn→Cells→Prop} {f:FuncId} {kind:CallKind} {cs:List Frame} {body:Code} {k:List Item} (St:Nat→Env) {B:Kn} {Lc:Cells}
  (round :∀j,j≤n→∀B' T',B.le B'→T'.size=nt→Ag T' (St j)→(j<n→∀B'' T'',B'.le B''→T''.size=nt→Ag T'' (St (j+1))→PhaseR P t Wg C n val K .a5 (j+1) (G (fat (fb f kind) T'' [] (.inLoop body :: k)) cs) B'' Lc)→PhaseR P t Wg C n val K .a5 j (G (fat (fb f kind) T' [] (.code body :: .inLoop body :: k)) cs) B' Lc)
  {T:Array Value} (hn:T.size=nt) (hT:Ag T (St 0)):PhaseR P t Wg C n val K .a5 0 (G (fat (fb f kind) T [] (.code (.loop body) :: k)) cs) B Lc:=by
 have key :∀d j,j+d=n→∀B' T',B.le B'→T'.size=nt→Ag T' (St j)→PhaseR P t Wg C n val K .a5 j (G (fat (fb f kind) T' [] (.code body :: .inLoop body :: k)) cs) B' Lc:=by
  intro d
  induction d with
  | zero=>
   intro j hj B' T' hle hn' hT'
   exact round j (by omega) B' T' hle hn' hT' fun h=>by omega
  | succ d ih=>
   intro j hj B' T' hle hn' hT'
   refine round j (by omega) B' T' hle hn' hT' fun h B'' T'' hle' hn'' hT''=>?_
   exact (phL P t Wg C n val K .a5 (j+1)).ctl rfl (fun w=>ZhL) (ih (j+1) (by omega) B'' T'' (hle.trans hle') hn'' hT'')
 exact (phL P t Wg C n val K .a5 0).ctl rfl (fun w=>Zl8) (key n 0 (by omega) B T (Kn.le.refl B) hn hT)
end Go.BL
namespace Go.BL
open Go.Conc Go.ConcN Go.RowKit
open Go.Conc.Locks (MuLink MuLib lockFn unlockFn ilockFn iunlockFn disableFn enableFn acquireFn relMergeFn cas32Fn add32Fn)
open Go.ConcR (mk)
theorem Zmk {b:Nat} {v0:Value} (v:Value) {rest:List Value} {T:TypeId} {B:Kn} {F:Cells} {w:World} (s:Sat B (ZN b (v0 :: rest) T ++ F) w) :
  w.cell? ⟨b,0,none⟩=some v0∧w.frozen? ⟨b,0,none⟩=false∧Ok B (ZN b (v0 :: rest) T ++ F) w B (ZN b (v :: rest) T ++ F) (w.setCell ⟨b,0,none⟩ v):=by
 have hw:w.heap[b]? = some (.cells (v0 :: rest).toArray T (0,0)):=s.own (b,_) (by simp [ZN])
 refine ⟨by simp [World.cell?,hw],by simp [World.frozen?,hw],?_⟩
 refine Ok.turn s (o:=.cells (v0 :: rest).toArray T (0,0)) (List.Perm.refl _) (by simp [World.setCell]) ?_ (fun c hc=>?_) (fun _=>rfl) rfl rfl rfl
 ·simp [World.setCell,getElem?_modify',hw]
 ·simp only [World.setCell,getElem?_modify'];rw [if_neg (Ne.symm hc)]
theorem Zx3 (T:Array Value) (D:List Deferred) (dst:Option Tmp) (v:Value):Act.put ⟨T,D⟩ dst v=⟨putT T dst v,D⟩:=by cases dst <;> rfl
theorem Zg5 (L:MuLink):((disableFn L).name == "runtime.NumGoroutine")=false:=by kernel_rfl
theorem Zg7 (L:MuLink):(disableFn L).body.isNone=true:=by kernel_rfl
theorem Zg4 (L:MuLink):Extern.findNext (disableFn L)=none:=by kernel_rfl
theorem Zg6 (L:MuLink):Extern.find (disableFn L)=some (fun _=>do mark .disable;pure Extern.Race.none_):=by kernel_rfl
theorem ZhB (L:MuLink):((enableFn L).name == "runtime.NumGoroutine")=false:=by kernel_rfl
theorem ZhD (L:MuLink):(enableFn L).body.isNone=true:=by kernel_rfl
theorem ZhA (L:MuLink):Extern.findNext (enableFn L)=none:=by kernel_rfl
theorem ZhC (L:MuLink):Extern.find (enableFn L)=some (fun _=>do mark .enable;pure Extern.Race.none_):=by kernel_rfl
theorem Zkh (L:MuLink):((acquireFn L).name == "runtime.NumGoroutine")=false:=by kernel_rfl
theorem Zkj (L:MuLink):(acquireFn L).body.isNone=true:=by kernel_rfl
theorem Zkg (L:MuLink):Extern.findNext (acquireFn L)=none:=by kernel_rfl
theorem Zki (L:MuLink):Extern.find (acquireFn L)=some (Extern.Race.marked .acquire):=by kernel_rfl
theorem Zr3 (L:MuLink):((relMergeFn L).name == "runtime.NumGoroutine")=false:=by kernel_rfl
theorem Zr5 (L:MuLink):(relMergeFn L).body.isNone=true:=by kernel_rfl
theorem Zr2 (L:MuLink):Extern.findNext (relMergeFn L)=none:=by kernel_rfl
theorem Zr4 (L:MuLink):Extern.find (relMergeFn L)=some (Extern.Race.marked .releaseMerge):=by kernel_rfl
theorem Zr7 (L:MuLink):((cas32Fn L).name == "runtime.NumGoroutine")=false:=by kernel_rfl
theorem Zr9 (L:MuLink):(cas32Fn L).body.isNone=true:=by kernel_rfl
theorem Zr6 (L:MuLink):Extern.findNext (cas32Fn L)=none:=by kernel_rfl
theorem Zr8 (L:MuLink):Extern.find (cas32Fn L)=some (Extern.Atomic.casT (.int .i32)):=by kernel_rfl
theorem Zsb (L:MuLink):((add32Fn L).name == "runtime.NumGoroutine")=false:=by kernel_rfl
theorem Zsd (L:MuLink):(add32Fn L).body.isNone=true:=by kernel_rfl
theorem Zsa (L:MuLink):Extern.findNext (add32Fn L)=none:=by kernel_rfl
theorem Zsc (L:MuLink):Extern.find (add32Fn L)=some (Extern.Atomic.update (Op.intArith .add) .i32 true):=by kernel_rfl
section
variable {P:Program} {K:Goroutine→Kn→Cells→Prop} {d d':Nat} {f:FuncId} {kind:CallKind} {cs:List Frame} {T:Array Value} {D:List Deferred} {ops:Array Oper} {i:Nat} {todo:List Nat} {k:List Item} {B:Kn} {L:Cells} {dst:Option Tmp} {v:Value} {es:Array Event}
theorem ZnY {S:Env} (hT:Ag T S) {x:Operand} (h:ev S x=some v):Act.eval ⟨T,D⟩ x=v:=by
 have:=ZeO hT h
 rw [← this];cases x <;> rfl
theorem ZgN (d':Nat) (hst :∀w,stepG P true (G ((fb f kind).at ⟨T,D⟩ (.inRegion ops (i :: todo) :: k)) cs) w = .go (G ((fb f kind).at (Act.put ⟨T,D⟩ dst v) (.inRegion ops todo :: k)) cs) w es) (hev :∀e,e∈es→(MemAct.ofEvent e).touch? = none) (hd:deafBehind d es=d')
  (h:LockR P K d' (G (fat (fb f kind) (putT T dst v) D (.inRegion ops todo :: k)) cs) B L):LockR P K d (G (fat (fb f kind) T D (.inRegion ops (i :: todo) :: k)) cs) B L:=
 LockR.step d' rfl fun w s=>⟨_,w,es,B,L,(by rw [ZdO];exact hst w),fun e he x hx=>(by rw [hev e he] at hx;cases hx),hd,Ok.refl s,(by rw [Zx3,← ZdO];exact h)⟩
theorem Zqp {b:Nat} {v0 v1:Value} {rest:List Value} {Tb:TypeId} {F:Cells} (hst :∀w:World,w.cell? ⟨b,0,none⟩=some v0→w.frozen? ⟨b,0,none⟩=false→stepG P true (G ((fb f kind).at ⟨T,D⟩ (.inRegion ops (i :: todo) :: k)) cs) w = .go (G ((fb f kind).at (Act.put ⟨T,D⟩ dst v) (.inRegion ops todo :: k)) cs) (w.setCell ⟨b,0,none⟩ v1) #[⟨.cell ⟨b,0,none⟩,false,true⟩,⟨.cell ⟨b,0,none⟩,true,true⟩])
  (h:LockR P K d (G (fat (fb f kind) (putT T dst v) D (.inRegion ops todo :: k)) cs) B (ZN b (v1 :: rest) Tb ++ F)):LockR P K d (G (fat (fb f kind) T D (.inRegion ops (i :: todo) :: k)) cs) B (ZN b (v0 :: rest) Tb ++ F):=
 LockR.step d rfl fun w s=>by
  obtain ⟨hc,hz,hok⟩:=Zmk v1 s
  refine ⟨_,_,_,B,_,(by rw [ZdO];exact hst w hc hz),fun e he x hx=>?_,deafBehind_still (fun e he=>?_) d,hok,(by rw [Zx3,← ZdO];exact h)⟩
  ·simp only [List.mem_toArray,List.mem_cons,List.not_mem_nil,or_false] at he
   have hb :∃o,(b,o)∈ZN b (v0 :: rest) Tb ++ F:=⟨_,List.mem_append_left _ (List.mem_singleton.2 rfl)⟩
   rcases he with rfl | rfl <;> (simp only [MemAct.ofEvent,MemAct.touch?,Option.some.injEq] at hx;first | (subst hx;exact ⟨b,rfl,.inl hb⟩) | (simp at hx;subst hx;exact ⟨b,rfl,.inl hb⟩))
  ·simp only [List.mem_toArray,List.mem_cons,List.not_mem_nil,or_false] at he
   rcases he with rfl | rfl <;> simp
theorem Zup {o:Oper} (v:Value) (ho:ops[i]? = some o) (hw:Region.wanted o (yielded ops T)=true) (hk:kind≠.early) (hr :∀w,Sat B L w→(execOp (Act.eval ⟨T,D⟩) o).run P w = .ok (.value v) w) (he :∀w,Sat B L w→(execOp (Act.eval ⟨T,D⟩) o).events P w #[] = #[])
  (h:LockR P K d (G (fat (fb f kind) (putT T o.dst v) D (.inRegion ops todo :: k)) cs) B L):LockR P K d (G (fat (fb f kind) T D (.inRegion ops (i :: todo) :: k)) cs) B L:=
 LockR.step d rfl fun w s=>⟨_,w,#[],B,L,(by rw [ZdO,stepG_value (a:=⟨T,D⟩) ho hw hk (hr w s)];unfold listed;rw [he w s,seen_none]),fun e he=>(by simp at he),rfl,Ok.refl s,(by rw [Zx3,← ZdO];exact h)⟩
end
section
variable {P:Program} {J:JoinT} {Lk:MuLink} {b:Nat} {T:TypeId} {rest:List Value} {B:Kn}
set_option maxRecDepth 100000 in
theorem Zxk (hJ:Joins P J) (H:MuLib P Lk) (hfo:Zt P Lk.tIMutex 0=some 0):Zw ⟨P,J⟩ Lk.ilock [ptr ⟨b,0,none⟩] B [ZN b (.int .i32 0 :: rest) T] (fun v B' Ls=>B'=B∧v = .tuple #[]∧Ls=[ZN b (.int .i32 1 :: rest) T]):=
 Zhx (P:=⟨P,J⟩) (fn:=ilockFn Lk) 13 H.f_ilock rfl rfl (by simp) fun X kind c cs F T0 hk hke hA hn hT=>by
  refine X.join (hJ.2 _ _ _ _ _ fun hm=>⟨rfl,?_⟩)
  let C0:Cx (.lone P):=⟨Zs7 P X.R 0,fb Lk.ilock kind,c :: cs,F,hke⟩
  let C1:Cx (.lone P):=⟨Zs7 P X.R 1,fb Lk.ilock kind,c :: cs,F,hke⟩
  replace hT:Ag T0 [(0,ptr ⟨b,0,none⟩)]:=hT
  refine Zbk (C:=C0) (L:=[ZN b (.int .i32 0 :: rest) T]) ?_
  refine ZaI (C:=C0) (L:=[ZN b (.int .i32 0 :: rest) T]) ?_
  refine ZgN (i:=0) (todo:=[]) (dst:=some 2) (v:=.tuple #[]) (es:=#[⟨.mark .disable,false,true⟩]) 1 (fun w=>?_) (by intro e he;simp at he;subst he;rfl) rfl ?_
  ·exact (stepG_mark0 .disable (by simp) (by rfl) (by rfl) (by exact hke) (by rfl) H.f_disable (Zg5 Lk) (Zg7 Lk) (Zg4 Lk) (Zg6 Lk)).trans (by rfl)
  have hT1:=hT.putT hn (dst:=some 2) rfl (.tuple #[])
  have hn1:=(Zau T0 (some 2) (.tuple #[])).trans hn
  generalize putT T0 (some 2) (.tuple #[])=T1 at hT1 hn1 ⊢
  refine Z2 (C:=C1) (L:=[ZN b (.int .i32 0 :: rest) T]) ?_
  refine Zbk (C:=C1) (L:=[ZN b (.int .i32 0 :: rest) T]) ?_
  refine Zbk (C:=C1) (L:=[ZN b (.int .i32 0 :: rest) T]) ?_
  refine ZaI (C:=C1) (L:=[ZN b (.int .i32 0 :: rest) T]) ?_
  refine Zci (C:=C1) (L:=[ZN b (.int .i32 0 :: rest) T]) (i:=0) (todo:=[1,2,3]) rfl hn1 hT1 (Zj (Zcl rfl rfl rfl fun T2 hn2 hT2=>?_))
  refine Zci (C:=C1) (L:=[ZN b (.int .i32 0 :: rest) T]) (i:=1) (todo:=[2,3]) rfl hn2 hT2 (Zj (ZaS rfl rfl rfl fun T3 hn3 hT3=>?_))
  refine Zci (C:=C1) (L:=[ZN b (.int .i32 0 :: rest) T]) (i:=2) (todo:=[3]) rfl hn3 hT3 (Zj (Zaw rfl rfl hfo rfl fun T4 hn4 hT4=>?_))
  refine Zqp (i:=3) (todo:=[]) (dst:=some 6) (v:=.bool true) (v1:=.int .i32 1) (fun w hc hz=>?_) ?_
  ·exact (stepG_cas_hit (by rfl) (by rfl) (by exact hke) (by rfl) H.f_cas32 (Zr7 Lk) (Zr9 Lk) (Zr6 Lk) .i32 (Zr8 Lk) (by exact ZnY hT4 rfl) (by rfl) (by rfl) hc hz).trans (by rfl)
  have hT5:=hT4.putT hn4 (dst:=some 6) rfl (.bool true)
  have hn5:=(Zau T4 (some 6) (.bool true)).trans hn4
  generalize putT T4 (some 6) (.bool true)=T5 at hT5 hn5 ⊢
  refine Z2 (C:=C1) (L:=[ZN b (.int .i32 1 :: rest) T]) ?_
  refine ZgX (t:=true) (C:=C1) (L:=[ZN b (.int .i32 1 :: rest) T]) rfl hT5 ?_
  refine Zbk (C:=C1) (L:=[ZN b (.int .i32 1 :: rest) T]) ?_
  refine ZgX (t:=true) (C:=C1) (L:=[ZN b (.int .i32 1 :: rest) T]) rfl hT5 ?_
  refine Zbk (C:=C1) (L:=[ZN b (.int .i32 1 :: rest) T]) ?_
  refine ZaI (C:=C1) (L:=[ZN b (.int .i32 1 :: rest) T]) ?_
  refine ZgN (i:=0) (todo:=[]) (dst:=some 7) (v:=.tuple #[]) (es:=#[⟨.mark .enable,false,true⟩]) 0 (fun w=>?_) (by intro e he;simp at he;subst he;rfl) rfl ?_
  ·exact (stepG_mark0 .enable (by simp) (by rfl) (by rfl) (by exact hke) (by rfl) H.f_enable (ZhB Lk) (ZhD Lk) (ZhA Lk) (ZhC Lk)).trans (by rfl)
  have hT6:=hT5.putT hn5 (dst:=some 7) rfl (.tuple #[])
  have hn6:=(Zau T5 (some 7) (.tuple #[])).trans hn5
  generalize putT T5 (some 7) (.tuple #[])=T6 at hT6 hn6 ⊢
  refine Z2 (C:=C0) (L:=[ZN b (.int .i32 1 :: rest) T]) ?_
  refine ZaI (C:=C0) (L:=[ZN b (.int .i32 1 :: rest) T]) ?_
  refine Zci (C:=C0) (L:=[ZN b (.int .i32 1 :: rest) T]) (i:=0) (todo:=[1,2]) rfl hn6 hT6 (Zj (Zcl rfl rfl rfl fun T7 hn7 hT7=>?_))
  have cell :∀w:World,Sat B ([ZN b (.int .i32 1 :: rest) T].flatten ++ F) w→w.cell? ⟨b,0,none⟩=some (.int .i32 1):=fun w s=>(Zmk (v0:=.int .i32 1) (F:=F) (.int .i32 1) s).1
  refine Zup (i:=1) (todo:=[2]) (ptr ⟨b,0,none⟩) rfl rfl hke (fun w s=>?_) (fun w s=>?_) ?_
  ·have e:T7[8]?.getD undef=ptr ⟨b,0,none⟩:=by have:=hT7 8 _ rfl;simp [this]
   have hcv:=run_convert_to_unsafe (P:=P) H.underlying_tPIMutex H.underlying_tUP H.room_tIMutex (cell w s)
   simp [execOp,e,hcv,Sem.run_bind,go_sem]
  ·have e:T7[8]?.getD undef=ptr ⟨b,0,none⟩:=by have:=hT7 8 _ rfl;simp [this]
   have hce:=fun es=>events_convert_to_unsafe (P:=P) H.underlying_tPIMutex H.underlying_tUP H.room_tIMutex (cell w s) es
   simp [execOp,e,hce,go_sem]
  have hT8:=hT7.putT hn7 (dst:=some 9) rfl (ptr ⟨b,0,none⟩)
  have hn8:=(Zau T7 (some 9) (ptr ⟨b,0,none⟩)).trans hn7
  show LockR P X.R 0 (G (fat (fb Lk.ilock kind) (putT T7 (some 9) (ptr ⟨b,0,none⟩)) [] _) (c :: cs)) B _
  generalize putT T7 (some 9) (ptr ⟨b,0,none⟩)=T8 at hT8 hn8 ⊢
  refine ZgN (i:=2) (todo:=[]) (dst:=some 10) (v:=.tuple #[]) (es:=#[⟨.mark (.acquire ⟨b,0,none⟩),false,true⟩]) 0 (fun w=>?_) (by intro e he;simp at he;subst he;rfl) rfl ?_
  ·exact (stepG_markAt .acquire (by simp) (by rfl) (by rfl) (by exact hke) (by rfl) H.f_acquire (Zkh Lk) (Zkj Lk) (Zkg Lk) (Zki Lk) (by simp only [List.map_toArray,List.map_cons,List.map_nil];rw [ZnY hT8 (x:=.tmp 9) rfl];rfl)).trans (by rfl)
  refine Z2 (C:=C0) (L:=[ZN b (.int .i32 1 :: rest) T]) ?_
  refine LockR.done ?_
  refine X.ctl rfl (fun w=>Zul rfl) ?_
  exact Zcc (X:=X) (L:=[ZN b (.int .i32 1 :: rest) T]) (Lr:=[ZN b (.int .i32 1 :: rest) T]) (S:=[]) (vs:=[]) (gl:=[]) H.f_ilock hk rfl rfl rfl rfl (fun i v h=>by cases h) trivial (by simp) (hA _ B _ (Kn.le.refl B) ⟨rfl,rfl,rfl⟩)
set_option maxRecDepth 100000 in
theorem Ztd (hJ:Joins P J) (H:MuLib P Lk) (hfo:Zt P Lk.tIMutex 0=some 0) (hlk:lk P 21=some none):Zw ⟨P,J⟩ Lk.iunlock [ptr ⟨b,0,none⟩] B [ZN b (.int .i32 1 :: rest) T] (fun v B' Ls=>B'=B∧v = .tuple #[]∧Ls=[ZN b (.int .i32 0 :: rest) T]):=
 Zhx (P:=⟨P,J⟩) (fn:=iunlockFn Lk) 21 H.f_iunlock rfl rfl (by simp) fun X kind c cs F T0 hk hke hA hn hT=>by
  refine X.join (hJ.2 _ _ _ _ _ fun hm=>⟨rfl,?_⟩)
  let C0:Cx (.lone P):=⟨Zs7 P X.R 0,fb Lk.iunlock kind,c :: cs,F,hke⟩
  let C1:Cx (.lone P):=⟨Zs7 P X.R 1,fb Lk.iunlock kind,c :: cs,F,hke⟩
  replace hT:Ag T0 [(0,ptr ⟨b,0,none⟩)]:=hT
  refine Zbk (C:=C0) (L:=[ZN b (.int .i32 1 :: rest) T]) ?_
  refine ZgX (t:=true) (C:=C0) (L:=[ZN b (.int .i32 1 :: rest) T]) rfl hT ?_
  refine Zbk (C:=C0) (L:=[ZN b (.int .i32 1 :: rest) T]) ?_
  refine ZaI (C:=C0) (L:=[ZN b (.int .i32 1 :: rest) T]) ?_
  refine Zci (C:=C0) (L:=[ZN b (.int .i32 1 :: rest) T]) (i:=0) (todo:=[1,2,3]) rfl hn hT (Zj (Zcl rfl rfl rfl fun T1 hn1 hT1=>?_))
  refine Zci (C:=C0) (L:=[ZN b (.int .i32 1 :: rest) T]) (i:=1) (todo:=[2,3]) rfl hn1 hT1 (Zj (ZaS rfl rfl rfl fun T2 hn2 hT2=>?_))
  refine Zci (C:=C0) (L:=[ZN b (.int .i32 1 :: rest) T]) (i:=2) (todo:=[3]) rfl hn2 hT2 (Zj (Zaw rfl rfl hfo rfl fun T3 hn3 hT3=>?_))
  refine Zci (C:=C0) (L:=[ZN b (.int .i32 1 :: rest) T]) (i:=3) (todo:=[]) rfl hn3 hT3 (Zj (Zo rfl rfl hlk rfl (atL 0 rfl rfl rfl) fun T4 hn4 hT4=>?_))
  refine Z2 (C:=C0) (L:=[ZN b (.int .i32 1 :: rest) T]) ?_
  refine Zbk (C:=C0) (L:=[ZN b (.int .i32 1 :: rest) T]) ?_
  refine ZaI (C:=C0) (L:=[ZN b (.int .i32 1 :: rest) T]) ?_
  refine Zci (C:=C0) (L:=[ZN b (.int .i32 1 :: rest) T]) (i:=0) (todo:=[1,2]) rfl hn4 hT4 (Zj (Zcl rfl rfl rfl fun T7 hn7 hT7=>?_))
  have cell :∀w:World,Sat B ([ZN b (.int .i32 1 :: rest) T].flatten ++ F) w→w.cell? ⟨b,0,none⟩=some (.int .i32 1):=fun w s=>(Zmk (v0:=.int .i32 1) (F:=F) (.int .i32 1) s).1
  have e7:T7[7]?.getD undef=ptr ⟨b,0,none⟩:=by have:=hT7 7 _ rfl;simp [this]
  refine Zup (i:=1) (todo:=[2]) (ptr ⟨b,0,none⟩) rfl rfl hke (fun w s=>?_) (fun w s=>?_) ?_
  ·have hcv:=run_convert_to_unsafe (P:=P) H.underlying_tPIMutex H.underlying_tUP H.room_tIMutex (cell w s)
   simp [execOp,e7,hcv,Sem.run_bind,go_sem]
  ·have hce:=fun es=>events_convert_to_unsafe (P:=P) H.underlying_tPIMutex H.underlying_tUP H.room_tIMutex (cell w s) es
   simp [execOp,e7,hce,go_sem]
  have hT8:=hT7.putT hn7 (dst:=some 8) rfl (ptr ⟨b,0,none⟩)
  have hn8:=(Zau T7 (some 8) (ptr ⟨b,0,none⟩)).trans hn7
  show LockR P X.R 0 (G (fat (fb Lk.iunlock kind) (putT T7 (some 8) (ptr ⟨b,0,none⟩)) [] _) (c :: cs)) B _
  generalize putT T7 (some 8) (ptr ⟨b,0,none⟩)=T8 at hT8 hn8 ⊢
  refine ZgN (i:=2) (todo:=[]) (dst:=some 9) (v:=.tuple #[]) (es:=#[⟨.mark (.releaseMerge ⟨b,0,none⟩),false,true⟩]) 0 (fun w=>?_) (by intro e he;simp at he;subst he;rfl) rfl ?_
  ·exact (stepG_markAt .releaseMerge (by simp) (by rfl) (by rfl) (by exact hke) (by rfl) H.f_relMerge (Zr3 Lk) (Zr5 Lk) (Zr2 Lk) (Zr4 Lk) (by simp only [List.map_toArray,List.map_cons,List.map_nil];rw [ZnY hT8 (x:=.tmp 8) rfl];rfl)).trans (by rfl)
  have hT9:=hT8.putT hn8 (dst:=some 9) rfl (.tuple #[])
  have hn9:=(Zau T8 (some 9) (.tuple #[])).trans hn8
  generalize putT T8 (some 9) (.tuple #[])=T9 at hT9 hn9 ⊢
  refine Z2 (C:=C0) (L:=[ZN b (.int .i32 1 :: rest) T]) ?_
  refine ZaI (C:=C0) (L:=[ZN b (.int .i32 1 :: rest) T]) ?_
  refine ZgN (i:=0) (todo:=[]) (dst:=some 10) (v:=.tuple #[]) (es:=#[⟨.mark .disable,false,true⟩]) 1 (fun w=>?_) (by intro e he;simp at he;subst he;rfl) rfl ?_
  ·exact (stepG_mark0 .disable (by simp) (by rfl) (by rfl) (by exact hke) (by rfl) H.f_disable (Zg5 Lk) (Zg7 Lk) (Zg4 Lk) (Zg6 Lk)).trans (by rfl)
  have hT10:=hT9.putT hn9 (dst:=some 10) rfl (.tuple #[])
  have hn10:=(Zau T9 (some 10) (.tuple #[])).trans hn9
  generalize putT T9 (some 10) (.tuple #[])=T10 at hT10 hn10 ⊢
  refine Z2 (C:=C1) (L:=[ZN b (.int .i32 1 :: rest) T]) ?_
  refine Zbk (C:=C1) (L:=[ZN b (.int .i32 1 :: rest) T]) ?_
  refine ZaI (C:=C1) (L:=[ZN b (.int .i32 1 :: rest) T]) ?_
  refine Zci (C:=C1) (L:=[ZN b (.int .i32 1 :: rest) T]) (i:=0) (todo:=[1,2,3,4]) rfl hn10 hT10 (Zj (Zcl rfl rfl rfl fun T11 hn11 hT11=>?_))
  refine Zci (C:=C1) (L:=[ZN b (.int .i32 1 :: rest) T]) (i:=1) (todo:=[2,3,4]) rfl hn11 hT11 (Zj (ZaS rfl rfl rfl fun T12 hn12 hT12=>?_))
  refine Zci (C:=C1) (L:=[ZN b (.int .i32 1 :: rest) T]) (i:=2) (todo:=[3,4]) rfl hn12 hT12 (Zj (Zaw rfl rfl hfo rfl fun T13 hn13 hT13=>?_))
  refine Zqp (i:=3) (todo:=[4]) (dst:=some 14) (v:=.int .i32 0) (v1:=.int .i32 0) (fun w hc hz=>?_) ?_
  ·exact (stepG_add_atomic (by rfl) (by rfl) (by exact hke) (by rfl) H.f_add32 (Zsb Lk) (Zsd Lk) (Zsa Lk) .i32 (Zsc Lk) (d:=-1) (by exact ZnY hT13 rfl) (by rfl) hc hz).trans (by rfl)
  have hT14:=hT13.putT hn13 (dst:=some 14) rfl (.int .i32 0)
  have hn14:=(Zau T13 (some 14) (.int .i32 0)).trans hn13
  generalize putT T13 (some 14) (.int .i32 0)=T14 at hT14 hn14 ⊢
  refine Zci (C:=C1) (L:=[ZN b (.int .i32 0 :: rest) T]) (i:=4) (todo:=[]) rfl hn14 hT14 (Zj (Zcm rfl rfl rfl fun T15 hn15 hT15=>?_))
  refine Z2 (C:=C1) (L:=[ZN b (.int .i32 0 :: rest) T]) ?_
  refine Zbk (C:=C1) (L:=[ZN b (.int .i32 0 :: rest) T]) ?_
  refine Zbk (C:=C1) (L:=[ZN b (.int .i32 0 :: rest) T]) ?_
  refine ZaI (C:=C1) (L:=[ZN b (.int .i32 0 :: rest) T]) ?_
  refine Zci (C:=C1) (L:=[ZN b (.int .i32 0 :: rest) T]) (i:=0) (todo:=[1]) rfl hn15 hT15 (Zj (Zcl rfl rfl rfl fun T16 hn16 hT16=>?_))
  refine Zci (C:=C1) (L:=[ZN b (.int .i32 0 :: rest) T]) (i:=1) (todo:=[]) rfl hn16 hT16 (Zj (Zpn rfl rfl rfl rfl fun T17 hn17 hT17=>?_))
  refine Z2 (C:=C1) (L:=[ZN b (.int .i32 0 :: rest) T]) ?_
  refine ZgX (t:=false) (C:=C1) (L:=[ZN b (.int .i32 0 :: rest) T]) rfl hT17 ?_
  refine Zrz (C:=C1) (L:=[ZN b (.int .i32 0 :: rest) T]) ?_
  refine ZaI (C:=C1) (L:=[ZN b (.int .i32 0 :: rest) T]) ?_
  refine ZgN (i:=0) (todo:=[]) (dst:=some 20) (v:=.tuple #[]) (es:=#[⟨.mark .enable,false,true⟩]) 0 (fun w=>?_) (by intro e he;simp at he;subst he;rfl) rfl ?_
  ·exact (stepG_mark0 .enable (by simp) (by rfl) (by rfl) (by exact hke) (by rfl) H.f_enable (ZhB Lk) (ZhD Lk) (ZhA Lk) (ZhC Lk)).trans (by rfl)
  refine Z2 (C:=C0) (L:=[ZN b (.int .i32 0 :: rest) T]) ?_
  refine LockR.done ?_
  refine X.ctl rfl (fun w=>ZiO rfl) ?_
  exact Zcc (X:=X) (L:=[ZN b (.int .i32 0 :: rest) T]) (Lr:=[ZN b (.int .i32 0 :: rest) T]) (S:=[]) (vs:=[]) (gl:=[]) H.f_iunlock hk rfl rfl rfl rfl (fun i v h=>by cases h) trivial (by simp) (hA _ B _ (Kn.le.refl B) ⟨rfl,rfl,rfl⟩)
theorem ZyM (hJ:Joins P J) (H:MuLib P Lk) (hfo:Zt P Lk.tIMutex 0=some 0) (hfm:Zt P Lk.tMutex 1=some 0) (he:enters P Lk.ilock=true):Zw ⟨P,J⟩ Lk.lock [ptr ⟨b,0,none⟩] B [ZN b (.int .i32 0 :: rest) T] (fun v B' Ls=>B'=B∧v = .tuple #[]∧Ls=[ZN b (.int .i32 1 :: rest) T]):=
 ZcO (P:=⟨P,J⟩) (rs:=[]) 6 H.f_lock rfl rfl rfl (by simp) (by
  refine Ze (Zj (Zcl rfl rfl rfl ?_))
  refine Zj (ZaS rfl rfl rfl ?_)
  refine Zj (Zaw rfl rfl hfm rfl ?_)
  refine Zj (ZbH [0] rfl rfl rfl rfl he rfl (Zxk hJ H hfo) ?_)
  rintro _ _ _ hle ⟨rfl,rfl,rfl⟩
  exact ZdI .normal (.inr rfl) [] [0] rfl trivial ⟨rfl,rfl,rfl⟩)
theorem Zl1 (hJ:Joins P J) (H:MuLib P Lk) (hfo:Zt P Lk.tIMutex 0=some 0) (hlk:lk P 21=some none) (hfm:Zt P Lk.tMutex 1=some 0) (he:enters P Lk.iunlock=true):Zw ⟨P,J⟩ Lk.unlock [ptr ⟨b,0,none⟩] B [ZN b (.int .i32 1 :: rest) T] (fun v B' Ls=>B'=B∧v = .tuple #[]∧Ls=[ZN b (.int .i32 0 :: rest) T]):=
 ZcO (P:=⟨P,J⟩) (rs:=[]) 6 H.f_unlock rfl rfl rfl (by simp) (by
  refine Ze (Zj (Zcl rfl rfl rfl ?_))
  refine Zj (ZaS rfl rfl rfl ?_)
  refine Zj (Zaw rfl rfl hfm rfl ?_)
  refine Zj (ZbH [0] rfl rfl rfl rfl he rfl (Ztd hJ H hfo hlk) ?_)
  rintro _ _ _ hle ⟨rfl,rfl,rfl⟩
  exact ZdI .normal (.inr rfl) [] [0] rfl trivial ⟨rfl,rfl,rfl⟩)
end
section
variable {P:PJ} {X:Lg P} {f u:FuncId} {fn fu:Func} {cu:Code} {kind:CallKind} {c:Frame} {cs:List Frame} {F:Cells} {T:Array Value} {S:Env} {B:Kn} {L:List Cells} {av:List Value} {todo:List Item}
theorem ZpN {main:Bool} {w:World} (hfu:P.funcs[u]? = some fu) (hnu:(fu.name == "runtime.NumGoroutine")=false) (hbu:fu.body=some cu) :
  stepG P main (G { fat (fb f kind) T [dcall u av.toArray] todo with mode:=.returning } (c :: cs)) w = .go (G (Frame.enter P u av.toArray .deferred) ({ fat (fb f kind) T [] todo with mode:=.returning } :: c :: cs)) w #[]:=by
 have h1 : ¬ fu.name = "runtime.NumGoroutine":=by simpa using hnu
 simp [G,stepG,unwind,callDeferred,fat,fb,dcall,invoke,callFunc,hfu,h1,hbu,GStep.after,seen_none]
theorem ZfE (hf:P.funcs[f]? = some fn) (hk:Bk kind c) (hfu:P.funcs[u]? = some fu) (hnu:(fu.name == "runtime.NumGoroutine")=false) (hbu:fu.body=some cu) (hT:Ag T S) {vs:List Value} (hr :∀B L,ZbP P S B L fn.results.toList vs) {Lr:List Cells} {gl:Cells} (hp:L.flatten.Perm (Lr.flatten ++ gl)) {Post:Value→Kn→List Cells→Prop}
  (hu:Zw P u av B Lr (fun _ B' Ls'=>Post (ZcU vs) B' Ls')) (hA :∀v B' Ls',B.le B'→Post v B' Ls'→X.R (G (Zeg kind c v) cs) B' (Ls'.flatten ++ F)):X.R (G { fat (fb f kind) T [dcall u av.toArray] todo with mode:=.returning } (c :: cs)) B (L.flatten ++ F):=by
 refine X.ctl rfl (fun w=>ZpN hfu hnu hbu) ?_
 refine X.drop (r:=Lr.flatten ++ F) (gl:=gl) ((hp.append_right F).trans (by rw [List.append_assoc,List.append_assoc];exact List.Perm.append_left _ List.perm_append_comm)) ?_
 refine hu X .deferred { fat (fb f kind) T [] todo with mode:=.returning } (c :: cs) F (.inr ⟨rfl,.inl rfl⟩) fun v B' Ls' hle hq=>?_
 exact Zcc (X:=X) (L:=Ls') (Lr:=Ls') (gl:=[]) hf hk rfl rfl rfl rfl hT (hr B' Ls') (by simp) (hA _ B' Ls' hle hq)
theorem Zlv {code:Code} {n:Nat} (hf:P.funcs[f]? = some fn) (hk:Bk kind c) (hke:kind≠.early) (hfu:P.funcs[u]? = some fu) (hnu:(fu.name == "runtime.NumGoroutine")=false) (hbu:fu.body=some cu) {Post:Value→Kn→List Cells→Prop} (hn:T.size=n) (hT:Ag T S)
  (hA :∀v B' Ls',B.le B'→Post v B' Ls'→X.R (G (Zeg kind c v) cs) B' (Ls'.flatten ++ F))
  (h:wpS P n code (fun e S D B L=>(e = .ret∨e = .normal)∧D=[dcall u av.toArray]∧∃vs Lr,(∀B L,ZbP P S B L fn.results.toList vs)∧(∃gl,L.flatten.Perm (Lr.flatten ++ gl))∧Zw P u av B Lr (fun _ B' Ls'=>Post (ZcU vs) B' Ls')) S [dcall u av.toArray] B L) :
  X.R (G (fat (fb f kind) T [dcall u av.toArray] [.code code]) (c :: cs)) B (L.flatten ++ F):=
 h ⟨X,fb f kind,c :: cs,F,hke⟩ [] T hn hT fun e S' D' B' L' T' hle hq hn' hT'=>by
  obtain ⟨he,rfl,vs,Lr,hr,⟨gl,hp⟩,hu⟩:=hq
  have hA' :∀v B'' Ls',B'.le B''→Post v B'' Ls'→X.R (G (Zeg kind c v) cs) B'' (Ls'.flatten ++ F):=fun v B'' Ls' hle' hq=>hA v B'' Ls' (hle.trans hle') hq
  rcases he with rfl | rfl
  ·exact ⟨rfl,fun todo=>ZfE hf hk hfu hnu hbu hT' hr hp hu hA'⟩
  ·exact X.ctl rfl (fun w=>ZiO rfl) (ZfE hf hk hfu hnu hbu hT' hr hp hu hA')
theorem Zw.frame1 {f:FuncId} {args:List Value} {s:Cells} {r:List Cells} {Post:Value→Kn→List Cells→Prop} (h:Zw P f args B [s] Post):Zw P f args B (s :: r) (fun v B' Ls=>∃Ls1,Post v B' Ls1∧Ls=Ls1 ++ r):=fun X kind c cs F hk hA=>by
 have:=h X kind c cs (r.flatten ++ F) hk fun v B' Ls' hle hq=>by
  have:=hA v B' (Ls' ++ r) hle ⟨Ls',hq,rfl⟩
  rw [List.flatten_append,List.append_assoc] at this;exact this
 simpa [List.append_assoc] using this
theorem Zy2 {rs:List ResultVar} {Q:List Value→Value→Kn→List Cells→Prop} {e:Exit} (he:e = .ret∨e = .normal) (vs:List Value) (js:List Nat) {ss r:List Cells} (hp:ZaB L js=some (ss,r)) (hr :∀B L,ZbP P S B L rs vs) (hu:Zw P u av B ss (Q vs)) :
  (e = .ret∨e = .normal)∧[dcall u av.toArray]=[dcall u av.toArray]∧∃vs Lr,(∀B L,ZbP P S B L rs vs)∧(∃gl,L.flatten.Perm (Lr.flatten ++ gl))∧Zw P u av B Lr (Q vs):=
 ⟨he,rfl,vs,ss,hr,⟨r.flatten,Zal js L ss r hp⟩,hu⟩
theorem ZoZ {ops:Array Oper} {i:Nat} {rest:List Nat} {k:List Item} {xs:List Operand} {ats:Array TypeId} {ty:TypeId} {pos:String} {after:Array Edge} {dst:Option Tmp} {Lc:Cells} (hke:kind≠.early) (ho:ops[i]? = some ⟨dst,.defer ⟨.value (.func u),xs.toArray,ats⟩,ty,pos,after,none⟩) (hT:Ag T S) (ha:evs S xs=some av)
  (h:X.R (G (fat (fb f kind) (putT T dst undef) [dcall u av.toArray] (.inRegion ops rest :: k)) cs) B Lc):X.R (G (fat (fb f kind) T [] (.inRegion ops (i :: rest) :: k)) cs) B Lc:=by
 have e0:Act.eval (⟨T,[]⟩:Act)=evT T:=funext fun x=>by cases x <;> rfl
 have e:xs.map (Act.eval ⟨T,[]⟩)=av:=by rw [e0];exact ZjY hT ha
 refine X.ctl rfl (fun w=>?_) h
 rw [ZdO,stepG_defer (a:=⟨T,[]⟩) ho rfl (by simpa [fb] using hke) rfl,Zx3,← ZdO]
 simp only [List.map_toArray,e]
end
end Go.BL
namespace Go.BL
open Go.Conc Go.ConcN
theorem Zan.drop2 {B:Kn} {b:Nat} {v0 v1:Value} {row:List Value} (h:Zan B b 0 (v0 :: v1 :: row)):Zan B b 2 row:=fun L j u hj=>by
 have:=h L (j+2) u (by simpa using hj)
 rwa [show 0+(j+2)=2+j from by omega] at this
section
variable {P:PJ} {C:Cx P} {g:Goroutine} {B:Kn} {L:List Cells}
theorem ZCa (L':List Cells) (hl:L=L') (h:C.X.R g B (L'.flatten ++ C.F)):C.X.R g B (L.flatten ++ C.F):=by subst hl;exact h
end
end Go.BL
