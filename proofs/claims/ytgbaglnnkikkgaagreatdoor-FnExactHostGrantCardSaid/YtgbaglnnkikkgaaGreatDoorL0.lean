/-
  THE WALK'S LOGIC: owned cells and known cells, goroutines started and awaited, calls, loops, data, and plain laws on lists: no program in sight.
-/
import Derived.Test.YtgbaglnnkikkgaaGreatDoorQ0
import Derived.Test.YtgbaglnnkikkgaaGreatDoorB1
import Derived.Conc.Fork
import Derived.Conc.CrowdRun
set_option linter.unusedVariables false
set_option linter.unusedSimpArgs false
set_option linter.unusedSectionVars false
namespace Go.BL
open Go.Conc Go.ConcN Go.RowKit Go.Conc.Lib Go.ConcR.Gen Go.ConcN.Gen
open Go.ConcR (KK wgBlock WgAt stA smA rd wr mk Payload)
def fb (f:FuncId) (kind:CallKind):Frame:={ fn:=f,tmps:=#[],todo:=[],defers:=[],mode:=.run,kind:=kind }
theorem Zik (f:FuncId) (kind:CallKind) (T:Array Value) (D:List Deferred) (todo:List Item):fat (fb f kind) T D todo=(fb f kind).at ⟨T,D⟩ todo:=rfl
section
variable {P:PJ} {n:Nat} {ops:Array Oper} {i:Nat} {S:Env} {D:List Deferred} {B:Kn} {L:List Cells}
theorem Zsi {C:Cx P} {o:Oper} {f:FuncId} {vs:List Value} (hg:Zj ops S o.guard=some true)
  (hv :∀ρ:Operand→Value,(∀x u,ev S x=some u→ρ x=u)→∀(Q:Next→Kn→Cells→Prop) F,Q (.enter f vs.toArray) B (L.flatten ++ F)→hb P (execOp ρ o) Q B (L.flatten ++ F)) (hnd:Zhk o.op=false)
  {todo:List Nat} {k:List Item} {T:Array Value} (ho:ops[i]? = some o) (hT:Ag T S)
  (h:C.X.R (G (Frame.enter P f vs.toArray .normal) (fat C.b T D (.inRegion ops (i :: todo) :: k) :: C.cs)) B (L.flatten ++ C.F)):C.X.R (G (fat C.b T D (.inRegion ops (i :: todo) :: k)) C.cs) B (L.flatten ++ C.F):=by
 refine C.X.step rfl fun w s=>?_
 obtain ⟨a,w',es,B',L',h1,h2,h3,rfl,rfl,rfl⟩:=Zb0 _ _ _ _ (hv (evT T) (fun x v hx=>Zez hT hx) (fun nx B' L'=>nx = .enter f vs.toArray∧B'=B∧L'=L.flatten ++ C.F) C.F ⟨rfl,rfl,rfl⟩) w #[] s
 simp only [Array.empty_append] at h1
 rw [ZiB hnd ho (ZbA hT hg)]
 have hk:(fat C.b T D (.inRegion ops (i :: todo) :: k)).kind≠.early:=C.early
 exact ⟨_,w',_,B',L.flatten ++ C.F,Zfz hk (by intro a b c d r;simp [fat]) h1,fun e he=>h2 e (ZbF he),h3,h⟩
end
section
variable [Payload] (P:Program) (ty:TypeId) (Wg C n:Nat) (val:Nat→Value) (K:Goroutine→Kn→Cells→Prop)
def phL (p:PTag) (j:Nat):Lg (.lone P) where
 main:=true
 R:=PhaseR P ty Wg C n val K p j
 conv:=fun hle hs hb hl h=>.conv hle hs hb hl h
 step:=fun hg h=>PhaseR.step (by rw [hg];rfl) fun w s _=>let ⟨g',w',es,B',L',h1,h2,h3,h4⟩:=h w s;⟨g',w',es,B',L',h1,fun e he=>.inl (h2 e he),h3,h4⟩
 join:=fun h=>h.elim
def Zt8 (i:Nat) (v:Value):Lg (.lone P) where
 main:=false
 R:=Zd9 P ty Wg C n i v
 conv:=fun hle hs hb hl h=>Zd9.conv hle hs hb hl h
 step:=fun hg h=>Zd9.step hg h
 join:=fun h=>h.elim
end
section
variable [Payload] {Lk:WgLink} {P:Program} {ty:TypeId} {Wg C n N:Nat} {val:Nat→Value} {K:Goroutine→Kn→Cells→Prop} {j:Nat} {B:Kn} {Lc:Cells} {f:FuncId} {kind:CallKind} {cs:List Frame} {ops:Array Oper} {i:Nat} {todo:List Nat} {k:List Item} {T:Array Value} {S:Env} {D:List Deferred}
 {dst:Option Tmp} {t':TypeId} {pos:String} {after:Array Edge} {ats:Array TypeId}
theorem ZjU (T:Array Value) (D:List Deferred) (dst:Option Tmp) (v:Value):Act.put ⟨T,D⟩ dst v=⟨putT T dst v,D⟩:=by cases dst <;> rfl
theorem Zil {fn:Func} {c:Code} {args:Array Value} (hf:P.funcs[f]? = some fn) (hb:fn.body=some c):Frame.enter P f args .normal=(base f).at ⟨args ++ Array.replicate (fn.ntmps - args.size) undef,[]⟩ [.code c]:=by
 simp [Frame.enter,hf,hb,base,Frame.at]
set_option maxRecDepth 100000 in
theorem ZuJ (H:WgLib P Lk) (hj:j<n) {x y:Operand} (ho:ops[i]? = some ⟨dst,.call ⟨.value (.func Lk.add),#[x,y],ats⟩,t',pos,after,none⟩) (he:enters P Lk.add=true) (hx:ev S x=some (.pointer (some ⟨Wg,0,none⟩))) (hy:ev S y=some (.int .i64 1)) (hT:Ag T S) (hk:kind≠.early)
  (h:PhaseR P Lk.tWg Wg C n val K .a2 j (G (fat (fb f kind) (putT T dst (.tuple #[])) D (.inRegion ops todo :: k)) cs) B Lc):PhaseR P Lk.tWg Wg C n val K .a5 j (G (fat (fb f kind) T D (.inRegion ops (i :: todo) :: k)) cs) B Lc:=by
 have key:=Zsi (P:=.lone P) (C:=⟨phL P Lk.tWg Wg C n val K .a5 j,fb f kind,cs,[],hk⟩) (L:=[Lc]) (B:=B) (D:=D) (k:=k) (todo:=todo) (vs:=[.pointer (some ⟨Wg,0,none⟩),.int .i64 1]) (f:=Lk.add) (S:=S) (T:=T) rfl (fun ρ hρ Q F q=>by
   have:=Zd8 (P:=.lone P) (B:=B) (L:=[Lc]) (dst:=dst) (ty:=t') (pos:=pos) (after:=after) (g:=none) (x:=.func Lk.add) (first:=#[]) (cap:=#[]) (ats:=ats) (S:=S) (xs:=[x,y]) (vs:=[.pointer (some ⟨Wg,0,none⟩),.int .i64 1]) he rfl (by simp [evs,hx,hy]) ρ hρ Q F
   exact this (by simpa using q)) rfl ho hT
 simp only [List.flatten_cons,List.flatten_nil,List.append_nil] at key
 refine key ?_
 have e:=Zil (args:=#[.pointer (some ⟨Wg,0,none⟩),.int .i64 1]) H.f_add (c:=body_add Lk) rfl
 have:=Zzs (a₀:=⟨T,D⟩) (b₀:=fb f kind) (ops₀:=ops) (i₀:=i) (rest₀:=todo) (k₀:=k) (cs:=cs) H hj (by rw [ho];simp only [Option.bind_some,ZjU];exact h) _ (Zzt Lk Wg)
 show PhaseR P Lk.tWg Wg C n val K .a5 j (G (Frame.enter P Lk.add #[.pointer (some ⟨Wg,0,none⟩),.int .i64 1] .normal) _) B Lc
 rw [e]
 exact this
set_option maxRecDepth 100000 in
theorem Zs4 {Jn:JoinT} {X:Lg ⟨P,Jn⟩} (H:WgLib P Lk) (hn:n<2147483648) {x:Operand} (ho:ops[i]? = some ⟨dst,.call ⟨.value (.func Lk.wait),#[x],ats⟩,t',pos,after,none⟩) (he:enters P Lk.wait=true) (hx:ev S x=some (.pointer (some ⟨Wg,0,none⟩))) (hT:Ag T S) (hk:kind≠.early)
  (hK :∀g B L,X.R g B L→K g B L) (h:X.R (G (fat (fb f kind) (putT T dst (.tuple #[])) D (.inRegion ops todo :: k)) cs) B ((C,.cells ((List.range n).map val).toArray Payload.ety (0,0)) :: Lc)):PhaseR P Lk.tWg Wg C n val K .a5 n (G (fat (fb f kind) T D (.inRegion ops (i :: todo) :: k)) cs) B Lc:=by
 have key:=Zsi (P:=.lone P) (C:=⟨phL P Lk.tWg Wg C n val K .a5 n,fb f kind,cs,[],hk⟩) (L:=[Lc]) (B:=B) (D:=D) (k:=k) (todo:=todo) (vs:=[.pointer (some ⟨Wg,0,none⟩)]) (f:=Lk.wait) (S:=S) (T:=T) rfl (fun ρ hρ Q F q=>by
   have:=Zd8 (P:=.lone P) (B:=B) (L:=[Lc]) (dst:=dst) (ty:=t') (pos:=pos) (after:=after) (g:=none) (x:=.func Lk.wait) (first:=#[]) (cap:=#[]) (ats:=ats) (S:=S) (xs:=[x]) (vs:=[.pointer (some ⟨Wg,0,none⟩)]) he rfl (by simp [evs,hx]) ρ hρ Q F
   exact this (by simpa using q)) rfl ho hT
 simp only [List.flatten_cons,List.flatten_nil,List.append_nil] at key
 refine key ?_
 have e:=Zil (args:=#[.pointer (some ⟨Wg,0,none⟩)]) H.f_wait (c:=body_wait Lk) rfl
 have:=ZvK (a₀:=⟨T,D⟩) (b₀:=fb f kind) (ops₀:=ops) (i₀:=i) (rest₀:=todo) (k₀:=k) (cs:=cs) (X:=X) H hn hK (by rw [ho];simp only [Option.bind_some,ZjU];exact h) _ (ZvM Lk Wg)
 show PhaseR P Lk.tWg Wg C n val K .a5 n (G (Frame.enter P Lk.wait #[.pointer (some ⟨Wg,0,none⟩)] .normal) _) B Lc
 rw [e]
 exact this
def Zfx (P:Program):Frame:={ (default:Frame) with fn:=P.funcs.size,defers:=[],mode:=.panicking [goexitEntry] }
theorem Zv3 {x:Operand} {h:FuncId} {caps:List Value} {fn:Func} {code:Code} (ho:ops[i]? = some ⟨dst,.go ⟨.value x,#[],ats⟩,t',pos,after,none⟩) (hx:ev S x=some (.func (.func h) #[] caps.toArray)) (hT:Ag T S) (hk:kind≠.early) (hf:P.funcs[h]? = some fn) (hb:fn.body=some code) (hname:(fn.name == "runtime.NumGoroutine")=false)
  (hc:Zd9 P ty Wg C n j (val j) (G (Frame.enter P h caps.toArray .deferred) [Zfx P]) B []) (hnext:PhaseR P ty Wg C n val K .a5 (j+1) (G (fat (fb f kind) (putT T dst undef) D (.inRegion ops todo :: k)) cs) B Lc) :
  PhaseR P ty Wg C n val K .a2 j (G (fat (fb f kind) T D (.inRegion ops (i :: todo) :: k)) cs) B Lc:=by
 have hev:evT T x = .func (.func h) #[] caps.toArray:=Zez hT hx
 have hr :∀w,(execOp (Act.eval ⟨T,D⟩) ⟨dst,.go ⟨.value x,#[],ats⟩,t',pos,after,none⟩).run P w = .ok (.spawn ⟨.fn (.func h) caps.toArray,#[]⟩) w:=fun w=>by
  have e:Act.eval ⟨T,D⟩ x = .func (.func h) #[] caps.toArray:=by rw [← hev];cases x <;> rfl
  unfold execOp
  simp [resolve,Deferred.ofValue,e]
 have hl :∀w,(execOp (Act.eval ⟨T,D⟩) ⟨dst,.go ⟨.value x,#[],ats⟩,t',pos,after,none⟩).events P w #[] = #[]:=fun w=>by
  have e:Act.eval ⟨T,D⟩ x = .func (.func h) #[] caps.toArray:=by rw [← hev];cases x <;> rfl
  unfold execOp
  simp [resolve,Deferred.ofValue,e]
 rw [Zik]
 refine PhaseR.go (g':=G (fat (fb f kind) (putT T dst undef) D (.inRegion ops todo :: k)) cs) (child:=born P ⟨.fn (.func h) caps.toArray,#[]⟩) rfl (fun w s=>?_) ?_ hnext
 ·rw [stepG_spawn (a:=⟨T,D⟩) ho rfl hk (hr w) rfl,ZjU,← Zik]
  unfold listed
  rw [hl w,seen_none]
 ·refine Zd9.step rfl fun w s=>⟨_,w,#[],B,[],?_,by simp,Ok.refl s,hc⟩
  have h1 : ¬ fn.name = "runtime.NumGoroutine":=by simpa using hname
  simp [born,stepG,unwind,callDeferred,invoke,callFunc,hf,h1,hb,GStep.after,seen_none,G,Zfx]
end
end Go.BL
namespace Go.BL
open Go.Conc Go.ConcN Go.RowKit Go.Conc.Lib Go.ConcR.Gen Go.ConcN.Gen
open Go.ConcR (KK wgBlock WgAt stA smA rd wr mk Payload)
section
variable [Payload] {Lk:WgLink} {P:Program} {ty:TypeId} {Wg C n nt:Nat} {i:Nat} {v:Value} {B:Kn} {L:Cells} {h:FuncId} {fn:Func} {ops:Array Oper} {m:Nat} {T:Array Value} {S:Env}
 {dst:Option Tmp} {t t':TypeId} {pos:String} {after:Array Edge} {ats:Array TypeId} {x y:Operand}
theorem ZvU (hf:P.funcs[h]? = some fn) (hr:fn.results = #[]) (T:Array Value) (todo:List Item):QuitsD P 2 0 (G { (fb h .deferred).at ⟨T,[]⟩ todo with mode:=.returning } [Zfx P]):=by
 refine QuitsD.ctl (g':=G (Zfx P) []) rfl (fun w=>?_) ?_
 ·simp [G,stepG,unwind,doReturn,results,Frame.at,fb,Zfx,hf,hr,seen,GStep.after,goexitEntry]
 refine QuitsD.ctl (g':={ G (Zfx P) [] with status:=.finished }) rfl (fun w=>?_) ⟨rfl,rfl⟩
 simp [G,stepG,unwind,Zfx,goexitEntry,Frame.catches]
 rfl
theorem Zm2 {main:Bool} {b:Frame} {a:Act} {k:List Item} {cs:List Frame} {w:World} {rest:List Nat} {o:Oper} (ho:ops[m]? = some o) (hw:Region.wanted o (yielded ops a.tmps)=true) (hk:b.kind≠.early) (hop:o.op = .store t x y) (hs :∀w,(sizeOf t).run P w = .ok 1 w) (hse :∀w es,(sizeOf t).events P w es=es)
  {ad:Addr} {u:Value} {q:Bool} (hx:a.eval x = .pointer (some ad)) (hy:a.eval y = .bool q) (hc:w.cell? ad=some u) (hz:w.frozen? ad=false) (hq:(P.funcs[b.fn]?).any (·.norace)=false) :
  stepG P main (G (b.at a (.inRegion ops (m :: rest) :: k)) cs) w = .go (G (b.at (a.put o.dst undef) (.inRegion ops rest :: k)) cs) (w.setCell ad (.bool q)) #[⟨.cell ad,true,false⟩]:=by
 have hr:(execOp a.eval o).run P w = .ok .skip (w.setCell ad (.bool q)):=by
  unfold execOp
  simp only [hop,hx,hy]
  simp [go_sem,stored,hc,hz,hs]
 have he:(execOp a.eval o).events P w #[] = #[⟨.cell ad,true,false⟩]:=by
  unfold execOp
  simp only [hop,hx,hy]
  simp [go_sem,storedEv,hc,hz,hs,hse]
  rw [events_store P w _ ad (.bool q) .plain rfl]
  simp [storedEv,hc,hz]
 rw [stepG_none ho hw hk hr]
 unfold listed
 rw [he,seen_eq hq (by simp)]
theorem Zn1 (H:WgLib P Lk) {q:Bool} {D:List Deferred} (hD:D=[dcall Lk.done #[.pointer (some ⟨Wg,0,none⟩)]]) (hin:i<n) (ho:ops[m]? = some ⟨none,.store t x y,t',pos,after,none⟩) (hs :∀w,(sizeOf t).run P w = .ok 1 w) (hse :∀w es,(sizeOf t).events P w es=es)
  (hx:ev S x=some (.pointer (some ⟨C,i,none⟩))) (hy:ev S y=some (.bool q)) (hT:Ag T S) (hq:(P.funcs[h]?).any (·.norace)=false) (hf:P.funcs[h]? = some fn) (hr:fn.results = #[]) :
  Zd9 P Lk.tWg Wg C n i (.bool q) (G (fat (fb h .deferred) T D [.inRegion ops [m]]) [Zfx P]) B L:=by
 subst hD
 have e1:Act.eval ⟨T,[dcall Lk.done #[.pointer (some ⟨Wg,0,none⟩)]]⟩ x = .pointer (some ⟨C,i,none⟩):=by have:=Zez hT hx;rw [← this];cases x <;> rfl
 have e2:Act.eval ⟨T,[dcall Lk.done #[.pointer (some ⟨Wg,0,none⟩)]]⟩ y = .bool q:=by have:=Zez hT hy;rw [← this];cases y <;> rfl
 rw [Zik]
 refine Zd9.stop rfl fun w s ⟨cs,hc,hn⟩=>⟨_,Zm2 (a:=⟨T,[dcall Lk.done #[.pointer (some ⟨Wg,0,none⟩)]]⟩) (u:=cs[i]'(by omega)) ho rfl (by simp [fb]) rfl hs hse e1 e2 (by simp [World.cell?,hc,hn,hin]) (by simp [World.frozen?,hc]) hq,fun w' hl hh=>⟨26,?_⟩⟩
 have hK:WgLive Lk.tWg Wg w'∧Has C i (.bool q) w':=⟨hl,hh⟩
 simp only [ZjU,putT]
 u_c stepG_region_end kn_rely hK
 u_c stepG_end kn_rely hK
 u_in kn_rely hK
 rw [stepG_unwind_enter rfl H.f_done (nm_done Lk) rfl]
 simp only [goes_go]
 refine ⟨by u_nil,?_⟩
 have:=doneN H (Own:=FF) (Rd:=FF) (C:=C) (n:=n) (Low:=0) (k:=i+1) (val:=.bool q) (c:={ (fb h .deferred).at ⟨T,[]⟩ [] with mode:=.returning }) (cs:=[Zfx P]) (qt:=2) rfl (ZvU hf hr T []) _ hK
 exact this
theorem ZfB (hT:Ag T S) (H:WgLib P Lk) {q q0:Bool} {D:List Deferred} (hq0:q=q0) (hD:D=[dcall Lk.done #[.pointer (some ⟨Wg,0,none⟩)]]) (hin:i<n) (ho:ops[m]? = some ⟨none,.store t x y,t',pos,after,none⟩) (hs :∀w,(sizeOf t).run P w = .ok 1 w) (hse :∀w es,(sizeOf t).events P w es=es)
  (hx:ev S x=some (.pointer (some ⟨C,i,none⟩))) (hy:ev S y=some (.bool q)) (hq:(P.funcs[h]?).any (·.norace)=false) (hf:P.funcs[h]? = some fn) (hr:fn.results = #[]) :
  Zd9 P Lk.tWg Wg C n i (.bool q0) (G (fat (fb h .deferred) T D [.inRegion ops [m]]) [Zfx P]) B L:=by
 subst hq0
 exact Zn1 H hD hin ho hs hse hx hy hT hq hf hr
def wc (P:Program) (ty:TypeId) (Wg C n i:Nat) (v:Value) (h:FuncId):Cx (.lone P):=⟨Zt8 P ty Wg C n i v,fb h .deferred,[Zfx P],[],by simp [fb]⟩
theorem ZsH (H:WgLib P Lk) {id0 id1:Nat} {l:List Oper} {caps:List Value} {s0:Nat} {I:Kn→List Cells→Prop} {K:Z8} (hf:P.funcs[h]? = some fn)
  (hb:fn.body=some (.seq (.region id0 #[⟨none,.defer ⟨.value (.func Lk.done),#[.tmp s0],ats⟩,t',pos,after,none⟩] false) (.region id1 l.toArray true))) (hn:fn.ntmps=nt) (hc:caps.length≤nt) (hs0:get (Zdf caps 0) s0=some (.pointer (some ⟨Wg,0,none⟩)))
  (hm:P.follows .mixedOrders=true) (hd:Zdd l.toArray=true) (hI:I B []) (hK :∀S D B L,¬ K S D B L)
  (hw:Zbc (wc P Lk.tWg Wg C n i v h) [] nt l.toArray I [] K (Zdf caps 0) [dcall Lk.done #[.pointer (some ⟨Wg,0,none⟩)]] B []) :
  Zd9 P Lk.tWg Wg C n i v (G (Frame.enter P h caps.toArray .deferred) [Zfx P]) B []:=by
 let T0:Array Value:=caps.toArray ++ Array.replicate (nt - caps.length) undef
 have hen:Frame.enter P h caps.toArray .deferred=fat (fb h .deferred) T0 [] [.code (.seq (.region id0 #[⟨none,.defer ⟨.value (.func Lk.done),#[.tmp s0],ats⟩,t',pos,after,none⟩] false) (.region id1 l.toArray true))]:=by
  simp [Frame.enter,fat,fb,hf,hb,hn,T0]
 have hT:Ag T0 (Zdf caps 0):=fun i v hv=>by
  obtain ⟨_,h2⟩:=ZcW caps 0 i v hv
  have hlt:=ZN (a:=caps.toArray) (i:=i) (x:=v) (by simpa using h2)
  simp only [T0]
  rw [Array.getElem?_append_left hlt]
  simpa using h2
 have hT0:T0.size=nt:=by simp [T0];omega
 rw [hen]
 let X:=Zt8 P Lk.tWg Wg C n i v
 show X.R _ B []
 refine X.ctl rfl (fun w=>ZjK) (X.ctl rfl (fun w=>ZfI) ?_)
 show X.R (G (fat (fb h .deferred) T0 [] (.inRegion #[⟨none,.defer ⟨.value (.func Lk.done),#[.tmp s0],ats⟩,t',pos,after,none⟩] [0] :: [.code (.region id1 l.toArray true)])) [Zfx P]) B []
 have e1:Act.eval ⟨T0,[]⟩ (.tmp s0) = .pointer (some ⟨Wg,0,none⟩):=by
  have:=hT s0 _ hs0
  simp [Act.eval,Array.getD_eq_getD_getElem?,this]
 refine X.ctl (g':=G (fat (fb h .deferred) T0 [dcall Lk.done #[.pointer (some ⟨Wg,0,none⟩)]] (.inRegion #[⟨none,.defer ⟨.value (.func Lk.done),#[.tmp s0],ats⟩,t',pos,after,none⟩] [] :: [.code (.region id1 l.toArray true)])) [Zfx P]) rfl (fun w=>?_) ?_
 ·rw [Zik,stepG_defer (a:=⟨T0,[]⟩) (by rfl) rfl (by simp [fb]) rfl]
  simp only [List.map_toArray,List.map_cons,List.map_nil,e1]
  rfl
 refine X.ctl rfl (fun w=>ZbW) ?_
 refine X.step rfl fun w s=>⟨_,_,_,B,[],Ze3,by simp,⟨Kn.le.refl B,⟨s.ro,s.own,s.nodup,s.apart⟩,Nat.le_refl _,fun _ _ _=>rfl,fun b o hb=>.inl (by rw [hb];rfl),fun p hp=>.inl ⟨p,hp,rfl⟩,fun _=>rfl,rfl,rfl,rfl⟩,?_⟩
 exact hw T0 [] [] _ (Zmb (P:=.lone P) hm hd _) (fun i hi=>by cases hi) (fun i hi=>by cases hi) (fun i hi=>by cases hi) (fun p hp=>by cases hp) trivial hT0 trivial hT hI fun S' D' B' L' T' hle hq _ _=>absurd hq (hK _ _ _ _)
end
end Go.BL
namespace Go.BL
open Go.Conc Go.ConcN
theorem Zrt {W w:World} (h:KW W w):Go.RowKit.Grown W w:=by
 refine ⟨⟨h.os,h.output,fun i hi=>?_⟩,h.fz,h.size⟩
 rw [h.same i hi]
 cases W.heap[i]? with
 | none=>trivial
 | some o=>cases o <;> first | rfl | exact .inr ⟨rfl,rfl⟩ | exact ⟨rfl,rfl,rfl,fun _ _=>rfl⟩
theorem Ztm {W w:World} (h:KW W w):Kept W w:=⟨h.same,Zrt h⟩
theorem FrameS.solo (P:Program) (W:World) (g:Goroutine):FrameS P W (fun _=>False) #[g] W #[] (fun _=>0) g (Za4 W) []:=by
 refine ⟨rfl,fun i x hi hx=>?_,⟨noRace_nil,fun i a ha=>by simp [touchAt,Trace.act?] at ha,fun i x hg=>by simp [Trace.g?] at hg,Deaf_absent fun i op hi=>by simp at hi,fun op hop=>by simp at hop⟩,fun op hop=>by simp at hop,Zvr W,fun l hl=>hl.elim,⟨fun _ _=>rfl,Nat.le_refl _,fun _=>rfl,rfl,rfl,rfl⟩,fun p hp=>by cases hp⟩
 have:i<1:=by simpa using (Array.getElem?_eq_some_iff.1 hx).1
 omega
theorem Zs0 {P:Program} {f:FuncId} {fn:Func} {code:Code} {t:Tmp} (n:Nat) (hf:P.funcs[f]? = some fn) (hbd:fn.body=some code) (hn:fn.ntmps=n) (hrs:fn.results.toList=[.tmp t]) (hi:P.inits.idxOf? f=none) {args:List Value} (ha:args.length≤n) {Post:Value→Kn→List Cells→Prop} {W:World}
  (h:wpS ⟨P,ZnT P⟩ n code (Zfy ⟨P,ZnT P⟩ [.tmp t] Post) (Zdf args 0) [] (Za4 W) []) :
∃M last o w' t',runNT P (M+1) (solo (G (Frame.enter P f args.toArray .normal) []) W) #[]=(.ended o w',t')∧runN P M (solo (G (Frame.enter P f args.toArray .normal) []) W) = .next last∧step P last = .ended o w'∧
   Go.Conc.Good P (fun v w'=>Kept W w'∧∃(B':Kn) (Ls':List Cells),Sat B' Ls'.flatten w'∧Post v B' Ls') last o w' t':=by
 let b0:Frame:={ fn:=f,tmps:=#[],todo:=[],defers:=[],mode:=.run,kind:=.normal }
 let T0:Array Value:=args.toArray ++ Array.replicate (n - args.length) undef
 have hen:Frame.enter P f args.toArray .normal=fat b0 T0 [] [.code code]:=by
  simp [Frame.enter,fat,hf,hbd,hn,b0,T0]
 have hT:Ag T0 (Zdf args 0):=fun i v hv=>by
  obtain ⟨_,h2⟩:=ZcW args 0 i v hv
  have hlt:=ZN (a:=args.toArray) (i:=i) (x:=v) (by simpa using h2)
  simp only [T0]
  rw [Array.getElem?_append_left hlt]
  simpa using h2
 let PostF:Value→World→Prop:=fun v w'=>Kept W w'∧∃(B':Kn) (Ls':List Cells),Sat B' Ls'.flatten w'∧Post v B' Ls'
 have key:=h ⟨Zpt P PostF W,b0,[],[],by simp [b0]⟩ [] T0 (by simp [T0];omega) hT fun e S' D' B' L' T' hle hq hn' hT'=>by
  obtain ⟨he,rfl,vs,Lr,hr,⟨gl,hp⟩,hq⟩:=hq
  have fin :∀fr:Frame,fr.fn=f→fr.mode = .returning→fr.defers=[]→fr.kind = .normal→fr.tmps=T'→(Zpt P PostF W).R (G fr []) B' (L'.flatten ++ []):=fun fr f1 f2 f3 f4 f5=>by
   refine Zbs.ended rfl fun w s kw=>?_
   match vs,hr with
   | [v],⟨h1,_⟩=>
    have hr2:fn.results = #[.tmp t]:=by apply Array.ext';rw [hrs]
    have h2:=hT' t v h1
    refine ⟨v,#[],?_,by simp,Ztm kw,B',Lr,(s.perm (by rw [List.append_nil];exact hp)).left,hq⟩
    simp [G,stepG,f2,unwind,doReturn,f1,f3,f4,hf,results,hr2,f5,Sem.run,Sem.events,Sem.runT,Array.getD_eq_getD_getElem?,h2,Pure.pure,Bind.bind,Sem.bind,Functor.map,seen,GStep.after,hi]
  rcases he with rfl | rfl
  ·refine ⟨rfl,fun todo=>?_⟩
   exact fin _ rfl rfl rfl rfl rfl
  ·exact (Zpt P PostF W).ctl rfl (fun w=>Zl8 rfl) (fin _ rfl rfl rfl rfl rfl)
 rw [hen]
 exact key #[G (fat b0 T0 [] [.code code]) []] W none #[] (fun _=>0) (fun _=>False) (FrameS.solo P W _)
end Go.BL
namespace Go.BL
open Go.Conc Go.ConcN Go.RowKit Go.Conc.Lib
open Go.ConcR (KK wgBlock WgAt stA smA rd wr mk Payload)
def Joins (P:Program) (J:JoinT):Prop:=∀(main:Bool) (R:Goroutine→Kn→Cells→Prop) (g:Goroutine) (B:Kn) (L:Cells),Zt1 P main R g B L→J.rel main R g B L
theorem Zln (P:Program):Joins P (ZnT P):=fun main R g B L h=>.base h
theorem ZrK {P:PJ} {f:FuncId} {fn:Func} {code:Code} (n:Nat) (hf:P.funcs[f]? = some fn) (hb:fn.body=some code) (hn:fn.ntmps=n) {args:List Value} (ha:args.length≤n) {B:Kn} {Ls:List Cells} {Post:Value→Kn→List Cells→Prop}
  (h :∀(X:Lg P) (kind:CallKind) (c:Frame) (cs:List Frame) (F:Cells) (T:Array Value),Bk kind c→kind≠.early→(∀v B' Ls',B.le B'→Post v B' Ls'→X.R (G (Ze9 kind c v) cs) B' (Ls'.flatten ++ F))→T.size=n→Ag T (Zdf args 0)→
   X.R (G (fat (fb f kind) T [] [.code code]) (c :: cs)) B (Ls.flatten ++ F)):Zv P f args B Ls Post:=fun X kind c cs F hk hA=>by
 have hke:kind≠.early:=by rcases hk with rfl | ⟨rfl,_⟩ <;> simp
 have hen:Frame.enter P f args.toArray kind=fat (fb f kind) (args.toArray ++ Array.replicate (n - args.length) undef) [] [.code code]:=by
  simp [Frame.enter,fat,fb,hf,hb,hn]
 rw [hen]
 refine h X kind c cs F _ hk hke hA (by simp;omega) fun i v hv=>?_
 obtain ⟨_,h2⟩:=ZcW args 0 i v hv
 have hlt:=ZN (a:=args.toArray) (i:=i) (x:=v) (by simpa using h2)
 rw [Array.getElem?_append_left hlt]
 simpa using h2
theorem ZtG {P:PJ} {X:Lg P} {f:FuncId} {fn:Func} {kind:CallKind} {c:Frame} {cs:List Frame} {F:Cells} {T:Array Value} {code:Code} {n:Nat} {rs:List ResultVar} {S:Env} {B:Kn} {L:List Cells} {Post:Value→Kn→List Cells→Prop} (hf:P.funcs[f]? = some fn) (hrs:fn.results.toList=rs) (hk:Bk kind c) (hke:kind≠.early) (hn:T.size=n) (hT:Ag T S)
  (hA :∀v B' Ls',B.le B'→Post v B' Ls'→X.R (G (Ze9 kind c v) cs) B' (Ls'.flatten ++ F)) (h:wpS P n code (Zfy P rs Post) S [] B L):X.R (G (fat (fb f kind) T [] [.code code]) (c :: cs)) B (L.flatten ++ F):=
 h ⟨X,fb f kind,c :: cs,F,hke⟩ [] T hn hT fun e S' D' B' L' T' hle hq hn' hT'=>by
  obtain ⟨he,rfl,vs,Lr,hr,⟨gl,hp⟩,hq⟩:=hq
  rw [← hrs] at hr
  rcases he with rfl | rfl
  ·refine ⟨rfl,fun todo=>?_⟩
   exact ZdG hf hk rfl rfl rfl rfl hT' hr hp (hA _ B' Lr hle hq)
  ·exact X.ctl rfl (fun w=>Zl8 rfl) (ZdG hf hk rfl rfl rfl rfl hT' hr hp (hA _ B' Lr hle hq))
theorem ZnM [Payload] {P:Program} {main:Bool} {f:FuncId} {kind:CallKind} {T:Array Value} {D:List Deferred} {ops:Array Oper} {i:Nat} {rest:List Nat} {k:List Item} {cs:List Frame} {w:World} {dst:Option Tmp} {t ty:TypeId} {pos:String} {after:Array Edge} {z:Value} (ho:ops[i]? = some ⟨dst,.alloc t,ty,pos,after,none⟩) (hk:kind≠.early) (hz:Zaq P t=some z) :
  stepG P main (G (fat (fb f kind) T D (.inRegion ops (i :: rest) :: k)) cs) w = .go (G (fat (fb f kind) (putT T dst (ptr ⟨w.heap.size,0,none⟩)) D (.inRegion ops rest :: k)) cs) { w with heap:=w.heap.push (.cells z.cells t) } #[]:=by
 have hi :∃inf,P.info? t=some inf∧inf.zero=some z:=by
  unfold Zaq at hz
  exact Option.bind_eq_some_iff.1 hz
 obtain ⟨inf,h1,h2⟩:=hi
 have hrT:(execOp (Act.eval ⟨T,D⟩) ⟨dst,.alloc t,ty,pos,after,none⟩).runT P w #[]=(.ok (.value (ptr ⟨w.heap.size,0,none⟩)) { w with heap:=w.heap.push (.cells z.cells t) },#[]):=by
  simp only [execOp,Instr.alloc,newVar,newRow,newObj,zeroValue,typeInfo,Go.program,Bind.bind,Pure.pure,Sem.bind,Sem.runT,h1,h2]
 obtain ⟨hr,he⟩:=ZaZ (P:=.lone P) hrT
 rw [Zik,stepG_value ho rfl hk hr]
 unfold listed
 rw [he,seen_none,ZjU,← Zik]
theorem ZqU [pay:Payload] {P:Program} {J:JoinT} (hJ:Joins P J) {X:Lg ⟨P,J⟩} {f:FuncId} {kind:CallKind} {cs:List Frame} {T:Array Value} {D:List Deferred} {ops:Array Oper} {i:Nat} {todo:List Nat} {k:List Item} {dst:Option Tmp} {t ty:TypeId} {pos:String} {after:Array Edge} {C n:Nat} {val:Nat→Value} {cells:Array Value} {B:Kn} {L L₁:Cells}
  (ho:ops[i]? = some ⟨dst,.alloc t,ty,pos,after,none⟩) (hk:kind≠.early) {z:Value} (hz:Zaq P t=some z) (hzc:z.cells = #[.int .u64 0,.int .u32 0]) (hn:n<2147483648) (hc:cells.size=n) (hp:L.Perm ((C,.cells cells pay.ety (0,0)) :: L₁))
  (h:X.main=true→∀Wg,B.mem Wg=none→(∀p,p∈L→p.1≠Wg)→PhaseR P t Wg C n val X.R .a5 0 (G (fat (fb f kind) (putT T dst (ptr ⟨Wg,0,none⟩)) D (.inRegion ops todo :: k)) cs) B L₁) :
  X.R (G (fat (fb f kind) T D (.inRegion ops (i :: todo) :: k)) cs) B L:=by
 refine X.join (hJ _ _ _ _ _ fun hm=>⟨rfl,pay,t,C,n,val,cells,L₁,fun b=>G (fat (fb f kind) (putT T dst (ptr ⟨b,0,none⟩)) D (.inRegion ops todo :: k)) cs,hn,hc,hp,fun w s=>?_,fun Wg h1 h2=>h hm Wg h1 h2⟩)
 rw [ZnM ho hk hz,hzc]
 rfl
theorem Zs5 [Payload] {P:Program} {t:TypeId} {Wg C n nt:Nat} {val:Nat→Value} {K:Goroutine→Kn→Cells→Prop} {f:FuncId} {kind:CallKind} {cs:List Frame} {body:Code} {k:List Item} (St:Nat→Env) {B:Kn} {Lc:Cells}
  (round :∀j,j≤n→∀B' T',B.le B'→T'.size=nt→Ag T' (St j)→(j<n→∀B'' T'',B'.le B''→T''.size=nt→Ag T'' (St (j+1))→PhaseR P t Wg C n val K .a5 (j+1) (G (fat (fb f kind) T'' [] (.inLoop body :: k)) cs) B'' Lc)→PhaseR P t Wg C n val K .a5 j (G (fat (fb f kind) T' [] (.code body :: .inLoop body :: k)) cs) B' Lc)
  {T:Array Value} (hn:T.size=nt) (hT:Ag T (St 0)):PhaseR P t Wg C n val K .a5 0 (G (fat (fb f kind) T [] (.code (.loop body) :: k)) cs) B Lc:=by
 have key :∀d j,j+d=n→∀B' T',B.le B'→T'.size=nt→Ag T' (St j)→PhaseR P t Wg C n val K .a5 j (G (fat (fb f kind) T' [] (.code body :: .inLoop body :: k)) cs) B' Lc:=by
  intro d
  induction d with
  | zero=>
   intro j hj B' T' hle hn' hT'
   exact round j (by omega) B' T' hle hn' hT' fun h=>by omega
  | succ d ih=>
   intro j hj B' T' hle hn' hT'
   refine round j (by omega) B' T' hle hn' hT' fun h B'' T'' hle' hn'' hT''=>?_
   exact (phL P t Wg C n val K .a5 (j+1)).ctl rfl (fun w=>Zg6) (ih (j+1) (by omega) B'' T'' (hle.trans hle') hn'' hT'')
 exact (phL P t Wg C n val K .a5 0).ctl rfl (fun w=>ZkY) (key n 0 (by omega) B T (Kn.le.refl B) hn hT)
end Go.BL
