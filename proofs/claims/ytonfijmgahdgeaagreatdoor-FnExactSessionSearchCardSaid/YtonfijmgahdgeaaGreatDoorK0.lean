/-
  THE WALK'S LOGIC: owned cells and known cells, goroutines started and awaited, calls, loops, data, and plain laws on lists: no program in sight.
-/
import Derived.Conc.Own
import Derived.Conc.Events
set_option linter.unusedVariables false
set_option linter.unusedSimpArgs false
set_option linter.unusedSectionVars false
namespace Go.BL
open Go.Conc (G)
abbrev Cells:=List (Nat × Obj)
structure Kn where
 mem:Nat→Option Obj
def Kn.le (B B':Kn):Prop:=∀b o,B.mem b=some o→B'.mem b=some o
theorem Kn.le.refl (B:Kn):B.le B:=fun _ _ h=>h
theorem Kn.le.trans {B B₁ B₂:Kn} (h:B.le B₁) (h':B₁.le B₂):B.le B₂:=fun b o x=>h' b o (h b o x)
structure Sat (B:Kn) (L:Cells) (w:World):Prop where
 ro :∀b o,B.mem b=some o→w.heap[b]? = some o
 own :∀p,p∈L→w.heap[p.1]? = some p.2
 nodup:(L.map (·.1)).Nodup
 apart :∀p,p∈L→B.mem p.1=none
theorem ZS {α:Type} {a:Array α} {i:Nat} {x:α} (h:a[i]? = some x):i<a.size:=by
 rcases Nat.lt_or_ge i a.size with h' | h'
 ·exact h'
 ·rw [Array.getElem?_eq_none h'] at h;cases h
theorem Sat.ltB {B:Kn} {L:Cells} {w:World} (s:Sat B L w) {b:Nat} {o:Obj} (h:B.mem b=some o):b<w.heap.size:=ZS (s.ro b o h)
theorem Sat.ltL {B:Kn} {L:Cells} {w:World} (s:Sat B L w) {p:Nat × Obj} (h:p∈L):p.1<w.heap.size:=ZS (s.own p h)
theorem Sat.perm {B:Kn} {L L':Cells} {w:World} (s:Sat B L w) (h:L.Perm L'):Sat B L' w:=
 ⟨s.ro,fun p hp=>s.own p (h.mem_iff.2 hp),(h.map _).nodup_iff.1 s.nodup,fun p hp=>s.apart p (h.mem_iff.2 hp)⟩
def soft:Mark→Bool
 | .acquire _=>false
 | .release _=>false
 | .releaseMerge _=>false
 | .disable=>false
 | .enable=>false
 | .read _=>false
 | .write _=>false
 | _=>true
def Ev (n N:Nat) (B:Kn) (L:Cells) (e:Event):Prop:=
 (∃m,e.loc = .mark m∧soft m=true)∨
 (e.sync=false∧∃blk:Nat,((∃a:Addr,a.block=blk∧e.loc = .cell a)∨e.loc = .obj blk)∧((∃o,(blk,o)∈L)∨(e.write=false∧(B.mem blk).isSome=true)∨(n≤blk∧blk<N)))
structure Ok (B:Kn) (L:Cells) (w:World) (B':Kn) (L':Cells) (w':World):Prop where
 le:B.le B'
 sat:Sat B' L' w'
 size:w.heap.size≤w'.heap.size
 keep :∀b,b<w.heap.size→(∀p,p∈L→p.1≠b)→w'.heap[b]? = w.heap[b]?
 newB :∀b o,B'.mem b=some o→(B.mem b).isSome=true∨(∃p,p∈L∧p.1=b)∨w.heap.size≤b
 newL :∀p,p∈L'→(∃q,q∈L∧q.1=p.1)∨w.heap.size≤p.1
 tape:w'.tape=w.tape
 os:w'.os=w.os
 output:w'.output=w.output
theorem Ok.refl {B:Kn} {L:Cells} {w:World} (s:Sat B L w):Ok B L w B L w:=
 ⟨Kn.le.refl B,s,Nat.le_refl _,fun _ _ _=>rfl,fun b o h=>.inl (by rw [h];rfl),fun p hp=>.inl ⟨p,hp,rfl⟩,rfl,rfl,rfl⟩
theorem Ok.trans {B B₁ B₂:Kn} {L L₁ L₂:Cells} {w w₁ w₂:World} (h:Ok B L w B₁ L₁ w₁) (h':Ok B₁ L₁ w₁ B₂ L₂ w₂):Ok B L w B₂ L₂ w₂:=by
 refine ⟨h.le.trans h'.le,h'.sat,Nat.le_trans h.size h'.size,fun b hb hn=>?_,fun b o hbo=>?_,fun p hp=>?_,h'.tape.trans h.tape,h'.os.trans h.os,h'.output.trans h.output⟩
 ·rw [h'.keep b (Nat.lt_of_lt_of_le hb h.size) ?_,h.keep b hb hn]
  intro p hp he
  rcases h.newL p hp with ⟨q,hq,hqe⟩ | hge
  ·exact hn q hq (hqe.trans he)
  ·omega
 ·rcases h'.newB b o hbo with hb | ⟨p,hp,rfl⟩ | hge
  ·obtain ⟨o',ho'⟩:=Option.isSome_iff_exists.1 hb
   exact h.newB b o' ho'
  ·rcases h.newL p hp with hq | hge
   ·exact .inr (.inl hq)
   ·exact .inr (.inr hge)
  ·exact .inr (.inr (Nat.le_trans h.size hge))
 ·rcases h'.newL p hp with ⟨q,hq,hqe⟩ | hge
  ·rcases h.newL q hq with ⟨r,hr,hre⟩ | hge
   ·exact .inl ⟨r,hr,hre.trans hqe⟩
   ·exact .inr (hqe ▸ hge)
  ·exact .inr (Nat.le_trans h.size hge)
theorem Ev.after {B B₁:Kn} {L L₁:Cells} {w w₁:World} {N:Nat} (h:Ok B L w B₁ L₁ w₁) (hN:w₁.heap.size≤N) {e:Event} (he:Ev w₁.heap.size N B₁ L₁ e):Ev w.heap.size N B L e:=by
 rcases he with he | ⟨hs,blk,hl,hx⟩
 ·exact .inl he
 ·refine .inr ⟨hs,blk,hl,?_⟩
  rcases hx with ⟨o,ho⟩ | ⟨hw,hb⟩ | ⟨hge,hlt⟩
  ·rcases h.newL _ ho with ⟨q,hq,hqe⟩ | hge
   ·obtain ⟨q1,q2⟩:=q
    simp only at hqe
    subst hqe
    exact .inl ⟨q2,hq⟩
   ·exact .inr (.inr ⟨hge,Nat.lt_of_lt_of_le (h.sat.ltL ho) hN⟩)
  ·obtain ⟨o,ho⟩:=Option.isSome_iff_exists.1 hb
   rcases h.newB blk o ho with hb' | ⟨p,hp,rfl⟩ | hge
   ·exact .inr (.inl ⟨hw,hb'⟩)
   ·exact .inl ⟨p.2,hp⟩
   ·exact .inr (.inr ⟨hge,Nat.lt_of_lt_of_le (h.sat.ltB ho) hN⟩)
  ·exact .inr (.inr ⟨Nat.le_trans h.size hge,hlt⟩)
theorem Ev.up {n N N':Nat} {B:Kn} {L:Cells} {e:Event} (hN:N≤N') (h:Ev n N B L e):Ev n N' B L e:=by
 rcases h with h | ⟨hs,blk,hl,hx | hx | ⟨h1,h2⟩⟩
 ·exact .inl h
 ·exact .inr ⟨hs,blk,hl,.inl hx⟩
 ·exact .inr ⟨hs,blk,hl,.inr (.inl hx)⟩
 ·exact .inr ⟨hs,blk,hl,.inr (.inr ⟨h1,Nat.lt_of_lt_of_le h2 hN⟩)⟩
def inL (l:Cells) (b:Nat):Bool:=l.any fun p=>p.1 == b
theorem Zkf {l:Cells} {b:Nat} : inL l b=true↔∃p,p∈l∧p.1=b:=by simp [inL]
theorem Ze0 {l:Cells} {b:Nat} : inL l b=false↔∀p,p∈l→p.1≠b:=by
 rw [Bool.eq_false_iff,ne_eq,Zkf]
 exact ⟨fun h p hp e=>h ⟨p,hp,e⟩,fun h ⟨p,hp,e⟩=>h p hp e⟩
def Kn.minus (B:Kn) (l:Cells):Kn:=⟨fun b=>if inL l b=true then none else B.mem b⟩
theorem Kn.minus_mem {B:Kn} {l:Cells} {b:Nat} {o:Obj} : (B.minus l).mem b=some o↔B.mem b=some o∧inL l b=false:=by
 simp only [Kn.minus]
 cases inL l b <;> simp
theorem Zj8 {B:Kn} {l L:Cells} {w:World} (hl :∀p,p∈l→B.mem p.1=some p.2) (s:Sat (B.minus l) (l ++ L) w):Sat B L w:=by
 have hnd:=s.nodup
 rw [List.map_append] at hnd
 obtain ⟨hn1,hn2,hn3⟩:=List.nodup_append.1 hnd
 refine ⟨fun b o h=>?_,fun p hp=>s.own p (List.mem_append.2 (.inr hp)),hn2,fun p hp=>?_⟩
 ·cases hb:inL l b with
  | true=>
   obtain ⟨p,hp,rfl⟩:=Zkf.1 hb
   have:=hl p hp
   rw [h] at this
   cases this
   exact s.own p (List.mem_append.2 (.inl hp))
  | false=>exact s.ro b o (Kn.minus_mem.2 ⟨h,hb⟩)
 ·have hb:inL l p.1=false:=Ze0.2 fun q hq e=>hn3 _ (List.mem_map.2 ⟨q,hq,rfl⟩) _ (List.mem_map.2 ⟨p,hp,rfl⟩) e
  cases hm:B.mem p.1 with
  | none=>rfl
  | some o=>
   have h1:=s.apart p (List.mem_append.2 (.inr hp))
   rw [Kn.minus_mem.2 ⟨hm,hb⟩] at h1;cases h1
theorem ZjP {B:Kn} {l L:Cells} {w:World} (hl :∀p,p∈l→B.mem p.1=some p.2) (hn:(l.map (·.1)).Nodup) (s:Sat B L w):Sat (B.minus l) (l ++ L) w:=by
 refine ⟨fun b o h=>s.ro b o (Kn.minus_mem.1 h).1,fun p hp=>?_,?_,fun p hp=>?_⟩
 ·rcases List.mem_append.1 hp with hp | hp
  ·exact s.ro _ _ (hl p hp)
  ·exact s.own p hp
 ·rw [List.map_append,List.nodup_append]
  refine ⟨hn,s.nodup,fun a ha b hb e=>?_⟩
  obtain ⟨p,hp,rfl⟩:=List.mem_map.1 ha
  obtain ⟨q,hq,rfl⟩:=List.mem_map.1 hb
  have h1:=s.apart q hq
  rw [← e,hl p hp] at h1;cases h1
 ·cases hm:(B.minus l).mem p.1 with
  | none=>rfl
  | some o=>
   obtain ⟨h1,h2⟩:=Kn.minus_mem.1 hm
   rcases List.mem_append.1 hp with hp | hp
   ·exact absurd rfl (Ze0.1 h2 p hp)
   ·rw [s.apart p hp] at h1;cases h1
def Zz6 (R:Goroutine→Kn→Cells→Prop) (l:Cells) (g:Goroutine) (B:Kn) (L:Cells):Prop:=(∀p,p∈l→B.mem p.1=some p.2)→R g (B.minus l) (l ++ L)
structure JoinT where
 rel:Bool→(Goroutine→Kn→Cells→Prop)→Goroutine→Kn→Cells→Prop
 lend :∀{main:Bool} {R:Goroutine→Kn→Cells→Prop} {l:Cells} {g:Goroutine} {B:Kn} {L:Cells},(l.map (·.1)).Nodup→(∀p,p∈l→B.mem p.1=some p.2)→rel main (Zz6 R l) g B L→rel main R g (B.minus l) (l ++ L)
structure PJ extends Program where
 Join:JoinT
instance:Coe PJ Program:=⟨PJ.toProgram⟩
def NoJ:JoinT:=⟨fun _ _ _ _ _=>False,fun _ _ h=>h⟩
abbrev PJ.lone (P:Program):PJ:=⟨P,NoJ⟩
structure Lg (P:PJ) where
 main:Bool
 R:Goroutine→Kn→Cells→Prop
 conv :∀{g:Goroutine} {B B':Kn} {L L':Cells},B.le B'→(∀w,Sat B L w→Sat B' L' w)→
  (∀b o,B'.mem b=some o→(B.mem b).isSome=true∨∃p,p∈L∧p.1=b)→(∀p,p∈L'→∃q,q∈L∧q.1=p.1)→R g B' L'→R g B L
 step :∀{g:Goroutine} {B:Kn} {L:Cells},g=G g.frame g.callers→
  (∀w,Sat B L w→∃g' w' es B' L',stepG P main g w = .go g' w' es∧(∀e,e∈es→Ev w.heap.size w'.heap.size B L e)∧Ok B L w B' L' w'∧R g' B' L')→R g B L
 join :∀{g:Goroutine} {B:Kn} {L:Cells},P.Join.rel main R g B L→R g B L
theorem Lg.perm {P:PJ} (X:Lg P) {g:Goroutine} {B:Kn} {L L':Cells} (h:L.Perm L') (hR:X.R g B L'):X.R g B L:=
 X.conv (Kn.le.refl B) (fun w s=>s.perm h) (fun b o hb=>.inl (by rw [hb];rfl)) (fun p hp=>⟨p,h.mem_iff.2 hp,rfl⟩) hR
theorem Lg.ctl {P:PJ} (X:Lg P) {g g':Goroutine} {B:Kn} {L:Cells} (hs:g=G g.frame g.callers) (h :∀w,stepG P X.main g w = .go g' w #[]) (hR:X.R g' B L):X.R g B L:=
 X.step hs fun w s=>⟨g',w,#[],B,L,h w,by simp,Ok.refl s,hR⟩
def ZiL (B:Kn) (L:Cells) (b:Nat) (o:Obj):Prop:=B.mem b=some o∨(b,o)∈L
def ZaY (B:Kn) (L:Cells) (a:Addr) (v:Value):Prop:=
 a.spot=none∧∃cs T fr,ZiL B L a.block (.cells cs T fr)∧cs[a.off]? = some v
theorem ZiL.heap {B:Kn} {L:Cells} {b:Nat} {o:Obj} {w:World} (h:ZiL B L b o) (s:Sat B L w):w.heap[b]? = some o:=
 h.elim (s.ro b o) (s.own (b,o))
theorem ZaY.cell {B:Kn} {L:Cells} {a:Addr} {v:Value} {w:World} (h:ZaY B L a v) (s:Sat B L w):w.cell? a=some v:=by
 obtain ⟨h1,cs,T,fr,h2,h3⟩:=h
 simp [World.cell?,h2.heap s,h1,h3]
theorem ZiL.perm {B:Kn} {L L':Cells} {b:Nat} {o:Obj} (h:ZiL B L b o) (p:L.Perm L'):ZiL B L' b o:=h.imp id p.mem_iff.1
theorem ZaY.perm {B:Kn} {L L':Cells} {a:Addr} {v:Value} (h:ZaY B L a v) (p:L.Perm L'):ZaY B L' a v:=
 let ⟨h1,cs,T,fr,h2,h3⟩:=h;⟨h1,cs,T,fr,h2.perm p,h3⟩
def Zet:Obj→Option (TypeId × Nat)
 | .cells c e _=>some (e,c.size)
 | _=>none
def Zfl (off:Nat):Obj→Bool
 | .cells _ _ (lo,hi)=>lo≤off && off<hi
 | _=>false
def ZgO:Value→Bool
 | .agg _ | .tuple _=>false
 | _=>true
def Zie:Obj→Bool
 | .cells ..=>true
 | _=>false
def thawed:Obj→Bool
 | .cells _ _ (lo,hi)=>Nat.ble hi lo
 | _=>true
def hb (P:Program) {α:Type} : Sem α→(α→Kn→Cells→Prop)→Kn→Cells→Prop
 | .pure a,Q,B,L=>Q a B L
 | .load m a k,Q,B,L=>m = .plain∧∃v,ZaY B L a v∧hb P (k v) Q B L
 | .store m a v k,Q,B,L=>m = .plain∧ZgO v=true∧a.spot=none∧∃(cs:Array Value) (T:TypeId) (fr:Nat × Nat) (L₁:Cells),L.Perm ((a.block,.cells cs T fr) :: L₁)∧a.off<cs.size∧(fr.1≤a.off && a.off<fr.2)=false∧
   hb P k Q B ((a.block,.cells (cs.setIfInBounds a.off v) T fr) :: L₁)
 | .new o k,Q,B,L=>thawed o=true∧∀b,B.mem b=none→(∀p,p∈L→p.1≠b)→hb P (k b) Q B ((b,o) :: L)
 | .shape r k,Q,B,L=>∃o,ZiL B L r o∧hb P (k (Zet o)) Q B L
 | .freeze a n k,Q,B,L=>(n=0∧hb P k Q B L)∨∃(cs:Array Value) (T:TypeId) (fr:Nat × Nat) (L₁:Cells),L.Perm ((a.block,.cells cs T fr) :: L₁)∧∀fr',hb P k Q B ((a.block,.cells cs T fr') :: L₁)
 | .frozen a k,Q,B,L=>∃o,ZiL B L a.block o∧hb P (k (Zfl a.off o)) Q B L
 | .getObj r k,Q,B,L=>∃o,ZiL B L r o∧Zie o=false∧o.isChan=false∧hb P (k o) Q B L
 | .setObj r o k,Q,B,L=>(o.isChan=false∧Zie o=false)∧∃(o₀:Obj) (L₁:Cells),L.Perm ((r,o₀) :: L₁)∧Zie o₀=false∧hb P k Q B ((r,o) :: L₁)
 | .choose q k,Q,B,L=>∀n,(q.forced=true→n=0)→(q.forced=false→∃t,n=q.cut t)→hb P (k n) Q B L
 | .sys _ _,_,_,_=>False
 | .program k,Q,B,L=>hb P (k P) Q B L
 | .mark m k,Q,B,L=>soft m=true∧hb P k Q B L
 | .halt _,_,_,_=>False
theorem Zp (P:Program) {α:Type} (a:α) (Q:α→Kn→Cells→Prop) (B:Kn) (L:Cells):hb P (Pure.pure a:Sem α) Q B L=Q a B L:=rfl
theorem Zad (P:Program) {α:Type} (a:α) (Q:α→Kn→Cells→Prop) (B:Kn) (L:Cells):hb P (Sem.pure a) Q B L=Q a B L:=rfl
theorem ZoI (P:Program) {α β:Type} (x:Sem α) (f:α→Sem β) (Q:β→Kn→Cells→Prop) :∀B L,hb P (x.bind f) Q B L=hb P x (fun a=>hb P (f a) Q) B L:=by
 induction x with
 | pure a=>intro B L;rfl
 | load m a k ih=>intro B L;simp only [Sem.bind,hb,ih]
 | store m a v k ih=>intro B L;simp only [Sem.bind,hb,ih]
 | new o k ih=>intro B L;simp only [Sem.bind,hb,ih]
 | shape r k ih=>intro B L;simp only [Sem.bind,hb,ih]
 | freeze a n k ih=>intro B L;simp only [Sem.bind,hb,ih]
 | frozen a k ih=>intro B L;simp only [Sem.bind,hb,ih]
 | getObj r k ih=>intro B L;simp only [Sem.bind,hb,ih]
 | setObj r o k ih=>intro B L;simp only [Sem.bind,hb,ih]
 | choose q k ih=>intro B L;simp only [Sem.bind,hb,ih]
 | sys c k ih=>intro B L;rfl
 | program k ih=>intro B L;simp only [Sem.bind,hb,ih]
 | mark m k ih=>intro B L;simp only [Sem.bind,hb,ih]
 | halt h=>intro B L;rfl
theorem Zi (P:Program) {α β:Type} (x:Sem α) (f:α→Sem β) (Q:β→Kn→Cells→Prop) (B:Kn) (L:Cells):hb P (x >>= f) Q B L=hb P x (fun a=>hb P (f a) Q) B L:=ZoI P x f Q B L
theorem Zsm (P:Program) {α β:Type} (x:Sem α) (f:α→β) (Q:β→Kn→Cells→Prop) (B:Kn) (L:Cells):hb P (Functor.map f x) Q B L=hb P x (fun a=>Q (f a)) B L:=ZoI P x (fun a=>Sem.pure (f a)) Q B L
theorem Sat.new {B:Kn} {L:Cells} {w:World} (s:Sat B L w) (o:Obj):Sat B ((w.heap.size,o) :: L) { w with heap:=w.heap.push o }:=by
 refine ⟨fun b o' h=>?_,fun p hp=>?_,?_,fun p hp=>?_⟩
 ·have:=s.ltB h
  rw [Array.getElem?_push,if_neg (by omega)];exact s.ro b o' h
 ·rcases List.mem_cons.1 hp with rfl | hp
  ·simp
  ·have:=s.ltL hp
   rw [Array.getElem?_push,if_neg (by omega)];exact s.own p hp
 ·refine List.nodup_cons.2 ⟨fun h=>?_,s.nodup⟩
  obtain ⟨p,hp,he⟩:=List.mem_map.1 h
  have h1:=s.ltL hp
  simp only at he
  omega
 ·rcases List.mem_cons.1 hp with rfl | hp
  ·cases hm:B.mem w.heap.size with
   | none=>rfl
   | some o'=>exact absurd (s.ltB hm) (Nat.lt_irrefl _)
  ·exact s.apart p hp
theorem Ok.new {B:Kn} {L:Cells} {w:World} (s:Sat B L w) (o:Obj) (ht:thawed o=true):Ok B L w B ((w.heap.size,o) :: L) { w with heap:=w.heap.push o }:=by
 refine ⟨Kn.le.refl B,s.new o,by simp,fun b hb _=>?_,fun b o' h=>.inl (by rw [h];rfl),fun p hp=>?_,rfl,rfl,rfl⟩
 ·simp [Array.getElem?_push,Nat.ne_of_lt hb]
 ·rcases List.mem_cons.1 hp with rfl | hp
  ·exact .inr (Nat.le_refl _)
  ·exact .inl ⟨p,hp,rfl⟩
theorem Ok.turn {B:Kn} {L L₁:Cells} {w w':World} (s:Sat B L w) {b:Nat} {o o':Obj} (hp:L.Perm ((b,o) :: L₁)) (hs:w'.heap.size=w.heap.size) (hb:w'.heap[b]? = some o') (hk :∀c,c≠b→w'.heap[c]? = w.heap[c]?)
  (ht:w'.tape=w.tape) (ho:w'.os=w.os) (hu:w'.output=w.output):Ok B L w B ((b,o') :: L₁) w':=by
 have s':=s.perm hp
 have hnd:=List.nodup_cons.1 s'.nodup
 have hB:B.mem b=none:=s'.apart (b,o) (List.mem_cons_self ..)
 refine ⟨Kn.le.refl B,⟨fun c x h=>?_,fun p hq=>?_,?_,fun p hq=>?_⟩,Nat.le_of_eq hs.symm,fun c hc hn=>?_,fun c x h=>.inl (by rw [h];rfl),fun p hq=>?_,ht,ho,hu⟩
 ·rw [hk c (fun e=>by subst e;rw [hB] at h;cases h)];exact s.ro c x h
 ·rcases List.mem_cons.1 hq with rfl | hq
  ·exact hb
  ·rw [hk p.1 (fun e=>hnd.1 (List.mem_map.2 ⟨p,hq,e⟩))];exact s'.own p (List.mem_cons_of_mem _ hq)
 ·exact List.nodup_cons.2 hnd
 ·rcases List.mem_cons.1 hq with rfl | hq
  ·exact hB
  ·exact s'.apart p (List.mem_cons_of_mem _ hq)
 ·exact hk c (fun e=>hn (b,o) (hp.mem_iff.2 (List.mem_cons_self ..)) e.symm)
 ·rcases List.mem_cons.1 hq with rfl | hq
  ·exact .inl ⟨(b,o),hp.mem_iff.2 (List.mem_cons_self ..),rfl⟩
  ·exact .inl ⟨p,hp.mem_iff.2 (List.mem_cons_of_mem _ hq),rfl⟩
theorem getElem?_modify' {a:Array Obj} {f:Obj→Obj} {i j:Nat} : (a.modify i f)[j]? = if i=j then (a[j]?).map f else a[j]?:=by
 rw [Array.getElem?_modify]
theorem Zcq {P:Program} {α:Type} (x:Sem α) (Q:α→Kn→Cells→Prop) :∀(B:Kn) (L:Cells),hb P x Q B L→∀(w:World) (es:Array Event),Sat B L w→
∃a w' es' B' L',x.runT P w es=(.ok a w',es ++ es')∧(∀e,e∈es'→Ev w.heap.size w'.heap.size B L e)∧Ok B L w B' L' w'∧Q a B' L':=by
 induction x with
 | pure a=>intro B L h w es s;exact ⟨a,w,#[],B,L,by simp [Sem.runT],by simp,Ok.refl s,h⟩
 | load m a k ih=>
  rintro B L ⟨rfl,v,hc,h⟩ w es s
  obtain ⟨y,w',es',B',L',h1,h2,h3,h4⟩:=ih v B L h w (es.push ⟨.cell a,false,false⟩) s
  have hcell:=hc.cell s
  refine ⟨y,w',#[⟨.cell a,false,false⟩] ++ es',B',L',?_,?_,h3,h4⟩
  ·simp only [Sem.runT,hcell]
   rw [show ((Mode.plain == Mode.atomic)=false) from rfl,h1,Array.push_eq_append,Array.append_assoc]
  ·intro e he
   rcases Array.mem_append.1 he with he | he
   ·rw [List.mem_toArray.1 he |> List.mem_singleton.1]
    obtain ⟨_,cs,T,fr,hO,_⟩:=hc
    refine .inr ⟨rfl,a.block,.inl ⟨a,rfl,rfl⟩,?_⟩
    rcases hO with hO | hO
    ·exact .inr (.inl ⟨rfl,by rw [hO];rfl⟩)
    ·exact .inl ⟨_,hO⟩
   ·exact h2 e he
 | store m a v k ih=>
  rintro B L ⟨rfl,hv,hsp,cs,T,fr,L₁,hp,hoff,hfr,h⟩ w es s
  have hw:w.heap[a.block]? = some (.cells cs T fr):=s.own (a.block,_) (hp.mem_iff.2 (List.mem_cons_self ..))
  have hcell :∃u,w.cell? a=some u:=⟨cs[a.off],by simp [World.cell?,hw,hsp,hoff]⟩
  obtain ⟨u,hu⟩:=hcell
  have hfz:w.frozen? a=false:=by simp only [World.frozen?,hw];exact hfr
  have hok:Ok B L w B ((a.block,.cells (cs.setIfInBounds a.off v) T fr) :: L₁) (w.setCell a v):=by
   refine Ok.turn s hp (by simp [World.setCell]) ?_ (fun c hc=>?_) rfl rfl rfl
   ·simp [World.setCell,getElem?_modify',hw,hsp]
   ·simp only [World.setCell,getElem?_modify'];rw [if_neg (Ne.symm hc)]
  obtain ⟨y,w',es',B',L',h1,h2,h3,h4⟩:=ih B _ h (w.setCell a v) (es.push ⟨.cell a,true,false⟩) hok.sat
  refine ⟨y,w',#[⟨.cell a,true,false⟩] ++ es',B',L',?_,?_,hok.trans h3,h4⟩
  ·have:k.runT P (w.setCell a v) (es.push ⟨.cell a,true,false⟩)=(.ok y w',es ++ (#[⟨.cell a,true,false⟩] ++ es')):=by
    rw [h1,Array.push_eq_append,Array.append_assoc]
   cases v <;> simp only [ZgO,Bool.false_eq_true] at hv <;> simp only [Sem.runT,hu,hfz,if_false,Bool.false_eq_true] <;> exact this
  ·intro e he
   rcases Array.mem_append.1 he with he | he
   ·rw [List.mem_toArray.1 he |> List.mem_singleton.1]
    exact .inr ⟨rfl,a.block,.inl ⟨a,rfl,rfl⟩,.inl ⟨_,hp.mem_iff.2 (List.mem_cons_self ..)⟩⟩
   ·exact Ev.after hok h3.size (h2 e he)
 | new o k ih=>
  rintro B L ⟨ht,h⟩ w es s
  have hok:=Ok.new s o ht
  have hn:B.mem w.heap.size=none:=hok.sat.apart (w.heap.size,o) (List.mem_cons_self ..)
  obtain ⟨y,w',es',B',L',h1,h2,h3,h4⟩:=ih w.heap.size B _ (h w.heap.size hn (fun p hp=>Nat.ne_of_lt (s.ltL hp))) _ es hok.sat
  exact ⟨y,w',es',B',L',by simp only [Sem.runT];exact h1,fun e he=>Ev.after hok h3.size (h2 e he),hok.trans h3,h4⟩
 | shape r k ih=>
  rintro B L ⟨o,ho,h⟩ w es s
  obtain ⟨y,w',es',B',L',h1,h2,h3,h4⟩:=ih _ B L h w es s
  refine ⟨y,w',es',B',L',?_,h2,h3,h4⟩
  have:w.shape? r=Zet o:=by simp only [World.shape?,ho.heap s];cases o <;> rfl
  simp only [Sem.runT,this];exact h1
 | freeze a n k ih=>
  rintro B L (⟨rfl,h⟩ | ⟨cs,T,fr,L₁,hp,h⟩) w es s
  ·obtain ⟨y,w',es',B',L',h1,h2,h3,h4⟩:=ih B L h w es s
   exact ⟨y,w',es',B',L',by simp only [Sem.runT,World.freeze];exact h1,h2,h3,h4⟩
  ·by_cases hn:n=0
   ·subst hn
    obtain ⟨y,w',es',B',L',h1,h2,h3,h4⟩:=ih B _ (h fr) w es (s.perm hp)
    refine ⟨y,w',es',B',L',by simp only [Sem.runT,World.freeze];exact h1,fun e he=>?_,?_,h4⟩
    ·exact Ev.after (Ok.turn s hp rfl (s.own _ (hp.mem_iff.2 (List.mem_cons_self ..))) (fun _ _=>rfl) rfl rfl rfl) h3.size (h2 e he)
    ·exact (Ok.turn s hp rfl (s.own _ (hp.mem_iff.2 (List.mem_cons_self ..))) (fun _ _=>rfl) rfl rfl rfl).trans h3
   ·have hw:w.heap[a.block]? = some (.cells cs T fr):=s.own (a.block,_) (hp.mem_iff.2 (List.mem_cons_self ..))
    obtain ⟨lo,hi⟩:=fr
    have hok:Ok B L w B ((a.block,.cells cs T (if lo == hi then (a.off,a.off+n) else (min lo a.off,max hi (a.off+n)))) :: L₁) (w.freeze a n):=by
     refine Ok.turn s hp (by simp [World.freeze,hn]) ?_ (fun c hc=>?_) (by simp [World.freeze,hn]) (by simp [World.freeze,hn]) (by simp [World.freeze,hn])
     ·simp [World.freeze,hn,getElem?_modify',hw]
     ·simp only [World.freeze,if_neg hn,getElem?_modify'];rw [if_neg (Ne.symm hc)]
    obtain ⟨y,w',es',B',L',h1,h2,h3,h4⟩:=ih B _ (h _) (w.freeze a n) es hok.sat
    exact ⟨y,w',es',B',L',by simp only [Sem.runT];exact h1,fun e he=>Ev.after hok h3.size (h2 e he),hok.trans h3,h4⟩
 | frozen a k ih=>
  rintro B L ⟨o,ho,h⟩ w es s
  obtain ⟨y,w',es',B',L',h1,h2,h3,h4⟩:=ih _ B L h w es s
  refine ⟨y,w',es',B',L',?_,h2,h3,h4⟩
  have:w.frozen? a=Zfl a.off o:=by simp only [World.frozen?,ho.heap s];cases o <;> rfl
  simp only [Sem.runT,this];exact h1
 | getObj r k ih=>
  rintro B L ⟨o,ho,hc,hch,h⟩ w es s
  obtain ⟨y,w',es',B',L',h1,h2,h3,h4⟩:=ih o B L h w (es.push ⟨.obj r,false,false⟩) s
  refine ⟨y,w',#[⟨.obj r,false,false⟩] ++ es',B',L',?_,?_,h3,h4⟩
  ·have:(k o).runT P w (es.push ⟨.obj r,false,o.isChan⟩)=(.ok y w',es ++ (#[⟨.obj r,false,false⟩] ++ es')):=by
    rw [hch,h1,Array.push_eq_append,Array.append_assoc]
   have hw:=ho.heap s
   cases o <;> simp only [Zie,Bool.true_eq_false] at hc <;> simp only [Sem.runT,hw] <;> exact this
  ·intro e he
   rcases Array.mem_append.1 he with he | he
   ·rw [List.mem_toArray.1 he |> List.mem_singleton.1]
    refine .inr ⟨rfl,r,.inr rfl,?_⟩
    rcases ho with hO | hO
    ·exact .inr (.inl ⟨rfl,by rw [hO];rfl⟩)
    ·exact .inl ⟨_,hO⟩
   ·exact h2 e he
 | setObj r o k ih=>
  rintro B L ⟨⟨hch,hco⟩,o₀,L₁,hp,hc,h⟩ w es s
  have hw:w.heap[r]? = some o₀:=s.own (r,_) (hp.mem_iff.2 (List.mem_cons_self ..))
  have hlt:=ZS hw
  have hok:Ok B L w B ((r,o) :: L₁) { w with heap:=w.heap.setIfInBounds r o }:=by
   refine Ok.turn s hp (by simp) (by simp [hlt]) (fun c hne=>?_) rfl rfl rfl
   simp only [Array.getElem?_setIfInBounds];rw [if_neg (Ne.symm hne)]
  obtain ⟨y,w',es',B',L',h1,h2,h3,h4⟩:=ih B _ h _ (es.push ⟨.obj r,true,false⟩) hok.sat
  refine ⟨y,w',#[⟨.obj r,true,false⟩] ++ es',B',L',?_,?_,hok.trans h3,h4⟩
  ·have:k.runT P { w with heap:=w.heap.setIfInBounds r o } (es.push ⟨.obj r,true,o.isChan⟩)=(.ok y w',es ++ (#[⟨.obj r,true,false⟩] ++ es')):=by
    rw [hch,h1,Array.push_eq_append,Array.append_assoc]
   cases o₀ <;> simp only [Zie,Bool.true_eq_false] at hc <;> simp only [Sem.runT,hw] <;> exact this
  ·intro e he
   rcases Array.mem_append.1 he with he | he
   ·rw [List.mem_toArray.1 he |> List.mem_singleton.1]
    exact .inr ⟨rfl,r,.inr rfl,.inl ⟨_,hp.mem_iff.2 (List.mem_cons_self ..)⟩⟩
   ·exact Ev.after hok h3.size (h2 e he)
 | choose q k ih=>
  intro B L h w es s
  by_cases hf:q.forced=true
  ·obtain ⟨y,w',es',B',L',h1,h2,h3,h4⟩:=ih 0 B L (h 0 (fun _=>rfl) (fun e=>by rw [hf] at e;cases e)) w es s
   exact ⟨y,w',es',B',L',by simp only [Sem.runT,hf,if_true];exact h1,h2,h3,h4⟩
  ·have s':Sat B L { w with drawn:=w.drawn+1 }:=⟨s.ro,s.own,s.nodup,s.apart⟩
   obtain ⟨y,w',es',B',L',h1,h2,h3,h4⟩:=ih _ B L (h (q.cut (w.tape w.drawn q)) (fun e=>absurd e hf) (fun _=>⟨_,rfl⟩)) _ es s'
   exact ⟨y,w',es',B',L',by simp only [Sem.runT,hf];exact h1,h2,⟨h3.le,h3.sat,h3.size,h3.keep,h3.newB,h3.newL,h3.tape,h3.os,h3.output⟩,h4⟩
 | sys c k ih=>intro B L h;exact h.elim
 | program k ih=>
  intro B L h w es s
  obtain ⟨y,w',es',B',L',h1,h2,h3,h4⟩:=ih P B L h w es s
  exact ⟨y,w',es',B',L',by simp only [Sem.runT];exact h1,h2,h3,h4⟩
 | mark m k ih=>
  rintro B L ⟨hm,h⟩ w es s
  obtain ⟨y,w',es',B',L',h1,h2,h3,h4⟩:=ih B L h w (es.push ⟨.mark m,false,true⟩) s
  refine ⟨y,w',#[⟨.mark m,false,true⟩] ++ es',B',L',?_,?_,h3,h4⟩
  ·simp only [Sem.runT]
   rw [h1,Array.push_eq_append,Array.append_assoc]
  ·intro e he
   rcases Array.mem_append.1 he with he | he
   ·rw [List.mem_toArray.1 he |> List.mem_singleton.1]
    exact .inl ⟨m,rfl,hm⟩
   ·exact h2 e he
 | halt x=>intro B L h;exact h.elim
end Go.BL
