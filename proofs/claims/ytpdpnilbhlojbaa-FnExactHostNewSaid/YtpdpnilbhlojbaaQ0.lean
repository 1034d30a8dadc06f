/-
  THE WALK'S LOGIC: owned cells and known cells, goroutines started and awaited, calls, loops, data, and plain laws on lists: no program in sight.
-/
import Derived.Test.YtpdpnilbhlojbaaK0
import Derived.Conc.Beside
import Derived.Conc.CrowdStepW
import Derived.Conc.CrowdStepC2
import Derived.Conc.WgGenN3
set_option linter.unusedVariables false
set_option linter.unusedSimpArgs false
set_option linter.unusedSectionVars false
namespace Go.BL
open Go.Conc Go.ConcN
open Go.ConcR (KK wgBlock WgAt stA smA rd wr mk Payload)
set_option linter.unusedVariables false
def ZaP:Loc→Option Nat
  | .cell a=>some a.block
  | .obj r=>some r
  | _=>none
def Zju (B:Nat) (op:MemOp):Prop:=∀x b,op.act.touch? = some x→ZaP x.loc=some b→b<B
theorem Zju.mono {B B':Nat} {op:MemOp} (hB:B≤B') (h:Zju B op):Zju B' op:=fun x b hx hb=>Nat.lt_of_lt_of_le (h x b hx hb) hB
structure PastB (Shun:Loc→Prop) (hs:Nat) (t:Trace):Prop where
  clean :∀said,¬ Race said t
  known :∀i a,touchAt t i=some a→a.loc.isMemory=true→Knows t 0 i∨(Shun a.loc∧a.kind = .atomic)
  over:t.HandedOver
  hears:Deaf t 0=0
  seen :∀op∈t,Zju hs op
inductive Ow where
  | free
  | own (g:Nat)
  | pay
  | grp
structure TL (T0 n0 j C Wg hs:Nat) (ow:Nat→Ow) (KB:Nat→Nat→Prop) (Shun:Loc→Prop) (t:Trace):Prop where
  nr :∀said,¬ Race said t
  low :∀op∈t,Zju hs op
  own :∀g b,ow b = .own g→∀l,ZaP l=some b→Perm t g l
  rd :∀g b,KB g b→∀l,ZaP l=some b→PermW t g l
  pay :∀i,Perm t (if i<j then n0+i else 0) (.cell ⟨C,i,none⟩)
  quiet:Quiet (ShN Wg) t
  past :∀i a,touchAt t i=some a→a.loc.isMemory=true→(∀k,k<j→t.g? i≠some (n0+k))→Knows t 0 i∨(Shun a.loc∧a.kind = .atomic)
  over :∀i g,t.g? i=some g→g≠0→(∀k,k<j→g≠n0+k)→t.counts i→∃q,t.g? q=some 0∧HappensBefore t i q
  wk :∀i k a,k<j→t.g? i=some (n0+k)→touchAt t i=some a→a.loc.isMemory=true→a.kind = .plain∨ShN Wg a.loc
  norel :∀i,T0≤i→t.act? i≠some (.mark (.release (stA Wg)))
  t0:T0≤t.size
  early :∀i op,i<T0→t[i]? = some op→op.g<n0
  gs :∀op∈t,op.g<n0+j
def Zm2 (n0 j C Wg hs:Nat) (ow:Nat→Ow) (KB:Nat→Nat→Prop) (g:Nat) (op:MemOp):Prop:=
  op.g=g∧op.act≠.mark (.release (stA Wg))∧∀x,op.act.touch? = some x→
    (x.kind = .plain∧((∃b,ZaP x.loc=some b∧(ow b = .own g∨(x.write=false∧KB g b)∨hs≤b))∨∃i,x.loc = .cell ⟨C,i,none⟩∧(if i<j then n0+i else 0)=g))∨
    (ShN Wg x.loc∧x.kind≠.plain∧(x.kind = .said→g=0))
structure OwOk (C Wg hs:Nat) (ow:Nat→Ow) (KB:Nat→Nat→Prop):Prop where
  kb :∀g b,KB g b→ow b = .free∨ow b = .own g
  kl :∀g b,KB g b→b<hs
  pay:ow C = .pay
  grp:ow Wg = .grp
  lC:C<hs
  lW:Wg<hs
section
variable {T0 n0 j C Wg hs hs':Nat} {ow ow':Nat→Ow} {KB KB':Nat→Nat→Prop} {Shun:Loc→Prop} {t u:Trace} {g:Nat}
theorem Zdc {l:Loc} (h:ShN Wg l):ZaP l=some Wg:=by obtain ⟨a,rfl,ha⟩:=h;simp [ZaP,ha]
theorem TL.app (O:OwOk C Wg hs ow KB) (h:TL T0 n0 j C Wg hs ow KB Shun t) (hn:0<n0) (hg:g=0∨∃k,k<j∧g=n0+k) (hu :∀op∈u,Zm2 n0 j C Wg hs ow KB g op) (hl :∀op∈u,Zju hs' op) (hle:hs≤hs')
    (how :∀b g',ow' b = .own g'→(b<hs∧ow b = .own g')∨(hs≤b∧g'=g)) (hKB :∀g' b,KB' g' b→KB g' b∨(g'=g∧(ow b = .own g∨hs≤b))):TL T0 n0 j C Wg hs' ow' KB' Shun (t ++ u):=by
  have hug :∀op∈u,op.g=g:=fun op hop=>(hu op hop).1
  have tlow :∀{i:Nat} {a:Touch} {b:Nat},touchAt t i=some a→ZaP a.loc=some b→b<hs:=fun {i a b} ha hb=>by
    obtain ⟨x,hx,hxa⟩:=touch_of ha
    exact h.low x (Array.mem_of_getElem? hx) a b hxa hb
  have hCg:ow C≠.own g:=by rw [O.pay];exact fun e=>Ow.noConfusion e
  -- an operation at a cell of the payload
  have paycell :∀op∈u,∀x,op.act.touch? = some x→∀i,x.loc = .cell ⟨C,i,none⟩→(if i<j then n0+i else 0)=g:=fun op hop x hx i e=>by
    rcases (hu op hop).2.2 x hx with ⟨_,⟨b,hb,hc⟩ | ⟨i',e',hi'⟩⟩ | ⟨hs1,_⟩
    · rw [e] at hb
      simp only [ZaP,Option.some.injEq] at hb
      subst hb
      rcases hc with hc | ⟨_,hc⟩ | hc
      · exact absurd hc hCg
      · rcases O.kb _ _ hc with hc | hc
        · rw [O.pay] at hc;cases hc
        · exact absurd hc hCg
      · have:=O.lC;omega
    · rw [e] at e'
      simp only [Loc.cell.injEq,Addr.mk.injEq,true_and,and_true] at e'
      subst e';exact hi'
    · have:=Zdc hs1
      rw [e] at this
      simp only [ZaP,Option.some.injEq] at this
      have h1:=O.pay
      rw [this,O.grp] at h1;cases h1
  refine ⟨fun said=>noRace_append (h.nr said) hug fun i a ha op hop b hb hc=>?_,fun op hop=>(Array.mem_append.1 hop).elim (fun x=>(h.low op x).mono hle) (hl op),fun g' b hb l hlb=>?_,fun g' b hb l hlb=>?_,fun i=>(h.pay i).app fun op hop x hx e=>?_,
    h.quiet.app fun op hop x hx hs1=>?_,fun i a ha hm hnw=>?_,fun i g' hg' hne hnw hc=>?_,fun i k a hk hgi ha hm=>?_,fun i hi e=>?_,by rw [Array.size_append];have:=h.t0;omega,fun i op hi hop=>?_,
    fun op hop=>(Array.mem_append.1 hop).elim (h.gs op) fun x=>by
      rw [hug op x]
      rcases hg with rfl | ⟨k,hk,rfl⟩ <;> omega⟩
  · -- no race
    rcases (hu op hop).2.2 b hb with ⟨_,⟨bb,hbb,hcase⟩ | ⟨i',e',hi'⟩⟩ | ⟨hs1,hk,hsd⟩
    · have hab:ZaP a.loc=some bb:=by rw [hc.1];exact hbb
      rcases hcase with h1 | ⟨h1,h2⟩ | h1
      · exact h.own g bb h1 a.loc hab i a ha rfl
      · exact h.rd g bb h2 a.loc hab i a ha rfl (hc.2.2.1.resolve_right (by simp [h1]))
      · have:=tlow ha hab;omega
    · have:=h.pay i' i a ha (hc.1.trans e')
      rwa [hi'] at this
    · exact h.quiet.known hs1 hk hsd i a ha hc
  · -- own
    rcases how b g' hb with ⟨hbl,hb'⟩ | ⟨hbh,rfl⟩
    · refine (h.own g' b hb' l hlb).app fun op hop x hx e=>?_
      rw [hug op hop]
      rcases (hu op hop).2.2 x hx with ⟨_,⟨bb,hbb,hcase⟩ | ⟨i',e',hi'⟩⟩ | ⟨hs1,_⟩
      · rw [e,hlb] at hbb
        cases hbb
        rcases hcase with h1 | ⟨_,h2⟩ | h1
        · rw [hb'] at h1;cases h1;rfl
        · rcases O.kb _ _ h2 with h3 | h3
          · rw [hb'] at h3;cases h3
          · rw [hb'] at h3;cases h3;rfl
        · omega
      · rw [← e,e'] at hlb
        simp only [ZaP,Option.some.injEq] at hlb
        subst hlb
        rw [O.pay] at hb';cases hb'
      · have:=Zdc hs1
        rw [e,hlb] at this
        cases this
        rw [O.grp] at hb';cases hb'
    · intro i a ha e
      obtain ⟨x,hx,hxa⟩:=touch_of ha
      rcases getElem?_append_cases hx with ⟨_,hx'⟩ | ⟨_,hxu⟩
      · have:=tlow (touchAt_of hx' ▸ hxa) (e ▸ hlb);omega
      · have:=knows_own hx
        rwa [hug x hxu] at this
  · -- reads
    have key :∀{g'},KB g' b→PermW (t ++ u) g' l:=fun {g'} hkb=>(h.rd g' b hkb l hlb).app fun op hop x hx e hw=>by
      rw [hug op hop]
      rcases (hu op hop).2.2 x hx with ⟨_,⟨bb,hbb,hcase⟩ | ⟨i',e',hi'⟩⟩ | ⟨hs1,_⟩
      · rw [e,hlb] at hbb
        cases hbb
        rcases hcase with h1 | ⟨h1,_⟩ | h1
        · rcases O.kb _ _ hkb with h3 | h3
          · rw [h1] at h3;cases h3
          · rw [h1] at h3;cases h3;rfl
        · rw [hw] at h1;cases h1
        · have:=O.kl _ _ hkb;omega
      · rw [← e,e'] at hlb
        simp only [ZaP,Option.some.injEq] at hlb
        subst hlb
        rcases O.kb _ _ hkb with h3 | h3 <;> (rw [O.pay] at h3;cases h3)
      · have:=Zdc hs1
        rw [e,hlb] at this
        cases this
        rcases O.kb _ _ hkb with h3 | h3 <;> (rw [O.grp] at h3;cases h3)
    rcases hKB g' b hb with hkb | ⟨rfl,hob | hbh⟩
    · exact key hkb
    · exact (PermW.of (h.own g' b hob l hlb)).app fun op hop _ _ _ _=>hug op hop
    · intro i a ha e hw
      obtain ⟨x,hx,hxa⟩:=touch_of ha
      rcases getElem?_append_cases hx with ⟨_,hx'⟩ | ⟨_,hxu⟩
      · have:=tlow (touchAt_of hx' ▸ hxa) (e ▸ hlb);omega
      · have:=knows_own hx
        rwa [hug x hxu] at this
  · rw [hug op hop];exact (paycell op hop x hx i e).symm
  · rcases (hu op hop).2.2 x hx with ⟨_,⟨bb,hbb,hcase⟩ | ⟨i',e',hi'⟩⟩ | ⟨_,h2,h3⟩
    · have:=Zdc hs1
      rw [hbb] at this
      cases this
      rcases hcase with h1 | ⟨_,h1⟩ | h1
      · rw [O.grp] at h1;cases h1
      · rcases O.kb _ _ h1 with h3 | h3 <;> (rw [O.grp] at h3;cases h3)
      · have:=O.lW;omega
    · have:=Zdc hs1
      rw [e'] at this
      simp only [ZaP,Option.some.injEq] at this
      have h1:=O.pay
      rw [this,O.grp] at h1;cases h1
    · exact ⟨h2,fun e=>(hug op hop).trans (h3 e)⟩
  · obtain ⟨x,hx,hxa⟩:=touch_of ha
    rcases getElem?_append_cases hx with ⟨hi,hx'⟩ | ⟨_,hxu⟩
    · refine (h.past i a (touchAt_of hx' ▸ hxa) hm fun k hk e=>hnw k hk ?_).imp (·.app u) id
      rw [g?_old hi];exact e
    · have hxg:=hug x hxu
      rcases hg with rfl | ⟨k,hk,rfl⟩
      · have:=knows_own hx
        rw [hxg] at this
        exact .inl this
      · exact absurd (by simp [Trace.g?,hx,hxg]) (hnw k hk)
  · obtain ⟨x,hx,hxg⟩:=Option.map_eq_some_iff.1 hg'
    rcases getElem?_append_cases hx with ⟨hi,hx'⟩ | ⟨_,hxu⟩
    · obtain ⟨q,h1,h2⟩:=h.over i g' (by rw [← g?_old (u:=u) hi];exact hg') hne hnw ((counts_old hi).1 hc)
      have hq:q<t.size:=by
        obtain ⟨z,hz,_⟩:=Option.map_eq_some_iff.1 h1
        exact lt_size_of_getElem? hz
      exact ⟨q,by rw [g?_old hq];exact h1,hb_app u h2⟩
    · have hxg':=hug x hxu
      rw [hxg] at hxg'
      rcases hg with rfl | ⟨k,hk,rfl⟩
      · exact absurd hxg' hne
      · exact absurd hxg' (hnw k hk)
  · obtain ⟨x,hx,hxa⟩:=touch_of ha
    rcases getElem?_append_cases hx with ⟨hi,hx'⟩ | ⟨_,hxu⟩
    · exact h.wk i k a hk (by rw [← g?_old (u:=u) hi];exact hgi) (touchAt_of hx' ▸ hxa) hm
    · rcases (hu x hxu).2.2 a hxa with ⟨h1,_⟩ | ⟨h1,_⟩
      · exact .inl h1
      · exact .inr h1
  · obtain ⟨op,ho,hoa⟩:=Option.map_eq_some_iff.1 e
    rcases getElem?_append_cases ho with ⟨hlt,ho'⟩ | ⟨_,hou⟩
    · exact h.norel i hi (by simp [Trace.act?,ho',hoa])
    · exact (hu op hou).2.1 hoa
  · rcases getElem?_append_cases hop with ⟨_,ho'⟩ | ⟨hge,_⟩
    · exact h.early i op hi ho'
    · have:=h.t0;omega
theorem TL.done (h:TL T0 n0 j C Wg hs ow KB Shun t) (hd:Deaf t 0=0) {q:Nat} (hq:t.act? q=some (.mark (.acquire (stA Wg)))) (hg:t.g? q=some 0) (hh:t.heard q) (hr :∀k,k<j→∃r,RelBy (stA Wg) t (n0+k) r∧r<q):PastB (fun l=>Shun l∨ShN Wg l) hs t:=by
  have edge :∀{k i},k<j→t.g? i=some (n0+k)→(HappensBefore t i q)∨¬ t.counts i:=fun {k i} hk hi=>by
    obtain ⟨r,hr,hrq⟩:=hr k hk
    have hr0:T0≤r:=Nat.le_of_not_lt fun hlt=>by
      obtain ⟨op,ho,hog⟩:=Option.map_eq_some_iff.1 hr.g
      have:=h.early r op hlt ho
      omega
    have e:HappensBefore t r q:=.single (.inr ⟨.marked hrq (.inr hr.act) hq (fun k hk _=>h.norel k (by omega)),hr.heard,hh⟩)
    rcases Nat.lt_trichotomy i r with hlt | rfl | hgt
    · exact .inl (.trans (.single (.inl ⟨hlt,_,hi,hr.g⟩)) e)
    · exact .inl e
    · exact .inr (hr.after i hgt hi)
  refine ⟨h.nr,fun i a ha hm=>?_,fun i g hgi hne hc=>?_,hd,h.low⟩
  · by_cases hw :∃k,k<j∧t.g? i=some (n0+k)
    · obtain ⟨k,hk,hi⟩:=hw
      rcases edge hk hi with hb | hnc
      · obtain ⟨z,hz,hzg⟩:=Option.map_eq_some_iff.1 hg
        exact .inl ⟨q,z,hz,hzg,.inr hb⟩
      · have hat:a.kind = .atomic:=by
          cases hka:a.kind with
          | atomic=>rfl
          | plain=>exact absurd ⟨a,ha,hm,.inl (by rw [hka];simp)⟩ hnc
          | said=>exact absurd ⟨a,ha,hm,.inl (by rw [hka];simp)⟩ hnc
        rcases h.wk i k a hk hi ha hm with hp | hsn
        · rw [hat] at hp;cases hp
        · exact .inr ⟨.inr hsn,hat⟩
    · rcases h.past i a ha hm fun k hk e=>hw ⟨k,hk,e⟩ with hk | ⟨h1,h2⟩
      · exact .inl hk
      · exact .inr ⟨.inl h1,h2⟩
  · by_cases hw :∃k,k<j∧g=n0+k
    · obtain ⟨k,hk,rfl⟩:=hw
      rcases edge hk hgi with hb | hnc
      · exact ⟨q,hg,hb⟩
      · exact absurd hc hnc
    · exact h.over i g hgi hne (fun k hk e=>hw ⟨k,hk,e⟩) hc
end
end Go.BL
namespace Go.BL
open Go.Conc Go.ConcN
open Go.ConcR (KK wgBlock WgAt stA smA rd wr mk Payload)
set_option linter.unusedVariables false
theorem Ok.from {B B' B₂:Kn} {L L' L₂:Cells} {w w₂:World} (hle:B.le B') (hb :∀b o,B'.mem b=some o→(B.mem b).isSome=true∨∃p,p∈L∧p.1=b) (hl :∀p,p∈L'→∃q,q∈L∧q.1=p.1) (h2:Ok B' L' w B₂ L₂ w₂):Ok B L w B₂ L₂ w₂:=by
  refine ⟨hle.trans h2.le,h2.sat,h2.size,fun b hb' hn=>h2.keep b hb' fun p hp he=>?_,fun b o hbo=>?_,fun p hp=>?_,h2.fz,h2.tape,h2.os,h2.output⟩
  · obtain ⟨q,hq,e⟩:=hl p hp
    exact hn q hq (e.trans he)
  · rcases h2.newB b o hbo with hx | ⟨p,hp,rfl⟩ | hx
    · obtain ⟨o',ho'⟩:=Option.isSome_iff_exists.1 hx
      rcases hb b o' ho' with hy | hy
      · exact .inl hy
      · exact .inr (.inl hy)
    · obtain ⟨q,hq,e⟩:=hl p hp
      exact .inr (.inl ⟨q,hq,e⟩)
    · exact .inr (.inr hx)
  · rcases h2.newL p hp with ⟨q,hq,e⟩ | hx
    · obtain ⟨r,hr,e'⟩:=hl q hq
      exact .inl ⟨r,hr,e'.trans e⟩
    · exact .inr hx
theorem Ev.from {n N:Nat} {B B':Kn} {L L':Cells} {e:Event} (hb :∀b o,B'.mem b=some o→(B.mem b).isSome=true∨∃p,p∈L∧p.1=b) (hl :∀p,p∈L'→∃q,q∈L∧q.1=p.1) (h:Ev n N B' L' e):Ev n N B L e:=by
  rcases h with h | ⟨hs,blk,hloc,hx⟩
  · exact .inl h
  · refine .inr ⟨hs,blk,hloc,?_⟩
    rcases hx with ⟨o,ho⟩ | ⟨hw,hx⟩ | hx
    · obtain ⟨q,hq,e⟩:=hl _ ho
      simp only at e
      obtain ⟨q1,q2⟩:=q
      simp only at e;subst e
      exact .inl ⟨q2,hq⟩
    · obtain ⟨o',ho'⟩:=Option.isSome_iff_exists.1 hx
      rcases hb blk o' ho' with hy | ⟨p,hp,rfl⟩
      · exact .inr (.inl ⟨hw,hy⟩)
      · exact .inl ⟨p.2,hp⟩
    · exact .inr (.inr hx)
inductive Tr where
  | leaf
  | node (f:World→Tr)
def FF:Nat→Loc→Prop:=fun _ _=>False
section
variable [Payload] (P:Program) (ty:TypeId) (Wg C n i:Nat) (v:Value)
def Zhm:Tr→Goroutine→Kn→Cells→Prop
  | .leaf,g,B,L=>g.status = .running∧∀w,Sat B L w→PayAt C n w→∃g',stepG P false g w = .go g' (w.setCell ⟨C,i,none⟩ v) #[⟨.cell ⟨C,i,none⟩,true,false⟩]∧
∀w',WgLive ty Wg w'→Has C i v w'→∃m,Goes P false (RW ty Wg C n 0 i) (DWs Wg FF FF C n (i+1)) (AtR0 P ty Wg C n 0 (i+1) v) m g' w'
  | .node f,g,B,L=>g.status = .running∧∀w,Sat B L w→∃g' w' es B' L',stepG P false g w = .go g' w' es∧(∀e,e∈es→Ev w.heap.size w'.heap.size B L e)∧Ok B L w B' L' w'∧Zhm (f w) g' B' L'
def Zgn (g:Goroutine) (B:Kn) (L:Cells):Prop:=∃τ,Zhm P ty Wg C n i v τ g B L
end
section
variable [Payload] {P:Program} {ty:TypeId} {Wg C n i:Nat} {v:Value}
theorem Zhm.running :∀{τ:Tr} {g:Goroutine} {B:Kn} {L:Cells},Zhm P ty Wg C n i v τ g B L→g.status = .running
  | .leaf,_,_,_,h=>h.1
  | .node _,_,_,_,h=>h.1
theorem Zgn.conv {g:Goroutine} {B B':Kn} {L L':Cells} (hle:B.le B') (hs :∀w,Sat B L w→Sat B' L' w) (hb :∀b o,B'.mem b=some o→(B.mem b).isSome=true∨∃p,p∈L∧p.1=b) (hl :∀p,p∈L'→∃q,q∈L∧q.1=p.1)
    (h:Zgn P ty Wg C n i v g B' L'):Zgn P ty Wg C n i v g B L:=by
  obtain ⟨τ,h⟩:=h
  refine ⟨τ,?_⟩
  cases τ with
  | leaf=>exact ⟨h.1,fun w s hp=>h.2 w (hs w s) hp⟩
  | node f=>
    refine ⟨h.1,fun w s=>?_⟩
    obtain ⟨g',w',es,B₂,L₂,h1,h2,h3,h4⟩:=h.2 w (hs w s)
    exact ⟨g',w',es,B₂,L₂,h1,fun e he=>Ev.from hb hl (h2 e he),Ok.from hle hb hl h3,h4⟩
theorem Zgn.step {g:Goroutine} {B:Kn} {L:Cells} (hg:g=G g.frame g.callers) (h :∀w,Sat B L w→∃g' w' es B' L',stepG P false g w = .go g' w' es∧(∀e,e∈es→Ev w.heap.size w'.heap.size B L e)∧Ok B L w B' L' w'∧Zgn P ty Wg C n i v g' B' L'):Zgn P ty Wg C n i v g B L:=by
  classical
  have h' :∀w,∃τ,Sat B L w→∃g' w' es B' L',stepG P false g w = .go g' w' es∧(∀e,e∈es→Ev w.heap.size w'.heap.size B L e)∧Ok B L w B' L' w'∧Zhm P ty Wg C n i v τ g' B' L':=fun w=>by
    by_cases s:Sat B L w
    · obtain ⟨g',w',es,B',L',h1,h2,h3,τ,h4⟩:=h w s
      exact ⟨τ,fun _=>⟨g',w',es,B',L',h1,h2,h3,h4⟩⟩
    · exact ⟨.leaf,fun s'=>absurd s' s⟩
  exact ⟨.node fun w=>Classical.choose (h' w),by rw [hg];rfl,fun w s=>Classical.choose_spec (h' w) s⟩
end
abbrev Mu:=Nat × List Tr × Nat
structure Oth where
  D:Nat→WD
  τ:Nat→Tr
  K:Nat→Kn
  L:Nat→Cells
  q:Nat→Nat
def Oth.mu (o:Oth) (n0 j f0:Nat):Mu:=(Ssum j o.D,(List.range j).map o.τ,f0+2*(Fsum j o.D+sumTo n0 o.q))
structure KW (W w:World):Prop where
  same :∀b,b<W.heap.size→w.heap[b]? = W.heap[b]?
  size:W.heap.size≤w.heap.size
  fz :∀a,w.frozen? a=W.frozen? a
  tape:w.tape=W.tape
  os:w.os=W.os
  output:w.output=W.output
structure Mv (S:Nat→Prop) (w w':World):Prop where
  size:w.heap.size≤w'.heap.size
  keep :∀b,b<w.heap.size→¬ S b→w'.heap[b]? = w.heap[b]?
  fz :∀a,w'.frozen? a=w.frozen? a
  tape:w'.tape=w.tape
  os:w'.os=w.os
  output:w'.output=w.output
theorem Mv.at (w:World) (d:Nat):Mv (fun _=>False) w (w.at d):=⟨Nat.le_refl _,fun _ _ _=>rfl,fun _=>rfl,rfl,rfl,rfl⟩
theorem Mv.of_ok {B B':Kn} {L L':Cells} {w w':World} {S:Nat→Prop} (h:Ok B L w B' L' w') (hS :∀p,p∈L→S p.1):Mv S w w':=
  ⟨h.size,fun b hb hn=>h.keep b hb fun p hp e=>hn (e ▸ hS p hp),h.fz,h.tape,h.os,h.output⟩
theorem Sat.mv {B:Kn} {L:Cells} {w w':World} {S:Nat→Prop} (s:Sat B L w) (h:Mv S w w') (hB :∀b,(B.mem b).isSome=true→¬ S b) (hL :∀p,p∈L→¬ S p.1):Sat B L w':=
  ⟨fun b o hb=>(h.keep b (s.ltB hb) (hB b (by rw [hb];rfl))).trans (s.ro b o hb),fun p hp=>(h.keep p.1 (s.ltL hp) (hL p hp)).trans (s.own p hp),s.nodup,s.apart⟩
theorem KW.mv {W w w':World} {S:Nat→Prop} (h:KW W w) (m:Mv S w w') (hS :∀b,S b→W.heap.size≤b):KW W w':=
  ⟨fun b hb=>(m.keep b (Nat.lt_of_lt_of_le hb h.size) (fun hs=>by have:=hS b hs;omega)).trans (h.same b hb),Nat.le_trans h.size m.size,fun a=>(m.fz a).trans (h.fz a),m.tape.trans h.tape,m.os.trans h.os,m.output.trans h.output⟩
end Go.BL
namespace Go.BL
open Go.Conc Go.ConcN
open Go.ConcR (KK wgBlock WgAt stA smA rd wr mk Payload g_of_ofEvents)
set_option linter.unusedVariables false
set_option linter.unusedSectionVars false
variable [Payload]
section
variable (P:Program) (ty:TypeId) (Wg C n n0 T0:Nat) (val:Nat→Value) (W:World) (Shun:Loc→Prop)
def WS (i:Nat) (d:WD) (τ:Tr) (K:Kn) (L:Cells) (g:Goroutine) (w:World):Prop:=
  (d.stage=8∧d.fuel=0∧d.deaf=0∧Zhm P ty Wg C n i (val i) τ g K L∧Sat K L w)∨(d.stage≤7∧WSit P ty Wg C n FF FF 0 (i+1) (val i) d.stage d.fuel d.deaf g w)
def KB (j:Nat) (o:Oth) (B0:Kn) (g b:Nat):Prop:=(g=0∧(B0.mem b).isSome=true)∨∃i,i<j∧g=n0+i∧(o.D i).stage=8∧((o.K i).mem b).isSome=true
structure PInv (j:Nat) (gs:Array Goroutine) (w:World) (t:Trace) (o:Oth) (ow:Nat→Ow) (a:Goroutine) (B0:Kn) (L0:Cells) (d0:Nat):Prop where
  npos:0<n0
  size:gs.size=n0+j
  g0:gs[0]? = some a
  old :∀i g,0<i→i<n0→gs[i]? = some g→QuitsD P (o.q i) (Deaf t i) g
  wk :∀i,i<j→∃g,gs[n0+i]? = some g∧WS P ty Wg C n val i (o.D i) (o.τ i) (o.K i) (o.L i) g w
  sat:Sat B0 L0 w
  o0 :∀p,p∈L0→ow p.1 = .own 0
  oL :∀i,i<j→(o.D i).stage=8→∀p,p∈o.L i→ow p.1 = .own (n0+i)
  lowL :∀p,p∈L0→W.heap.size≤p.1
  lowO :∀i,i<j→(o.D i).stage=8→∀p,p∈o.L i→W.heap.size≤p.1
  lowC:W.heap.size≤C
  lowW:W.heap.size≤Wg
  tl:TL T0 n0 j C Wg w.heap.size ow (KB n0 j o B0) Shun t
  ok:OwOk C Wg w.heap.size ow (KB n0 j o B0)
  deaf0:Deaf t 0=d0
  deafW :∀i,i<j→Deaf t (n0+i)=(o.D i).deaf
  rel :∀i,i<j→(o.D i).stage≤6→∃r,RelBy (stA Wg) t (n0+i) r
  has :∀i,i<j→(o.D i).stage≤6→Has C i (val i) w
  pay:PayAt C n w
  shun :∀l,Shun l→∃b,ZaP l=some b∧b<w.heap.size∧ow b = .free∧B0.mem b=none
  kw:KW W w
end
section
variable {P:Program} {ty:TypeId} {Wg C n n0 T0:Nat} {val:Nat→Value} {W:World} {Shun:Loc→Prop} {j:Nat} {gs:Array Goroutine} {w w':World} {t:Trace} {o:Oth} {ow:Nat→Ow} {a:Goroutine} {B0:Kn} {L0:Cells} {d0:Nat} {i:Nat} {g g':Goroutine}
theorem WS.status {d:WD} {τ:Tr} {K:Kn} {L:Cells} (h:WS P ty Wg C n val i d τ K L g w):g.status = .running∨g.status = .finished:=by
  rcases h with ⟨_,_,_,h,_⟩ | ⟨_,h⟩
  · exact .inl h.running
  · exact h.status
theorem WS.woken {d:WD} {τ:Tr} {K:Kn} {L:Cells} (h:WS P ty Wg C n val i d τ K L g w) (x x':Goroutine) (w':World):woken P x x' w' g=g:=by
  unfold Go.Conc.woken
  split
  · exact again_running _ h.status
  · rfl
theorem WS.mv {d:WD} {τ:Tr} {K:Kn} {L:Cells} {S:Nat→Prop} (h:WS P ty Wg C n val i d τ K L g w) (m:Mv S w w') (hK:d.stage=8→∀b,(K.mem b).isSome=true→¬ S b) (hL:d.stage=8→∀p,p∈L→¬ S p.1) (hr:RW ty Wg C n 0 i w w'):WS P ty Wg C n val i d τ K L g w':=by
  rcases h with ⟨h1,h2,h3,h4,h5⟩ | ⟨h1,h2⟩
  · exact .inl ⟨h1,h2,h3,h4,h5.mv m (hK h1) (hL h1)⟩
  · exact .inr ⟨h1,h2.rely hr⟩
end
end Go.BL
namespace Go.BL
open Go.Conc Go.ConcN
open Go.ConcR (KK wgBlock WgAt stA smA rd wr mk Payload g_of_ofEvents Bk bk_of_mute ofEvent_loc_mark ofEvent_cell ofEvent_mk deafBehind_cons deafBehind_one again_blocked DC0)
set_option linter.unusedVariables false
set_option linter.unusedSectionVars false
theorem Zjd {g:Nat} {fn:FuncId} {pos:String} {es:Array Event} {op:MemOp} (h:op∈MemOp.ofEvents g fn pos es) :∃e∈es,op = { g,fn,pos,act:=.ofEvent e }:=by
  rw [ofEvents_eq] at h
  obtain ⟨e,he,rfl⟩:=Array.mem_map.1 h
  exact ⟨e,he,rfl⟩
section
variable {T0 n0 j C Wg hs:Nat} {ow:Nat→Ow} {KB:Nat→Nat→Prop} {Shun:Loc→Prop} {t u:Trace} {g:Nat}
theorem TL.mute (h:TL T0 n0 j C Wg hs ow KB Shun t) (hg:g<n0+j) (hu :∀op∈u,op.g=g∧op.act.touch? = none∧op.act≠.mark (.release (stA Wg))):TL T0 n0 j C Wg hs ow KB Shun (t ++ u):=by
  have no :∀op∈u,∀b,op.act.touch? = some b→False:=fun op hop b hb=>by rw [(hu op hop).2.1] at hb;cases hb
  have old :∀{i:Nat} {a:Touch},touchAt (t ++ u) i=some a→touchAt t i=some a∧i<t.size:=by
    intro i a ha
    obtain ⟨z,hz,hza⟩:=touch_of ha
    rcases getElem?_append_cases hz with ⟨hi,hz'⟩ | ⟨_,hzu⟩
    · exact ⟨by rw [touchAt_of hz'];exact hza,hi⟩
    · exact (no z hzu a hza).elim
  refine ⟨fun said=>noRace_append (h.nr said) (fun op hop=>(hu op hop).1) fun i a _ op hop b hb _=>(no op hop b hb).elim,fun op hop=>(Array.mem_append.1 hop).elim (h.low op) fun x y b hy _=>(no op x y hy).elim,fun g' b hb l hl=>(h.own g' b hb l hl).app fun op hop b hb _=>(no op hop b hb).elim,
    fun g' b hb l hl=>(h.rd g' b hb l hl).app fun op hop b hb _ _=>(no op hop b hb).elim,fun i=>(h.pay i).app fun op hop b hb _=>(no op hop b hb).elim,h.quiet.app fun op hop b hb _=>(no op hop b hb).elim,fun i a ha hm hnw=>?_,fun i g' hg' hne hnw hc=>?_,fun i k a hk hgi ha hm=>?_,
    fun i hi e=>?_,by rw [Array.size_append];have:=h.t0;omega,fun i op hi hop=>?_,fun op hop=>(Array.mem_append.1 hop).elim (h.gs op) fun x=>by rw [(hu op x).1];exact hg⟩
  · obtain ⟨ha',hi⟩:=old ha
    refine (h.past i a ha' hm fun k hk' e=>hnw k hk' ?_).imp (·.app _) id
    rw [g?_old hi];exact e
  · have hcl:=hc
    obtain ⟨z,hz,_⟩:=hc
    obtain ⟨_,hi⟩:=old hz
    obtain ⟨q,h1,h2⟩:=h.over i g' (by rw [← g?_old (u:=u) hi];exact hg') hne hnw ((counts_old hi).1 hcl)
    have hq:q<t.size:=by
      obtain ⟨z,hz,_⟩:=Option.map_eq_some_iff.1 h1
      exact lt_size_of_getElem? hz
    exact ⟨q,by rw [g?_old hq];exact h1,hb_app _ h2⟩
  · obtain ⟨ha',hi⟩:=old ha
    rw [g?_old hi] at hgi
    exact h.wk i k a hk hgi ha' hm
  · obtain ⟨op,ho,hoa⟩:=Option.map_eq_some_iff.1 e
    rcases getElem?_append_cases ho with ⟨hlt,ho'⟩ | ⟨_,hop⟩
    · exact h.norel i hi (by simp [Trace.act?,ho',hoa])
    · exact (hu op hop).2.2 hoa
  · rcases getElem?_append_cases hop with ⟨_,ho'⟩ | ⟨hge,_⟩
    · exact h.early i op hi ho'
    · have:=h.t0;omega
end
variable [Payload]
section
variable {P:Program} {ty:TypeId} {Wg C n n0 T0:Nat} {val:Nat→Value} {W:World} {Shun:Loc→Prop} {j:Nat} {gs:Array Goroutine} {w w':World} {t:Trace} {o:Oth} {ow:Nat→Ow} {a:Goroutine} {B0:Kn} {L0:Cells} {d0:Nat} {i:Nat} {g g':Goroutine}
theorem Mv.sat_at {B:Kn} {L:Cells} {d:Nat} (s:Sat B L w):Sat B L (w.at d):=⟨s.ro,s.own,s.nodup,s.apart⟩
theorem PInv.at (h:PInv P ty Wg C n n0 T0 val W Shun j gs w t o ow a B0 L0 d0) (d:Nat):PInv P ty Wg C n n0 T0 val W Shun j gs (w.at d) t o ow a B0 L0 d0:=
  ⟨h.npos,h.size,h.g0,h.old,fun k hk=>by
    obtain ⟨x,hx,hs⟩:=h.wk k hk
    refine ⟨x,hx,?_⟩
    rcases hs with ⟨h1,h2,h3,h4,h5⟩ | ⟨h1,h2⟩
    · exact .inl ⟨h1,h2,h3,h4,Mv.sat_at h5⟩
    · exact .inr ⟨h1,h2.rely (RW.at w d)⟩,Mv.sat_at h.sat,h.o0,h.oL,h.lowL,h.lowO,h.lowC,h.lowW,h.tl,h.ok,h.deaf0,h.deafW,h.rel,h.has,h.pay,h.shun,⟨h.kw.same,h.kw.size,h.kw.fz,h.kw.tape,h.kw.os,h.kw.output⟩⟩
theorem PInv.leaver (h:PInv P ty Wg C n n0 T0 val W Shun j gs w t o ow a B0 L0 d0) {x k:Nat} (hx0:0<x) (hxn:x<n0) (hg:gs[x]? = some g) {es:Array Event} (hm :∀e∈es,e.mute=true) (hq:QuitsD P k (deafBehind (Deaf t x) es) g') :
    PInv P ty Wg C n n0 T0 val W Shun j ((gs.map (woken P g g' w)).setIfInBounds x g') w (t ++ MemOp.ofEvents x g.frame.fn g.frame.place es) ⟨o.D,o.τ,o.K,o.L,upd o.q x k⟩ ow (woken P g g' w a) B0 L0 d0:=by
  have hn:=h.npos
  have hmu :∀op∈MemOp.ofEvents x g.frame.fn g.frame.place es,op.g=x∧op.act.touch? = none∧op.act≠.mark (.release (stA Wg)):=fun op hop=>by
    obtain ⟨e,he,rfl⟩:=Zjd hop
    refine ⟨rfl,touch_mute (hm e he),fun eq=>?_⟩
    have hme:=hm e he
    obtain ⟨loc,wrt,sy⟩:=e
    cases loc <;> simp [Event.mute] at hme
    rename_i m
    cases m <;> simp [Event.mute] at hme <;> (simp [MemAct.ofEvent] at eq)
  refine ⟨hn,by simp [h.size],?_,fun y gy h0 hy hgy=>?_,fun k' hk=>?_,h.sat,h.o0,h.oL,h.lowL,h.lowO,h.lowC,h.lowW,h.tl.mute (by omega) hmu,h.ok,?_,fun k' hk=>?_,fun k' hk hs=>?_,h.has,h.pay,h.shun,h.kw⟩
  · rw [get_map_set _ _ _ _ (by omega),h.g0];rfl
  · by_cases e:x=y
    · subst e
      rw [get_map_set_same _ _ _ (by rw [h.size];omega)] at hgy
      cases hgy
      rw [Deaf_own]
      simp only [upd_same]
      exact hq
    · rw [get_map_set _ _ _ _ e] at hgy
      obtain ⟨z,hz,rfl⟩:=Option.map_eq_some_iff.1 hgy
      have hqz:=h.old y z h0 hy hz
      rw [woken_quitsD hqz,Deaf_other t e _ g_of_ofEvents]
      simp only [upd_ne _ _ (Ne.symm e)]
      exact hqz
  · obtain ⟨z,hz,hs⟩:=h.wk k' hk
    exact ⟨z,by rw [get_map_set _ _ _ _ (by omega),hz,Option.map_some,hs.woken],hs⟩
  · rw [Deaf_other t (by omega) _ g_of_ofEvents,h.deaf0]
  · rw [Deaf_other t (by omega) _ g_of_ofEvents,h.deafW k' hk]
  · obtain ⟨r,hr⟩:=h.rel k' hk hs
    exact ⟨r,hr.appOther g_of_ofEvents (by omega)⟩
end
end Go.BL
namespace Go.BL
open Go.Conc Go.ConcN
open Go.ConcR (KK wgBlock WgAt stA smA rd wr mk Payload g_of_ofEvents Bk bk_of_mute ofEvent_loc_mark ofEvent_cell ofEvent_mk deafBehind_cons deafBehind_one again_blocked DC0)
set_option linter.unusedVariables false
set_option linter.unusedSectionVars false
def Zm1 (d:WD):WD:=⟨min d.stage 7,d.fuel,d.deaf⟩
def cap (D:Nat→WD):Nat→WD:=fun i=>Zm1 (D i)
section mu
variable {o:Oth} {n0 j i x f f':Nat} {d:WD} {τ:Tr} {K:Kn} {L:Cells}
end mu
def Stand (tag:CTag) (a0 a:Goroutine):Prop:=a0.status = .running∧((tag≠.blk∧a=a0)∨(tag = .blk∧a0.offers=none∧a = { a0 with status:=.blocked }))
variable [Payload]
section
variable (P:Program) (ty:TypeId) (Wg C n n0 T0:Nat) (val:Nat→Value) (W:World) (Shun:Loc→Prop)
def St (tag:CTag) (j:Nat) (gs:Array Goroutine) (w:World) (t:Trace) (o:Oth) (a:Goroutine) (B0:Kn) (L0:Cells) (d0:Nat):Prop:=
∃ow st sm,PInv P ty Wg C n n0 T0 val W Shun j gs w t o ow a B0 L0 d0∧WgAt ty Wg w st sm∧ConcN.Mode j (cap o.D) tag st sm
end
section
variable {P:Program} {ty:TypeId} {Wg C n n0 T0:Nat} {val:Nat→Value} {W:World} {Shun:Loc→Prop} {j:Nat} {gs:Array Goroutine} {w w':World} {sl:Option (Nat × Nat)} {t:Trace} {o:Oth} {ow ow':Nat→Ow} {a a0:Goroutine} {B0:Kn} {L0:Cells} {d0:Nat} {i:Nat} {g g':Goroutine} {tag:CTag}
end
end Go.BL
namespace Go.BL
open Go.Conc Go.ConcN
open Go.ConcR (KK wgBlock WgAt stA smA rd wr mk Payload g_of_ofEvents Bk bk_of_mute ofEvent_loc_mark ofEvent_cell ofEvent_mk deafBehind_cons deafBehind_one again_blocked DC0)
set_option linter.unusedVariables false
set_option linter.unusedSectionVars false
theorem ZcR {e:Event} {m:Mark} (h:e.loc = .mark m) (hs:soft m=true):(MemAct.ofEvent e).touch? = none∧(∀a,MemAct.ofEvent e≠.mark (.release a))∧(∀B,(MemAct.ofEvent e).low B)∧e.loc≠.mark .disable∧e.loc≠.mark .enable:=by
  obtain ⟨loc,wrt,sy⟩:=e
  simp only at h
  subst h
  cases m <;> simp only [soft,Bool.false_eq_true] at hs <;> simp [MemAct.ofEvent,MemAct.touch?,MemAct.low]
theorem Zdm {e:Event} {blk:Nat} (hs:e.sync=false) (hl:(∃a:Addr,a.block=blk∧e.loc = .cell a)∨e.loc = .obj blk):MemAct.ofEvent e = .access e∧(MemAct.ofEvent e).touch? = some ⟨e.loc,e.write,.plain⟩∧ZaP e.loc=some blk∧e.loc≠.mark .disable∧e.loc≠.mark .enable:=by
  obtain ⟨loc,wrt,sy⟩:=e
  simp only at hs hl
  subst hs
  rcases hl with ⟨a,ha,rfl⟩ | rfl
  · subst ha;simp [MemAct.ofEvent,MemAct.touch?,ZaP]
  · simp [MemAct.ofEvent,MemAct.touch?,ZaP]
variable [Payload]
section
variable {P:Program} {ty:TypeId} {Wg C n n0 T0:Nat} {val:Nat→Value} {W:World} {Shun:Loc→Prop} {j:Nat} {gs:Array Goroutine} {w w':World} {sl:Option (Nat × Nat)} {t:Trace} {o:Oth} {ow ow':Nat→Ow} {a a0:Goroutine} {B0:Kn} {L0:Cells} {d0:Nat} {i:Nat} {g g':Goroutine} {tag:CTag} {st sm:Int}
end
end Go.BL
namespace Go.BL
open Go.Conc Go.ConcN
open Go.ConcR (KK wgBlock WgAt stA smA rd wr mk Payload g_of_ofEvents Bk bk_of_mute ofEvent_loc_mark ofEvent_cell ofEvent_mk deafBehind_cons deafBehind_one again_blocked DC0)
set_option linter.unusedVariables false
set_option linter.unusedSectionVars false
variable [Payload]
section
variable {P:Program} {ty:TypeId} {Wg C n n0 T0:Nat} {val:Nat→Value} {W:World} {Shun:Loc→Prop} {j:Nat} {gs:Array Goroutine} {w w':World} {sl:Option (Nat × Nat)} {t:Trace} {o:Oth} {ow ow':Nat→Ow} {a a0:Goroutine} {B0:Kn} {L0:Cells} {d0:Nat} {i:Nat} {g g':Goroutine} {tag:CTag} {st sm:Int}
end
end Go.BL
namespace Go.BL
open Go.Conc Go.ConcN
open Go.ConcR (KK wgBlock WgAt stA smA rd wr mk Payload g_of_ofEvents)
set_option linter.unusedVariables false
set_option linter.unusedSectionVars false
def Ends (P:Program) (Post:Value→World→Prop) (m:Machine) (t:Trace):Prop:=
∃N last o w' t',runNT P (N+1) m t=(.ended o w',t')∧runN P N m = .next last∧step P last = .ended o w'∧Good P Post last o w' t'
theorem Ends.next {P:Program} {Post:Value→World→Prop} {m m':Machine} {t:Trace} {ops:Array MemOp} (hs:stepT P m=(.next m',ops)) (h:Ends P Post m' (t ++ ops)):Ends P Post m t:=by
  obtain ⟨n,last,o,w,t',h1,h2,h3,h4⟩:=h
  exact ⟨n+1,last,o,w,t',by rw [runNT_succ_next hs];exact h1,by rw [runN_succ_next hs];exact h2,h3,h4⟩
variable [Payload]
section
variable {P:Program} {Post:Value→World→Prop} {ty:TypeId} {Wg C n n0 T0:Nat} {val:Nat→Value} {W:World} {Shun:Loc→Prop} {j:Nat} {gs:Array Goroutine} {w w':World} {sl:Option (Nat × Nat)} {t:Trace} {o:Oth} {ow ow':Nat→Ow} {a a0:Goroutine} {B0:Kn} {L0:Cells} {d0:Nat} {i:Nat} {g g':Goroutine} {tag:CTag} {st sm:Int}
theorem St.at (h:St P ty Wg C n n0 T0 val W Shun tag j gs w t o a B0 L0 d0) (d:Nat):St P ty Wg C n n0 T0 val W Shun tag j gs (w.at d) t o a B0 L0 d0:=by
  obtain ⟨ow,st,sm,h1,h2,h3⟩:=h
  exact ⟨ow,st,sm,h1.at d,h2,h3⟩
theorem St.awake (h:St P ty Wg C n n0 T0 val W Shun tag j gs w t o a B0 L0 d0) (hst:Stand tag a0 a) :∀g∈gs,Go.Conc.awake g:=by
  obtain ⟨ow,st,sm,h,_,_⟩:=h
  intro g hg
  obtain ⟨x,hx,rfl⟩:=Array.mem_iff_getElem.1 hg
  have hgx:gs[x]? = some gs[x]:=Array.getElem?_eq_getElem hx
  rcases Nat.eq_zero_or_pos x with rfl | hpos
  · have:=h.g0
    rw [hgx] at this
    have e:=Option.some.inj this
    rw [e]
    obtain ⟨hr,⟨_,rfl⟩ | ⟨_,_,rfl⟩⟩:=hst
    · exact awake_of (.inl hr)
    · exact awake_of (.inr (.inl rfl))
  · by_cases hxn:x<n0
    · exact awake_of ((h.old x _ hpos hxn hgx).status.elim .inl fun x=>.inr (.inr x))
    · obtain ⟨i,rfl⟩ :∃i,x=n0+i:=⟨x - n0,by omega⟩
      obtain ⟨g1,hg1,hws⟩:=h.wk i (by rw [h.size] at hx;omega)
      rw [hgx] at hg1
      cases hg1
      exact awake_of (hws.status.elim .inl fun x=>.inr (.inr x))
end
end Go.BL
namespace Go.BL
open Go.Conc Go.ConcN
open Go.ConcR (KK wgBlock WgAt stA smA rd wr mk Payload g_of_ofEvents Bk ofEvent_cell)
set_option linter.unusedVariables false
set_option linter.unusedSectionVars false
structure FrameS (P:Program) (W:World) (Shun:Loc→Prop) (gs:Array Goroutine) (w:World) (t:Trace) (q:Nat→Nat) (g:Goroutine) (B:Kn) (L:Cells):Prop where
  g0:gs[0]? = some g
  old :∀i x,0<i→gs[i]? = some x→QuitsD P (q i) (Deaf t i) x
  past:PastB Shun w.heap.size t
  gs :∀op∈t,op.g<gs.size
  sat:Sat B L w
  shun :∀l,Shun l→∃b,ZaP l=some b∧b<w.heap.size∧B.mem b=none∧∀p,p∈L→p.1≠b
  kw:KW W w
  lowL :∀p,p∈L→W.heap.size≤p.1
def ZcA (P:Program) (Post:Value→World→Prop) (W:World) (g:Goroutine) (B:Kn) (L:Cells):Prop:=
∀(gs:Array Goroutine) (w:World) (sl:Option (Nat × Nat)) (t:Trace) (q:Nat→Nat) (Shun:Loc→Prop),FrameS P W Shun gs w t q g B L→Ends P Post (crowd gs w sl) t
inductive PTag where
  | a5 | a4 | a3 | a2 | ldb (M:Nat) | ld0 | cas (vs:Nat) | w3 | w4 | ke | acq
def PTag.deaf:PTag→Nat
  | .a5 | .a2 | .acq=>0
  | _=>1
def Said (Wg:Nat) (e:Event):Prop:=∃a,a.block=Wg∧(e=⟨.mark (.read a),false,true⟩∨e=⟨.mark (.write a),false,true⟩)
def Zl0 (v:Nat):PTag:=if v=0 then .ld0 else .ldb v
variable [Payload]
inductive PhaseR (P:Program) (ty:TypeId) (Wg C n:Nat) (val:Nat→Value) (K:Goroutine→Kn→Cells→Prop):PTag→Nat→Goroutine→Kn→Cells→Prop
  | conv {p:PTag} {j:Nat} {g:Goroutine} {B B':Kn} {L L':Cells} : B.le B'→(∀w,Sat B L w→Sat B' L' w)→(∀b o,B'.mem b=some o→(B.mem b).isSome=true∨∃p,p∈L∧p.1=b)→(∀p,p∈L'→∃q,q∈L∧q.1=p.1)→
      PhaseR P ty Wg C n val K p j g B' L'→PhaseR P ty Wg C n val K p j g B L
  | own {p:PTag} {j:Nat} {g:Goroutine} {B:Kn} {L:Cells} {gf:World→Goroutine} {wf:World→World} {ef:World→Array Event} {Bf:World→Kn} {Lf:World→Cells} : g.status = .running→
      (∀w,Sat B L w→WgLive ty Wg w→stepG P true g w = .go (gf w) (wf w) (ef w)∧(∀e,e∈ef w→Ev w.heap.size (wf w).heap.size B L e∨Said Wg e)∧Ok B L w (Bf w) (Lf w) (wf w))→(∀w,Sat B L w→WgLive ty Wg w→PhaseR P ty Wg C n val K p j (gf w) (Bf w) (Lf w))→PhaseR P ty Wg C n val K p j g B L
  | disA {j:Nat} {g g':Goroutine} {B:Kn} {L:Cells} : g.status = .running→(∀w,Sat B L w→stepG P true g w = .go g' w #[mk .disable])→PhaseR P ty Wg C n val K .a4 j g' B L→PhaseR P ty Wg C n val K .a5 j g B L
  | add {j:Nat} {g:Goroutine} {gf:Nat→Goroutine} {B:Kn} {L:Cells} : g.status = .running→j<n→(∀w (v:Nat),Sat B L w→v<2147483647→WgAt ty Wg w ((v:Int)*KK) 0→stepG P true g w = .go (gf v) (w.setCell (stA Wg) (.int .u64 (((v:Int)+1)*KK))) #[rd (stA Wg),wr (stA Wg)])→
      (∀v,v<2147483647→PhaseR P ty Wg C n val K .a3 j (gf v) B L)→PhaseR P ty Wg C n val K .a4 j g B L
  | enaA {j:Nat} {g g':Goroutine} {B:Kn} {L:Cells} : g.status = .running→(∀w,Sat B L w→stepG P true g w = .go g' w #[mk .enable])→PhaseR P ty Wg C n val K .a2 j g' B L→PhaseR P ty Wg C n val K .a3 j g B L
  | go {j:Nat} {g g' child:Goroutine} {B:Kn} {L:Cells} : g.status = .running→(∀w,Sat B L w→stepG P true g w = .spawn g' child w #[])→Zgn P ty Wg C n j (val j) child B []→PhaseR P ty Wg C n val K .a5 (j+1) g' B L→PhaseR P ty Wg C n val K .a2 j g B L
  | disW {g g':Goroutine} {B:Kn} {L:Cells} : g.status = .running→(∀w,Sat B L w→stepG P true g w = .go g' w #[mk .disable])→PhaseR P ty Wg C n val K (Zl0 n) n g' B L→PhaseR P ty Wg C n val K .a5 n g B L
  | ldb {M:Nat} {g:Goroutine} {gf:Nat→Goroutine} {B:Kn} {L:Cells} : g.status = .running→(∀w (v:Nat),Sat B L w→v<2147483648→WgAt ty Wg w ((v:Int)*KK) 0→stepG P true g w = .go (gf v) w #[rd (stA Wg)])→
      PhaseR P ty Wg C n val K .ke n (gf 0) B L→(∀v,v≠0→v≤M→v<2147483648→PhaseR P ty Wg C n val K (.cas v) n (gf v) B L)→PhaseR P ty Wg C n val K (.ldb M) n g B L
  | ld0 {g g':Goroutine} {B:Kn} {L:Cells} : g.status = .running→(∀w,Sat B L w→WgAt ty Wg w 0 0→stepG P true g w = .go g' w #[rd (stA Wg)])→PhaseR P ty Wg C n val K .ke n g' B L→PhaseR P ty Wg C n val K .ld0 n g B L
  | cas {vs:Nat} {g g1 g2:Goroutine} {B:Kn} {L:Cells} : g.status = .running→(∀w,Sat B L w→WgAt ty Wg w ((vs:Int)*KK) 0→stepG P true g w = .go g1 (w.setCell (stA Wg) (.int .u64 ((vs:Int)*KK+1))) #[rd (stA Wg),wr (stA Wg)])→PhaseR P ty Wg C n val K .w3 n g1 B L→
      (∀w (v:Nat),Sat B L w→v<2147483648→v≠vs→WgAt ty Wg w ((v:Int)*KK) 0→stepG P true g w = .go g2 w #[rd (stA Wg)])→PhaseR P ty Wg C n val K (Zl0 (vs - 1)) n g2 B L→PhaseR P ty Wg C n val K (.cas vs) n g B L
  | sem {g g':Goroutine} {B:Kn} {L:Cells} : g.status = .running→g.offers=none→(∀w st,Sat B L w→WgAt ty Wg w st 0→stepG P true g w = .go { g with status:=.blocked } w #[])→
      (∀w,Sat B L w→WgAt ty Wg w 0 1→stepG P true g w = .go g' (w.setCell (smA Wg) (.int .u32 0)) (semEvents (smA Wg)))→PhaseR P ty Wg C n val K .w4 n g' B L→PhaseR P ty Wg C n val K .w3 n g B L
  | ld2 {g g':Goroutine} {B:Kn} {L:Cells} : g.status = .running→(∀w,Sat B L w→WgAt ty Wg w 0 0→stepG P true g w = .go g' w #[rd (stA Wg)])→PhaseR P ty Wg C n val K .ke n g' B L→PhaseR P ty Wg C n val K .w4 n g B L
  | enaW {g g':Goroutine} {B:Kn} {L:Cells} : g.status = .running→(∀w,Sat B L w→stepG P true g w = .go g' w #[mk .enable])→PhaseR P ty Wg C n val K .acq n g' B L→PhaseR P ty Wg C n val K .ke n g B L
  | acq {g g':Goroutine} {B:Kn} {L:Cells} : g.status = .running→(∀w,Sat B L w→stepG P true g w = .go g' w #[mk (.acquire (stA Wg))])→K g' B ((C,.cells ((List.range n).map val).toArray Payload.ety (0,0)) :: L)→PhaseR P ty Wg C n val K .acq n g B L
theorem PhaseR.step {P:Program} {ty:TypeId} {Wg C n:Nat} {val:Nat→Value} {K:Goroutine→Kn→Cells→Prop} {p:PTag} {j:Nat} {g:Goroutine} {B:Kn} {L:Cells} (hr:g.status = .running)
    (h :∀w,Sat B L w→WgLive ty Wg w→∃g' w' es B' L',stepG P true g w = .go g' w' es∧(∀e,e∈es→Ev w.heap.size w'.heap.size B L e∨Said Wg e)∧Ok B L w B' L' w'∧PhaseR P ty Wg C n val K p j g' B' L'):PhaseR P ty Wg C n val K p j g B L:=by
  classical
  have h' :∀w,∃x:Goroutine × World × Array Event × Kn × Cells,Sat B L w→WgLive ty Wg w→stepG P true g w = .go x.1 x.2.1 x.2.2.1∧(∀e,e∈x.2.2.1→Ev w.heap.size x.2.1.heap.size B L e∨Said Wg e)∧Ok B L w x.2.2.2.1 x.2.2.2.2 x.2.1∧PhaseR P ty Wg C n val K p j x.1 x.2.2.2.1 x.2.2.2.2:=fun w=>by
    by_cases s:Sat B L w∧WgLive ty Wg w
    · obtain ⟨g',w',es,B',L',h1,h2,h3,h4⟩:=h w s.1 s.2
      exact ⟨(g',w',es,B',L'),fun _ _=>⟨h1,h2,h3,h4⟩⟩
    · exact ⟨(g,w,#[],B,L),fun s1 s2=>absurd ⟨s1,s2⟩ s⟩
  let f:=fun w=>Classical.choose (h' w)
  have hf:=fun w=>Classical.choose_spec (h' w)
  exact .own (gf:=fun w=>(f w).1) (wf:=fun w=>(f w).2.1) (ef:=fun w=>(f w).2.2.1) (Bf:=fun w=>(f w).2.2.2.1) (Lf:=fun w=>(f w).2.2.2.2) hr (fun w s l=>⟨(hf w s l).1,(hf w s l).2.1,(hf w s l).2.2.1⟩) (fun w s l=>(hf w s l).2.2.2)
section
variable {P:Program} {Post:Value→World→Prop} {ty:TypeId} {Wg C n n0 T0:Nat} {val:Nat→Value} {W:World} {Shun:Loc→Prop} {j:Nat} {gs:Array Goroutine} {w w':World} {sl:Option (Nat × Nat)} {t:Trace} {o:Oth} {ow ow':Nat→Ow} {a a0:Goroutine} {B0:Kn} {L0:Cells} {d0:Nat} {i:Nat} {g g':Goroutine} {tag:CTag} {st sm:Int}
end
end Go.BL
namespace Go.BL
open Go.Conc Go.ConcN
open Go.ConcR (KK wgBlock WgAt stA smA rd wr mk Payload g_of_ofEvents Bk ofEvent_cell ofEvent_mk)
set_option linter.unusedVariables false
set_option linter.unusedSectionVars false
variable [Payload]
section
variable {P:Program} {Post:Value→World→Prop} {ty:TypeId} {Wg C n n0 T0:Nat} {val:Nat→Value} {W:World} {Shun:Loc→Prop} {j:Nat} {gs:Array Goroutine} {w w':World} {sl:Option (Nat × Nat)} {t:Trace} {o:Oth} {ow ow':Nat→Ow} {a a0:Goroutine} {B0:Kn} {L0:Cells} {d0 d1:Nat} {i:Nat} {g g':Goroutine} {tag tag':CTag} {st sm st' sm':Int}
theorem PhaseR.running {K:Goroutine→Kn→Cells→Prop} {p:PTag} {j:Nat} {g:Goroutine} {B:Kn} {L:Cells} (h:PhaseR P ty Wg C n val K p j g B L):g.status = .running:=by
  induction h <;> assumption
end
end Go.BL
namespace Go.BL
open Go.Conc Go.ConcN Go.RowKit Go.Conc.Lib Go.ConcR.Gen Go.ConcN.Gen
open Go.ConcR (KK wgBlock WgAt stA smA rd wr mk Payload g_of_ofEvents)
set_option linter.unusedVariables false
set_option linter.unusedSectionVars false
variable [Payload]
section
variable {P:Program} {ty:TypeId} {Wg C n:Nat} {val:Nat→Value} {K:Goroutine→Kn→Cells→Prop} {p:PTag} {j:Nat} {B:Kn} {L:Cells}
end
section
variable {P:PJ} {X:Lg P} {B:Kn} {L:Cells} {b:Frame} {a:Act} {k:List Item} {cs:List Frame}
end
end Go.BL
namespace Go.BL
open Go.Conc Go.ConcN Go.RowKit Go.Conc.Lib Go.ConcR.Gen Go.ConcN.Gen
open Go.ConcR (KK wgBlock WgAt stA smA rd wr mk Payload)
set_option linter.unusedVariables false
set_option linter.unusedSectionVars false
variable [Payload] {L:WgLink} {P:Program} {Wg C n:Nat} {val:Nat→Value} {K:Goroutine→Kn→Cells→Prop} {j:Nat} {B:Kn} {Lc:Cells} {b₀:Frame} {a₀:Act} {ops₀:Array Oper} {i₀:Nat} {rest₀:List Nat} {k₀:List Item} {cs:List Frame}
end Go.BL
namespace Go.BL
open Go.Conc Go.ConcN Go.RowKit Go.Conc.Lib Go.ConcR.Gen Go.ConcN.Gen
open Go.ConcR (KK wgBlock WgAt stA smA rd wr mk Payload)
set_option linter.unusedVariables false
set_option linter.unusedSectionVars false
variable [Payload] {L:WgLink} {P:Program} {Wg C n:Nat} {val:Nat→Value} {K:Goroutine→Kn→Cells→Prop} {j:Nat} {B:Kn} {Lc:Cells} {b₀:Frame} {a₀:Act} {ops₀:Array Oper} {i₀:Nat} {rest₀:List Nat} {k₀:List Item} {cs:List Frame}
variable {Jn:JoinT} {X:Lg ⟨P,Jn⟩}
end Go.BL
namespace Go.BL
open Go.Conc Go.ConcN
open Go.ConcR (KK wgBlock WgAt stA smA rd wr mk Payload g_of_ofEvents)
set_option linter.unusedVariables false
set_option linter.unusedSectionVars false
theorem Zkf {B:Kn} {L:Cells} {w:World} {d:Nat} (s:Sat B L w):Sat B L (w.at d):=⟨s.ro,s.own,s.nodup,s.apart⟩
theorem Zh7 {B:Kn} {L:Cells} {w:World} (s:Sat B L w) {b:Nat} (h:(B.mem b).isSome=true):b<w.heap.size:=by
  obtain ⟨o,ho⟩:=Option.isSome_iff_exists.1 h
  exact s.ltB ho
section
variable {Shun:Loc→Prop} {hs hs':Nat} {t u:Trace}
theorem PastB.app (h:PastB Shun hs t) (hu :∀op∈u,op.g=0∧(op.act≠.mark .disable∧op.act≠.mark .enable)∧∀x,op.act.touch? = some x→∃b,ZaP x.loc=some b∧((∀l,ZaP l=some b→¬ Shun l)∨hs≤b)) (hl :∀op∈u,Zju hs' op) (hle:hs≤hs'):PastB Shun hs' (t ++ u):=by
  have hug :∀op∈u,op.g=0:=fun op hop=>(hu op hop).1
  refine ⟨fun said=>noRace_append (h.clean said) hug fun i a ha op hop b hb hc=>?_,fun i a ha hm=>?_,fun i g hg hne hc=>?_,by rw [Deaf_still t 0 u (fun op hop=>(hu op hop).2.1)];exact h.hears,fun op hop=>(Array.mem_append.1 hop).elim (fun x=>(h.seen op x).mono hle) (hl op)⟩
  · obtain ⟨bb,hbb,hx⟩:=(hu op hop).2.2 b hb
    have hab:ZaP a.loc=some bb:=by rw [hc.1];exact hbb
    have hm:a.loc.isMemory=true:=by cases hl:a.loc <;> rw [hl] at hab <;> first | rfl | cases hab
    rcases hx with hx | hx
    · rcases h.known i a ha hm with hk | ⟨hk,_⟩
      · exact hk
      · exact absurd hk (hx _ hab)
    · obtain ⟨x,hx',hxa⟩:=touch_of ha
      have:=h.seen x (Array.mem_of_getElem? hx') a bb hxa hab
      omega
  · obtain ⟨x,hx,hxa⟩:=touch_of ha
    rcases getElem?_append_cases hx with ⟨hi,hx'⟩ | ⟨_,hxu⟩
    · exact (h.known i a (touchAt_of hx' ▸ hxa) hm).imp (·.app u) id
    · have:=knows_own hx
      rw [hug x hxu] at this
      exact .inl this
  · obtain ⟨x,hx,hxg⟩:=Option.map_eq_some_iff.1 hg
    rcases getElem?_append_cases hx with ⟨hi,hx'⟩ | ⟨_,hxu⟩
    · obtain ⟨q,h1,h2⟩:=h.over i g (by rw [← g?_old (u:=u) hi];exact hg) hne ((counts_old hi).1 hc)
      have hq:q<t.size:=by
        obtain ⟨z,hz,_⟩:=Option.map_eq_some_iff.1 h1
        exact lt_size_of_getElem? hz
      exact ⟨q,by rw [g?_old hq];exact h1,hb_app u h2⟩
    · rw [hug x hxu] at hxg
      exact absurd hxg.symm hne
theorem PastB.mute {x:Nat} (h:PastB Shun hs t) (hx0:x≠0) (hu :∀op∈u,op.g=x∧op.act.touch? = none):PastB Shun hs (t ++ u):=by
  have no :∀op∈u,∀b,op.act.touch? = some b→False:=fun op hop b hb=>by rw [(hu op hop).2] at hb;cases hb
  have old :∀{i:Nat} {a:Touch},touchAt (t ++ u) i=some a→touchAt t i=some a∧i<t.size:=by
    intro i a ha
    obtain ⟨z,hz,hza⟩:=touch_of ha
    rcases getElem?_append_cases hz with ⟨hi,hz'⟩ | ⟨_,hzu⟩
    · exact ⟨by rw [touchAt_of hz'];exact hza,hi⟩
    · exact (no z hzu a hza).elim
  refine ⟨fun said=>noRace_append (h.clean said) (fun op hop=>(hu op hop).1) fun i a _ op hop b hb _=>(no op hop b hb).elim,fun i a ha hm=>(h.known i a (old ha).1 hm).imp (·.app u) id,fun i g hg hne hc=>?_,by rw [Deaf_other t hx0 u (fun op hop=>(hu op hop).1)];exact h.hears,
    fun op hop=>(Array.mem_append.1 hop).elim (h.seen op) fun hy z b hz _=>(no op hy z hz).elim⟩
  have hcl:=hc
  obtain ⟨z,hz,_⟩:=hc
  obtain ⟨_,hi⟩:=old hz
  obtain ⟨q,h1,h2⟩:=h.over i g (by rw [← g?_old (u:=u) hi];exact hg) hne ((counts_old hi).1 hcl)
  have hq:q<t.size:=by
    obtain ⟨z,hz,_⟩:=Option.map_eq_some_iff.1 h1
    exact lt_size_of_getElem? hz
  exact ⟨q,by rw [g?_old hq];exact h1,hb_app _ h2⟩
end
section
variable {P:Program} {Post:Value→World→Prop} {W:World} {Shun:Loc→Prop} {gs:Array Goroutine} {w w':World} {sl:Option (Nat × Nat)} {t:Trace} {q:Nat→Nat} {g g':Goroutine} {B B':Kn} {L L':Cells}
theorem Ends.ended {m:Machine} {o:Outcome} {ops:Array MemOp} (hs:stepT P m=(.ended o w',ops)) (hq:Good P Post m o w' (t ++ ops)):Ends P Post m t:=
  ⟨0,m,o,w',t ++ ops,by simp [runNT,hs],rfl,by simp [step,hs],hq⟩
theorem FrameS.at (h:FrameS P W Shun gs w t q g B L) (d:Nat):FrameS P W Shun gs (w.at d) t q g B L:=
  ⟨h.g0,h.old,h.past,h.gs,Zkf h.sat,h.shun,⟨h.kw.same,h.kw.size,h.kw.fz,h.kw.tape,h.kw.os,h.kw.output⟩,h.lowL⟩
theorem FrameS.awake (h:FrameS P W Shun gs w t q g B L) (hr:g.status = .running) :∀g∈gs,Go.Conc.awake g:=by
  intro x hx
  obtain ⟨i,hi,rfl⟩:=Array.mem_iff_getElem.1 hx
  have hgx:gs[i]? = some gs[i]:=Array.getElem?_eq_getElem hi
  rcases Nat.eq_zero_or_pos i with rfl | hpos
  · have:=h.g0
    rw [hgx] at this
    rw [Option.some.inj this]
    exact awake_of (.inl hr)
  · exact awake_of ((h.old i _ hpos hgx).status.elim .inl fun x=>.inr (.inr x))
theorem FrameS.leaver (h:FrameS P W Shun gs w t q g B L) (hr:g.status = .running) {x k:Nat} (hx0:0<x) {a a':Goroutine} (ha:gs[x]? = some a) {es:Array Event} (hm :∀e∈es,e.mute=true) (hq:QuitsD P k (deafBehind (Deaf t x) es) a') :
    FrameS P W Shun ((gs.map (woken P a a' w)).setIfInBounds x a') w (t ++ MemOp.ofEvents x a.frame.fn a.frame.place es) (upd q x k) g B L:=by
  have hlt:x<gs.size:=(Array.getElem?_eq_some_iff.1 ha).1
  have hmu :∀op∈MemOp.ofEvents x a.frame.fn a.frame.place es,op.g=x∧op.act.touch? = none:=fun op hop=>by
    obtain ⟨e,he,rfl⟩:=Zjd hop
    exact ⟨rfl,touch_mute (hm e he)⟩
  refine ⟨?_,fun y gy h0 hgy=>?_,h.past.mute (by omega) hmu,fun op hop=>?_,h.sat,h.shun,h.kw,h.lowL⟩
  · rw [get_map_set _ _ _ _ (by omega),h.g0,Option.map_some,woken_run hr]
  · by_cases e:x=y
    · subst e
      rw [get_map_set_same _ _ _ hlt] at hgy
      cases hgy
      rw [Deaf_own]
      simp only [upd_same]
      exact hq
    · rw [get_map_set _ _ _ _ e] at hgy
      obtain ⟨z,hz,rfl⟩:=Option.map_eq_some_iff.1 hgy
      have hqz:=h.old y z h0 hz
      rw [woken_quitsD hqz,Deaf_other t e _ g_of_ofEvents]
      simp only [upd_ne _ _ (Ne.symm e)]
      exact hqz
  · rw [Array.size_setIfInBounds,Array.size_map]
    rcases Array.mem_append.1 hop with hop | hop
    · exact h.gs op hop
    · rw [(hmu op hop).1];exact hlt
theorem Zek (hr:g.status = .running) (H :∀gs w sl t q Shun,FrameS P W Shun gs w t q g B L→(∃m' ops,runT P (crowd gs w sl) 0=(.next m',ops)∧Ends P Post m' (t ++ ops))∨(∃o w' ops,runT P (crowd gs w sl) 0=(.ended o w',ops)∧∀w₀ sl₀,Good P Post (crowd gs w₀ sl₀) o w' (t ++ ops))) :
    ZcA P Post W g B L:=by
  have key :∀(μ:Nat) gs w sl t q Shun,sumTo gs.size q=μ→FrameS P W Shun gs w t q g B L→Ends P Post (crowd gs w sl) t:=by
    intro μ
    induction μ using Nat.strongRecOn with
    | _ μ ih=>
      intro gs w sl t q Shun hμ h
      obtain ⟨x,gx,d,sl',hgx,hrx,hstep⟩:=crowd_pick (P:=P) (w:=w) (sl:=sl) (h.awake hr) ⟨0,g,h.g0,hr⟩
      rcases Nat.eq_zero_or_pos x with rfl | hpos
      · rcases H gs (w.at d) sl' t q Shun (h.at d) with ⟨m',ops,h1,h2⟩ | ⟨o,w',ops,h1,h2⟩
        · exact Ends.next (hstep.trans h1) h2
        · exact Ends.ended (hstep.trans h1) (h2 _ _)
      · have hq:=h.old x gx hpos hgx
        have hlt:x<gs.size:=(Array.getElem?_eq_some_iff.1 hgx).1
        cases hk:q x with
        | zero=>rw [hk] at hq;rw [hq.1] at hrx;cases hrx
        | succ k=>
          rw [hk] at hq
          rcases hq with ⟨hf,_⟩ | ⟨_,g',es,hm,hstp,hq'⟩
          · rw [hf] at hrx;cases hrx
          · have hrunT:=runT_crowd_go (P:=P) (sl:=sl') (i:=x) hgx (by rw [show (x == 0)=false by simp;omega];exact hstp (w.at d))
            have h':=(h.at d).leaver hr hpos hgx hm hq'
            refine Ends.next (hstep.trans hrunT) (ih (sumTo gs.size (upd q x k)) ?_ _ _ _ _ _ _ (by rw [Array.size_setIfInBounds,Array.size_map]) h')
            have h2:=sumTo_upd q k id hlt
            simp only [id_eq] at h2
            have h3:(sumTo gs.size fun a=>upd q x k a)=sumTo gs.size (upd q x k):=rfl
            have h4:(sumTo gs.size fun a=>q a)=sumTo gs.size q:=rfl
            omega
  exact fun gs w sl t q Shun h=>key _ gs w sl t q Shun rfl h
theorem ZcA.conv (hle:B.le B') (hs :∀w,Sat B L w→Sat B' L' w) (hb :∀b o,B'.mem b=some o→(B.mem b).isSome=true∨∃p,p∈L∧p.1=b) (hl :∀p,p∈L'→∃q,q∈L∧q.1=p.1) (h:ZcA P Post W g B' L'):ZcA P Post W g B L:=
  fun gs w sl t q Shun s=>h gs w sl t q Shun ⟨s.g0,s.old,s.past,s.gs,hs w s.sat,fun l hl'=>by
    obtain ⟨b,h1,h2,h3,h4⟩:=s.shun l hl'
    refine ⟨b,h1,h2,?_,fun p hp e=>?_⟩
    · cases hm:B'.mem b with
      | none=>rfl
      | some x=>
        rcases hb b x hm with hx | ⟨p,hp,e⟩
        · rw [h3] at hx;cases hx
        · exact absurd e (h4 p hp)
    · obtain ⟨r,hr,e'⟩:=hl p hp
      exact h4 r hr (e'.trans e),s.kw,fun p hp=>by
    obtain ⟨r,hr,e⟩:=hl p hp
    rw [← e];exact s.lowL r hr⟩
theorem ZcA.step (hr:g.status = .running) (h :∀w,Sat B L w→∃g' w' es B' L',stepG P true g w = .go g' w' es∧(∀e,e∈es→Ev w.heap.size w'.heap.size B L e)∧Ok B L w B' L' w'∧ZcA P Post W g' B' L'):ZcA P Post W g B L:=by
  refine Zek hr fun gs w sl t q Shun s=>.inl ?_
  obtain ⟨g',w',es,B',L',h1,h2,h3,h4⟩:=h w s.sat
  have hrun:=runT_crowd_go (P:=P) (sl:=sl) (i:=0) s.g0 (by simpa using h1)
  have hlt:0<gs.size:=(Array.getElem?_eq_some_iff.1 s.g0).1
  have notShun :∀{b},((B.mem b).isSome=true∨∃p,p∈L∧p.1=b)→∀l,ZaP l=some b→¬ Shun l:=fun {b} hb l hl hsh=>by
    obtain ⟨b',e1,_,e3,e4⟩:=s.shun l hsh
    rw [hl] at e1
    cases e1
    rcases hb with hb | ⟨p,hp,e⟩
    · rw [e3] at hb;cases hb
    · exact e4 p hp e
  have hops :∀op∈MemOp.ofEvents 0 g.frame.fn g.frame.place es,(op.g=0∧(op.act≠.mark .disable∧op.act≠.mark .enable)∧∀x,op.act.touch? = some x→∃b,ZaP x.loc=some b∧((∀l,ZaP l=some b→¬ Shun l)∨w.heap.size≤b))∧Zju w'.heap.size op:=fun op hop=>by
    obtain ⟨e,he,rfl⟩:=Zjd hop
    rcases h2 e he with ⟨m,hm,hsf⟩ | ⟨hsy,blk,hl,hx⟩
    · obtain ⟨a1,a2,a3,a4,a5⟩:=ZcR hm hsf
      refine ⟨⟨rfl,⟨fun e=>?_,fun e=>?_⟩,fun x hx=>?_⟩,fun x b hx=>?_⟩
      · exact a4 (ConcR.loc_of_ofEvent e)
      · exact a5 (ConcR.loc_of_ofEvent e)
      · rw [a1] at hx;cases hx
      · rw [a1] at hx;cases hx
    · obtain ⟨a1,a2,a3,a4,a5⟩:=Zdm hsy hl
      have hblk:blk<w'.heap.size:=by
        rcases hx with ⟨o,ho⟩ | ⟨_,hb⟩ | ⟨_,hlt⟩
        · exact Nat.lt_of_lt_of_le (s.sat.ltL ho) h3.size
        · exact Nat.lt_of_lt_of_le (Zh7 s.sat hb) h3.size
        · exact hlt
      refine ⟨⟨rfl,⟨fun e=>?_,fun e=>?_⟩,fun x hx'=>?_⟩,fun x b hx' hb=>?_⟩
      · exact a4 (ConcR.loc_of_ofEvent e)
      · exact a5 (ConcR.loc_of_ofEvent e)
      · simp only at hx'
        rw [a2] at hx'
        simp only [Option.some.injEq] at hx'
        subst hx'
        refine ⟨blk,a3,?_⟩
        rcases hx with ⟨o,ho⟩ | ⟨_,hb⟩ | ⟨hge,_⟩
        · exact .inl (notShun (.inr ⟨_,ho,rfl⟩))
        · exact .inl (notShun (.inl hb))
        · exact .inr hge
      · simp only at hx'
        rw [a2] at hx'
        simp only [Option.some.injEq] at hx'
        subst hx'
        rw [a3] at hb
        cases hb
        exact hblk
  have m:Mv (fun b=>∃p,p∈L∧p.1=b) w w':=Mv.of_ok h3 fun p hp=>⟨p,hp,rfl⟩
  refine ⟨_,_,hrun,h4 _ _ _ _ q Shun ⟨get_map_set_same _ _ _ hlt,fun x gx h0 hgx=>?_,s.past.app (fun op hop=>(hops op hop).1) (fun op hop=>(hops op hop).2) h3.size,fun op hop=>?_,h3.sat,fun l hl=>?_,s.kw.mv m (fun b ⟨p,hp,e⟩=>e ▸ s.lowL p hp),fun p hp=>?_⟩⟩
  · rw [get_map_set _ _ _ _ (by omega)] at hgx
    obtain ⟨z,hz,rfl⟩:=Option.map_eq_some_iff.1 hgx
    have hqz:=s.old x z h0 hz
    rw [woken_quitsD hqz,Deaf_other t (by omega) _ g_of_ofEvents]
    exact hqz
  · rw [Array.size_setIfInBounds,Array.size_map]
    rcases Array.mem_append.1 hop with hop | hop
    · exact s.gs op hop
    · rw [(hops op hop).1.1];exact hlt
  · obtain ⟨b,e1,e2,e3,e4⟩:=s.shun l hl
    refine ⟨b,e1,Nat.lt_of_lt_of_le e2 h3.size,?_,fun p hp e=>?_⟩
    · cases hm:B'.mem b with
      | none=>rfl
      | some x=>
        rcases h3.newB b x hm with hx | ⟨p,hp,e⟩ | hx
        · rw [e3] at hx;cases hx
        · exact absurd e (e4 p hp)
        · omega
    · rcases h3.newL p hp with ⟨r,hr',e'⟩ | hx
      · exact e4 r hr' (e'.trans e)
      · omega
  · rcases h3.newL p hp with ⟨r,hr',e'⟩ | hx
    · rw [← e'];exact s.lowL r hr'
    · exact Nat.le_trans s.kw.size hx
theorem ZcA.ended (hr:g.status = .running) (h :∀w,Sat B L w→KW W w→∃v es,stepG P true g w = .ended (.done v) w es∧(∀e,e∈es→Ev w.heap.size w.heap.size B L e)∧Post v w):ZcA P Post W g B L:=by
  refine Zek hr fun gs w sl t q Shun s=>.inr ?_
  obtain ⟨v,es,h1,h2,h3⟩:=h w s.sat s.kw
  have hrun:=runT_crowd_ended (P:=P) (sl:=sl) (i:=0) s.g0 (by simpa using h1)
  have notShun :∀{b},((B.mem b).isSome=true∨∃p,p∈L∧p.1=b)→∀l,ZaP l=some b→¬ Shun l:=fun {b} hb l hl hsh=>by
    obtain ⟨b',e1,_,e3,e4⟩:=s.shun l hsh
    rw [hl] at e1
    cases e1
    rcases hb with hb | ⟨p,hp,e⟩
    · rw [e3] at hb;cases hb
    · exact e4 p hp e
  have hops :∀op∈MemOp.ofEvents 0 g.frame.fn g.frame.place es,(op.g=0∧(op.act≠.mark .disable∧op.act≠.mark .enable)∧∀x,op.act.touch? = some x→∃b,ZaP x.loc=some b∧((∀l,ZaP l=some b→¬ Shun l)∨w.heap.size≤b))∧Zju w.heap.size op:=fun op hop=>by
    obtain ⟨e,he,rfl⟩:=Zjd hop
    rcases h2 e he with ⟨m,hm,hsf⟩ | ⟨hsy,blk,hl,hx⟩
    · obtain ⟨a1,a2,a3,a4,a5⟩:=ZcR hm hsf
      refine ⟨⟨rfl,⟨fun e=>?_,fun e=>?_⟩,fun x hx=>?_⟩,fun x b hx=>?_⟩
      · exact a4 (ConcR.loc_of_ofEvent e)
      · exact a5 (ConcR.loc_of_ofEvent e)
      · rw [a1] at hx;cases hx
      · rw [a1] at hx;cases hx
    · obtain ⟨a1,a2,a3,a4,a5⟩:=Zdm hsy hl
      have hblk:blk<w.heap.size:=by
        rcases hx with ⟨o,ho⟩ | ⟨_,hb⟩ | ⟨_,hlt⟩
        · exact s.sat.ltL ho
        · exact Zh7 s.sat hb
        · exact hlt
      refine ⟨⟨rfl,⟨fun e=>?_,fun e=>?_⟩,fun x hx'=>?_⟩,fun x b hx' hb=>?_⟩
      · exact a4 (ConcR.loc_of_ofEvent e)
      · exact a5 (ConcR.loc_of_ofEvent e)
      · simp only at hx'
        rw [a2] at hx'
        simp only [Option.some.injEq] at hx'
        subst hx'
        refine ⟨blk,a3,?_⟩
        rcases hx with ⟨o,ho⟩ | ⟨_,hb⟩ | ⟨hge,_⟩
        · exact .inl (notShun (.inr ⟨_,ho,rfl⟩))
        · exact .inl (notShun (.inl hb))
        · exact .inr hge
      · simp only at hx'
        rw [a2] at hx'
        simp only [Option.some.injEq] at hx'
        subst hx'
        rw [a3] at hb
        cases hb
        exact hblk
  have hpast:=s.past.app (fun op hop=>(hops op hop).1) (fun op hop=>(hops op hop).2) (Nat.le_refl _)
  refine ⟨_,_,_,hrun,fun w₀ sl₀=>⟨v,rfl,h3,hpast.clean,hpast.over,⟨fun x hx=>?_,rfl⟩,fun i x hx hi0=>?_⟩⟩
  · obtain ⟨i,hi⟩:=List.mem_iff_getElem?.1 hx
    rw [List.getElem?_drop] at hi
    exact ⟨_,(s.old (1+i) x (by omega) (by simpa [crowd] using hi)).leaves⟩
  · have hq:=s.old i x (by omega) hx
    refine ⟨q i,?_⟩
    have:(t ++ MemOp.ofEvents 0 g.frame.fn g.frame.place es).deaf i (t ++ MemOp.ofEvents 0 g.frame.fn g.frame.place es).size=Deaf t i:=Deaf_other t (g:=i) (g':=0) (by omega) _ g_of_ofEvents
    rw [this]
    exact hq.hears _
end
def ZlT (P:Program) (main:Bool) (R:Goroutine→Kn→Cells→Prop) (g:Goroutine) (B:Kn) (L:Cells):Prop:=
  main=true→g.status = .running∧∃(pay:Payload) (ty:TypeId) (C n:Nat) (val:Nat→Value) (cs:Array Value) (L₁:Cells) (gf:Nat→Goroutine),
    n<2147483648∧cs.size=n∧L.Perm ((C,.cells cs pay.ety (0,0)) :: L₁)∧(∀w,Sat B L w→stepG P true g w = .go (gf w.heap.size) { w with heap:=w.heap.push (wgBlock ty 0 0) } #[])∧
∀Wg,B.mem Wg=none→(∀p,p∈L→p.1≠Wg)→PhaseR P ty Wg C n val R .a5 0 (gf Wg) B L₁
theorem PhaseR.keep [Payload] {P:Program} {ty:TypeId} {Wg C n:Nat} {val:Nat→Value} {K:Goroutine→Kn→Cells→Prop} {p:PTag} {j:Nat} {g:Goroutine} {B:Kn} {L m:Cells} (h:PhaseR P ty Wg C n val K p j g B L) :
    (∀p,p∈m→B.mem p.1=some p.2)→PhaseR P ty Wg C n val (fun g B' L'=>(∀p,p∈m→B'.mem p.1=some p.2)∧K g B' L') p j g B L:=by
  induction h with
  | conv hle hs hb hl _ ih=>exact fun hm=>.conv hle hs hb hl (ih fun p hp=>hle _ _ (hm p hp))
  | own hr hst _ ih=>exact fun hm=>.own hr hst fun w s l=>ih w s l fun p hp=>(hst w s l).2.2.le _ _ (hm p hp)
  | disA hr hst _ ih=>exact fun hm=>.disA hr hst (ih hm)
  | add hr hj hst _ ih=>exact fun hm=>.add hr hj hst fun v hv=>ih v hv hm
  | enaA hr hst _ ih=>exact fun hm=>.enaA hr hst (ih hm)
  | go hr hst hw _ ih=>exact fun hm=>.go hr hst hw (ih hm)
  | disW hr hst _ ih=>exact fun hm=>.disW hr hst (ih hm)
  | ldb hr hst _ _ ih0 ihv=>exact fun hm=>.ldb hr hst (ih0 hm) fun v h1 h2 h3=>ihv v h1 h2 h3 hm
  | ld0 hr hst _ ih=>exact fun hm=>.ld0 hr hst (ih hm)
  | cas hr hst _ hst' _ ih1 ih2=>exact fun hm=>.cas hr hst (ih1 hm) hst' (ih2 hm)
  | sem hr hof hst hst' _ ih=>exact fun hm=>.sem hr hof hst hst' (ih hm)
  | ld2 hr hst _ ih=>exact fun hm=>.ld2 hr hst (ih hm)
  | enaW hr hst _ ih=>exact fun hm=>.enaW hr hst (ih hm)
  | acq hr hst hk=>exact fun hm=>.acq hr hst ⟨hm,hk⟩
inductive JoinI (P:Program) (main:Bool):(Goroutine→Kn→Cells→Prop)→Goroutine→Kn→Cells→Prop
  | base {R:Goroutine→Kn→Cells→Prop} {g:Goroutine} {B:Kn} {L:Cells} : ZlT P main R g B L→JoinI P main R g B L
  | lend {R:Goroutine→Kn→Cells→Prop} {l:Cells} {g:Goroutine} {B:Kn} {L:Cells} : (l.map (·.1)).Nodup→(∀p,p∈l→B.mem p.1=some p.2)→JoinI P main (Zk6 R l) g B L→JoinI P main R g (B.minus l) (l ++ L)
end Go.BL
