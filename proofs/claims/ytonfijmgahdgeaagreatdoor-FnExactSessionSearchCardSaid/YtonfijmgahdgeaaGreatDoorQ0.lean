/-
  THE WALK'S LOGIC: owned cells and known cells, goroutines started and awaited, calls, loops, data, and plain laws on lists: no program in sight.
-/
import Derived.Test.YtonfijmgahdgeaaGreatDoorK0
import Derived.Conc.Beside
import Derived.Conc.CrowdStepW
import Derived.Conc.CrowdStepC2
import Derived.Conc.WgGenN3
set_option linter.unusedVariables false
set_option linter.unusedSimpArgs false
set_option linter.unusedSectionVars false
namespace Go.BL
open Go.Conc Go.ConcN
open Go.ConcR (KK wgBlock WgAt stA smA rd wr mk Payload)
def ZaX:Loc→Option Nat
 | .cell a=>some a.block
 | .obj r=>some r
 | _=>none
def ZmE (B:Nat) (op:MemOp):Prop:=∀x b,op.act.touch? = some x→ZaX x.loc=some b→b<B
theorem ZmE.mono {B B':Nat} {op:MemOp} (hB:B≤B') (h:ZmE B op):ZmE B' op:=fun x b hx hb=>Nat.lt_of_lt_of_le (h x b hx hb) hB
structure PastB (Shun:Loc→Prop) (hs:Nat) (t:Trace):Prop where
 clean :∀said,¬ Race said t
 known :∀i a,touchAt t i=some a→a.loc.isMemory=true→Knows t 0 i∨(Shun a.loc∧a.kind = .atomic)
 over:t.HandedOver
 hears:Deaf t 0=0
 seen :∀op∈t,ZmE hs op
inductive Ow where
 | free
 | own (g:Nat)
 | pay
 | grp
structure TL (T0 n0 j C Wg hs:Nat) (ow:Nat→Ow) (KB:Nat→Nat→Prop) (Shun:Loc→Prop) (t:Trace):Prop where
 nr :∀said,¬ Race said t
 low :∀op∈t,ZmE hs op
 own :∀g b,ow b = .own g→∀l,ZaX l=some b→Perm t g l
 rd :∀g b,KB g b→∀l,ZaX l=some b→PermW t g l
 pay :∀i,Perm t (if i<j then n0+i else 0) (.cell ⟨C,i,none⟩)
 quiet:Quiet (ShN Wg) t
 past :∀i a,touchAt t i=some a→a.loc.isMemory=true→(∀k,k<j→t.g? i≠some (n0+k))→Knows t 0 i∨(Shun a.loc∧a.kind = .atomic)
 over :∀i g,t.g? i=some g→g≠0→(∀k,k<j→g≠n0+k)→t.counts i→∃q,t.g? q=some 0∧HappensBefore t i q
 wk :∀i k a,k<j→t.g? i=some (n0+k)→touchAt t i=some a→a.loc.isMemory=true→a.kind = .plain∨ShN Wg a.loc
 norel :∀i,T0≤i→t.act? i≠some (.mark (.release (stA Wg)))
 t0:T0≤t.size
 early :∀i op,i<T0→t[i]? = some op→op.g<n0
 gs :∀op∈t,op.g<n0+j
def ZAY (n0 j C Wg hs:Nat) (ow:Nat→Ow) (KB:Nat→Nat→Prop) (g:Nat) (op:MemOp):Prop:=
 op.g=g∧op.act≠.mark (.release (stA Wg))∧∀x,op.act.touch? = some x→
  (x.kind = .plain∧((∃b,ZaX x.loc=some b∧(ow b = .own g∨(x.write=false∧KB g b)∨hs≤b))∨∃i,x.loc = .cell ⟨C,i,none⟩∧(if i<j then n0+i else 0)=g))∨
  (ShN Wg x.loc∧x.kind≠.plain∧(x.kind = .said→g=0))
structure OwOk (C Wg hs:Nat) (ow:Nat→Ow) (KB:Nat→Nat→Prop):Prop where
 kb :∀g b,KB g b→ow b = .free∨ow b = .own g
 kl :∀g b,KB g b→b<hs
 pay:ow C = .pay
 grp:ow Wg = .grp
 lC:C<hs
 lW:Wg<hs
section
variable {T0 n0 j C Wg hs hs':Nat} {ow ow':Nat→Ow} {KB KB':Nat→Nat→Prop} {Shun:Loc→Prop} {t u:Trace} {g:Nat}
theorem Zes {l:Loc} (h:ShN Wg l):ZaX l=some Wg:=by obtain ⟨a,rfl,ha⟩:=h;simp [ZaX,ha]
theorem TL.app (O:OwOk C Wg hs ow KB) (h:TL T0 n0 j C Wg hs ow KB Shun t) (hn:0<n0) (hg:g=0∨∃k,k<j∧g=n0+k) (hu :∀op∈u,ZAY n0 j C Wg hs ow KB g op) (hl :∀op∈u,ZmE hs' op) (hle:hs≤hs')
  (how :∀b g',ow' b = .own g'→(b<hs∧ow b = .own g')∨(hs≤b∧g'=g)) (hKB :∀g' b,KB' g' b→KB g' b∨(g'=g∧(ow b = .own g∨hs≤b))):TL T0 n0 j C Wg hs' ow' KB' Shun (t ++ u):=by
 have hug :∀op∈u,op.g=g:=fun op hop=>(hu op hop).1
 have tlow :∀{i:Nat} {a:Touch} {b:Nat},touchAt t i=some a→ZaX a.loc=some b→b<hs:=fun {i a b} ha hb=>by
  obtain ⟨x,hx,hxa⟩:=touch_of ha
  exact h.low x (Array.mem_of_getElem? hx) a b hxa hb
 have hCg:ow C≠.own g:=by rw [O.pay];exact fun e=>Ow.noConfusion e
 have paycell :∀op∈u,∀x,op.act.touch? = some x→∀i,x.loc = .cell ⟨C,i,none⟩→(if i<j then n0+i else 0)=g:=fun op hop x hx i e=>by
  rcases (hu op hop).2.2 x hx with ⟨_,⟨b,hb,hc⟩ | ⟨i',e',hi'⟩⟩ | ⟨hs1,_⟩
  ·rw [e] at hb
   simp only [ZaX,Option.some.injEq] at hb
   subst hb
   rcases hc with hc | ⟨_,hc⟩ | hc
   ·exact absurd hc hCg
   ·rcases O.kb _ _ hc with hc | hc
    ·rw [O.pay] at hc;cases hc
    ·exact absurd hc hCg
   ·have:=O.lC;omega
  ·rw [e] at e'
   simp only [Loc.cell.injEq,Addr.mk.injEq,true_and,and_true] at e'
   subst e';exact hi'
  ·have:=Zes hs1
   rw [e] at this
   simp only [ZaX,Option.some.injEq] at this
   have h1:=O.pay
   rw [this,O.grp] at h1;cases h1
 refine ⟨fun said=>noRace_append (h.nr said) hug fun i a ha op hop b hb hc=>?_,fun op hop=>(Array.mem_append.1 hop).elim (fun x=>(h.low op x).mono hle) (hl op),fun g' b hb l hlb=>?_,fun g' b hb l hlb=>?_,fun i=>(h.pay i).app fun op hop x hx e=>?_,
  h.quiet.app fun op hop x hx hs1=>?_,fun i a ha hm hnw=>?_,fun i g' hg' hne hnw hc=>?_,fun i k a hk hgi ha hm=>?_,fun i hi e=>?_,by rw [Array.size_append];have:=h.t0;omega,fun i op hi hop=>?_,
  fun op hop=>(Array.mem_append.1 hop).elim (h.gs op) fun x=>by
   rw [hug op x]
   rcases hg with rfl | ⟨k,hk,rfl⟩ <;> omega⟩
 ·
  rcases (hu op hop).2.2 b hb with ⟨_,⟨bb,hbb,hcase⟩ | ⟨i',e',hi'⟩⟩ | ⟨hs1,hk,hsd⟩
  ·have hab:ZaX a.loc=some bb:=by rw [hc.1];exact hbb
   rcases hcase with h1 | ⟨h1,h2⟩ | h1
   ·exact h.own g bb h1 a.loc hab i a ha rfl
   ·exact h.rd g bb h2 a.loc hab i a ha rfl (hc.2.2.1.resolve_right (by simp [h1]))
   ·have:=tlow ha hab;omega
  ·have:=h.pay i' i a ha (hc.1.trans e')
   rwa [hi'] at this
  ·exact h.quiet.known hs1 hk hsd i a ha hc
 ·
  rcases how b g' hb with ⟨hbl,hb'⟩ | ⟨hbh,rfl⟩
  ·refine (h.own g' b hb' l hlb).app fun op hop x hx e=>?_
   rw [hug op hop]
   rcases (hu op hop).2.2 x hx with ⟨_,⟨bb,hbb,hcase⟩ | ⟨i',e',hi'⟩⟩ | ⟨hs1,_⟩
   ·rw [e,hlb] at hbb
    cases hbb
    rcases hcase with h1 | ⟨_,h2⟩ | h1
    ·rw [hb'] at h1;cases h1;rfl
    ·rcases O.kb _ _ h2 with h3 | h3
     ·rw [hb'] at h3;cases h3
     ·rw [hb'] at h3;cases h3;rfl
    ·omega
   ·rw [← e,e'] at hlb
    simp only [ZaX,Option.some.injEq] at hlb
    subst hlb
    rw [O.pay] at hb';cases hb'
   ·have:=Zes hs1
    rw [e,hlb] at this
    cases this
    rw [O.grp] at hb';cases hb'
  ·intro i a ha e
   obtain ⟨x,hx,hxa⟩:=touch_of ha
   rcases getElem?_append_cases hx with ⟨_,hx'⟩ | ⟨_,hxu⟩
   ·have:=tlow (touchAt_of hx' ▸ hxa) (e ▸ hlb);omega
   ·have:=knows_own hx
    rwa [hug x hxu] at this
 ·
  have key :∀{g'},KB g' b→PermW (t ++ u) g' l:=fun {g'} hkb=>(h.rd g' b hkb l hlb).app fun op hop x hx e hw=>by
   rw [hug op hop]
   rcases (hu op hop).2.2 x hx with ⟨_,⟨bb,hbb,hcase⟩ | ⟨i',e',hi'⟩⟩ | ⟨hs1,_⟩
   ·rw [e,hlb] at hbb
    cases hbb
    rcases hcase with h1 | ⟨h1,_⟩ | h1
    ·rcases O.kb _ _ hkb with h3 | h3
     ·rw [h1] at h3;cases h3
     ·rw [h1] at h3;cases h3;rfl
    ·rw [hw] at h1;cases h1
    ·have:=O.kl _ _ hkb;omega
   ·rw [← e,e'] at hlb
    simp only [ZaX,Option.some.injEq] at hlb
    subst hlb
    rcases O.kb _ _ hkb with h3 | h3 <;> (rw [O.pay] at h3;cases h3)
   ·have:=Zes hs1
    rw [e,hlb] at this
    cases this
    rcases O.kb _ _ hkb with h3 | h3 <;> (rw [O.grp] at h3;cases h3)
  rcases hKB g' b hb with hkb | ⟨rfl,hob | hbh⟩
  ·exact key hkb
  ·exact (PermW.of (h.own g' b hob l hlb)).app fun op hop _ _ _ _=>hug op hop
  ·intro i a ha e hw
   obtain ⟨x,hx,hxa⟩:=touch_of ha
   rcases getElem?_append_cases hx with ⟨_,hx'⟩ | ⟨_,hxu⟩
   ·have:=tlow (touchAt_of hx' ▸ hxa) (e ▸ hlb);omega
   ·have:=knows_own hx
    rwa [hug x hxu] at this
 ·rw [hug op hop];exact (paycell op hop x hx i e).symm
 ·rcases (hu op hop).2.2 x hx with ⟨_,⟨bb,hbb,hcase⟩ | ⟨i',e',hi'⟩⟩ | ⟨_,h2,h3⟩
  ·have:=Zes hs1
   rw [hbb] at this
   cases this
   rcases hcase with h1 | ⟨_,h1⟩ | h1
   ·rw [O.grp] at h1;cases h1
   ·rcases O.kb _ _ h1 with h3 | h3 <;> (rw [O.grp] at h3;cases h3)
   ·have:=O.lW;omega
  ·have:=Zes hs1
   rw [e'] at this
   simp only [ZaX,Option.some.injEq] at this
   have h1:=O.pay
   rw [this,O.grp] at h1;cases h1
  ·exact ⟨h2,fun e=>(hug op hop).trans (h3 e)⟩
 ·obtain ⟨x,hx,hxa⟩:=touch_of ha
  rcases getElem?_append_cases hx with ⟨hi,hx'⟩ | ⟨_,hxu⟩
  ·refine (h.past i a (touchAt_of hx' ▸ hxa) hm fun k hk e=>hnw k hk ?_).imp (·.app u) id
   rw [g?_old hi];exact e
  ·have hxg:=hug x hxu
   rcases hg with rfl | ⟨k,hk,rfl⟩
   ·have:=knows_own hx
    rw [hxg] at this
    exact .inl this
   ·exact absurd (by simp [Trace.g?,hx,hxg]) (hnw k hk)
 ·obtain ⟨x,hx,hxg⟩:=Option.map_eq_some_iff.1 hg'
  rcases getElem?_append_cases hx with ⟨hi,hx'⟩ | ⟨_,hxu⟩
  ·obtain ⟨q,h1,h2⟩:=h.over i g' (by rw [← g?_old (u:=u) hi];exact hg') hne hnw ((counts_old hi).1 hc)
   have hq:q<t.size:=by
    obtain ⟨z,hz,_⟩:=Option.map_eq_some_iff.1 h1
    exact lt_size_of_getElem? hz
   exact ⟨q,by rw [g?_old hq];exact h1,hb_app u h2⟩
  ·have hxg':=hug x hxu
   rw [hxg] at hxg'
   rcases hg with rfl | ⟨k,hk,rfl⟩
   ·exact absurd hxg' hne
   ·exact absurd hxg' (hnw k hk)
 ·obtain ⟨x,hx,hxa⟩:=touch_of ha
  rcases getElem?_append_cases hx with ⟨hi,hx'⟩ | ⟨_,hxu⟩
  ·exact h.wk i k a hk (by rw [← g?_old (u:=u) hi];exact hgi) (touchAt_of hx' ▸ hxa) hm
  ·rcases (hu x hxu).2.2 a hxa with ⟨h1,_⟩ | ⟨h1,_⟩
   ·exact .inl h1
   ·exact .inr h1
 ·obtain ⟨op,ho,hoa⟩:=Option.map_eq_some_iff.1 e
  rcases getElem?_append_cases ho with ⟨hlt,ho'⟩ | ⟨_,hou⟩
  ·exact h.norel i hi (by simp [Trace.act?,ho',hoa])
  ·exact (hu op hou).2.1 hoa
 ·rcases getElem?_append_cases hop with ⟨_,ho'⟩ | ⟨hge,_⟩
  ·exact h.early i op hi ho'
  ·have:=h.t0;omega
theorem TL.start (h:PastB Shun hs t) (hgs :∀op∈t,op.g<n0) (hn:0<n0) (hC :∀l,ZaX l=some C→¬ Shun l)
  (how :∀b g,ow b = .own g→g=0∧∀l,ZaX l=some b→¬ Shun l) (hKB :∀g b,KB g b→g=0∧∀l,ZaX l=some b→¬ Shun l):TL t.size n0 0 C hs (hs+1) ow KB Shun t:=by
 have tlow :∀{i:Nat} {a:Touch} {b:Nat},touchAt t i=some a→ZaX a.loc=some b→b<hs:=fun {i a b} ha hb=>by
  obtain ⟨x,hx,hxa⟩:=touch_of ha
  exact h.seen x (Array.mem_of_getElem? hx) a b hxa hb
 have knows :∀{i:Nat} {a:Touch} {b:Nat},touchAt t i=some a→ZaX a.loc=some b→(∀l,ZaX l=some b→¬ Shun l)→Knows t 0 i:=fun {i a b} ha hb hns=>by
  have hm:a.loc.isMemory=true:=by cases hl:a.loc <;> rw [hl] at hb <;> first | rfl | cases hb
  rcases h.known i a ha hm with hk | ⟨hs1,_⟩
  ·exact hk
  ·exact absurd hs1 (hns _ hb)
 refine ⟨h.clean,fun op hop=>(h.seen op hop).mono (Nat.le_succ _),fun g b hb l hl=>?_,fun g b hb l hl=>?_,fun i=>?_,fun i op x hi hx hsh=>?_,fun i a ha hm _=>h.known i a ha hm,fun i g hg hne _ hc=>h.over i g hg hne hc,fun i k a hk=>absurd hk (Nat.not_lt_zero _),fun i hi e=>?_,Nat.le_refl _,fun i op _ ho=>hgs op (Array.mem_of_getElem? ho),fun op hop=>hgs op hop⟩
 ·obtain ⟨rfl,hns⟩:=how b g hb
  exact fun i a ha e=>knows ha (e ▸ hl) hns
 ·obtain ⟨rfl,hns⟩:=hKB g b hb
  exact fun i a ha e _=>knows ha (e ▸ hl) hns
 ·rw [if_neg (Nat.not_lt_zero _)]
  exact fun i a ha e=>knows (b:=C) ha (by rw [e];rfl) hC
 ·have:=h.seen op (Array.mem_of_getElem? hi) x _ hx (Zes hsh)
  omega
 ·have:=lt_of_act? e
  omega
theorem TL.fork (h:TL T0 n0 j C Wg hs ow KB Shun t) (hn:0<n0) (O:OwOk C Wg hs ow KB) {x y:MemOp} (hx:x.g=0∧x.act = .go (n0+j)) (hy:y.g=n0+j∧y.act = .start) (h0:Deaf t 0=0)
  (how :∀b g',ow' b = .own g'→ow b = .own g') (hKB :∀g' b,KB' g' b→KB g' b∨(g'=n0+j∧KB 0 b)):TL T0 n0 (j+1) C Wg hs ow' KB' Shun (t ++ #[x,y]):=by
 have hk:Deaf t (n0+j)=0:=Deaf_absent fun i op hi e=>by have:=h.gs op (Array.mem_of_getElem? hi);omega
 have hnt :∀op∈#[x,y],∀b,op.act.touch? = some b→False:=by
  intro op hop b hb
  simp only [List.mem_toArray,List.mem_cons,List.not_mem_nil,or_false] at hop
  rcases hop with rfl | rfl
  ·rw [hx.2] at hb;cases hb
  ·rw [hy.2] at hb;cases hb
 have old :∀{i:Nat} {a:Touch},touchAt (t ++ #[x,y]) i=some a→touchAt t i=some a∧i<t.size:=by
  intro i a ha
  obtain ⟨z,hz,hza⟩:=touch_of ha
  rcases getElem?_append_cases hz with ⟨hi,hz'⟩ | ⟨_,hzu⟩
  ·exact ⟨by rw [touchAt_of hz'];exact hza,hi⟩
  ·exact (hnt z hzu a hza).elim
 refine ⟨fun said=>?_,fun op hop=>?_,fun g' b hb l hlb=>(h.own g' b (how b g' hb) l hlb).app fun op hop b hb _=>(hnt op hop b hb).elim,fun g' b hb l hlb=>?_,fun i=>?_,
  h.quiet.app fun op hop b hb _=>(hnt op hop b hb).elim,fun i a ha hm hnw=>?_,fun i g' hg' hne hnw hc=>?_,fun i k a hk' hgi ha hm=>?_,fun i hi e=>?_,by rw [Array.size_append];have:=h.t0;omega,fun i op hi hop=>?_,fun op hop=>?_⟩
 ·have e:t ++ #[x,y]=(t ++ #[x]) ++ #[y]:=by apply Array.ext';simp
  rw [e]
  exact noRace_append (g:=n0+j) (noRace_append (g:=0) (h.nr said) (fun op hop=>by simp at hop;rw [hop];exact hx.1) (fun i a _ op hop b hb _=>(hnt op (by simp at hop ⊢;exact .inl hop) b hb).elim))
   (fun op hop=>by simp at hop;rw [hop];exact hy.1) (fun i a _ op hop b hb _=>(hnt op (by simp at hop ⊢;exact .inr hop) b hb).elim)
 ·rcases Array.mem_append.1 hop with hop | hop
  ·exact h.low op hop
  ·simp only [List.mem_toArray,List.mem_cons,List.not_mem_nil,or_false] at hop
   rcases hop with rfl | rfl
   ·intro x b hx' _;rw [hx.2] at hx';cases hx'
   ·intro x b hx' _;rw [hy.2] at hx';cases hx'
 ·rcases hKB g' b hb with hkb | ⟨rfl,hkb⟩
  ·exact (h.rd g' b hkb l hlb).app fun op hop b hb _ _=>(hnt op hop b hb).elim
  ·exact fun i a ha e hw=>fork_knows hx hy h0 hk (h.rd 0 b hkb l hlb i a (old ha).1 e hw)
 ·by_cases hij:i<j
  ·rw [if_pos (by omega)]
   have:=h.pay i
   rw [if_pos hij] at this
   exact this.app fun op hop b hb _=>(hnt op hop b hb).elim
  ·have:=h.pay i
   rw [if_neg hij] at this
   by_cases e:i=j
   ·subst e
    rw [if_pos (by omega)]
    exact fun q a ha e=>fork_knows hx hy h0 hk (this q a (old ha).1 e)
   ·rw [if_neg (by omega)]
    exact this.app fun op hop b hb _=>(hnt op hop b hb).elim
 ·obtain ⟨ha',hi⟩:=old ha
  refine (h.past i a ha' hm fun k hk' e=>hnw k (by omega) ?_).imp (·.app _) id
  rw [g?_old hi];exact e
 ·have hcl:=hc
  obtain ⟨z,hz,_⟩:=hc
  obtain ⟨_,hi⟩:=old hz
  obtain ⟨q,h1,h2⟩:=h.over i g' (by rw [← g?_old (u:=#[x,y]) hi];exact hg') hne (fun k hk'=>hnw k (by omega)) ((counts_old hi).1 hcl)
  have hq:q<t.size:=by
   obtain ⟨z,hz,_⟩:=Option.map_eq_some_iff.1 h1
   exact lt_size_of_getElem? hz
  exact ⟨q,by rw [g?_old hq];exact h1,hb_app _ h2⟩
 ·obtain ⟨ha',hi⟩:=old ha
  rw [g?_old hi] at hgi
  rcases Nat.lt_or_ge k j with hlt | hge
  ·exact h.wk i k a hlt hgi ha' hm
  ·obtain ⟨z,hz,hzg⟩:=Option.map_eq_some_iff.1 hgi
   have:=h.gs z (Array.mem_of_getElem? hz)
   omega
 ·obtain ⟨op,ho,hoa⟩:=Option.map_eq_some_iff.1 e
  rcases getElem?_append_cases ho with ⟨hlt,ho'⟩ | ⟨_,hop⟩
  ·exact h.norel i hi (by simp [Trace.act?,ho',hoa])
  ·simp only [List.mem_toArray,List.mem_cons,List.not_mem_nil,or_false] at hop
   rcases hop with rfl | rfl
   ·rw [hx.2] at hoa;cases hoa
   ·rw [hy.2] at hoa;cases hoa
 ·rcases getElem?_append_cases hop with ⟨_,ho'⟩ | ⟨hge,_⟩
  ·exact h.early i op hi ho'
  ·have:=h.t0;omega
 ·rcases Array.mem_append.1 hop with hop | hop
  ·have:=h.gs op hop;omega
  ·simp only [List.mem_toArray,List.mem_cons,List.not_mem_nil,or_false] at hop
   rcases hop with rfl | rfl
   ·rw [hx.1];omega
   ·rw [hy.1];omega
theorem TL.done (h:TL T0 n0 j C Wg hs ow KB Shun t) (hd:Deaf t 0=0) {q:Nat} (hq:t.act? q=some (.mark (.acquire (stA Wg)))) (hg:t.g? q=some 0) (hh:t.heard q) (hr :∀k,k<j→∃r,RelBy (stA Wg) t (n0+k) r∧r<q):PastB (fun l=>Shun l∨ShN Wg l) hs t:=by
 have edge :∀{k i},k<j→t.g? i=some (n0+k)→(HappensBefore t i q)∨¬ t.counts i:=fun {k i} hk hi=>by
  obtain ⟨r,hr,hrq⟩:=hr k hk
  have hr0:T0≤r:=Nat.le_of_not_lt fun hlt=>by
   obtain ⟨op,ho,hog⟩:=Option.map_eq_some_iff.1 hr.g
   have:=h.early r op hlt ho
   omega
  have e:HappensBefore t r q:=.single (.inr ⟨.marked hrq (.inr hr.act) hq (fun k hk _=>h.norel k (by omega)),hr.heard,hh⟩)
  rcases Nat.lt_trichotomy i r with hlt | rfl | hgt
  ·exact .inl (.trans (.single (.inl ⟨hlt,_,hi,hr.g⟩)) e)
  ·exact .inl e
  ·exact .inr (hr.after i hgt hi)
 refine ⟨h.nr,fun i a ha hm=>?_,fun i g hgi hne hc=>?_,hd,h.low⟩
 ·by_cases hw :∃k,k<j∧t.g? i=some (n0+k)
  ·obtain ⟨k,hk,hi⟩:=hw
   rcases edge hk hi with hb | hnc
   ·obtain ⟨z,hz,hzg⟩:=Option.map_eq_some_iff.1 hg
    exact .inl ⟨q,z,hz,hzg,.inr hb⟩
   ·have hat:a.kind = .atomic:=by
     cases hka:a.kind with
     | atomic=>rfl
     | plain=>exact absurd ⟨a,ha,hm,.inl (by rw [hka];simp)⟩ hnc
     | said=>exact absurd ⟨a,ha,hm,.inl (by rw [hka];simp)⟩ hnc
    rcases h.wk i k a hk hi ha hm with hp | hsn
    ·rw [hat] at hp;cases hp
    ·exact .inr ⟨.inr hsn,hat⟩
  ·rcases h.past i a ha hm fun k hk e=>hw ⟨k,hk,e⟩ with hk | ⟨h1,h2⟩
   ·exact .inl hk
   ·exact .inr ⟨.inl h1,h2⟩
 ·by_cases hw :∃k,k<j∧g=n0+k
  ·obtain ⟨k,hk,rfl⟩:=hw
   rcases edge hk hgi with hb | hnc
   ·exact ⟨q,hg,hb⟩
   ·exact absurd hc hnc
  ·exact h.over i g hgi hne (fun k hk e=>hw ⟨k,hk,e⟩) hc
end
end Go.BL
namespace Go.BL
open Go.Conc Go.ConcN
open Go.ConcR (KK wgBlock WgAt stA smA rd wr mk Payload)
theorem Ok.from {B B' B₂:Kn} {L L' L₂:Cells} {w w₂:World} (hle:B.le B') (hb :∀b o,B'.mem b=some o→(B.mem b).isSome=true∨∃p,p∈L∧p.1=b) (hl :∀p,p∈L'→∃q,q∈L∧q.1=p.1) (h2:Ok B' L' w B₂ L₂ w₂):Ok B L w B₂ L₂ w₂:=by
 refine ⟨hle.trans h2.le,h2.sat,h2.size,fun b hb' hn=>h2.keep b hb' fun p hp he=>?_,fun b o hbo=>?_,fun p hp=>?_,h2.tape,h2.os,h2.output⟩
 ·obtain ⟨q,hq,e⟩:=hl p hp
  exact hn q hq (e.trans he)
 ·rcases h2.newB b o hbo with hx | ⟨p,hp,rfl⟩ | hx
  ·obtain ⟨o',ho'⟩:=Option.isSome_iff_exists.1 hx
   rcases hb b o' ho' with hy | hy
   ·exact .inl hy
   ·exact .inr (.inl hy)
  ·obtain ⟨q,hq,e⟩:=hl p hp
   exact .inr (.inl ⟨q,hq,e⟩)
  ·exact .inr (.inr hx)
 ·rcases h2.newL p hp with ⟨q,hq,e⟩ | hx
  ·obtain ⟨r,hr,e'⟩:=hl q hq
   exact .inl ⟨r,hr,e'.trans e⟩
  ·exact .inr hx
theorem Ev.from {n N:Nat} {B B':Kn} {L L':Cells} {e:Event} (hb :∀b o,B'.mem b=some o→(B.mem b).isSome=true∨∃p,p∈L∧p.1=b) (hl :∀p,p∈L'→∃q,q∈L∧q.1=p.1) (h:Ev n N B' L' e):Ev n N B L e:=by
 rcases h with h | ⟨hs,blk,hloc,hx⟩
 ·exact .inl h
 ·refine .inr ⟨hs,blk,hloc,?_⟩
  rcases hx with ⟨o,ho⟩ | ⟨hw,hx⟩ | hx
  ·obtain ⟨q,hq,e⟩:=hl _ ho
   simp only at e
   obtain ⟨q1,q2⟩:=q
   simp only at e;subst e
   exact .inl ⟨q2,hq⟩
  ·obtain ⟨o',ho'⟩:=Option.isSome_iff_exists.1 hx
   rcases hb blk o' ho' with hy | ⟨p,hp,rfl⟩
   ·exact .inr (.inl ⟨hw,hy⟩)
   ·exact .inl ⟨p.2,hp⟩
  ·exact .inr (.inr hx)
inductive Tr where
 | leaf
 | node (f:World→Tr)
def FF:Nat→Loc→Prop:=fun _ _=>False
section
variable [Payload] (P:Program) (ty:TypeId) (Wg C n i:Nat) (v:Value)
def ZmA:Tr→Goroutine→Kn→Cells→Prop
 | .leaf,g,B,L=>g.status = .running∧∀w,Sat B L w→PayAt C n w→∃g',stepG P false g w = .go g' (w.setCell ⟨C,i,none⟩ v) #[⟨.cell ⟨C,i,none⟩,true,false⟩]∧
∀w',WgLive ty Wg w'→Has C i v w'→∃m,Goes P false (RW ty Wg C n 0 i) (DWs Wg FF FF C n (i+1)) (AtR0 P ty Wg C n 0 (i+1) v) m g' w'
 | .node f,g,B,L=>g.status = .running∧∀w,Sat B L w→∃g' w' es B' L',stepG P false g w = .go g' w' es∧(∀e,e∈es→Ev w.heap.size w'.heap.size B L e)∧Ok B L w B' L' w'∧ZmA (f w) g' B' L'
def ZeF (g:Goroutine) (B:Kn) (L:Cells):Prop:=∃τ,ZmA P ty Wg C n i v τ g B L
end
section
variable [Payload] {P:Program} {ty:TypeId} {Wg C n i:Nat} {v:Value}
theorem ZmA.running :∀{τ:Tr} {g:Goroutine} {B:Kn} {L:Cells},ZmA P ty Wg C n i v τ g B L→g.status = .running
 | .leaf,_,_,_,h=>h.1
 | .node _,_,_,_,h=>h.1
theorem ZeF.conv {g:Goroutine} {B B':Kn} {L L':Cells} (hle:B.le B') (hs :∀w,Sat B L w→Sat B' L' w) (hb :∀b o,B'.mem b=some o→(B.mem b).isSome=true∨∃p,p∈L∧p.1=b) (hl :∀p,p∈L'→∃q,q∈L∧q.1=p.1)
  (h:ZeF P ty Wg C n i v g B' L'):ZeF P ty Wg C n i v g B L:=by
 obtain ⟨τ,h⟩:=h
 refine ⟨τ,?_⟩
 cases τ with
 | leaf=>exact ⟨h.1,fun w s hp=>h.2 w (hs w s) hp⟩
 | node f=>
  refine ⟨h.1,fun w s=>?_⟩
  obtain ⟨g',w',es,B₂,L₂,h1,h2,h3,h4⟩:=h.2 w (hs w s)
  exact ⟨g',w',es,B₂,L₂,h1,fun e he=>Ev.from hb hl (h2 e he),Ok.from hle hb hl h3,h4⟩
theorem ZeF.step {g:Goroutine} {B:Kn} {L:Cells} (hg:g=G g.frame g.callers) (h :∀w,Sat B L w→∃g' w' es B' L',stepG P false g w = .go g' w' es∧(∀e,e∈es→Ev w.heap.size w'.heap.size B L e)∧Ok B L w B' L' w'∧ZeF P ty Wg C n i v g' B' L'):ZeF P ty Wg C n i v g B L:=by
 classical
 have h' :∀w,∃τ,Sat B L w→∃g' w' es B' L',stepG P false g w = .go g' w' es∧(∀e,e∈es→Ev w.heap.size w'.heap.size B L e)∧Ok B L w B' L' w'∧ZmA P ty Wg C n i v τ g' B' L':=fun w=>by
  by_cases s:Sat B L w
  ·obtain ⟨g',w',es,B',L',h1,h2,h3,τ,h4⟩:=h w s
   exact ⟨τ,fun _=>⟨g',w',es,B',L',h1,h2,h3,h4⟩⟩
  ·exact ⟨.leaf,fun s'=>absurd s' s⟩
 exact ⟨.node fun w=>Classical.choose (h' w),by rw [hg];rfl,fun w s=>Classical.choose_spec (h' w) s⟩
theorem ZeF.stop {g:Goroutine} {B:Kn} {L:Cells} (hg:g.status = .running) (h :∀w,Sat B L w→PayAt C n w→∃g',stepG P false g w = .go g' (w.setCell ⟨C,i,none⟩ v) #[⟨.cell ⟨C,i,none⟩,true,false⟩]∧
∀w',WgLive ty Wg w'→Has C i v w'→∃m,Goes P false (RW ty Wg C n 0 i) (DWs Wg FF FF C n (i+1)) (AtR0 P ty Wg C n 0 (i+1) v) m g' w'):ZeF P ty Wg C n i v g B L:=⟨.leaf,hg,h⟩
end
def LStep (l' l:List Tr):Prop:=∃(i:Nat) (f:World→Tr) (w:World),l[i]? = some (.node f)∧l'=l.set i (f w)
theorem ZyO:Acc LStep []:=⟨_,fun l' ⟨i,f,w,h,_⟩=>by simp at h⟩
theorem Zv3 :∀(x:Tr) (l:List Tr),Acc LStep l→Acc LStep (x :: l):=by
 intro x
 induction x with
 | leaf=>
  intro l hl
  induction hl with
  | intro l _ ih=>
   refine ⟨_,fun l' ⟨i,f,w,h,e⟩=>?_⟩
   cases i with
   | zero=>simp at h
   | succ i=>
    subst e
    exact ih _ ⟨i,f,w,by simpa using h,rfl⟩
 | node f ihf=>
  intro l hl
  induction hl with
  | intro l hl ih=>
   refine ⟨_,fun l' ⟨i,f',w,h,e⟩=>?_⟩
   cases i with
   | zero=>
    simp only [List.getElem?_cons_zero,Option.some.injEq,Tr.node.injEq] at h
    subst h;subst e
    exact ihf w l ⟨_,hl⟩
   | succ i=>
    subst e
    exact ih _ ⟨i,f',w,by simpa using h,rfl⟩
theorem ZuY:WellFounded LStep:=⟨fun l=>by
 induction l with
 | nil=>exact ZyO
 | cons x l ih=>exact Zv3 x l ih⟩
abbrev Mu:=Nat × List Tr × Nat
def ZwO:Mu→Mu→Prop:=Prod.Lex (· < ·) (Prod.Lex LStep (· < ·))
theorem ZuQ:WellFounded ZwO:=(Prod.lex Nat.lt_wfRel (Prod.lex ⟨LStep,ZuY⟩ Nat.lt_wfRel)).wf
structure Oth where
 D:Nat→WD
 τ:Nat→Tr
 K:Nat→Kn
 L:Nat→Cells
 q:Nat→Nat
def Oth.up (o:Oth) (i:Nat) (d:WD) (τ:Tr) (K:Kn) (L:Cells):Oth:=⟨upd o.D i d,upd o.τ i τ,upd o.K i K,upd o.L i L,o.q⟩
def Oth.mu (o:Oth) (n0 j f0:Nat):Mu:=(Ssum j o.D,(List.range j).map o.τ,f0+2*(Fsum j o.D+sumTo n0 o.q))
structure KW (W w:World):Prop where
 same :∀b,b<W.heap.size→w.heap[b]? = W.heap[b]?
 size:W.heap.size≤w.heap.size
 tape:w.tape=W.tape
 os:w.os=W.os
 output:w.output=W.output
structure Mv (S:Nat→Prop) (w w':World):Prop where
 size:w.heap.size≤w'.heap.size
 keep :∀b,b<w.heap.size→¬ S b→w'.heap[b]? = w.heap[b]?
 tape:w'.tape=w.tape
 os:w'.os=w.os
 output:w'.output=w.output
theorem Mv.of_ok {B B':Kn} {L L':Cells} {w w':World} {S:Nat→Prop} (h:Ok B L w B' L' w') (hS :∀p,p∈L→S p.1):Mv S w w':=
 ⟨h.size,fun b hb hn=>h.keep b hb fun p hp e=>hn (e ▸ hS p hp),h.tape,h.os,h.output⟩
theorem Sat.mv {B:Kn} {L:Cells} {w w':World} {S:Nat→Prop} (s:Sat B L w) (h:Mv S w w') (hB :∀b,(B.mem b).isSome=true→¬ S b) (hL :∀p,p∈L→¬ S p.1):Sat B L w':=
 ⟨fun b o hb=>(h.keep b (s.ltB hb) (hB b (by rw [hb];rfl))).trans (s.ro b o hb),fun p hp=>(h.keep p.1 (s.ltL hp) (hL p hp)).trans (s.own p hp),s.nodup,s.apart⟩
theorem KW.mv {W w w':World} {S:Nat→Prop} (h:KW W w) (m:Mv S w w') (hS :∀b,S b→W.heap.size≤b):KW W w':=
 ⟨fun b hb=>(m.keep b (Nat.lt_of_lt_of_le hb h.size) (fun hs=>by have:=hS b hs;omega)).trans (h.same b hb),Nat.le_trans h.size m.size,m.tape.trans h.tape,m.os.trans h.os,m.output.trans h.output⟩
theorem ZcH {w:World} {a:Addr} {v:Value} : Mv (· = a.block) w (w.setCell a v):=by
 have ha:=aside_setCell w a v
 exact ⟨Nat.le_of_eq ha.size.symm,fun b _ hb=>ha.block b hb,ha.tape,ha.os,ha.output⟩
end Go.BL
namespace Go.BL
open Go.Conc Go.ConcN
open Go.ConcR (KK wgBlock WgAt stA smA rd wr mk Payload g_of_ofEvents)
variable [Payload]
section
variable (P:Program) (ty:TypeId) (Wg C n n0 T0:Nat) (val:Nat→Value) (W:World) (Shun:Loc→Prop)
def WS (i:Nat) (d:WD) (τ:Tr) (K:Kn) (L:Cells) (g:Goroutine) (w:World):Prop:=
 (d.stage=8∧d.fuel=0∧d.deaf=0∧ZmA P ty Wg C n i (val i) τ g K L∧Sat K L w)∨(d.stage≤7∧WSit P ty Wg C n FF FF 0 (i+1) (val i) d.stage d.fuel d.deaf g w)
def KB (j:Nat) (o:Oth) (B0:Kn) (g b:Nat):Prop:=(g=0∧(B0.mem b).isSome=true)∨∃i,i<j∧g=n0+i∧(o.D i).stage=8∧((o.K i).mem b).isSome=true
structure PInv (j:Nat) (gs:Array Goroutine) (w:World) (t:Trace) (o:Oth) (ow:Nat→Ow) (a:Goroutine) (B0:Kn) (L0:Cells) (d0:Nat):Prop where
 npos:0<n0
 size:gs.size=n0+j
 g0:gs[0]? = some a
 old :∀i g,0<i→i<n0→gs[i]? = some g→QuitsD P (o.q i) (Deaf t i) g
 wk :∀i,i<j→∃g,gs[n0+i]? = some g∧WS P ty Wg C n val i (o.D i) (o.τ i) (o.K i) (o.L i) g w
 sat:Sat B0 L0 w
 o0 :∀p,p∈L0→ow p.1 = .own 0
 oL :∀i,i<j→(o.D i).stage=8→∀p,p∈o.L i→ow p.1 = .own (n0+i)
 lowL :∀p,p∈L0→W.heap.size≤p.1
 lowO :∀i,i<j→(o.D i).stage=8→∀p,p∈o.L i→W.heap.size≤p.1
 lowC:W.heap.size≤C
 lowW:W.heap.size≤Wg
 tl:TL T0 n0 j C Wg w.heap.size ow (KB n0 j o B0) Shun t
 ok:OwOk C Wg w.heap.size ow (KB n0 j o B0)
 deaf0:Deaf t 0=d0
 deafW :∀i,i<j→Deaf t (n0+i)=(o.D i).deaf
 rel :∀i,i<j→(o.D i).stage≤6→∃r,RelBy (stA Wg) t (n0+i) r
 has :∀i,i<j→(o.D i).stage≤6→Has C i (val i) w
 pay:PayAt C n w
 shun :∀l,Shun l→∃b,ZaX l=some b∧b<w.heap.size∧ow b = .free∧B0.mem b=none
 kw:KW W w
end
def owN (ow:Nat→Ow) (hs g b:Nat):Ow:=if b<hs then ow b else .own g
theorem ZcU {ow:Nat→Ow} {hs g b:Nat} (h:b<hs):owN ow hs g b=ow b:=by simp [owN,h]
theorem Zhj {ow:Nat→Ow} {hs g b:Nat} (h:hs≤b):owN ow hs g b = .own g:=by simp [owN,Nat.not_lt.2 h]
section
variable {P:Program} {ty:TypeId} {Wg C n n0 T0:Nat} {val:Nat→Value} {W:World} {Shun:Loc→Prop} {j:Nat} {gs:Array Goroutine} {w w':World} {t:Trace} {o:Oth} {ow:Nat→Ow} {a:Goroutine} {B0:Kn} {L0:Cells} {d0:Nat} {i:Nat} {g g':Goroutine}
theorem WS.status {d:WD} {τ:Tr} {K:Kn} {L:Cells} (h:WS P ty Wg C n val i d τ K L g w):g.status = .running∨g.status = .finished:=by
 rcases h with ⟨_,_,_,h,_⟩ | ⟨_,h⟩
 ·exact .inl h.running
 ·exact h.status
theorem WS.woken {d:WD} {τ:Tr} {K:Kn} {L:Cells} (h:WS P ty Wg C n val i d τ K L g w) (x x':Goroutine) (w':World):woken P x x' w' g=g:=by
 unfold Go.Conc.woken
 split
 ·exact again_running _ h.status
 ·rfl
theorem WS.mv {d:WD} {τ:Tr} {K:Kn} {L:Cells} {S:Nat→Prop} (h:WS P ty Wg C n val i d τ K L g w) (m:Mv S w w') (hK:d.stage=8→∀b,(K.mem b).isSome=true→¬ S b) (hL:d.stage=8→∀p,p∈L→¬ S p.1) (hr:RW ty Wg C n 0 i w w'):WS P ty Wg C n val i d τ K L g w':=by
 rcases h with ⟨h1,h2,h3,h4,h5⟩ | ⟨h1,h2⟩
 ·exact .inl ⟨h1,h2,h3,h4,h5.mv m (hK h1) (hL h1)⟩
 ·exact .inr ⟨h1,h2.rely hr⟩
theorem ZlI {B:Kn} {L:Cells} (s:Sat B L w) {b:Nat} (h:(B.mem b).isSome=true):b<w.heap.size:=by
 obtain ⟨o,ho⟩:=Option.isSome_iff_exists.1 h
 exact s.ltB ho
theorem PInv.kbW (h:PInv P ty Wg C n n0 T0 val W Shun j gs w t o ow a B0 L0 d0) (hi:i<j) (h8:(o.D i).stage=8) {b:Nat} (hb:((o.K i).mem b).isSome=true):ow b = .free∨ow b = .own (n0+i):=
 h.ok.kb _ _ (.inr ⟨i,hi,rfl,h8,hb⟩)
theorem PInv.kb0 (h:PInv P ty Wg C n n0 T0 val W Shun j gs w t o ow a B0 L0 d0) {b:Nat} (hb:(B0.mem b).isSome=true):ow b = .free∨ow b = .own 0:=
 h.ok.kb _ _ (.inl ⟨rfl,hb⟩)
theorem KB.up {d:WD} {τ:Tr} {K:Kn} {L:Cells} {x b:Nat} (hi:i<j) (h:KB n0 j (o.up i d τ K L) B0 x b):KB n0 j o B0 x b∨(x=n0+i∧d.stage=8∧(K.mem b).isSome=true):=by
 rcases h with h | ⟨k,hk,rfl,h8,hb⟩
 ·exact .inl (.inl h)
 ·by_cases e:k=i
  ·subst e
   simp only [Oth.up,upd_same] at h8 hb
   exact .inr ⟨rfl,h8,hb⟩
  ·simp only [Oth.up,upd_ne _ _ e] at h8 hb
   exact .inl (.inr ⟨k,hk,rfl,h8,hb⟩)
theorem PInv.stepW (h:PInv P ty Wg C n n0 T0 val W Shun j gs w t o ow a B0 L0 d0) (hi:i<j) (hg:gs[n0+i]? = some g) {es:Array Event} {S:Nat→Prop} (m:Mv S w w')
  (hS0 :∀b,S b→W.heap.size≤b) (hSB :∀b,(B0.mem b).isSome=true→¬ S b) (hSL :∀p,p∈L0→¬ S p.1)
  (hSo :∀k,k<j→k≠i→(o.D k).stage=8→(∀b,((o.K k).mem b).isSome=true→¬ S b)∧∀p,p∈o.L k→¬ S p.1)
  (hrw :∀k,k<j→k≠i→RW ty Wg C n 0 k w w')
  {d:WD} {τ:Tr} {K:Kn} {L:Cells} (hws:WS P ty Wg C n val i d τ K L g' w')
  (hK:d.stage=8→∀b,(K.mem b).isSome=true→b<w'.heap.size∧(KB n0 j o B0 (n0+i) b∨(b<w.heap.size∧ow b = .own (n0+i))∨w.heap.size≤b))
  (hL:d.stage=8→∀p,p∈L→W.heap.size≤p.1∧((p.1<w.heap.size∧ow p.1 = .own (n0+i))∨w.heap.size≤p.1))
  (hok :∀op∈MemOp.ofEvents (n0+i) g.frame.fn g.frame.place es,ZAY n0 j C Wg w.heap.size ow (KB n0 j o B0) (n0+i) op)
  (hlo :∀op∈MemOp.ofEvents (n0+i) g.frame.fn g.frame.place es,ZmE w'.heap.size op)
  (hdeaf:deafBehind (o.D i).deaf es=d.deaf)
  (hrel:d.stage≤6→∃r,RelBy (stA Wg) (t ++ MemOp.ofEvents (n0+i) g.frame.fn g.frame.place es) (n0+i) r)
  (hhas:d.stage≤6→Has C i (val i) w') (hpay:PayAt C n w') :
  PInv P ty Wg C n n0 T0 val W Shun j ((gs.map (woken P g g' w')).setIfInBounds (n0+i) g') w' (t ++ MemOp.ofEvents (n0+i) g.frame.fn g.frame.place es) (o.up i d τ K L) (owN ow w.heap.size (n0+i)) (woken P g g' w' a) B0 L0 d0:=by
 have hn:=h.npos
 have hkb :∀x b,KB n0 j (o.up i d τ K L) B0 x b→KB n0 j o B0 x b∨(x=n0+i∧(ow b = .own (n0+i)∨w.heap.size≤b)):=fun x b hb=>by
  rcases hb.up hi with hb | ⟨rfl,h8,hb⟩
  ·exact .inl hb
  ·rcases (hK h8 b hb).2 with hx | ⟨_,hx⟩ | hx
   ·exact .inl hx
   ·exact .inr ⟨rfl,.inl hx⟩
   ·exact .inr ⟨rfl,.inr hx⟩
 refine ⟨hn,by simp [h.size],?_,fun x gx h0 hx hgx=>?_,fun k hk=>?_,h.sat.mv m hSB hSL,fun p hp=>?_,fun k hk h8 p hp=>?_,h.lowL,fun k hk h8 p hp=>?_,h.lowC,h.lowW,?_,⟨fun x b hb=>?_,fun x b hb=>?_,?_,?_,?_,?_⟩,?_,fun k hk=>?_,fun k hk hs=>?_,fun k hk hs=>?_,hpay,fun l hl=>?_,h.kw.mv m hS0⟩
 ·rw [get_map_set _ _ _ _ (by omega),h.g0];rfl
 ·rw [get_map_set _ _ _ _ (by omega)] at hgx
  obtain ⟨y,hy,rfl⟩:=Option.map_eq_some_iff.1 hgx
  have hq:=h.old x y h0 hx hy
  rw [woken_quitsD hq,Deaf_other t (by omega) _ g_of_ofEvents]
  exact hq
 ·by_cases e:k=i
  ·subst e
   exact ⟨g',get_map_set_same _ _ _ (by rw [h.size];omega),by simp only [Oth.up,upd_same];exact hws⟩
  ·obtain ⟨x,hx,hsx⟩:=h.wk k hk
   refine ⟨x,by rw [get_map_set _ _ _ _ (by omega),hx,Option.map_some,hsx.woken],?_⟩
   simp only [Oth.up,upd_ne _ _ e]
   exact hsx.mv m (fun h8=>(hSo k hk e h8).1) (fun h8=>(hSo k hk e h8).2) (hrw k hk e)
 ·rw [ZcU (h.sat.ltL hp)];exact h.o0 p hp
 ·by_cases e:k=i
  ·subst e
   simp only [Oth.up,upd_same] at h8 hp
   rcases (hL h8 p hp).2 with ⟨h1,h2⟩ | h1
   ·rw [ZcU h1];exact h2
   ·exact Zhj h1
  ·simp only [Oth.up,upd_ne _ _ e] at h8 hp
   obtain ⟨x,hx,hsx⟩:=h.wk k hk
   rcases hsx with ⟨_,_,_,_,hs⟩ | ⟨hs,_⟩
   ·rw [ZcU (hs.ltL hp)];exact h.oL k hk h8 p hp
   ·omega
 ·by_cases e:k=i
  ·subst e
   simp only [Oth.up,upd_same] at h8 hp
   exact (hL h8 p hp).1
  ·simp only [Oth.up,upd_ne _ _ e] at h8 hp
   exact h.lowO k hk h8 p hp
 ·refine h.tl.app h.ok hn (.inr ⟨i,hi,rfl⟩) hok hlo m.size (fun b x hb=>?_) hkb
  by_cases hlt:b<w.heap.size
  ·rw [ZcU hlt] at hb;exact .inl ⟨hlt,hb⟩
  ·rw [Zhj (Nat.not_lt.1 hlt)] at hb
   cases hb
   exact .inr ⟨Nat.not_lt.1 hlt,rfl⟩
 ·rcases hkb x b hb with hb | ⟨rfl,hb | hb⟩
  ·rw [ZcU (h.ok.kl _ _ hb)];exact h.ok.kb _ _ hb
  ·by_cases hlt:b<w.heap.size
   ·rw [ZcU hlt];exact .inr hb
   ·exact .inr (Zhj (Nat.not_lt.1 hlt))
  ·exact .inr (Zhj hb)
 ·rcases hb.up hi with hb | ⟨_,h8,hb⟩
  ·exact Nat.lt_of_lt_of_le (h.ok.kl _ _ hb) m.size
  ·exact (hK h8 b hb).1
 ·rw [ZcU h.ok.lC];exact h.ok.pay
 ·rw [ZcU h.ok.lW];exact h.ok.grp
 ·exact Nat.lt_of_lt_of_le h.ok.lC m.size
 ·exact Nat.lt_of_lt_of_le h.ok.lW m.size
 ·rw [Deaf_other t (by omega) _ g_of_ofEvents,h.deaf0]
 ·by_cases e:k=i
  ·subst e;rw [Deaf_own,h.deafW k hk];simp only [Oth.up,upd_same];exact hdeaf
  ·rw [Deaf_other t (by omega) _ g_of_ofEvents,h.deafW k hk];simp only [Oth.up,upd_ne _ _ e]
 ·by_cases e:k=i
  ·subst e;simp only [Oth.up,upd_same] at hs;exact hrel hs
  ·simp only [Oth.up,upd_ne _ _ e] at hs
   obtain ⟨r,hr⟩:=h.rel k hk hs
   exact ⟨r,hr.appOther g_of_ofEvents (by omega)⟩
 ·by_cases e:k=i
  ·subst e;simp only [Oth.up,upd_same] at hs;exact hhas hs
  ·simp only [Oth.up,upd_ne _ _ e] at hs
   exact (hrw k hk e).cell.trans (h.has k hk hs)
 ·obtain ⟨b,h1,h2,h3,h4⟩:=h.shun l hl
  exact ⟨b,h1,Nat.lt_of_lt_of_le h2 m.size,by rw [ZcU h2];exact h3,h4⟩
theorem PInv.step0 (h:PInv P ty Wg C n n0 T0 val W Shun j gs w t o ow a B0 L0 d0) {a':Goroutine} {es:Array Event} {S:Nat→Prop} {B0':Kn} {L0':Cells} (m:Mv S w w') (hsat:Sat B0' L0' w')
  (hS0 :∀b,S b→W.heap.size≤b)
  (hSo :∀k,k<j→(o.D k).stage=8→(∀b,((o.K k).mem b).isSome=true→¬ S b)∧∀p,p∈o.L k→¬ S p.1)
  (hrw :∀k,k<j→RW ty Wg C n 0 k w w')
  (hK :∀b,(B0'.mem b).isSome=true→(B0.mem b).isSome=true∨(b<w.heap.size∧ow b = .own 0)∨w.heap.size≤b)
  (hL :∀p,p∈L0'→W.heap.size≤p.1∧((p.1<w.heap.size∧ow p.1 = .own 0)∨w.heap.size≤p.1))
  (hok :∀op∈MemOp.ofEvents 0 a.frame.fn a.frame.place es,ZAY n0 j C Wg w.heap.size ow (KB n0 j o B0) 0 op)
  (hlo :∀op∈MemOp.ofEvents 0 a.frame.fn a.frame.place es,ZmE w'.heap.size op) (hpay:PayAt C n w') :
  PInv P ty Wg C n n0 T0 val W Shun j ((gs.map (woken P a a' w')).setIfInBounds 0 a') w' (t ++ MemOp.ofEvents 0 a.frame.fn a.frame.place es) o (owN ow w.heap.size 0) a' B0' L0' (deafBehind d0 es):=by
 have hn:=h.npos
 have hkb :∀x b,KB n0 j o B0' x b→KB n0 j o B0 x b∨(x=0∧(ow b = .own 0∨w.heap.size≤b)):=fun x b hb=>by
  rcases hb with ⟨rfl,hb⟩ | hb
  ·rcases hK b hb with hx | ⟨_,hx⟩ | hx
   ·exact .inl (.inl ⟨rfl,hx⟩)
   ·exact .inr ⟨rfl,.inl hx⟩
   ·exact .inr ⟨rfl,.inr hx⟩
  ·exact .inl (.inr hb)
 refine ⟨hn,by simp [h.size],get_map_set_same _ _ _ (by rw [h.size];omega),fun x gx h0 hx hgx=>?_,fun k hk=>?_,hsat,fun p hp=>?_,fun k hk h8 p hp=>?_,fun p hp=>(hL p hp).1,h.lowO,h.lowC,h.lowW,?_,⟨fun x b hb=>?_,fun x b hb=>?_,?_,?_,?_,?_⟩,?_,fun k hk=>?_,fun k hk hs=>?_,fun k hk hs=>(hrw k hk).cell.trans (h.has k hk hs),hpay,fun l hl=>?_,h.kw.mv m hS0⟩
 ·rw [get_map_set _ _ _ _ (by omega)] at hgx
  obtain ⟨y,hy,rfl⟩:=Option.map_eq_some_iff.1 hgx
  have hq:=h.old x y h0 hx hy
  rw [woken_quitsD hq,Deaf_other t (by omega) _ g_of_ofEvents]
  exact hq
 ·obtain ⟨x,hx,hsx⟩:=h.wk k hk
  exact ⟨x,by rw [get_map_set _ _ _ _ (by omega),hx,Option.map_some,hsx.woken],hsx.mv m (fun h8=>(hSo k hk h8).1) (fun h8=>(hSo k hk h8).2) (hrw k hk)⟩
 ·rcases (hL p hp).2 with ⟨h1,h2⟩ | h1
  ·rw [ZcU h1];exact h2
  ·exact Zhj h1
 ·obtain ⟨x,hx,hsx⟩:=h.wk k hk
  rcases hsx with ⟨_,_,_,_,hs⟩ | ⟨hs,_⟩
  ·rw [ZcU (hs.ltL hp)];exact h.oL k hk h8 p hp
  ·omega
 ·refine h.tl.app h.ok hn (.inl rfl) hok hlo m.size (fun b x hb=>?_) hkb
  by_cases hlt:b<w.heap.size
  ·rw [ZcU hlt] at hb;exact .inl ⟨hlt,hb⟩
  ·rw [Zhj (Nat.not_lt.1 hlt)] at hb
   cases hb
   exact .inr ⟨Nat.not_lt.1 hlt,rfl⟩
 ·rcases hkb x b hb with hb | ⟨rfl,hb | hb⟩
  ·rw [ZcU (h.ok.kl _ _ hb)];exact h.ok.kb _ _ hb
  ·by_cases hlt:b<w.heap.size
   ·rw [ZcU hlt];exact .inr hb
   ·exact .inr (Zhj (Nat.not_lt.1 hlt))
  ·exact .inr (Zhj hb)
 ·rcases hb with ⟨_,hb⟩ | hb
  ·exact ZlI hsat hb
  ·exact Nat.lt_of_lt_of_le (h.ok.kl _ _ (.inr hb)) m.size
 ·rw [ZcU h.ok.lC];exact h.ok.pay
 ·rw [ZcU h.ok.lW];exact h.ok.grp
 ·exact Nat.lt_of_lt_of_le h.ok.lC m.size
 ·exact Nat.lt_of_lt_of_le h.ok.lW m.size
 ·rw [Deaf_own,h.deaf0]
 ·rw [Deaf_other t (by omega) _ g_of_ofEvents,h.deafW k hk]
 ·obtain ⟨r,hr⟩:=h.rel k hk hs
  exact ⟨r,hr.appOther g_of_ofEvents (by omega)⟩
 ·obtain ⟨b,h1,h2,h3,h4⟩:=h.shun l hl
  refine ⟨b,h1,Nat.lt_of_lt_of_le h2 m.size,by rw [ZcU h2];exact h3,?_⟩
  cases hm:B0'.mem b with
  | none=>rfl
  | some x=>
   rcases hK b (by rw [hm];rfl) with hx | ⟨_,hx⟩ | hx
   ·rw [h4] at hx;cases hx
   ·rw [h3] at hx;cases hx
   ·omega
end
end Go.BL
namespace Go.BL
open Go.Conc Go.ConcN
open Go.ConcR (KK wgBlock WgAt stA smA rd wr mk Payload g_of_ofEvents Bk bk_of_mute ofEvent_loc_mark ofEvent_cell ofEvent_mk deafBehind_cons deafBehind_one again_blocked DC0)
theorem Zeh {g:Nat} {fn:FuncId} {pos:String} {es:Array Event} {op:MemOp} (h:op∈MemOp.ofEvents g fn pos es) :∃e∈es,op = { g,fn,pos,act:=.ofEvent e }:=by
 rw [ofEvents_eq] at h
 obtain ⟨e,he,rfl⟩:=Array.mem_map.1 h
 exact ⟨e,he,rfl⟩
section
variable {T0 n0 j C Wg hs:Nat} {ow:Nat→Ow} {KB:Nat→Nat→Prop} {Shun:Loc→Prop} {t u:Trace} {g:Nat}
theorem TL.mute (h:TL T0 n0 j C Wg hs ow KB Shun t) (hg:g<n0+j) (hu :∀op∈u,op.g=g∧op.act.touch? = none∧op.act≠.mark (.release (stA Wg))):TL T0 n0 j C Wg hs ow KB Shun (t ++ u):=by
 have no :∀op∈u,∀b,op.act.touch? = some b→False:=fun op hop b hb=>by rw [(hu op hop).2.1] at hb;cases hb
 have old :∀{i:Nat} {a:Touch},touchAt (t ++ u) i=some a→touchAt t i=some a∧i<t.size:=by
  intro i a ha
  obtain ⟨z,hz,hza⟩:=touch_of ha
  rcases getElem?_append_cases hz with ⟨hi,hz'⟩ | ⟨_,hzu⟩
  ·exact ⟨by rw [touchAt_of hz'];exact hza,hi⟩
  ·exact (no z hzu a hza).elim
 refine ⟨fun said=>noRace_append (h.nr said) (fun op hop=>(hu op hop).1) fun i a _ op hop b hb _=>(no op hop b hb).elim,fun op hop=>(Array.mem_append.1 hop).elim (h.low op) fun x y b hy _=>(no op x y hy).elim,fun g' b hb l hl=>(h.own g' b hb l hl).app fun op hop b hb _=>(no op hop b hb).elim,
  fun g' b hb l hl=>(h.rd g' b hb l hl).app fun op hop b hb _ _=>(no op hop b hb).elim,fun i=>(h.pay i).app fun op hop b hb _=>(no op hop b hb).elim,h.quiet.app fun op hop b hb _=>(no op hop b hb).elim,fun i a ha hm hnw=>?_,fun i g' hg' hne hnw hc=>?_,fun i k a hk hgi ha hm=>?_,
  fun i hi e=>?_,by rw [Array.size_append];have:=h.t0;omega,fun i op hi hop=>?_,fun op hop=>(Array.mem_append.1 hop).elim (h.gs op) fun x=>by rw [(hu op x).1];exact hg⟩
 ·obtain ⟨ha',hi⟩:=old ha
  refine (h.past i a ha' hm fun k hk' e=>hnw k hk' ?_).imp (·.app _) id
  rw [g?_old hi];exact e
 ·have hcl:=hc
  obtain ⟨z,hz,_⟩:=hc
  obtain ⟨_,hi⟩:=old hz
  obtain ⟨q,h1,h2⟩:=h.over i g' (by rw [← g?_old (u:=u) hi];exact hg') hne hnw ((counts_old hi).1 hcl)
  have hq:q<t.size:=by
   obtain ⟨z,hz,_⟩:=Option.map_eq_some_iff.1 h1
   exact lt_size_of_getElem? hz
  exact ⟨q,by rw [g?_old hq];exact h1,hb_app _ h2⟩
 ·obtain ⟨ha',hi⟩:=old ha
  rw [g?_old hi] at hgi
  exact h.wk i k a hk hgi ha' hm
 ·obtain ⟨op,ho,hoa⟩:=Option.map_eq_some_iff.1 e
  rcases getElem?_append_cases ho with ⟨hlt,ho'⟩ | ⟨_,hop⟩
  ·exact h.norel i hi (by simp [Trace.act?,ho',hoa])
  ·exact (hu op hop).2.2 hoa
 ·rcases getElem?_append_cases hop with ⟨_,ho'⟩ | ⟨hge,_⟩
  ·exact h.early i op hi ho'
  ·have:=h.t0;omega
end
variable [Payload]
section
variable {P:Program} {ty:TypeId} {Wg C n n0 T0:Nat} {val:Nat→Value} {W:World} {Shun:Loc→Prop} {j:Nat} {gs:Array Goroutine} {w w':World} {t:Trace} {o:Oth} {ow:Nat→Ow} {a:Goroutine} {B0:Kn} {L0:Cells} {d0:Nat} {i:Nat} {g g':Goroutine}
theorem Mv.sat_at {B:Kn} {L:Cells} {d:Nat} (s:Sat B L w):Sat B L (w.at d):=⟨s.ro,s.own,s.nodup,s.apart⟩
theorem PInv.at (h:PInv P ty Wg C n n0 T0 val W Shun j gs w t o ow a B0 L0 d0) (d:Nat):PInv P ty Wg C n n0 T0 val W Shun j gs (w.at d) t o ow a B0 L0 d0:=
 ⟨h.npos,h.size,h.g0,h.old,fun k hk=>by
  obtain ⟨x,hx,hs⟩:=h.wk k hk
  refine ⟨x,hx,?_⟩
  rcases hs with ⟨h1,h2,h3,h4,h5⟩ | ⟨h1,h2⟩
  ·exact .inl ⟨h1,h2,h3,h4,Mv.sat_at h5⟩
  ·exact .inr ⟨h1,h2.rely (RW.at w d)⟩,Mv.sat_at h.sat,h.o0,h.oL,h.lowL,h.lowO,h.lowC,h.lowW,h.tl,h.ok,h.deaf0,h.deafW,h.rel,h.has,h.pay,h.shun,⟨h.kw.same,h.kw.size,h.kw.tape,h.kw.os,h.kw.output⟩⟩
theorem PInv.cw (h:PInv P ty Wg C n n0 T0 val W Shun j gs w t o ow a B0 L0 d0):C≠Wg:=fun e=>by
 have h1:=h.ok.pay
 rw [e,h.ok.grp] at h1;cases h1
theorem PInv.wgB (h:PInv P ty Wg C n n0 T0 val W Shun j gs w t o ow a B0 L0 d0) {b:Nat} (hb:(B0.mem b).isSome=true):b≠Wg:=fun e=>by
 rcases h.kb0 hb with h1 | h1 <;> (rw [e,h.ok.grp] at h1;cases h1)
theorem PInv.cB (h:PInv P ty Wg C n n0 T0 val W Shun j gs w t o ow a B0 L0 d0) {b:Nat} (hb:(B0.mem b).isSome=true):b≠C:=fun e=>by
 rcases h.kb0 hb with h1 | h1 <;> (rw [e,h.ok.pay] at h1;cases h1)
theorem PInv.wgL (h:PInv P ty Wg C n n0 T0 val W Shun j gs w t o ow a B0 L0 d0) {p:Nat × Obj} (hp:p∈L0):p.1≠Wg:=fun e=>by
 have h1:=h.o0 p hp
 rw [e,h.ok.grp] at h1;cases h1
theorem PInv.cL (h:PInv P ty Wg C n n0 T0 val W Shun j gs w t o ow a B0 L0 d0) {p:Nat × Obj} (hp:p∈L0):p.1≠C:=fun e=>by
 have h1:=h.o0 p hp
 rw [e,h.ok.pay] at h1;cases h1
theorem PInv.othW (h:PInv P ty Wg C n n0 T0 val W Shun j gs w t o ow a B0 L0 d0) {k:Nat} (hk:k<j) (h8:(o.D k).stage=8):(∀b,((o.K k).mem b).isSome=true→¬ b=Wg)∧∀p,p∈o.L k→¬ p.1=Wg:=
 ⟨fun b hb e=>by rcases h.kbW hk h8 hb with h1 | h1 <;> (rw [e,h.ok.grp] at h1;cases h1),fun p hp e=>by have h1:=h.oL k hk h8 p hp;rw [e,h.ok.grp] at h1;cases h1⟩
theorem PInv.othC (h:PInv P ty Wg C n n0 T0 val W Shun j gs w t o ow a B0 L0 d0) {k:Nat} (hk:k<j) (h8:(o.D k).stage=8):(∀b,((o.K k).mem b).isSome=true→¬ b=C)∧∀p,p∈o.L k→¬ p.1=C:=
 ⟨fun b hb e=>by rcases h.kbW hk h8 hb with h1 | h1 <;> (rw [e,h.ok.pay] at h1;cases h1),fun p hp e=>by have h1:=h.oL k hk h8 p hp;rw [e,h.ok.pay] at h1;cases h1⟩
theorem PInv.leaver (h:PInv P ty Wg C n n0 T0 val W Shun j gs w t o ow a B0 L0 d0) {x k:Nat} (hx0:0<x) (hxn:x<n0) (hg:gs[x]? = some g) {es:Array Event} (hm :∀e∈es,e.mute=true) (hq:QuitsD P k (deafBehind (Deaf t x) es) g') :
  PInv P ty Wg C n n0 T0 val W Shun j ((gs.map (woken P g g' w)).setIfInBounds x g') w (t ++ MemOp.ofEvents x g.frame.fn g.frame.place es) ⟨o.D,o.τ,o.K,o.L,upd o.q x k⟩ ow (woken P g g' w a) B0 L0 d0:=by
 have hn:=h.npos
 have hmu :∀op∈MemOp.ofEvents x g.frame.fn g.frame.place es,op.g=x∧op.act.touch? = none∧op.act≠.mark (.release (stA Wg)):=fun op hop=>by
  obtain ⟨e,he,rfl⟩:=Zeh hop
  refine ⟨rfl,touch_mute (hm e he),fun eq=>?_⟩
  have hme:=hm e he
  obtain ⟨loc,wrt,sy⟩:=e
  cases loc <;> simp [Event.mute] at hme
  rename_i m
  cases m <;> simp [Event.mute] at hme <;> (simp [MemAct.ofEvent] at eq)
 refine ⟨hn,by simp [h.size],?_,fun y gy h0 hy hgy=>?_,fun k' hk=>?_,h.sat,h.o0,h.oL,h.lowL,h.lowO,h.lowC,h.lowW,h.tl.mute (by omega) hmu,h.ok,?_,fun k' hk=>?_,fun k' hk hs=>?_,h.has,h.pay,h.shun,h.kw⟩
 ·rw [get_map_set _ _ _ _ (by omega),h.g0];rfl
 ·by_cases e:x=y
  ·subst e
   rw [get_map_set_same _ _ _ (by rw [h.size];omega)] at hgy
   cases hgy
   rw [Deaf_own]
   simp only [upd_same]
   exact hq
  ·rw [get_map_set _ _ _ _ e] at hgy
   obtain ⟨z,hz,rfl⟩:=Option.map_eq_some_iff.1 hgy
   have hqz:=h.old y z h0 hy hz
   rw [woken_quitsD hqz,Deaf_other t e _ g_of_ofEvents]
   simp only [upd_ne _ _ (Ne.symm e)]
   exact hqz
 ·obtain ⟨z,hz,hs⟩:=h.wk k' hk
  exact ⟨z,by rw [get_map_set _ _ _ _ (by omega),hz,Option.map_some,hs.woken],hs⟩
 ·rw [Deaf_other t (by omega) _ g_of_ofEvents,h.deaf0]
 ·rw [Deaf_other t (by omega) _ g_of_ofEvents,h.deafW k' hk]
 ·obtain ⟨r,hr⟩:=h.rel k' hk hs
  exact ⟨r,hr.appOther g_of_ofEvents (by omega)⟩
theorem PInv.fork (h:PInv P ty Wg C n n0 T0 val W Shun j gs w t o ow a B0 L0 0) {a' child:Goroutine} {x y:MemOp} {τ:Tr} (hx:x.g=0∧x.act = .go (n0+j)) (hy:y.g=n0+j∧y.act = .start) (hc:ZmA P ty Wg C n j (val j) τ child B0 []) :
∃ow',PInv P ty Wg C n n0 T0 val W Shun (j+1) ((gs.setIfInBounds 0 a').push child) w (t ++ #[x,y]) (o.up j ⟨8,0,0⟩ τ B0 []) ow' a' B0 L0 0:=by
 classical
 have hn:=h.npos
 have hm :∀op∈#[x,y],op=x∨op=y:=by intro op hop;simpa using hop
 have hst :∀op∈#[x,y],op.act≠.mark .disable∧op.act≠.mark .enable:=by
  intro op hop
  rcases hm op hop with rfl | rfl
  ·rw [hx.2];exact ⟨by simp,by simp⟩
  ·rw [hy.2];exact ⟨by simp,by simp⟩
 let ow':Nat→Ow:=fun b=>if (B0.mem b).isSome=true∧ow b = .own 0 then .free else ow b
 have owx :∀b x,ow' b = .own x→ow b = .own x:=fun b x hb=>by
  simp only [ow'] at hb
  split at hb
  ·cases hb
  ·exact hb
 have owl :∀b x,ow b = .own x→¬ (x=0∧(B0.mem b).isSome=true)→ow' b = .own x:=fun b x hb hne=>by
  simp only [ow']
  rw [if_neg (fun hc=>hne ⟨by rw [hc.2] at hb;cases hb;rfl,hc.1⟩)]
  exact hb
 have owf :∀b,ow b = .free→ow' b = .free:=fun b hb=>by
  simp only [ow']
  split
  ·rfl
  ·exact hb
 have owB :∀b,(B0.mem b).isSome=true→ow' b = .free:=fun b hb=>by
  rcases h.kb0 hb with h1 | h1
  ·exact owf b h1
  ·simp only [ow'];rw [if_pos ⟨hb,h1⟩]
 have up_old :∀{k},k<j→(o.up j ⟨8,0,0⟩ τ B0 []).D k=o.D k∧(o.up j ⟨8,0,0⟩ τ B0 []).τ k=o.τ k∧(o.up j ⟨8,0,0⟩ τ B0 []).K k=o.K k∧(o.up j ⟨8,0,0⟩ τ B0 []).L k=o.L k:=fun {k} hk=>by
  simp only [Oth.up,upd_ne _ _ (show k≠j by omega),and_self]
 have up_new:(o.up j ⟨8,0,0⟩ τ B0 []).D j=⟨8,0,0⟩∧(o.up j ⟨8,0,0⟩ τ B0 []).τ j=τ∧(o.up j ⟨8,0,0⟩ τ B0 []).K j=B0∧(o.up j ⟨8,0,0⟩ τ B0 []).L j=[]:=by
  simp only [Oth.up,upd_same,and_self]
 have kbx :∀x b,KB n0 (j+1) (o.up j ⟨8,0,0⟩ τ B0 []) B0 x b→KB n0 j o B0 x b∨(x=n0+j∧KB n0 j o B0 0 b):=fun x b hb=>by
  rcases hb with hb | ⟨k,hk,rfl,h8,hb⟩
  ·exact .inl (.inl hb)
  ·rcases Nat.lt_or_ge k j with hlt | hge
   ·rw [(up_old hlt).1] at h8
    rw [(up_old hlt).2.2.1] at hb
    exact .inl (.inr ⟨k,hlt,rfl,h8,hb⟩)
   ·obtain rfl:k=j:=by omega
    rw [up_new.2.2.1] at hb
    exact .inr ⟨rfl,.inl ⟨rfl,hb⟩⟩
 refine ⟨ow',hn,by simp [h.size];omega,?_,fun z gz h0 hz hgz=>?_,fun k hk=>?_,h.sat,fun p hp=>owl _ _ (h.o0 p hp) (fun hc=>by rw [h.sat.apart p hp] at hc;cases hc.2),fun k hk h8 p hp=>?_,h.lowL,fun k hk h8 p hp=>?_,h.lowC,h.lowW,h.tl.fork hn h.ok hx hy h.deaf0 owx kbx,⟨fun x b hb=>?_,fun x b hb=>?_,?_,?_,h.ok.lC,h.ok.lW⟩,by rw [Deaf_still t 0 _ hst,h.deaf0],fun k hk=>?_,fun k hk hs=>?_,fun k hk hs=>?_,h.pay,fun l hl=>?_,h.kw⟩
 ·rw [Array.getElem?_push,if_neg (by simp [h.size];omega),Array.getElem?_setIfInBounds_self_of_lt (by rw [h.size];omega)]
 ·have hz':z<(gs.setIfInBounds 0 a').size:=by simp [h.size];omega
  rw [Array.getElem?_push_lt hz',← Array.getElem?_eq_getElem,Array.getElem?_setIfInBounds_ne (by omega)] at hgz
  have:=h.old z gz h0 hz hgz
  rw [Deaf_still t z _ hst]
  exact this
 ·rcases Nat.lt_or_ge k j with hlt | hge
  ·obtain ⟨z,hz,hs⟩:=h.wk k hlt
   refine ⟨z,?_,by rw [(up_old hlt).1,(up_old hlt).2.1,(up_old hlt).2.2.1,(up_old hlt).2.2.2];exact hs⟩
   have hz':n0+k<(gs.setIfInBounds 0 a').size:=by simp [h.size];omega
   rw [Array.getElem?_push_lt hz',← Array.getElem?_eq_getElem,Array.getElem?_setIfInBounds_ne (by omega)]
   exact hz
  ·obtain rfl:k=j:=by omega
   refine ⟨child,?_,.inl ⟨by rw [up_new.1],by rw [up_new.1],by rw [up_new.1],by rw [up_new.2.1,up_new.2.2.1,up_new.2.2.2];exact hc,?_⟩⟩
   ·rw [Array.getElem?_push,if_pos (by simp [h.size])]
   ·rw [up_new.2.2.1,up_new.2.2.2]
    exact ⟨h.sat.ro,(fun _ hp=>by cases hp),by simp,(fun _ hp=>by cases hp)⟩
 ·rcases Nat.lt_or_ge k j with hlt | hge
  ·rw [(up_old hlt).1] at h8
   rw [(up_old hlt).2.2.2] at hp
   exact owl _ _ (h.oL k hlt h8 p hp) (fun hc=>by omega)
  ·obtain rfl:k=j:=by omega
   rw [up_new.2.2.2] at hp;cases hp
 ·rcases Nat.lt_or_ge k j with hlt | hge
  ·rw [(up_old hlt).1] at h8
   rw [(up_old hlt).2.2.2] at hp
   exact h.lowO k hlt h8 p hp
  ·obtain rfl:k=j:=by omega
   rw [up_new.2.2.2] at hp;cases hp
 ·rcases kbx x b hb with hb' | ⟨rfl,hb'⟩
  ·rcases h.ok.kb _ _ hb' with h1 | h1
   ·exact .inl (owf b h1)
   ·by_cases hc:x=0∧(B0.mem b).isSome=true
    ·exact .inl (owB b hc.2)
    ·exact .inr (owl b x h1 hc)
  ·rcases hb' with ⟨_,hb'⟩ | ⟨k,_,e,_⟩
   ·exact .inl (owB b hb')
   ·omega
 ·rcases kbx x b hb with hb' | ⟨_,hb'⟩
  ·exact h.ok.kl _ _ hb'
  ·exact h.ok.kl _ _ hb'
 ·simp only [ow']
  rw [if_neg (fun hc=>by rw [h.ok.pay] at hc;cases hc.2)];exact h.ok.pay
 ·simp only [ow']
  rw [if_neg (fun hc=>by rw [h.ok.grp] at hc;cases hc.2)];exact h.ok.grp
 ·rw [Deaf_still t _ _ hst]
  rcases Nat.lt_or_ge k j with hlt | hge
  ·rw [(up_old hlt).1];exact h.deafW k hlt
  ·obtain rfl:k=j:=by omega
   rw [up_new.1]
   exact Deaf_absent fun i op hi e=>by have:=h.tl.gs op (Array.mem_of_getElem? hi);omega
 ·rcases Nat.lt_or_ge k j with hlt | hge
  ·rw [(up_old hlt).1] at hs
   obtain ⟨r,hr⟩:=h.rel k hlt hs
   exact ⟨r,hr.appNot fun op hop=>by
    rcases hm op hop with rfl | rfl
    ·rw [hx.1];omega
    ·rw [hy.1];omega⟩
  ·obtain rfl:k=j:=by omega
   rw [up_new.1] at hs
   exact absurd hs (by decide)
 ·rcases Nat.lt_or_ge k j with hlt | hge
  ·rw [(up_old hlt).1] at hs
   exact h.has k hlt hs
  ·obtain rfl:k=j:=by omega
   rw [up_new.1] at hs
   exact absurd hs (by decide)
 ·obtain ⟨b,h1,h2,h3,h4⟩:=h.shun l hl
  exact ⟨b,h1,h2,owf b h3,h4⟩
end
end Go.BL
namespace Go.BL
open Go.Conc Go.ConcN
open Go.ConcR (KK wgBlock WgAt stA smA rd wr mk Payload g_of_ofEvents Bk bk_of_mute ofEvent_loc_mark ofEvent_cell ofEvent_mk deafBehind_cons deafBehind_one again_blocked DC0)
def ZwJ (d:WD):WD:=⟨min d.stage 7,d.fuel,d.deaf⟩
def cap (D:Nat→WD):Nat→WD:=fun i=>ZwJ (D i)
theorem ZiF (D:Nat→WD) (i:Nat) (d:WD):cap (upd D i d)=upd (cap D) i (ZwJ d):=by
 funext k
 by_cases e:k=i
 ·subst e;simp [cap,upd]
 ·simp [cap,upd,e]
theorem ZnP {d:WD} (h:d.stage≤7):ZwJ d=d:=by
 obtain ⟨s,f,x⟩:=d
 simp only at h
 simp [ZwJ,Nat.min_eq_left h]
theorem Zml {D:Nat→WD} {i:Nat} (h:(D i).stage≤7):cap D i=D i:=ZnP h
section mu
variable {o:Oth} {n0 j i x f f':Nat} {d:WD} {τ:Tr} {K:Kn} {L:Cells}
theorem ZmX (hi:i<j):Ssum j (o.up i d τ K L).D+(o.D i).stage=Ssum j o.D+d.stage:=sumTo_upd o.D d WD.stage hi
theorem Zx5 (hi:i<j):Fsum j (o.up i d τ K L).D+(o.D i).fuel=Fsum j o.D+d.fuel:=sumTo_upd o.D d WD.fuel hi
theorem ZjZ (hi:i<j) (h:d.stage<(o.D i).stage):ZwO ((o.up i d τ K L).mu n0 j f') (o.mu n0 j f):=by
 have:=ZmX (o:=o) (d:=d) (τ:=τ) (K:=K) (L:=L) hi
 exact Prod.Lex.left _ _ (by omega)
theorem ZuR {a a':Nat} {b b':List Tr} {c c':Nat} (h:a'=a) (h':Prod.Lex LStep (· < ·) (b',c') (b,c)):ZwO (a',b',c') (a,b,c):=by subst h;exact Prod.Lex.right _ h'
theorem ZxI {α:Type} (τs:Nat→α) (y:α) {i j:Nat} (hi:i<j):(List.range j).map (upd τs i y)=((List.range j).map τs).set i y:=by
 apply List.ext_getElem?
 intro k
 rw [List.getElem?_set]
 by_cases hk:k<j
 ·simp only [List.getElem?_map,List.getElem?_range hk,Option.map_some,List.length_map,List.length_range]
  by_cases e:i=k
  ·subst e;simp [upd_same,hi]
  ·simp [e,upd_ne τs y (Ne.symm e)]
 ·have h1:((List.range j).map (upd τs i y))[k]? = none:=by simp;omega
  have h2:((List.range j).map τs)[k]? = none:=by simp;omega
  rw [h1,h2,if_neg (by omega)]
theorem ZxG (hi:i<j) (hs:d.stage=(o.D i).stage) {F:World→Tr} (hτ:o.τ i = .node F) (w:World):ZwO ((o.up i d (F w) K L).mu n0 j f') (o.mu n0 j f):=by
 have:=ZmX (o:=o) (d:=d) (τ:=F w) (K:=K) (L:=L) hi
 refine ZuR (by omega) (Prod.Lex.left _ _ ⟨i,F,w,?_,?_⟩)
 ·simp [List.getElem?_range hi,hτ]
 ·exact ZxI o.τ (F w) hi
theorem ZrM (hi:i<j) (hs:d.stage=(o.D i).stage) (hf:d.fuel+1=(o.D i).fuel) (hff:f'≤f+1):ZwO ((o.up i d (o.τ i) K L).mu n0 j f') (o.mu n0 j f):=by
 have h1:=ZmX (o:=o) (d:=d) (τ:=o.τ i) (K:=K) (L:=L) hi
 have h2:=Zx5 (o:=o) (d:=d) (τ:=o.τ i) (K:=K) (L:=L) hi
 have e:(List.range j).map (o.up i d (o.τ i) K L).τ=(List.range j).map o.τ:=by
  have e0:(o.up i d (o.τ i) K L).τ=o.τ:=by
   funext k
   show upd o.τ i (o.τ i) k=o.τ k
   by_cases ek:k=i
   ·subst ek;exact upd_same _ _ _
   ·exact upd_ne _ _ ek
  rw [e0]
 refine ZuR (by omega) ?_
 rw [e]
 refine Prod.Lex.right _ ?_
 show f'+2*(Fsum j (o.up i d (o.τ i) K L).D+sumTo n0 o.q)<f+2*(Fsum j o.D+sumTo n0 o.q)
 omega
theorem ZrL {k:Nat} (hx:x<n0) (hk:k+1=o.q x) (hff:f'≤f+1):ZwO ((⟨o.D,o.τ,o.K,o.L,upd o.q x k⟩:Oth).mu n0 j f') (o.mu n0 j f):=by
 have h2:=sumTo_upd o.q k id hx
 simp only [id_eq] at h2
 refine ZuR rfl (Prod.Lex.right _ ?_)
 show f'+2*(Fsum j o.D+sumTo n0 (upd o.q x k))<f+2*(Fsum j o.D+sumTo n0 o.q)
 have h3:(sumTo n0 fun a=>upd o.q x k a)=sumTo n0 (upd o.q x k):=rfl
 have h4:(sumTo n0 fun a=>o.q a)=sumTo n0 o.q:=rfl
 omega
end mu
def bit:CTag→Nat
 | .blk=>0
 | _=>1
def Stand (tag:CTag) (a0 a:Goroutine):Prop:=a0.status = .running∧((tag≠.blk∧a=a0)∨(tag = .blk∧a0.offers=none∧a = { a0 with status:=.blocked }))
theorem Stand.wokenBy {P:Program} {tag:CTag} {a0 a:Goroutine} (h:Stand tag a0 a) (g g':Goroutine) (w':World) :
∃tag',Stand tag' a0 (woken P g g' w' a)∧(tag'=tag∨(tag = .blk∧tag' = .w3))∧bit tag'≤bit tag+1∧(mayWake P g=true→g'.status = .running→tag'≠.blk):=by
 obtain ⟨hr,⟨hne,rfl⟩ | ⟨rfl,ho,rfl⟩⟩:=h
 ·refine ⟨tag,⟨hr,.inl ⟨hne,woken_run hr⟩⟩,.inl rfl,by omega,fun _ _=>hne⟩
 ·by_cases hc:(mayWake P g && g'.status != .blocked && g'.status != .waiting)=true
  ·refine ⟨.w3,⟨hr,.inl ⟨by simp,?_⟩⟩,.inr ⟨rfl,rfl⟩,by simp [bit],fun _ _=>by simp⟩
   unfold Go.Conc.woken
   rw [if_pos hc,again_blocked hr ho]
  ·refine ⟨.blk,⟨hr,.inr ⟨rfl,ho,?_⟩⟩,.inl rfl,by simp,fun h1 h2=>absurd (by simp [h1,h2]) hc⟩
   unfold Go.Conc.woken
   rw [if_neg hc]
variable [Payload]
section
variable (P:Program) (ty:TypeId) (Wg C n n0 T0:Nat) (val:Nat→Value) (W:World) (Shun:Loc→Prop)
def St (tag:CTag) (j:Nat) (gs:Array Goroutine) (w:World) (t:Trace) (o:Oth) (a:Goroutine) (B0:Kn) (L0:Cells) (d0:Nat):Prop:=
∃ow st sm,PInv P ty Wg C n n0 T0 val W Shun j gs w t o ow a B0 L0 d0∧WgAt ty Wg w st sm∧ConcN.Mode j (cap o.D) tag st sm
def Leads (tag:CTag) (j:Nat) (gs:Array Goroutine) (w:World) (sl:Option (Nat × Nat)) (t:Trace) (o:Oth) (a0:Goroutine) (B0:Kn) (L0:Cells) (d0 x:Nat):Prop:=
∃gs' w' ops o' a' tag',runT P (crowd gs w sl) x=(.next (crowd gs' w' sl),ops)∧ZwO (o'.mu n0 j (bit tag')) (o.mu n0 j (bit tag))∧St P ty Wg C n n0 T0 val W Shun tag' j gs' w' (t ++ ops) o' a' B0 L0 d0∧Stand tag' a0 a'∧(tag'=tag∨(tag = .blk∧tag' = .w3))
end
section
variable {P:Program} {ty:TypeId} {Wg C n n0 T0:Nat} {val:Nat→Value} {W:World} {Shun:Loc→Prop} {j:Nat} {gs:Array Goroutine} {w w':World} {sl:Option (Nat × Nat)} {t:Trace} {o:Oth} {ow ow':Nat→Ow} {a a0:Goroutine} {B0:Kn} {L0:Cells} {d0:Nat} {i:Nat} {g g':Goroutine} {tag:CTag}
theorem wstep (hst:Stand tag a0 a) (hg:gs[n0+i]? = some g) (hpos:0<n0) {es:Array Event} (hgo:stepG P false g w = .go g' w' es) {d:WD} {τ:Tr} {K:Kn} {L:Cells}
  (hP:PInv P ty Wg C n n0 T0 val W Shun j ((gs.map (woken P g g' w')).setIfInBounds (n0+i) g') w' (t ++ MemOp.ofEvents (n0+i) g.frame.fn g.frame.place es) (o.up i d τ K L) ow' (woken P g g' w' a) B0 L0 d0)
  {st' sm':Int} (hwg:WgAt ty Wg w' st' sm') (hmode :∀tag',(tag'=tag∨(tag = .blk∧tag' = .w3))→(mayWake P g=true→g'.status = .running→tag'≠.blk)→ConcN.Mode j (cap (o.up i d τ K L).D) tag' st' sm')
  (hmu :∀f f',f'≤f+1→ZwO ((o.up i d τ K L).mu n0 j f') (o.mu n0 j f)):Leads P ty Wg C n n0 T0 val W Shun tag j gs w sl t o a0 B0 L0 d0 (n0+i):=by
 obtain ⟨tag',h1,h2,h3,h4⟩:=hst.wokenBy (P:=P) g g' w'
 have hrun:=runT_crowd_go (P:=P) (sl:=sl) (i:=n0+i) hg (by rw [show (n0+i == 0)=false by simp;omega];exact hgo)
 exact ⟨_,_,_,_,_,tag',hrun,hmu _ _ h3,⟨_,_,_,hP,hwg,hmode tag' h2 h4⟩,h1,h2⟩
theorem PInv.book (h:PInv P ty Wg C n n0 T0 val W Shun j gs w t o ow a B0 L0 d0) (hi:i<j) (hg:gs[n0+i]? = some g) {es:Array Event} (m:Mv (· = Wg) w w') (has:Aside Wg w w') (hwl:WgLive ty Wg w') (hbk :∀e∈es,Bk Wg e)
  {d:WD} (hd:d.stage≤7) (hws:WSit P ty Wg C n FF FF 0 (i+1) (val i) d.stage d.fuel d.deaf g' w') (hs6:(o.D i).stage≤6) (hdeaf:deafBehind (o.D i).deaf es=d.deaf)
  (hrel:d.stage≤6→∃r,RelBy (stA Wg) (t ++ MemOp.ofEvents (n0+i) g.frame.fn g.frame.place es) (n0+i) r) :
  PInv P ty Wg C n n0 T0 val W Shun j ((gs.map (woken P g g' w')).setIfInBounds (n0+i) g') w' (t ++ MemOp.ofEvents (n0+i) g.frame.fn g.frame.place es) (o.up i d (o.τ i) (o.K i) (o.L i)) (owN ow w.heap.size (n0+i)) (woken P g g' w' a) B0 L0 d0:=by
 have hC:w'.heap[C]? = w.heap[C]?:=has.block C h.cw
 refine h.stepW hi hg m (fun b e=>e ▸ h.lowW) (fun b hb=>h.wgB hb) (fun p hp=>h.wgL hp) (fun k hk _ h8=>h.othW hk h8) (fun k _ _=>RW.of_wg has hwl h.cw) (.inr ⟨hd,hws⟩) (fun h8=>by omega) (fun h8=>by omega) (fun op hop=>?_) (fun op hop=>?_) hdeaf hrel
  (fun _=>(cell_of_block hC i).trans (h.has i hi hs6)) (let ⟨cs,h1,h2⟩:=h.pay;⟨cs,hC.trans h1,h2⟩)
 ·obtain ⟨e,he,rfl⟩:=Zeh hop
  refine ⟨rfl,fun eq=>?_,fun x hx=>?_⟩
  ·rcases hbk e he with h1 | h1 | ⟨ad,wrt,rfl,_⟩
   ·rw [ofEvent_loc_mark h1] at eq;cases eq
   ·rw [ofEvent_loc_mark h1] at eq;cases eq
   ·rw [ofEvent_cell] at eq;cases eq
  ·rcases hbk e he with h1 | h1 | ⟨ad,wrt,rfl,had⟩
   ·rw [ofEvent_loc_mark h1] at hx;cases hx
   ·rw [ofEvent_loc_mark h1] at hx;cases hx
   ·rw [ofEvent_cell] at hx
    simp only [MemAct.touch?,Option.some.injEq] at hx
    subst hx
    exact .inr ⟨⟨ad,rfl,had⟩,by simp,by simp⟩
 ·obtain ⟨e,he,rfl⟩:=Zeh hop
  intro x b hx hb
  rcases hbk e he with h1 | h1 | ⟨ad,wrt,rfl,had⟩
  ·rw [ofEvent_loc_mark h1] at hx;cases hx
  ·rw [ofEvent_loc_mark h1] at hx;cases hx
  ·rw [ofEvent_cell] at hx
   simp only [MemAct.touch?,Option.some.injEq] at hx
   subst hx
   simp only [ZaX,Option.some.injEq] at hb
   rw [← hb,had]
   exact Nat.lt_of_lt_of_le h.ok.lW m.size
end
end Go.BL
namespace Go.BL
open Go.Conc Go.ConcN
open Go.ConcR (KK wgBlock WgAt stA smA rd wr mk Payload g_of_ofEvents Bk bk_of_mute ofEvent_loc_mark ofEvent_cell ofEvent_mk deafBehind_cons deafBehind_one again_blocked DC0)
theorem ZdK {e:Event} {m:Mark} (h:e.loc = .mark m) (hs:soft m=true):(MemAct.ofEvent e).touch? = none∧(∀a,MemAct.ofEvent e≠.mark (.release a))∧(∀B,(MemAct.ofEvent e).low B)∧e.loc≠.mark .disable∧e.loc≠.mark .enable:=by
 obtain ⟨loc,wrt,sy⟩:=e
 simp only at h
 subst h
 cases m <;> simp only [soft,Bool.false_eq_true] at hs <;> simp [MemAct.ofEvent,MemAct.touch?,MemAct.low]
theorem Zex {e:Event} {blk:Nat} (hs:e.sync=false) (hl:(∃a:Addr,a.block=blk∧e.loc = .cell a)∨e.loc = .obj blk):MemAct.ofEvent e = .access e∧(MemAct.ofEvent e).touch? = some ⟨e.loc,e.write,.plain⟩∧ZaX e.loc=some blk∧e.loc≠.mark .disable∧e.loc≠.mark .enable:=by
 obtain ⟨loc,wrt,sy⟩:=e
 simp only at hs hl
 subst hs
 rcases hl with ⟨a,ha,rfl⟩ | rfl
 ·subst ha;simp [MemAct.ofEvent,MemAct.touch?,ZaX]
 ·simp [MemAct.ofEvent,MemAct.touch?,ZaX]
theorem Zou {n0 j C Wg hs N:Nat} {ow:Nat→Ow} {KBf:Nat→Nat→Prop} {B:Kn} {L:Cells} {g:Nat} {fn:FuncId} {pos:String} {e:Event} (h:Ev hs N B L e) (hN:hs≤N) (hL :∀p,p∈L→ow p.1 = .own g∧p.1<hs) (hB :∀b,(B.mem b).isSome=true→KBf g b∧b<hs) :
  ZAY n0 j C Wg hs ow KBf g { g,fn,pos,act:=.ofEvent e }∧ZmE N { g,fn,pos,act:=.ofEvent e }∧e.loc≠.mark .disable∧e.loc≠.mark .enable:=by
 rcases h with ⟨m,hm,hsf⟩ | ⟨hsy,blk,hl,hx⟩
 ·obtain ⟨h1,h2,h3,h4,h5⟩:=ZdK hm hsf
  exact ⟨⟨rfl,h2 _,fun x hx=>by rw [h1] at hx;cases hx⟩,(fun x b hx=>by rw [h1] at hx;cases hx),h4,h5⟩
 ·obtain ⟨h1,h2,h3,h4,h5⟩:=Zex hsy hl
  have hblk:blk<N:=by
   rcases hx with ⟨o,ho⟩ | ⟨_,hb⟩ | ⟨_,hlt⟩
   ·exact Nat.lt_of_lt_of_le (hL _ ho).2 hN
   ·exact Nat.lt_of_lt_of_le (hB _ hb).2 hN
   ·exact hlt
  refine ⟨⟨rfl,by simp only [h1];exact fun e=>MemAct.noConfusion e,fun x hx'=>?_⟩,?_,h4,h5⟩
  ·simp only at hx'
   rw [h2] at hx'
   simp only [Option.some.injEq] at hx'
   subst hx'
   refine .inl ⟨rfl,.inl ⟨blk,h3,?_⟩⟩
   rcases hx with ⟨o,ho⟩ | ⟨hw,hb⟩ | ⟨hge,_⟩
   ·exact .inl (hL _ ho).1
   ·exact .inr (.inl ⟨hw,(hB _ hb).1⟩)
   ·exact .inr (.inr hge)
  ·intro x b hx' hb
   simp only at hx'
   rw [h2] at hx'
   simp only [Option.some.injEq] at hx'
   subst hx'
   rw [h3] at hb
   cases hb
   exact hblk
variable [Payload]
section
variable {P:Program} {ty:TypeId} {Wg C n n0 T0:Nat} {val:Nat→Value} {W:World} {Shun:Loc→Prop} {j:Nat} {gs:Array Goroutine} {w w':World} {sl:Option (Nat × Nat)} {t:Trace} {o:Oth} {ow ow':Nat→Ow} {a a0:Goroutine} {B0:Kn} {L0:Cells} {d0:Nat} {i:Nat} {g g':Goroutine} {tag:CTag} {st sm:Int}
theorem Zok {S:Nat→Prop} {k:Nat} (m:Mv S w w') (hC:C<w.heap.size∧¬ S C) (hW:Wg<w.heap.size∧¬ S Wg):RW ty Wg C n 0 k w w':=by
 have e1:=m.keep C hC.1 hC.2
 have e2:=m.keep Wg hW.1 hW.2
 exact ⟨fun b hb=>absurd hb (Nat.not_lt_zero b),fun ⟨st,sm,h⟩=>⟨st,sm,h.of_block e2⟩,fun ⟨cs,h1,h2⟩=>⟨cs,e1.trans h1,h2⟩,cell_of_block e1 k⟩
theorem Zqg {v:Value} (hp:PayAt C n w):AsideCell C n i w (w.setCell ⟨C,i,none⟩ v):=by
 have ha:=aside_setCell w ⟨C,i,none⟩ v
 obtain ⟨cs,h1,h2⟩:=hp
 have hset:(w.setCell ⟨C,i,none⟩ v).heap[C]? = some (.cells (cs.setIfInBounds i v) Payload.ety):=by
  simp [World.setCell,getElem?_modify',h1]
 refine ⟨ha.tape,ha.os,ha.output,ha.size,fun b hb=>ha.block b hb,fun _=>⟨_,hset,by simpa using h2⟩,fun k hk=>?_⟩
 simp [World.cell?,hset,h1,Ne.symm hk]
theorem Zvl {v:Value} (hp:PayAt C n w) (hi:i<n):Has C i v (w.setCell ⟨C,i,none⟩ v):=by
 obtain ⟨cs,h1,h2⟩:=hp
 have hset:(w.setCell ⟨C,i,none⟩ v).heap[C]? = some (.cells (cs.setIfInBounds i v) Payload.ety):=by
  simp [World.setCell,getElem?_modify',h1]
 simp [Has,World.cell?,hset,h2,hi]
theorem Zia {j:Nat} {D:Nat→WD} {d:WD} (h:ConcN.Mode j (cap D) tag st sm) (hs:(ZwJ d).stage=(cap D i).stage) {tag':CTag} (ht:tag'=tag∨(tag = .blk∧tag' = .w3)):ConcN.Mode j (cap (upd D i d)) tag' st sm:=by
 refine ConcN.Mode.retag (Mode.congr (D:=cap D) (fun k _=>?_) h) ht
 rw [ZiF]
 by_cases e:k=i
 ·subst e;rw [upd_same];exact hs
 ·rw [upd_ne _ _ e]
set_option maxHeartbeats 1000000 in
theorem Zqw (h:PInv P ty Wg C n n0 T0 val W Shun j gs w t o ow a B0 L0 d0) (hst:Stand tag a0 a) (hwg:WgAt ty Wg w st sm) (hmode:ConcN.Mode j (cap o.D) tag st sm) (hjn:j≤n) (hi:i<j) (hg:gs[n0+i]? = some g)
  (h8:(o.D i).stage=8) (hf:(o.D i).fuel=0) (hd:(o.D i).deaf=0) (hw:ZmA P ty Wg C n i (val i) (o.τ i) g (o.K i) (o.L i)) (hs:Sat (o.K i) (o.L i) w):Leads P ty Wg C n n0 T0 val W Shun tag j gs w sl t o a0 B0 L0 d0 (n0+i):=by
 have hn:=h.npos
 have hcap:(cap o.D i).stage=7:=by simp [cap,ZwJ,h8]
 cases hτ:o.τ i with
 | leaf=>
  rw [hτ] at hw
  obtain ⟨hrun,hw⟩:=hw
  obtain ⟨g',hgo,hnext⟩:=hw w hs h.pay
  have hac:=Zqg (i:=i) (v:=val i) h.pay
  have hhas:=Zvl (i:=i) (v:=val i) h.pay (by omega)
  have hwg':WgAt ty Wg (w.setCell ⟨C,i,none⟩ (val i)) st sm:=hwg.of_block (hac.block Wg (Ne.symm h.cw))
  obtain ⟨m,hG⟩:=hnext _ ⟨_,_,hwg'⟩ hhas
  refine wstep (ow':=owN ow w.heap.size (n0+i)) (d:=⟨7,m,0⟩) (τ:=.leaf) (K:=o.K i) (L:=o.L i) hst hg hn hgo ?_ hwg' (fun tag' ht _=>Zia hmode (by rw [hcap];rfl) ht) (fun f f' _=>ZjZ hi (by rw [h8];show 7<8;omega))
  refine h.stepW hi hg (ZcH (a:=⟨C,i,none⟩)) (fun b e=>e ▸ h.lowC) (fun b hb=>h.cB hb) (fun p hp=>h.cL hp) (fun k hk _ h8=>h.othC hk h8) (fun k hk e=>RW.of_cell hac e h.cw) (.inr ⟨Nat.le_refl _,.r0 hG⟩) (fun e=>by cases e) (fun e=>by cases e) (fun op hop=>?_) (fun op hop=>?_) (by rw [hd];rfl) (fun e=>absurd (show 7≤6 from e) (by decide)) (fun e=>absurd (show 7≤6 from e) (by decide)) (hac.pay h.pay)
  ·obtain ⟨e,he,rfl⟩:=Zeh hop
   simp only [List.mem_toArray,List.mem_singleton] at he
   subst he
   refine ⟨rfl,(fun e=>by cases e),fun x hx=>?_⟩
   simp only [ofEvent_cell,MemAct.touch?,Option.some.injEq] at hx
   subst hx
   exact .inl ⟨rfl,.inr ⟨i,rfl,if_pos hi⟩⟩
  ·obtain ⟨e,he,rfl⟩:=Zeh hop
   simp only [List.mem_toArray,List.mem_singleton] at he
   subst he
   intro x b hx hb
   simp only [ofEvent_cell,MemAct.touch?,Option.some.injEq] at hx
   subst hx
   simp only [ZaX,Option.some.injEq] at hb
   rw [← hb,hac.size];exact h.ok.lC
 | node F=>
  rw [hτ] at hw
  obtain ⟨hrun,hw⟩:=hw
  obtain ⟨g',w',es,B',L',hgo,hev,hok,hw'⟩:=hw w hs
  have hLow :∀p,p∈o.L i→ow p.1 = .own (n0+i):=h.oL i hi h8
  have hS :∀b,(∃p,p∈o.L i∧p.1=b)→ow b = .own (n0+i):=fun b ⟨p,hp,e⟩=>e ▸ hLow p hp
  have nS :∀{b},ow b≠.own (n0+i)→¬∃p,p∈o.L i∧p.1=b:=fun hne hc=>hne (hS _ hc)
  have m:Mv (fun b=>∃p,p∈o.L i∧p.1=b) w w':=Mv.of_ok hok fun p hp=>⟨p,hp,rfl⟩
  have hC:C<w.heap.size∧¬∃p,p∈o.L i∧p.1=C:=⟨h.ok.lC,nS (by rw [h.ok.pay];exact fun e=>Ow.noConfusion e)⟩
  have hWg:Wg<w.heap.size∧¬∃p,p∈o.L i∧p.1=Wg:=⟨h.ok.lW,nS (by rw [h.ok.grp];exact fun e=>Ow.noConfusion e)⟩
  have hKb :∀b,((o.K i).mem b).isSome=true→KB n0 j o B0 (n0+i) b∧b<w.heap.size:=fun b hb=>⟨.inr ⟨i,hi,rfl,h8,hb⟩,ZlI hs hb⟩
  have hevs:=fun e he=>Zou (n0:=n0) (j:=j) (C:=C) (Wg:=Wg) (ow:=ow) (KBf:=KB n0 j o B0) (g:=n0+i) (fn:=g.frame.fn) (pos:=g.frame.place) (hev e he) m.size (fun p hp=>⟨hLow p hp,hs.ltL hp⟩) hKb
  refine wstep (ow':=owN ow w.heap.size (n0+i)) (d:=⟨8,0,0⟩) (τ:=F w) (K:=B') (L:=L') hst hg hn hgo ?_ (hwg.of_block (m.keep Wg hWg.1 hWg.2)) (fun tag' ht _=>Zia hmode (by rw [hcap];rfl) ht) (fun f f' _=>ZxG hi h8.symm hτ w)
  refine h.stepW hi hg m (fun b ⟨p,hp,e⟩=>e ▸ h.lowO i hi h8 p hp) (fun b hb=>nS fun e=>?_) (fun p hp=>nS fun e=>?_) (fun k hk hne hk8=>⟨fun b hb=>nS fun e=>?_,fun p hp=>nS fun e=>?_⟩) (fun k _ _=>Zok m hC hWg) (.inl ⟨rfl,rfl,rfl,hw',hok.sat⟩) (fun _ b hb=>⟨ZlI hok.sat hb,?_⟩) (fun _ p hp=>?_) (fun op hop=>?_) (fun op hop=>?_)
   (by rw [hd];exact deafBehind_idle (fun e he=>⟨(hevs e he).2.2.1,(hevs e he).2.2.2⟩) 0) (fun e=>absurd e (by decide)) (fun e=>absurd e (by decide)) (let ⟨cs,h1,h2⟩:=h.pay;⟨cs,(m.keep C hC.1 hC.2).trans h1,h2⟩)
  ·rcases h.kb0 hb with h1 | h1
   ·rw [e] at h1;cases h1
   ·rw [e] at h1
    simp only [Ow.own.injEq] at h1
    omega
  ·have h1:=h.o0 p hp
   rw [e] at h1
   simp only [Ow.own.injEq] at h1
   omega
  ·rcases h.kbW hk hk8 hb with h1 | h1
   ·rw [e] at h1;cases h1
   ·rw [e] at h1
    simp only [Ow.own.injEq] at h1
    omega
  ·have h1:=h.oL k hk hk8 p hp
   rw [e] at h1
   simp only [Ow.own.injEq] at h1
   omega
  ·obtain ⟨x,hx⟩:=Option.isSome_iff_exists.1 hb
   rcases hok.newB b x hx with h1 | ⟨p,hp,rfl⟩ | h1
   ·exact .inl (hKb b h1).1
   ·exact .inr (.inl ⟨hs.ltL hp,hLow p hp⟩)
   ·exact .inr (.inr h1)
  ·rcases hok.newL p hp with ⟨q,hq,e⟩ | h1
   ·exact ⟨e ▸ h.lowO i hi h8 q hq,.inl ⟨e ▸ hs.ltL hq,e ▸ hLow q hq⟩⟩
   ·exact ⟨Nat.le_trans h.kw.size h1,.inr h1⟩
  ·obtain ⟨e,he,rfl⟩:=Zeh hop
   exact (hevs e he).1
  ·obtain ⟨e,he,rfl⟩:=Zeh hop
   exact (hevs e he).2.1
end
end Go.BL
namespace Go.BL
open Go.Conc Go.ConcN
open Go.ConcR (KK wgBlock WgAt stA smA rd wr mk Payload g_of_ofEvents Bk bk_of_mute ofEvent_loc_mark ofEvent_cell ofEvent_mk deafBehind_cons deafBehind_one again_blocked DC0)
variable [Payload]
section
variable {P:Program} {ty:TypeId} {Wg C n n0 T0:Nat} {val:Nat→Value} {W:World} {Shun:Loc→Prop} {j:Nat} {gs:Array Goroutine} {w w':World} {sl:Option (Nat × Nat)} {t:Trace} {o:Oth} {ow ow':Nat→Ow} {a a0:Goroutine} {B0:Kn} {L0:Cells} {d0:Nat} {i:Nat} {g g':Goroutine} {tag:CTag} {st sm:Int}
theorem Zap (w:World) (S:Nat→Prop):Mv S w w:=⟨Nat.le_refl _,fun _ _ _=>rfl,rfl,rfl,rfl⟩
theorem Zdz (h:PInv P ty Wg C n n0 T0 val W Shun j gs w t o ow a B0 L0 d0) (hst:Stand tag a0 a) (hi:i<j) (hg:gs[n0+i]? = some g) (hs6:(o.D i).stage≤6) {es:Array Event} {d:WD} {st' sm':Int} (hgo:stepG P false g w = .go g' w' es)
  (m:Mv (· = Wg) w w') (has:Aside Wg w w') (hwg':WgAt ty Wg w' st' sm') (hbk :∀e∈es,Bk Wg e) (hdf :∀jx e,es[jx]? = some e→(MemAct.ofEvent e).touch? = none∨0<deafBehind (o.D i).deaf (es.extract 0 jx))
  (hd:d.stage≤6) (hws:WSit P ty Wg C n FF FF 0 (i+1) (val i) d.stage d.fuel d.deaf g' w') (hdeaf:deafBehind (o.D i).deaf es=d.deaf)
  (hmode :∀tag',(tag'=tag∨(tag = .blk∧tag' = .w3))→(mayWake P g=true→g'.status = .running→tag'≠.blk)→ConcN.Mode j (upd (cap o.D) i d) tag' st' sm')
  (hmu:d.stage<(o.D i).stage∨(d.stage=(o.D i).stage∧d.fuel+1=(o.D i).fuel)):Leads P ty Wg C n n0 T0 val W Shun tag j gs w sl t o a0 B0 L0 d0 (n0+i):=by
 have hP:=h.book hi hg m has ⟨_,_,hwg'⟩ hbk (by omega) hws hs6 hdeaf (fun _=>by
  obtain ⟨r,hr⟩:=h.rel i hi hs6
  exact ⟨r,hr.book (h.deafW i hi) _ _ hbk hdf⟩)
 refine wstep hst hg h.npos hgo hP hwg' (fun tag' ht hw=>?_) (fun f f' hff=>?_)
 ·have:=hmode tag' ht hw
  rw [show (o.up i d (o.τ i) (o.K i) (o.L i)).D=upd o.D i d from rfl,ZiF,ZnP (show d.stage≤7 by omega)]
  exact this
 ·rcases hmu with h1 | ⟨h1,h2⟩
  ·exact ZjZ hi h1
  ·exact ZrM hi h1 h2 hff
set_option maxHeartbeats 4000000 in
theorem Zup (h:PInv P ty Wg C n n0 T0 val W Shun j gs w t o ow a B0 L0 d0) (hst:Stand tag a0 a) (hwg:WgAt ty Wg w st sm) (hmode:ConcN.Mode j (cap o.D) tag st sm) (hn:n<2147483648) (hjn:j+pend tag≤n) (hi:i<j) (hg:gs[n0+i]? = some g)
  (hrun:g.status = .running) (h7:(o.D i).stage≤7) (hs:WSit P ty Wg C n FF FF 0 (i+1) (val i) (o.D i).stage (o.D i).fuel (o.D i).deaf g w):Leads P ty Wg C n n0 T0 val W Shun tag j gs w sl t o a0 B0 L0 d0 (n0+i):=by
 have hpos:=h.npos
 have hcs:cap o.D i=o.D i:=Zml h7
 have hVj:=Vc_le j (cap o.D)
 generalize hstg:(o.D i).stage=s at hs
 generalize hfu:(o.D i).fuel=m at hs
 generalize hde:(o.D i).deaf=dd at hs
 have hcst:(cap o.D i).stage=s:=by rw [hcs,hstg]
 have same :∀(m' dd':Nat) {tag'},(tag'=tag∨(tag = .blk∧tag' = .w3))→ConcN.Mode j (upd (cap o.D) i ⟨s,m',dd'⟩) tag' st sm:=fun m' dd' {tag'} ht=>by
  have:=hmode.same (i:=i) m' dd'
  rw [hcst] at this
  exact this.retag ht
 have idle :∀{g':Goroutine} {m':Nat},stepG P false g w = .go g' w #[]→WSit P ty Wg C n FF FF 0 (i+1) (val i) s m' dd g' w→m'+1=m→s≤6→Leads P ty Wg C n n0 T0 val W Shun tag j gs w sl t o a0 B0 L0 d0 (n0+i):=by
  intro g' m' hgo hs' hm h6
  exact Zdz (d:=⟨s,m',dd⟩) h hst hi hg (by omega) hgo (Zap w _) (.refl Wg w) hwg (by simp) (by simp) h6 hs' (by rw [hde];rfl) (fun tag' ht _=>same m' dd ht) (.inr ⟨hstg.symm,by rw [hfu];exact hm⟩)
 have nofree :∀{dd':Nat} (e:Event),(MemAct.ofEvent e).touch? = none→∀jx x,(#[e]:Array Event)[jx]? = some x→(MemAct.ofEvent x).touch? = none∨0<deafBehind dd' ((#[e]:Array Event).extract 0 jx):=by
  intro dd' e he jx x hx
  have:=Array.mem_of_getElem? hx
  simp only [List.mem_toArray,List.mem_singleton] at this
  subst this
  exact .inl he
 have one :∀{dd':Nat} (e:Event),0<dd'→∀jx x,(#[e]:Array Event)[jx]? = some x→(MemAct.ofEvent x).touch? = none∨0<deafBehind dd' ((#[e]:Array Event).extract 0 jx):=by
  intro dd' e hd jx x hx
  match jx,hx with
  | 0,_=>exact .inr (by simpa [deafBehind] using hd)
  | jx+1,hx=>simp at hx
 cases hs with
 | r0 hG=>
  rcases Goes.cases hG with hstop | ⟨m',rfl,hstep⟩
  ·obtain ⟨_,hhas,g',hgo,m₂,hk⟩:=hstop w (RW.refl w)
   refine wstep (ow':=owN ow w.heap.size (n0+i)) (d:=⟨6,m₂,0⟩) (τ:=o.τ i) (K:=o.K i) (L:=o.L i) hst hg hpos hgo ?_ hwg (fun tag' ht _=>?_) (fun f f' _=>ZjZ hi (by rw [hstg];show 6<7;omega))
   ·refine h.stepW (S:=fun _=>False) hi hg (Zap w _) (fun _ e=>e.elim) (fun _ _ e=>e) (fun _ _ e=>e) (fun _ _ _ _=>⟨fun _ _ e=>e,fun _ _ e=>e⟩) (fun _ _ _=>RW.refl w) (.inr ⟨Nat.le_of_ble_eq_true rfl,.k1 hk⟩) (fun e=>by cases e) (fun e=>by cases e) (fun op hop=>?_) (fun op hop=>?_) (by rw [hde];rfl)
     (fun _=>⟨t.size,RelBy.new (by rw [h.deafW i hi,hde]) _ _⟩) (fun _=>by simpa using hhas) h.pay
    ·obtain ⟨e,he,rfl⟩:=Zeh hop
     simp only [List.mem_toArray,List.mem_singleton] at he
     subst he
     refine ⟨rfl,fun e=>by simp [mk,MemAct.ofEvent] at e,fun x hx=>by simp [mk,MemAct.ofEvent,MemAct.touch?] at hx⟩
    ·obtain ⟨e,he,rfl⟩:=Zeh hop
     simp only [List.mem_toArray,List.mem_singleton] at he
     subst he
     intro x b hx;simp [mk,MemAct.ofEvent,MemAct.touch?] at hx
   ·rw [show (o.up i ⟨6,m₂,0⟩ (o.τ i) (o.K i) (o.L i)).D=upd o.D i ⟨6,m₂,0⟩ from rfl,ZiF,ZnP (Nat.le_of_ble_eq_true rfl)]
    exact (hmode.counted hi (by omega) (.inl rfl) _ _).retag ht
  ·obtain ⟨g',w',es,hgo,⟨hac,hev⟩,hg'⟩:=hstep w (RW.refl w)
   simp only [Nat.add_sub_cancel] at hac
   have hpay':=hac.pay h.pay
   refine wstep (ow':=owN ow w.heap.size (n0+i)) (d:=⟨7,m',0⟩) (τ:=o.τ i) (K:=o.K i) (L:=o.L i) hst hg hpos hgo ?_ (hwg.of_block (hac.block Wg (Ne.symm h.cw))) (fun tag' ht _=>?_) (fun f f' hff=>ZrM hi hstg.symm (by rw [hfu]) hff)
   ·refine h.stepW (S:=(· = C)) hi hg ⟨Nat.le_of_eq hac.size.symm,fun b _ hb=>hac.block b hb,hac.tape,hac.os,hac.output⟩ (fun b e=>e ▸ h.lowC) (fun b hb=>h.cB hb) (fun p hp=>h.cL hp) (fun k hk _ h8=>h.othC hk h8) (fun k _ e=>RW.of_cell hac e h.cw) (.inr ⟨Nat.le_refl _,.r0 hg'⟩) (fun e=>by cases e) (fun e=>by cases e) (fun op hop=>?_) (fun op hop=>?_)
     (by rw [hde];exact deafBehind_idle (fun e he=>⟨(hev e he).2.1,(hev e he).2.2.1⟩) 0) (fun e=>absurd (show 7≤6 from e) (by decide)) (fun e=>absurd (show 7≤6 from e) (by decide)) hpay'
    ·obtain ⟨e,he,rfl⟩:=Zeh hop
     refine ⟨rfl,fun eq=>(hev e he).2.2.2 (ConcR.loc_of_ofEvent eq),fun x hx=>?_⟩
     rcases ((hev e he).1 0 "").2 x hx with ⟨h1,h2,h3⟩ | h1 | ⟨h1,_⟩
     ·exact .inr ⟨h1,h2,fun e=>absurd e h3⟩
     ·exact h1.elim
     ·exact h1.elim
    ·obtain ⟨e,he,rfl⟩:=Zeh hop
     intro x b hx hb
     rcases ((hev e he).1 0 "").2 x hx with ⟨h1,_⟩ | h1 | ⟨h1,_⟩
     ·rw [Zes h1] at hb
      cases hb
      rw [hac.size];exact h.ok.lW
     ·exact h1.elim
     ·exact h1.elim
   ·exact Zia hmode (by rw [hcst];rfl) ht
 | k1 hG=>
  rcases Goes.cases hG with hstop | ⟨m',rfl,hstep⟩
  ·obtain ⟨_,g',hgo,m₂,hk⟩:=hstop w (RW.refl w)
   exact Zdz (d:=⟨5,m₂,1⟩) h hst hi hg (by omega) hgo (Zap w _) (.refl Wg w) hwg (by intro e he;simp at he;subst he;exact .inl rfl) (nofree _ rfl) (Nat.le_of_ble_eq_true rfl) (.d1 hk) (by rw [hde];rfl) (fun tag' ht _=>(hmode.counted hi (by omega) (.inr rfl) _ _).retag ht) (.inl (by rw [hstg];show 5<6;omega))
  ·obtain ⟨g',w',es,hgo,⟨rfl,rfl⟩,hg'⟩:=hstep w (RW.refl w)
   exact idle hgo (.k1 hg') rfl (by omega)
 | d1 hG=>
  rcases Goes.cases hG with hstop | ⟨m',rfl,hstep⟩
  ·obtain ⟨_,hall⟩:=hstop w (RW.refl w)
   have hc1:cnt (cap o.D i)=1:=by simp [cnt,hcst]
   have hV1:1≤Vc j (cap o.D):=by have:=le_sumTo (f:=fun x=>cnt (cap o.D x)) hi;simp only [Vc];omega
   have bk2 :∀e∈#[rd (stA Wg),wr (stA Wg)],Bk Wg e:=by intro e he;simp at he;rcases he with rfl | rfl <;> exact bk_cell _ _ rfl
   have df2 :∀jx e,(#[rd (stA Wg),wr (stA Wg)]:Array Event)[jx]? = some e→(MemAct.ofEvent e).touch? = none∨0<deafBehind (o.D i).deaf ((#[rd (stA Wg),wr (stA Wg)]:Array Event).extract 0 jx):=by
    rw [hde]
    intro jx e he
    match jx,he with
    | 0,_=>exact .inr (by simp [deafBehind])
    | 1,_=>exact .inr (by simp [deafBehind,rd])
    | jx+2,he=>simp at he
   have hdf:deafBehind (o.D i).deaf #[rd (stA Wg),wr (stA Wg)]=1:=by rw [hde];rfl
   have opq :∀q,OpenSt j (cap o.D)→OpenSt j (upd (cap o.D) i ⟨1,q,1⟩):=fun q h a ha=>by
    by_cases e:a=i
    ·subst e;rw [upd_same];simp
    ·rw [upd_ne _ _ e];exact h a ha
   have vq :∀q,Vc j (upd (cap o.D) i ⟨1,q,1⟩)+1=Vc j (cap o.D):=fun q=>by
    have:=Vc_upd (cap o.D) (⟨1,q,1⟩:WD) hi
    have c0:cnt (⟨1,q,1⟩:WD)=0:=rfl
    omega
   have go :∀{g':Goroutine} {v':Int} {d:WD},stepG P false g w = .go g' (w.setCell (stA Wg) (.int .u64 v')) #[rd (stA Wg),wr (stA Wg)]→d.stage≤4→d.deaf=1→WSit P ty Wg C n FF FF 0 (i+1) (val i) d.stage d.fuel 1 g' (w.setCell (stA Wg) (.int .u64 v'))→
     ConcN.Mode j (upd (cap o.D) i d) tag v' sm→Leads P ty Wg C n n0 T0 val W Shun tag j gs w sl t o a0 B0 L0 d0 (n0+i):=fun {g' v' d} hgo hd hdd hws hm=>
    Zdz (d:=d) h hst hi hg (by omega) hgo (ZcH (a:=stA Wg)) (aside_setCell w (stA Wg) _) (hwg.setSt v') bk2 df2 (by omega) (hdd ▸ hws) (by rw [hdf,hdd]) (fun tag' ht _=>hm.retag ht) (.inl (by rw [hstg];omega))
   cases hmode with
   | opn h1 h2 h3=>
    obtain ⟨v,hv⟩ :∃v,Vc j (cap o.D)+pend tag=v+1:=⟨Vc j (cap o.D)+pend tag - 1,by omega⟩
    rw [hv] at hwg
    have hw1:WgAt ty Wg w (((v:Nat)+1)*KK+((0:Nat):Int)) 0:=by simpa using hwg
    obtain ⟨g',hgo,_,hq⟩:=hall v 0 (by omega) (by omega) hw1
    obtain ⟨q,hq⟩:=hq (by omega)
    have hv':=vq q
    refine go (d:=⟨1,q,1⟩) hgo (Nat.le_of_ble_eq_true rfl) rfl (.quit hq) ?_
    have e:((v:Nat):Int)*KK+((0:Nat):Int)=((Vc j (upd (cap o.D) i ⟨1,q,1⟩)+pend tag:Nat):Int)*KK:=by
     rw [show Vc j (upd (cap o.D) i ⟨1,q,1⟩)+pend tag=v by omega];simp
    rw [e]
    exact .opn h1 (opq q h2) (fun vs ev=>by have:=h3 vs ev;omega)
   | reg h1 h2 h3=>
    obtain ⟨v,hv⟩ :∃v,Vc j (cap o.D)=v+1:=⟨Vc j (cap o.D) - 1,by omega⟩
    rw [hv] at hwg
    have hp:pend tag=0:=by cases tag <;> first | rfl | exact h1.elim
    have hw1:WgAt ty Wg w (((v:Nat)+1)*KK+((1:Nat):Int)) 0:=by simpa using hwg
    obtain ⟨g',hgo,hl,hq⟩:=hall v 1 (by omega) (by omega) hw1
    by_cases hv0:v=0
    ·subst hv0
     obtain ⟨m₂,hk⟩:=hl ⟨rfl,rfl⟩
     refine go (d:=⟨4,m₂,1⟩) hgo (Nat.le_of_ble_eq_true rfl) rfl (.d2 hk) ?_
     have hoth :∀a,a<j→a≠i→(cap o.D a).stage=1:=fun a ha e=>by
      have c0:=others_uncounted hi hv hc1 a ha e
      have:=h2 a ha
      simp only [cnt] at c0
      split at c0 <;> omega
     have:=ConcN.Mode.last (j:=j) (D:=upd (cap o.D) i ⟨4,m₂,1⟩) (tag:=tag) i h1 hi (by rw [upd_same];simp) (fun a ha e=>by rw [upd_ne _ _ e];exact hoth a ha e)
     rw [upd_same] at this
     simpa using this
    ·obtain ⟨q,hq⟩:=hq (by omega)
     have hv':=vq q
     refine go (d:=⟨1,q,1⟩) hgo (Nat.le_of_ble_eq_true rfl) rfl (.quit hq) ?_
     have e:((v:Nat):Int)*KK+((1:Nat):Int)=((Vc j (upd (cap o.D) i ⟨1,q,1⟩):Nat):Int)*KK+1:=by
      rw [show Vc j (upd (cap o.D) i ⟨1,q,1⟩)=v by omega];simp
     rw [e]
     exact .reg h1 (opq q h2) (by omega)
   | last L _ h2 h3 h4=>
    by_cases e:i=L
    ·subst e;omega
    ·have:=h4 i hi e;omega
   | sema h2=>have:=h2 i hi;omega
   | fin _ h2=>have:=h2 i hi;omega
  ·obtain ⟨g',w',es,hgo,⟨rfl,rfl⟩,hg'⟩:=hstep w (RW.refl w)
   exact idle hgo (.d1 hg') rfl (by omega)
 | d2 hG=>
  rcases Goes.cases hG with hstop | ⟨m',rfl,hstep⟩
  ·obtain ⟨_,hx⟩:=hstop w (RW.refl w)
   obtain ⟨hW3,hoth,rfl,rfl⟩:=hmode.isLast hi (by omega)
   simp only [hcst] at hwg
   obtain ⟨g',hgo,m₂,hk⟩:=hx (by simpa using hwg)
   refine Zdz (d:=⟨3,m₂,1⟩) h hst hi hg (by omega) hgo (Zap w _) (.refl Wg w) hwg (by intro e he;simp at he;subst he;exact bk_cell _ _ rfl) (one _ (by rw [hde];decide)) (Nat.le_of_ble_eq_true rfl) (.d3 hk) (by rw [hde];rfl) (fun tag' ht _=>?_) (.inl (by rw [hstg];show 3<4;omega))
   have:=ConcN.Mode.last (j:=j) (D:=upd (cap o.D) i ⟨3,m₂,1⟩) (tag:=tag) i hW3 hi (by rw [upd_same];simp) (fun a ha e=>by rw [upd_ne _ _ e];exact hoth a ha e)
   rw [upd_same] at this
   refine ConcN.Mode.retag ?_ ht
   simpa using this
  ·obtain ⟨g',w',es,hgo,⟨rfl,rfl⟩,hg'⟩:=hstep w (RW.refl w)
   exact idle hgo (.d2 hg') rfl (by omega)
 | d3 hG=>
  rcases Goes.cases hG with hstop | ⟨m',rfl,hstep⟩
  ·obtain ⟨_,hx⟩:=hstop w (RW.refl w)
   obtain ⟨hW3,hoth,rfl,rfl⟩:=hmode.isLast hi (by omega)
   simp only [hcst] at hwg
   obtain ⟨g',hgo,m₂,hk⟩:=hx (by simpa using hwg)
   refine Zdz (d:=⟨2,m₂,1⟩) h hst hi hg (by omega) hgo (ZcH (a:=stA Wg)) (aside_setCell w (stA Wg) _) (hwg.setSt 0) (by intro e he;simp at he;subst he;exact bk_cell _ _ rfl) (one _ (by rw [hde];decide)) (Nat.le_of_ble_eq_true rfl) (.d4 hk) (by rw [hde];rfl) (fun tag' ht _=>?_) (.inl (by rw [hstg];show 2<3;omega))
   have:=ConcN.Mode.last (j:=j) (D:=upd (cap o.D) i ⟨2,m₂,1⟩) (tag:=tag) i hW3 hi (by rw [upd_same];simp) (fun a ha e=>by rw [upd_ne _ _ e];exact hoth a ha e)
   rw [upd_same] at this
   refine ConcN.Mode.retag ?_ ht
   simpa using this
  ·obtain ⟨g',w',es,hgo,⟨rfl,rfl⟩,hg'⟩:=hstep w (RW.refl w)
   exact idle hgo (.d3 hg') rfl (by omega)
 | d4 hG=>
  rcases Goes.cases hG with hstop | ⟨m',rfl,hstep⟩
  ·obtain ⟨_,hmw,hx⟩:=hstop w (RW.refl w)
   obtain ⟨hW3,hoth,rfl,rfl⟩:=hmode.isLast hi (by omega)
   simp only [hcst] at hwg
   obtain ⟨g',hgo,q,hq⟩:=hx (by simpa using hwg)
   have hrun':g'.status = .running:=by
    cases q with
    | zero=>exact absurd hq.2 (by decide)
    | succ q=>exact hq.elim (fun x=>absurd x.2 (by decide)) (fun x=>x.1)
   refine Zdz (d:=⟨1,q,1⟩) (es:=semEvents (smA Wg)) h hst hi hg (by omega) hgo (ZcH (a:=smA Wg)) (aside_setCell w (smA Wg) _) (hwg.setSm 1) ?_ ?_ (Nat.le_of_ble_eq_true rfl) (.quit hq) (by rw [hde];simp [deafBehind,semEvents]) (fun tag' ht hw=>?_) (.inl (by rw [hstg];show 1<2;omega))
   ·intro e he
    simp [semEvents] at he
    rcases he with rfl | rfl | rfl | rfl
    ·exact .inl rfl
    ·exact bk_cell _ _ rfl
    ·exact bk_cell _ _ rfl
    ·exact .inr (.inl rfl)
   ·rw [hde]
    intro jx e he
    match jx,he with
    | 0,he=>simp [semEvents] at he;subst he;exact .inl rfl
    | 1,_=>exact .inr (by simp [deafBehind,semEvents])
    | 2,_=>exact .inr (by simp [deafBehind,semEvents])
    | 3,he=>simp [semEvents] at he;subst he;exact .inl rfl
    | jx+4,he=>simp [semEvents] at he
   ·have hnb:=hw hmw hrun'
    have e3:tag' = .w3:=by
     rcases ht with rfl | ⟨_,rfl⟩
     ·cases tag' <;> first | rfl | exact hW3.elim | exact absurd rfl hnb
     ·rfl
    subst e3
    simp only [if_true]
    exact .sema fun a ha=>by
     by_cases e:a=i
     ·subst e;rw [upd_same]
     ·rw [upd_ne _ _ e];exact hoth a ha e
  ·obtain ⟨g',w',es,hgo,⟨rfl,rfl⟩,hg'⟩:=hstep w (RW.refl w)
   exact idle hgo (.d4 hg') rfl (by omega)
 | quit hq=>
  cases m with
  | zero=>rw [hq.1] at hrun;cases hrun
  | succ q=>
   rcases hq with ⟨hf,_⟩ | ⟨_,g',es,hmute,hstep,hq⟩
   ·rw [hf] at hrun;cases hrun
   ·refine Zdz (d:=⟨1,q,deafBehind dd es⟩) h hst hi hg (by omega) (hstep w) (Zap w _) (.refl Wg w) hwg (fun e he=>bk_of_mute (hmute e he)) (fun jx e he=>.inl (touch_mute (hmute e (Array.mem_of_getElem? he)))) (show 1≤6 by omega) (.quit hq) (by rw [hde]) (fun tag' ht _=>same q _ ht) (.inr ⟨hstg.symm,by rw [hfu]⟩)
end
end Go.BL
namespace Go.BL
open Go.Conc Go.ConcN
open Go.ConcR (KK wgBlock WgAt stA smA rd wr mk Payload g_of_ofEvents)
def Ends (P:Program) (Post:Value→World→Prop) (m:Machine) (t:Trace):Prop:=
∃N last o w' t',runNT P (N+1) m t=(.ended o w',t')∧runN P N m = .next last∧step P last = .ended o w'∧Good P Post last o w' t'
theorem Ends.next {P:Program} {Post:Value→World→Prop} {m m':Machine} {t:Trace} {ops:Array MemOp} (hs:stepT P m=(.next m',ops)) (h:Ends P Post m' (t ++ ops)):Ends P Post m t:=by
 obtain ⟨n,last,o,w,t',h1,h2,h3,h4⟩:=h
 exact ⟨n+1,last,o,w,t',by rw [runNT_succ_next hs];exact h1,by rw [runN_succ_next hs];exact h2,h3,h4⟩
variable [Payload]
section
variable {P:Program} {Post:Value→World→Prop} {ty:TypeId} {Wg C n n0 T0:Nat} {val:Nat→Value} {W:World} {Shun:Loc→Prop} {j:Nat} {gs:Array Goroutine} {w w':World} {sl:Option (Nat × Nat)} {t:Trace} {o:Oth} {ow ow':Nat→Ow} {a a0:Goroutine} {B0:Kn} {L0:Cells} {d0:Nat} {i:Nat} {g g':Goroutine} {tag:CTag} {st sm:Int}
theorem St.at (h:St P ty Wg C n n0 T0 val W Shun tag j gs w t o a B0 L0 d0) (d:Nat):St P ty Wg C n n0 T0 val W Shun tag j gs (w.at d) t o a B0 L0 d0:=by
 obtain ⟨ow,st,sm,h1,h2,h3⟩:=h
 exact ⟨ow,st,sm,h1.at d,h2,h3⟩
theorem Znq (h:PInv P ty Wg C n n0 T0 val W Shun j gs w t o ow a B0 L0 d0) (hst:Stand tag a0 a) (hwg:WgAt ty Wg w st sm) (hmode:ConcN.Mode j (cap o.D) tag st sm) {x:Nat} (hx0:0<x) (hxn:x<n0) (hg:gs[x]? = some g) (hrun:g.status = .running):Leads P ty Wg C n n0 T0 val W Shun tag j gs w sl t o a0 B0 L0 d0 x:=by
 have hq:=h.old x g hx0 hxn hg
 cases hk:o.q x with
 | zero=>rw [hk] at hq;rw [hq.1] at hrun;cases hrun
 | succ k=>
  rw [hk] at hq
  rcases hq with ⟨hf,_⟩ | ⟨_,g',es,hm,hstp,hq'⟩
  ·rw [hf] at hrun;cases hrun
  ·obtain ⟨tag',h1,h2,h3,_⟩:=hst.wokenBy (P:=P) g g' w
   have hrunT:=runT_crowd_go (P:=P) (sl:=sl) (i:=x) hg (by rw [show (x == 0)=false by simp;omega];exact hstp w)
   exact ⟨_,_,_,_,_,tag',hrunT,ZrL hxn hk.symm h3,⟨_,_,_,h.leaver hx0 hxn hg hm hq',hwg,ConcN.Mode.retag hmode h2⟩,h1,h2⟩
theorem Zpr (hs:St P ty Wg C n n0 T0 val W Shun tag j gs w t o a B0 L0 d0) (hst:Stand tag a0 a) (hn:n<2147483648) (hjn:j+pend tag≤n) {x:Nat} (hx0:0<x) (hg:gs[x]? = some g) (hrun:g.status = .running):Leads P ty Wg C n n0 T0 val W Shun tag j gs w sl t o a0 B0 L0 d0 x:=by
 obtain ⟨ow,st,sm,h,hwg,hmode⟩:=hs
 by_cases hxn:x<n0
 ·exact Znq h hst hwg hmode hx0 hxn hg hrun
 ·obtain ⟨i,rfl⟩ :∃i,x=n0+i:=⟨x - n0,by omega⟩
  have hi:i<j:=by
   have:=(Array.getElem?_eq_some_iff.1 hg).1
   rw [h.size] at this;omega
  obtain ⟨g1,hg1,hws⟩:=h.wk i hi
  rw [hg] at hg1
  cases hg1
  rcases hws with ⟨h8,hf,hd,hw,hsat⟩ | ⟨h7,hsit⟩
  ·exact Zqw h hst hwg hmode (by omega) hi hg h8 hf hd hw hsat
  ·exact Zup h hst hwg hmode hn hjn hi hg hrun h7 hsit
theorem WSit.runs {Low k:Nat} {Own Rd:Nat→Loc→Prop} {v:Value} {s m d:Nat} (h:WSit P ty Wg C n Own Rd Low k v s m d g w) (hs:s≠1):g.status = .running:=by
 cases h with
 | r0 h=>exact Goes.running (fun _ _ x=>x.1) w (RW.refl w) h
 | k1 h=>exact Goes.running (fun _ _ x=>x.1) w (RW.refl w) h
 | d1 h=>exact Goes.running (fun _ _ x=>x.1) w (RW.refl w) h
 | d2 h=>exact Goes.running (fun _ _ x=>x.1) w (RW.refl w) h
 | d3 h=>exact Goes.running (fun _ _ x=>x.1) w (RW.refl w) h
 | d4 h=>exact Goes.running (fun _ _ x=>x.1) w (RW.refl w) h
 | quit h=>exact absurd rfl hs
theorem St.somebody (h:St P ty Wg C n n0 T0 val W Shun .blk j gs w t o a B0 L0 d0) :∃(x:Nat) (g:Goroutine),gs[x]? = some g∧g.status = .running:=by
 obtain ⟨ow,st,sm,h,_,hm⟩:=h
 have key :∀i,i<j→(cap o.D i).stage≠1→∃(x:Nat) (g:Goroutine),gs[x]? = some g∧g.status = .running:=fun i hi hne=>by
  obtain ⟨g,hg,hws⟩:=h.wk i hi
  rcases hws with ⟨_,_,_,hw,_⟩ | ⟨h7,hs⟩
  ·exact ⟨_,g,hg,hw.running⟩
  ·rw [Zml h7] at hne
   exact ⟨_,g,hg,WSit.runs hs hne⟩
 cases hm with
 | opn h1 _ _=>exact h1.elim
 | reg _ h2 h3=>
  have :∃i,i<j∧(cap o.D i).stage≠1:=by
   refine Classical.byContradiction fun hc=>?_
   have h0:Vc j (cap o.D)≤0*j:=sumTo_le (c:=0) fun i hi=>by
    have:(cap o.D i).stage=1:=Classical.byContradiction fun e=>hc ⟨i,hi,e⟩
    simp [cnt,this]
   omega
  obtain ⟨i,hi,hne⟩:=this
  exact key i hi hne
 | last L _ h2 h3 _=>exact key L h2 (by omega)
 | fin h1 _=>exact h1.elim
theorem St.awake (h:St P ty Wg C n n0 T0 val W Shun tag j gs w t o a B0 L0 d0) (hst:Stand tag a0 a) :∀g∈gs,Go.Conc.awake g:=by
 obtain ⟨ow,st,sm,h,_,_⟩:=h
 intro g hg
 obtain ⟨x,hx,rfl⟩:=Array.mem_iff_getElem.1 hg
 have hgx:gs[x]? = some gs[x]:=Array.getElem?_eq_getElem hx
 rcases Nat.eq_zero_or_pos x with rfl | hpos
 ·have:=h.g0
  rw [hgx] at this
  have e:=Option.some.inj this
  rw [e]
  obtain ⟨hr,⟨_,rfl⟩ | ⟨_,_,rfl⟩⟩:=hst
  ·exact awake_of (.inl hr)
  ·exact awake_of (.inr (.inl rfl))
 ·by_cases hxn:x<n0
  ·exact awake_of ((h.old x _ hpos hxn hgx).status.elim .inl fun x=>.inr (.inr x))
  ·obtain ⟨i,rfl⟩ :∃i,x=n0+i:=⟨x - n0,by omega⟩
   obtain ⟨g1,hg1,hws⟩:=h.wk i (by rw [h.size] at hx;omega)
   rw [hgx] at hg1
   cases hg1
   exact awake_of (hws.status.elim .inl fun x=>.inr (.inr x))
theorem drive (hn:n<2147483648) (hjn:j+pend tag≤n) (hjb:j+pend .blk≤n) (hb:tag≠.blk)
  (H :∀(gs:Array Goroutine) (w:World) (sl:Option (Nat × Nat)) (t:Trace) (o:Oth),St P ty Wg C n n0 T0 val W Shun tag j gs w t o g B0 L0 d0→∃m' ops,runT P (crowd gs w sl) 0=(.next m',ops)∧
   (Ends P Post m' (t ++ ops)∨(tag = .w3∧g.offers=none∧∃gs' w',m'=crowd gs' w' sl∧St P ty Wg C n n0 T0 val W Shun .blk j gs' w' (t ++ ops) o { g with status:=.blocked } B0 L0 d0)))
  (hr:g.status = .running) :
∀(μ:Mu) (tag':CTag) (gs:Array Goroutine) (w:World) (sl:Option (Nat × Nat)) (t:Trace) (o:Oth) (a:Goroutine),(tag'=tag∨(tag = .w3∧tag' = .blk))→o.mu n0 j (bit tag')=μ→
   St P ty Wg C n n0 T0 val W Shun tag' j gs w t o a B0 L0 d0→Stand tag' g a→Ends P Post (crowd gs w sl) t:=by
 intro μ
 induction μ using ZuQ.induction with
 | _ μ ih=>
  intro tag' gs w sl t o a ht hmu hs hst
  have hpn:j+pend tag'≤n:=by
   rcases ht with rfl | ⟨_,rfl⟩
   ·exact hjn
   ·exact hjb
  have some1 :∃(x:Nat) (g:Goroutine),gs[x]? = some g∧g.status = .running:=by
   by_cases e:tag' = .blk
   ·subst e;exact hs.somebody
   ·obtain ⟨hr,⟨_,rfl⟩ | ⟨e',_⟩⟩:=hst
    ·obtain ⟨ow,st,sm,h,_,_⟩:=hs
     exact ⟨0,_,h.g0,hr⟩
    ·exact absurd e' e
  obtain ⟨x,gx,d,sl',hgx,hrx,hstep⟩:=crowd_pick (P:=P) (w:=w) (sl:=sl) (hs.awake hst) some1
  have hsd:=hs.at d
  rcases Nat.eq_zero_or_pos x with rfl | hpos
  ·have hga:gx=a:=by
    obtain ⟨ow,st,sm,h,_,_⟩:=hs
    have:=h.g0
    rw [hgx] at this;exact Option.some.inj this
   subst hga
   obtain ⟨_,⟨hne,rfl⟩ | ⟨_,_,rfl⟩⟩:=hst
   ·have e:tag'=tag:=ht.resolve_right fun e=>hne e.2
    subst e
    obtain ⟨m',ops,hrun,hend | ⟨e3,hof,gs',w',rfl,hs'⟩⟩:=H gs (w.at d) sl' t o hsd
    ·exact Ends.next (hstep.trans hrun) hend
    ·subst e3
     refine Ends.next (hstep.trans hrun) (ih _ ?_ .blk gs' w' sl' (t ++ ops) o _ (.inr ⟨rfl,rfl⟩) rfl hs' ⟨hr,.inr ⟨rfl,hof,rfl⟩⟩)
     rw [← hmu]
     exact ZuR rfl (Prod.Lex.right _ (by show 0+_<1+_;omega))
   ·cases hrx
  ·obtain ⟨gs',w',ops,o',a',tag'',hrun,hlt,hs',hst',htt⟩:=Zpr (sl:=sl') hsd hst hn hpn hpos hgx hrx
   refine Ends.next (hstep.trans hrun) (ih _ (hmu ▸ hlt) tag'' gs' w' sl' (t ++ ops) o' a' ?_ rfl hs' hst')
   rcases htt with rfl | ⟨rfl,rfl⟩
   ·exact ht
   ·rcases ht with e | ⟨e,_⟩
    ·exact absurd e.symm hb
    ·exact .inl e.symm
end
end Go.BL
namespace Go.BL
open Go.Conc Go.ConcN
open Go.ConcR (KK wgBlock WgAt stA smA rd wr mk Payload g_of_ofEvents Bk ofEvent_cell)
structure FrameS (P:Program) (W:World) (Shun:Loc→Prop) (gs:Array Goroutine) (w:World) (t:Trace) (q:Nat→Nat) (g:Goroutine) (B:Kn) (L:Cells):Prop where
 g0:gs[0]? = some g
 old :∀i x,0<i→gs[i]? = some x→QuitsD P (q i) (Deaf t i) x
 past:PastB Shun w.heap.size t
 gs :∀op∈t,op.g<gs.size
 sat:Sat B L w
 shun :∀l,Shun l→∃b,ZaX l=some b∧b<w.heap.size∧B.mem b=none∧∀p,p∈L→p.1≠b
 kw:KW W w
 lowL :∀p,p∈L→W.heap.size≤p.1
def Zbc (P:Program) (Post:Value→World→Prop) (W:World) (g:Goroutine) (B:Kn) (L:Cells):Prop:=
∀(gs:Array Goroutine) (w:World) (sl:Option (Nat × Nat)) (t:Trace) (q:Nat→Nat) (Shun:Loc→Prop),FrameS P W Shun gs w t q g B L→Ends P Post (crowd gs w sl) t
inductive PTag where
 | a5 | a4 | a3 | a2 | ldb (M:Nat) | ld0 | cas (vs:Nat) | w3 | w4 | ke | acq
def PTag.ct:PTag→CTag
 | .a5=>.sp 0 5
 | .a4=>.sp 0 4
 | .a3=>.sp 0 3
 | .a2=>.sp 0 2
 | .ldb M=>.w2 M
 | .ld0=>.ret
 | .cas vs=>.w2 vs
 | .w3=>.w3
 | .w4=>.w4
 | .ke=>.ke
 | .acq=>.acq
def PTag.deaf:PTag→Nat
 | .a5 | .a2 | .acq=>0
 | _=>1
def Said (Wg:Nat) (e:Event):Prop:=∃a,a.block=Wg∧(e=⟨.mark (.read a),false,true⟩∨e=⟨.mark (.write a),false,true⟩)
def ZpG (v:Nat):PTag:=if v=0 then .ld0 else .ldb v
variable [Payload]
inductive PhaseR (P:Program) (ty:TypeId) (Wg C n:Nat) (val:Nat→Value) (K:Goroutine→Kn→Cells→Prop):PTag→Nat→Goroutine→Kn→Cells→Prop
 | conv {p:PTag} {j:Nat} {g:Goroutine} {B B':Kn} {L L':Cells} : B.le B'→(∀w,Sat B L w→Sat B' L' w)→(∀b o,B'.mem b=some o→(B.mem b).isSome=true∨∃p,p∈L∧p.1=b)→(∀p,p∈L'→∃q,q∈L∧q.1=p.1)→
   PhaseR P ty Wg C n val K p j g B' L'→PhaseR P ty Wg C n val K p j g B L
 | own {p:PTag} {j:Nat} {g:Goroutine} {B:Kn} {L:Cells} {gf:World→Goroutine} {wf:World→World} {ef:World→Array Event} {Bf:World→Kn} {Lf:World→Cells} : g.status = .running→
   (∀w,Sat B L w→WgLive ty Wg w→stepG P true g w = .go (gf w) (wf w) (ef w)∧(∀e,e∈ef w→Ev w.heap.size (wf w).heap.size B L e∨Said Wg e)∧Ok B L w (Bf w) (Lf w) (wf w))→(∀w,Sat B L w→WgLive ty Wg w→PhaseR P ty Wg C n val K p j (gf w) (Bf w) (Lf w))→PhaseR P ty Wg C n val K p j g B L
 | disA {j:Nat} {g g':Goroutine} {B:Kn} {L:Cells} : g.status = .running→(∀w,Sat B L w→stepG P true g w = .go g' w #[mk .disable])→PhaseR P ty Wg C n val K .a4 j g' B L→PhaseR P ty Wg C n val K .a5 j g B L
 | add {j:Nat} {g:Goroutine} {gf:Nat→Goroutine} {B:Kn} {L:Cells} : g.status = .running→j<n→(∀w (v:Nat),Sat B L w→v<2147483647→WgAt ty Wg w ((v:Int)*KK) 0→stepG P true g w = .go (gf v) (w.setCell (stA Wg) (.int .u64 (((v:Int)+1)*KK))) #[rd (stA Wg),wr (stA Wg)])→
   (∀v,v<2147483647→PhaseR P ty Wg C n val K .a3 j (gf v) B L)→PhaseR P ty Wg C n val K .a4 j g B L
 | enaA {j:Nat} {g g':Goroutine} {B:Kn} {L:Cells} : g.status = .running→(∀w,Sat B L w→stepG P true g w = .go g' w #[mk .enable])→PhaseR P ty Wg C n val K .a2 j g' B L→PhaseR P ty Wg C n val K .a3 j g B L
 | go {j:Nat} {g g' child:Goroutine} {B:Kn} {L:Cells} : g.status = .running→(∀w,Sat B L w→stepG P true g w = .spawn g' child w #[])→ZeF P ty Wg C n j (val j) child B []→PhaseR P ty Wg C n val K .a5 (j+1) g' B L→PhaseR P ty Wg C n val K .a2 j g B L
 | disW {g g':Goroutine} {B:Kn} {L:Cells} : g.status = .running→(∀w,Sat B L w→stepG P true g w = .go g' w #[mk .disable])→PhaseR P ty Wg C n val K (ZpG n) n g' B L→PhaseR P ty Wg C n val K .a5 n g B L
 | ldb {M:Nat} {g:Goroutine} {gf:Nat→Goroutine} {B:Kn} {L:Cells} : g.status = .running→(∀w (v:Nat),Sat B L w→v<2147483648→WgAt ty Wg w ((v:Int)*KK) 0→stepG P true g w = .go (gf v) w #[rd (stA Wg)])→
   PhaseR P ty Wg C n val K .ke n (gf 0) B L→(∀v,v≠0→v≤M→v<2147483648→PhaseR P ty Wg C n val K (.cas v) n (gf v) B L)→PhaseR P ty Wg C n val K (.ldb M) n g B L
 | ld0 {g g':Goroutine} {B:Kn} {L:Cells} : g.status = .running→(∀w,Sat B L w→WgAt ty Wg w 0 0→stepG P true g w = .go g' w #[rd (stA Wg)])→PhaseR P ty Wg C n val K .ke n g' B L→PhaseR P ty Wg C n val K .ld0 n g B L
 | cas {vs:Nat} {g g1 g2:Goroutine} {B:Kn} {L:Cells} : g.status = .running→(∀w,Sat B L w→WgAt ty Wg w ((vs:Int)*KK) 0→stepG P true g w = .go g1 (w.setCell (stA Wg) (.int .u64 ((vs:Int)*KK+1))) #[rd (stA Wg),wr (stA Wg)])→PhaseR P ty Wg C n val K .w3 n g1 B L→
   (∀w (v:Nat),Sat B L w→v<2147483648→v≠vs→WgAt ty Wg w ((v:Int)*KK) 0→stepG P true g w = .go g2 w #[rd (stA Wg)])→PhaseR P ty Wg C n val K (ZpG (vs - 1)) n g2 B L→PhaseR P ty Wg C n val K (.cas vs) n g B L
 | sem {g g':Goroutine} {B:Kn} {L:Cells} : g.status = .running→g.offers=none→(∀w st,Sat B L w→WgAt ty Wg w st 0→stepG P true g w = .go { g with status:=.blocked } w #[])→
   (∀w,Sat B L w→WgAt ty Wg w 0 1→stepG P true g w = .go g' (w.setCell (smA Wg) (.int .u32 0)) (semEvents (smA Wg)))→PhaseR P ty Wg C n val K .w4 n g' B L→PhaseR P ty Wg C n val K .w3 n g B L
 | ld2 {g g':Goroutine} {B:Kn} {L:Cells} : g.status = .running→(∀w,Sat B L w→WgAt ty Wg w 0 0→stepG P true g w = .go g' w #[rd (stA Wg)])→PhaseR P ty Wg C n val K .ke n g' B L→PhaseR P ty Wg C n val K .w4 n g B L
 | enaW {g g':Goroutine} {B:Kn} {L:Cells} : g.status = .running→(∀w,Sat B L w→stepG P true g w = .go g' w #[mk .enable])→PhaseR P ty Wg C n val K .acq n g' B L→PhaseR P ty Wg C n val K .ke n g B L
 | acq {g g':Goroutine} {B:Kn} {L:Cells} : g.status = .running→(∀w,Sat B L w→stepG P true g w = .go g' w #[mk (.acquire (stA Wg))])→K g' B ((C,.cells ((List.range n).map val).toArray Payload.ety (0,0)) :: L)→PhaseR P ty Wg C n val K .acq n g B L
theorem PhaseR.step {P:Program} {ty:TypeId} {Wg C n:Nat} {val:Nat→Value} {K:Goroutine→Kn→Cells→Prop} {p:PTag} {j:Nat} {g:Goroutine} {B:Kn} {L:Cells} (hr:g.status = .running)
  (h :∀w,Sat B L w→WgLive ty Wg w→∃g' w' es B' L',stepG P true g w = .go g' w' es∧(∀e,e∈es→Ev w.heap.size w'.heap.size B L e∨Said Wg e)∧Ok B L w B' L' w'∧PhaseR P ty Wg C n val K p j g' B' L'):PhaseR P ty Wg C n val K p j g B L:=by
 classical
 have h' :∀w,∃x:Goroutine × World × Array Event × Kn × Cells,Sat B L w→WgLive ty Wg w→stepG P true g w = .go x.1 x.2.1 x.2.2.1∧(∀e,e∈x.2.2.1→Ev w.heap.size x.2.1.heap.size B L e∨Said Wg e)∧Ok B L w x.2.2.2.1 x.2.2.2.2 x.2.1∧PhaseR P ty Wg C n val K p j x.1 x.2.2.2.1 x.2.2.2.2:=fun w=>by
  by_cases s:Sat B L w∧WgLive ty Wg w
  ·obtain ⟨g',w',es,B',L',h1,h2,h3,h4⟩:=h w s.1 s.2
   exact ⟨(g',w',es,B',L'),fun _ _=>⟨h1,h2,h3,h4⟩⟩
  ·exact ⟨(g,w,#[],B,L),fun s1 s2=>absurd ⟨s1,s2⟩ s⟩
 let f:=fun w=>Classical.choose (h' w)
 have hf:=fun w=>Classical.choose_spec (h' w)
 exact .own (gf:=fun w=>(f w).1) (wf:=fun w=>(f w).2.1) (ef:=fun w=>(f w).2.2.1) (Bf:=fun w=>(f w).2.2.2.1) (Lf:=fun w=>(f w).2.2.2.2) hr (fun w s l=>⟨(hf w s l).1,(hf w s l).2.1,(hf w s l).2.2.1⟩) (fun w s l=>(hf w s l).2.2.2)
section
variable {P:Program} {Post:Value→World→Prop} {ty:TypeId} {Wg C n n0 T0:Nat} {val:Nat→Value} {W:World} {Shun:Loc→Prop} {j:Nat} {gs:Array Goroutine} {w w':World} {sl:Option (Nat × Nat)} {t:Trace} {o:Oth} {ow ow':Nat→Ow} {a a0:Goroutine} {B0:Kn} {L0:Cells} {d0:Nat} {i:Nat} {g g':Goroutine} {tag:CTag} {st sm:Int}
theorem PInv.conv0 {B':Kn} {L':Cells} (h:PInv P ty Wg C n n0 T0 val W Shun j gs w t o ow a B0 L0 d0) (hs :∀w,Sat B0 L0 w→Sat B' L' w) (hb :∀b o,B'.mem b=some o→(B0.mem b).isSome=true∨∃p,p∈L0∧p.1=b) (hl :∀p,p∈L'→∃q,q∈L0∧q.1=p.1) :
  PInv P ty Wg C n n0 T0 val W Shun j gs w t o ow a B' L' d0:=by
 have hK :∀b,(B'.mem b).isSome=true→(B0.mem b).isSome=true∨ow b = .own 0:=fun b hb'=>by
  obtain ⟨x,hx⟩:=Option.isSome_iff_exists.1 hb'
  rcases hb b x hx with h1 | ⟨p,hp,rfl⟩
  ·exact .inl h1
  ·exact .inr (h.o0 p hp)
 have hlt :∀b,(B'.mem b).isSome=true→b<w.heap.size:=fun b hb'=>ZlI (hs w h.sat) hb'
 have kbx :∀x b,KB n0 j o B' x b→KB n0 j o B0 x b∨(x=0∧ow b = .own 0):=fun x b hb'=>by
  rcases hb' with ⟨rfl,hb'⟩ | hb'
  ·rcases hK b hb' with h1 | h1
   ·exact .inl (.inl ⟨rfl,h1⟩)
   ·exact .inr ⟨rfl,h1⟩
  ·exact .inl (.inr hb')
 refine ⟨h.npos,h.size,h.g0,h.old,h.wk,hs w h.sat,fun p hp=>?_,h.oL,fun p hp=>?_,h.lowO,h.lowC,h.lowW,?_,⟨fun x b hb'=>?_,fun x b hb'=>?_,h.ok.pay,h.ok.grp,h.ok.lC,h.ok.lW⟩,h.deaf0,h.deafW,h.rel,h.has,h.pay,fun l hl'=>?_,h.kw⟩
 ·obtain ⟨q,hq,e⟩:=hl p hp
  rw [← e];exact h.o0 q hq
 ·obtain ⟨q,hq,e⟩:=hl p hp
  rw [← e];exact h.lowL q hq
 ·exact ⟨h.tl.nr,h.tl.low,h.tl.own,fun x b hb' l hl'=>by
   rcases kbx x b hb' with h1 | ⟨rfl,h1⟩
   ·exact h.tl.rd x b h1 l hl'
   ·exact PermW.of (h.tl.own 0 b h1 l hl'),h.tl.pay,h.tl.quiet,h.tl.past,h.tl.over,h.tl.wk,h.tl.norel,h.tl.t0,h.tl.early,h.tl.gs⟩
 ·rcases kbx x b hb' with h1 | ⟨rfl,h1⟩
  ·exact h.ok.kb _ _ h1
  ·exact .inr h1
 ·rcases hb' with ⟨_,hb'⟩ | hb'
  ·exact hlt b hb'
  ·exact h.ok.kl _ _ (.inr hb')
 ·obtain ⟨b,h1,h2,h3,h4⟩:=h.shun l hl'
  refine ⟨b,h1,h2,h3,?_⟩
  cases hm:B'.mem b with
  | none=>rfl
  | some x=>
   rcases hK b (by rw [hm];rfl) with hx | hx
   ·rw [h4] at hx;cases hx
   ·rw [h3] at hx;cases hx
theorem PInv.book0 (h:PInv P ty Wg C n n0 T0 val W Shun j gs w t o ow a B0 L0 d0) {a':Goroutine} {es:Array Event} (m:Mv (· = Wg) w w') (has:Aside Wg w w') (hwl:WgLive ty Wg w') (hok :∀op∈MemOp.ofEvents 0 a.frame.fn a.frame.place es,op.act≠.mark (.release (stA Wg))∧∀x,op.act.touch? = some x→ShN Wg x.loc∧x.kind≠.plain) :
  PInv P ty Wg C n n0 T0 val W Shun j ((gs.map (woken P a a' w')).setIfInBounds 0 a') w' (t ++ MemOp.ofEvents 0 a.frame.fn a.frame.place es) o (owN ow w.heap.size 0) a' B0 L0 (deafBehind d0 es):=by
 have hC:w'.heap[C]? = w.heap[C]?:=has.block C h.cw
 refine h.step0 m (h.sat.mv m (fun b hb=>h.wgB hb) (fun p hp=>h.wgL hp)) (fun b e=>e ▸ h.lowW) (fun k hk h8=>h.othW hk h8) (fun k _=>RW.of_wg has hwl h.cw) (fun b hb=>.inl hb) (fun p hp=>⟨h.lowL p hp,.inl ⟨h.sat.ltL hp,h.o0 p hp⟩⟩) (fun op hop=>?_) (fun op hop=>?_) (let ⟨cs,h1,h2⟩:=h.pay;⟨cs,hC.trans h1,h2⟩)
 ·obtain ⟨h1,h2⟩:=hok op hop
  obtain ⟨e,_,rfl⟩:=Zeh hop
  exact ⟨rfl,h1,fun x hx=>.inr ⟨(h2 x hx).1,(h2 x hx).2,fun _=>rfl⟩⟩
 ·intro x b hx hb
  have:=Zes ((hok op hop).2 x hx).1
  rw [hb] at this
  cases this
  exact Nat.lt_of_lt_of_le h.ok.lW m.size
theorem bk0 {es:Array Event} (hbk :∀e∈es,Bk Wg e) {fn:FuncId} {pos:String} :∀op∈MemOp.ofEvents 0 fn pos es,op.act≠.mark (.release (stA Wg))∧∀x,op.act.touch? = some x→ShN Wg x.loc∧x.kind≠.plain:=fun op hop=>by
 obtain ⟨e,he,rfl⟩:=Zeh hop
 rcases hbk e he with h1 | h1 | ⟨ad,wrt,rfl,had⟩
 ·rw [ConcR.ofEvent_loc_mark h1];exact ⟨(fun e=>by cases e),fun x hx=>by cases hx⟩
 ·rw [ConcR.ofEvent_loc_mark h1];exact ⟨(fun e=>by cases e),fun x hx=>by cases hx⟩
 ·rw [ofEvent_cell]
  refine ⟨(fun e=>by cases e),fun x hx=>?_⟩
  simp only [MemAct.touch?,Option.some.injEq] at hx
  subst hx
  exact ⟨⟨ad,rfl,had⟩,by simp⟩
theorem Zg4 {D:Nat→WD} {j:Nat} (h:OpenSt j D) (h0:Vc j D=0):AllQuit j D:=fun i hi=>by
 have h1:=le_sumTo (f:=fun x=>cnt (D x)) hi
 simp only [Vc] at h0
 have h2:cnt (D i)=0:=by omega
 have:=h i hi
 simp only [cnt] at h2
 split at h2 <;> omega
end
end Go.BL
namespace Go.BL
open Go.Conc Go.ConcN
open Go.ConcR (KK wgBlock WgAt stA smA rd wr mk Payload g_of_ofEvents Bk ofEvent_cell ofEvent_mk)
variable [Payload]
section
variable {P:Program} {Post:Value→World→Prop} {ty:TypeId} {Wg C n n0 T0:Nat} {val:Nat→Value} {W:World} {Shun:Loc→Prop} {j:Nat} {gs:Array Goroutine} {w w':World} {sl:Option (Nat × Nat)} {t:Trace} {o:Oth} {ow ow':Nat→Ow} {a a0:Goroutine} {B0:Kn} {L0:Cells} {d0 d1:Nat} {i:Nat} {g g':Goroutine} {tag tag':CTag} {st sm st' sm':Int}
theorem Ztq {m:Mark} (h:m = .disable∨m = .enable) :∀e∈#[mk m],Bk Wg e:=by
 intro e he
 simp only [List.mem_toArray,List.mem_singleton] at he
 subst he
 rcases h with rfl | rfl
 ·exact .inl rfl
 ·exact .inr (.inl rfl)
theorem Zqe :∀e∈#[rd (stA Wg)],Bk Wg e:=by
 intro e he
 simp only [List.mem_toArray,List.mem_singleton] at he
 subst he
 exact bk_cell _ _ rfl
theorem ZAR :∀e∈#[rd (stA Wg),wr (stA Wg)],Bk Wg e:=by
 intro e he
 simp only [List.mem_toArray,List.mem_cons,List.not_mem_nil,or_false] at he
 rcases he with rfl | rfl <;> exact bk_cell _ _ rfl
theorem ZAQ :∀e∈semEvents (smA Wg),Bk Wg e:=by
 intro e he
 simp [semEvents] at he
 rcases he with rfl | rfl | rfl | rfl
 ·exact .inl rfl
 ·exact bk_cell _ _ rfl
 ·exact bk_cell _ _ rfl
 ·exact .inr (.inl rfl)
theorem Zgy {Q:Machine→Array MemOp→Prop} (h:PInv P ty Wg C n n0 T0 val W Shun j gs w t o ow g B0 L0 d0) {es:Array Event} (hgo:stepG P true g w = .go g' w' es) (m:Mv (· = Wg) w w') (has:Aside Wg w w') (hwg:WgAt ty Wg w' st' sm') (hbk :∀e∈es,Bk Wg e) (hd:deafBehind d0 es=d1)
  (hmode:ConcN.Mode j (cap o.D) tag' st' sm') (ih :∀gs w sl t o,St P ty Wg C n n0 T0 val W Shun tag' j gs w t o g' B0 L0 d1→Ends P Post (crowd gs w sl) t) :∃m' ops,runT P (crowd gs w sl) 0=(.next m',ops)∧(Ends P Post m' (t ++ ops)∨Q m' ops):=by
 have hrun:=runT_crowd_go (P:=P) (sl:=sl) (i:=0) h.g0 (by simpa using hgo)
 have:=h.book0 (a':=g') (es:=es) m has ⟨_,_,hwg⟩ (bk0 hbk)
 rw [hd] at this
 exact ⟨_,_,hrun,.inl (ih _ _ _ _ o ⟨_,_,_,this,hwg,hmode⟩)⟩
theorem ZcL (hn:n<2147483648) (hjn:j+pend tag≤n) (hjb:j≤n) (hb:tag≠.blk) (hr:g.status = .running)
  (H :∀(gs:Array Goroutine) (w:World) (sl:Option (Nat × Nat)) (t:Trace) (o:Oth) (ow:Nat→Ow) (st sm:Int),PInv P ty Wg C n n0 T0 val W Shun j gs w t o ow g B0 L0 d0→WgAt ty Wg w st sm→ConcN.Mode j (cap o.D) tag st sm→∃m' ops,runT P (crowd gs w sl) 0=(.next m',ops)∧
   (Ends P Post m' (t ++ ops)∨(tag = .w3∧g.offers=none∧∃gs' w',m'=crowd gs' w' sl∧St P ty Wg C n n0 T0 val W Shun .blk j gs' w' (t ++ ops) o { g with status:=.blocked } B0 L0 d0)))
  (gs:Array Goroutine) (w:World) (sl:Option (Nat × Nat)) (t:Trace) (o:Oth) (hs:St P ty Wg C n n0 T0 val W Shun tag j gs w t o g B0 L0 d0):Ends P Post (crowd gs w sl) t:=
 drive hn hjn hjb hb (fun gs w sl t o ⟨ow,st,sm,h1,h2,h3⟩=>H gs w sl t o ow st sm h1 h2 h3) hr _ tag gs w sl t o g (.inl rfl) rfl hs ⟨hr,.inl ⟨hb,rfl⟩⟩
theorem Zei (p:PTag):p.ct≠.blk:=by cases p <;> exact fun e=>CTag.noConfusion e
theorem ZE7 {Q:Machine→Array MemOp→Prop} (h:PInv P ty Wg C n n0 T0 val W Shun j gs w t o ow g B0 L0 d0) {es:Array Event} {B':Kn} {L':Cells} (hgo:stepG P true g w = .go g' w' es) (hev :∀e,e∈es→Ev w.heap.size w'.heap.size B0 L0 e∨Said Wg e) (hok:Ok B0 L0 w B' L' w')
  (hwg:WgAt ty Wg w st sm) (hmode:ConcN.Mode j (cap o.D) tag st sm) (ih :∀gs w sl t o,St P ty Wg C n n0 T0 val W Shun tag j gs w t o g' B' L' d0→Ends P Post (crowd gs w sl) t) :∃m' ops,runT P (crowd gs w sl) 0=(.next m',ops)∧(Ends P Post m' (t ++ ops)∨Q m' ops):=by
 have hrun:=runT_crowd_go (P:=P) (sl:=sl) (i:=0) h.g0 (by simpa using hgo)
 have nS :∀{b},ow b≠.own 0→¬∃p,p∈L0∧p.1=b:=fun hne ⟨p,hp,e⟩=>hne (e ▸ h.o0 p hp)
 have m:Mv (fun b=>∃p,p∈L0∧p.1=b) w w':=Mv.of_ok hok fun p hp=>⟨p,hp,rfl⟩
 have hC:C<w.heap.size∧¬∃p,p∈L0∧p.1=C:=⟨h.ok.lC,nS (by rw [h.ok.pay];exact fun e=>Ow.noConfusion e)⟩
 have hWg:Wg<w.heap.size∧¬∃p,p∈L0∧p.1=Wg:=⟨h.ok.lW,nS (by rw [h.ok.grp];exact fun e=>Ow.noConfusion e)⟩
 have hKb :∀b,(B0.mem b).isSome=true→KB n0 j o B0 0 b∧b<w.heap.size:=fun b hb=>⟨.inl ⟨rfl,hb⟩,ZlI h.sat hb⟩
 have hevs :∀e∈es,(ZAY n0 j C Wg w.heap.size ow (KB n0 j o B0) 0 { g:=0,fn:=g.frame.fn,pos:=g.frame.place,act:=.ofEvent e }∧ZmE w'.heap.size { g:=0,fn:=g.frame.fn,pos:=g.frame.place,act:=.ofEvent e }∧e.loc≠.mark .disable∧e.loc≠.mark .enable):=fun e he=>by
  rcases hev e he with h1 | ⟨ad,hb,h1⟩
  ·exact Zou h1 m.size (fun p hp=>⟨h.o0 p hp,h.sat.ltL hp⟩) hKb
  ·rcases h1 with rfl | rfl
   ·refine ⟨⟨rfl,(fun e=>by cases e),fun x hx=>?_⟩,fun x b hx hb'=>?_,by simp,by simp⟩
    ·simp [MemAct.ofEvent,MemAct.touch?] at hx
     subst hx
     exact .inr ⟨⟨ad,rfl,hb⟩,by simp,fun _=>rfl⟩
    ·simp [MemAct.ofEvent,MemAct.touch?] at hx
     subst hx
     simp only [ZaX,Option.some.injEq] at hb'
     rw [← hb',hb];exact Nat.lt_of_lt_of_le h.ok.lW m.size
   ·refine ⟨⟨rfl,(fun e=>by cases e),fun x hx=>?_⟩,fun x b hx hb'=>?_,by simp,by simp⟩
    ·simp [MemAct.ofEvent,MemAct.touch?] at hx
     subst hx
     exact .inr ⟨⟨ad,rfl,hb⟩,by simp,fun _=>rfl⟩
    ·simp [MemAct.ofEvent,MemAct.touch?] at hx
     subst hx
     simp only [ZaX,Option.some.injEq] at hb'
     rw [← hb',hb];exact Nat.lt_of_lt_of_le h.ok.lW m.size
 refine ⟨_,_,hrun,.inl (ih _ _ _ _ o ⟨owN ow w.heap.size 0,st,sm,?_,hwg.of_block (m.keep Wg hWg.1 hWg.2),hmode⟩)⟩
 have hd:deafBehind d0 es=d0:=deafBehind_idle (fun e he=>⟨(hevs e he).2.2.1,(hevs e he).2.2.2⟩) d0
 have:=h.step0 (a':=g') (es:=es) (B0':=B') (L0':=L') m hok.sat (fun b ⟨p,hp,e⟩=>e ▸ h.lowL p hp) (fun k hk hk8=>⟨fun b hb=>nS fun e=>?_,fun p hp=>nS fun e=>?_⟩) (fun k _=>Zok m hC hWg) (fun b hb=>?_) (fun p hp=>?_) (fun op hop=>?_) (fun op hop=>?_) (let ⟨cs,h1,h2⟩:=h.pay;⟨cs,(m.keep C hC.1 hC.2).trans h1,h2⟩)
 ·rw [hd] at this
  exact this
 ·rcases h.kbW hk hk8 hb with h1 | h1
  ·rw [e] at h1;cases h1
  ·rw [e] at h1
   simp only [Ow.own.injEq] at h1
   have:=h.npos;omega
 ·have h1:=h.oL k hk hk8 p hp
  rw [e] at h1
  simp only [Ow.own.injEq] at h1
  have:=h.npos;omega
 ·obtain ⟨x,hx⟩:=Option.isSome_iff_exists.1 hb
  rcases hok.newB b x hx with h1 | ⟨p,hp,rfl⟩ | h1
  ·exact .inl h1
  ·exact .inr (.inl ⟨h.sat.ltL hp,h.o0 p hp⟩)
  ·exact .inr (.inr h1)
 ·rcases hok.newL p hp with ⟨q,hq,e⟩ | h1
  ·exact ⟨e ▸ h.lowL q hq,.inl ⟨e ▸ h.sat.ltL hq,e ▸ h.o0 q hq⟩⟩
  ·exact ⟨Nat.le_trans h.kw.size h1,.inr h1⟩
 ·obtain ⟨e,he,rfl⟩:=Zeh hop
  exact (hevs e he).1
 ·obtain ⟨e,he,rfl⟩:=Zeh hop
  exact (hevs e he).2.1
theorem Zh6 {tag:CTag} (h:ConcN.Mode j (cap o.D) tag st sm) (ho:isOpen tag):OpenSt j (cap o.D)∧st=((Vc j (cap o.D)+pend tag:Nat):Int)*KK∧sm=0∧∀vs,tag = .w2 vs→Vc j (cap o.D)≤vs∧1≤vs:=by
 cases h with
 | opn h1 h2 h3=>exact ⟨h2,rfl,rfl,h3⟩
 | reg h1=>cases tag <;> first | exact h1.elim | exact ho.elim
 | last L h1=>cases tag <;> first | exact h1.elim | exact ho.elim
 | sema h1=>exact ho.elim
 | fin h1=>cases tag <;> first | exact h1.elim | exact ho.elim
theorem ZoP {tag:CTag} (h:ConcN.Mode j (cap o.D) tag st sm) (ho:isFin tag):AllQuit j (cap o.D)∧st=0∧sm=0:=by
 cases h with
 | opn h1 h2 h3=>cases tag <;> first | exact h1.elim | exact ho.elim
 | reg h1=>cases tag <;> first | exact h1.elim | exact ho.elim
 | last L h1=>cases tag <;> first | exact h1.elim | exact ho.elim
 | sema h1=>exact ho.elim
 | fin h1 h2=>exact ⟨h2,rfl,rfl⟩
theorem Zsd (h:PInv P ty Wg C n n0 T0 val W Shun n gs w t o ow g B0 L0 0) (hq:AllQuit n (cap o.D)) (hgo:stepG P true g w = .go g' w #[mk (.acquire (stA Wg))]) (hr:g.status = .running) :
  FrameS P W (fun l=>Shun l∨ShN Wg l) ((gs.map (woken P g g' w)).setIfInBounds 0 g') w (t ++ MemOp.ofEvents 0 g.frame.fn g.frame.place #[mk (.acquire (stA Wg))]) (fun i=>if i<n0 then o.q i else (o.D (i - n0)).fuel) g' B0 ((C,.cells ((List.range n).map val).toArray Payload.ety (0,0)) :: L0):=by
 have hpos:=h.npos
 have h1 :∀i,i<n→(o.D i).stage=1:=fun i hi=>by
  have:=hq i hi
  simp only [cap,ZwJ] at this
  omega
 have e1:MemOp.ofEvents 0 g.frame.fn g.frame.place #[mk (.acquire (stA Wg))] = #[{ g:=0,fn:=g.frame.fn,pos:=g.frame.place,act:=.mark (.acquire (stA Wg)) }]:=by rw [ofEvents_eq];simp [ofEvent_mk]
 have hy:(t ++ #[({ g:=0,fn:=g.frame.fn,pos:=g.frame.place,act:=.mark (.acquire (stA Wg)) } : MemOp)])[t.size]? = some { g:=0,fn:=g.frame.fn,pos:=g.frame.place,act:=.mark (.acquire (stA Wg)) }:=by simp
 have hmu :∀op∈MemOp.ofEvents 0 g.frame.fn g.frame.place #[mk (.acquire (stA Wg))],op.g=0∧op.act.touch? = none∧op.act≠.mark (.release (stA Wg)):=fun op hop=>by
  rw [e1] at hop
  simp only [List.mem_toArray,List.mem_singleton] at hop
  subst hop
  exact ⟨rfl,rfl,by simp⟩
 have htl:=h.tl.mute (u:=MemOp.ofEvents 0 g.frame.fn g.frame.place #[mk (.acquire (stA Wg))]) (g:=0) (by omega) hmu
 have hdf:Deaf (t ++ MemOp.ofEvents 0 g.frame.fn g.frame.place #[mk (.acquire (stA Wg))]) 0=0:=by rw [Deaf_own,h.deaf0];rfl
 have hpast:=htl.done hdf (q:=t.size) (by rw [e1];exact act?_of hy) (by rw [e1];simp [Trace.g?]) (by rw [e1];exact ⟨0,by simp [Trace.g?],by rw [deaf_old (Nat.le_refl _)];exact h.deaf0⟩) (fun k hk=>by
  obtain ⟨r,hr⟩:=h.rel k hk (by rw [h1 k hk];decide)
  exact ⟨r,hr.appOther g_of_ofEvents (by omega),lt_of_act? hr.act⟩)
 have hfull:w.heap[C]? = some (.cells ((List.range n).map val).toArray Payload.ety (0,0)):=full_of (val:=val) (by simp) (fun i hi=>by simp [hi]) h.pay (fun i hi=>h.has i hi (by rw [h1 i hi];decide))
 refine ⟨get_map_set_same _ _ _ (by rw [h.size];omega),fun x gx h0 hgx=>?_,hpast,fun op hop=>?_,⟨h.sat.ro,fun p hp=>?_,?_,fun p hp=>?_⟩,fun l hl=>?_,h.kw,fun p hp=>?_⟩
 ·have hxlt:x<n0+n:=by
   have:=(Array.getElem?_eq_some_iff.1 hgx).1
   simpa [h.size] using this
  rw [get_map_set _ _ _ _ (by omega)] at hgx
  obtain ⟨y,hy',rfl⟩:=Option.map_eq_some_iff.1 hgx
  rw [Deaf_other t (by omega) _ g_of_ofEvents]
  by_cases hxn:x<n0
  ·have hqx:=h.old x y h0 hxn hy'
   rw [if_pos hxn,woken_quitsD hqx]
   exact hqx
  ·obtain ⟨k,rfl⟩ :∃k,x=n0+k:=⟨x - n0,by omega⟩
   have hk:k<n:=by omega
   rw [if_neg hxn,Nat.add_sub_cancel_left,h.deafW k hk]
   obtain ⟨z,hz,hsz⟩:=h.wk k hk
   rw [hy'] at hz
   cases hz
   rcases hsz with ⟨h8,_⟩ | ⟨_,hs⟩
   ·have:=h1 k hk;omega
   ·rw [h1 k hk] at hs
    cases hs with
    | quit hs=>rw [woken_quitsD hs];exact hs
 ·have:=htl.gs op hop
  simpa [h.size] using this
 ·rcases List.mem_cons.1 hp with rfl | hp
  ·exact hfull
  ·exact h.sat.own p hp
 ·rw [List.map_cons,List.nodup_cons]
  refine ⟨fun hc=>?_,h.sat.nodup⟩
  obtain ⟨p,hp,e⟩:=List.mem_map.1 hc
  exact h.cL hp e
 ·rcases List.mem_cons.1 hp with rfl | hp
  ·cases hm:B0.mem C with
   | none=>rfl
   | some x=>exact absurd rfl (h.cB (b:=C) (by rw [hm];rfl))
  ·exact h.sat.apart p hp
 ·rcases hl with hl | hl
  ·obtain ⟨b,hb1,hb2,hb3,hb4⟩:=h.shun l hl
   refine ⟨b,hb1,hb2,hb4,fun p hp e=>?_⟩
   rcases List.mem_cons.1 hp with rfl | hp
   ·have:=h.ok.pay
    simp only at e
    rw [e,hb3] at this;cases this
   ·have:=h.o0 p hp
    rw [e,hb3] at this;cases this
  ·refine ⟨Wg,Zes hl,h.ok.lW,?_,fun p hp e=>?_⟩
   ·cases hm:B0.mem Wg with
    | none=>rfl
    | some x=>exact absurd rfl (h.wgB (b:=Wg) (by rw [hm];rfl))
   ·rcases List.mem_cons.1 hp with rfl | hp
    ·exact h.cw e
    ·exact h.wgL hp e
 ·rcases List.mem_cons.1 hp with rfl | hp
  ·exact h.lowC
  ·exact h.lowL p hp
set_option maxHeartbeats 1000000 in
theorem phase {K:Goroutine→Kn→Cells→Prop} (hn:n<2147483648) (hK :∀g B L,K g B L→Zbc P Post W g B L) {p:PTag} {j:Nat} {g:Goroutine} {B:Kn} {L:Cells} (h:PhaseR P ty Wg C n val K p j g B L) :
  j+pend p.ct≤n→∀(gs:Array Goroutine) (w:World) (sl:Option (Nat × Nat)) (t:Trace) (o:Oth),St P ty Wg C n n0 T0 val W Shun p.ct j gs w t o g B L p.deaf→Ends P Post (crowd gs w sl) t:=by
 induction h with
 | conv hle hs hb hl _ ih=>
  intro hjn gs w sl t o ⟨ow,st,sm,h1,h2,h3⟩
  exact ih hjn gs w sl t o ⟨ow,st,sm,h1.conv0 hs hb hl,h2,h3⟩
 | own hr hst hnext ih=>
  intro hjn
  exact ZcL hn hjn (by omega) (Zei _) hr fun gs w sl t o ow st sm h1 h2 h3=>by
   obtain ⟨a1,a2,a3⟩:=hst w h1.sat ⟨_,_,h2⟩
   exact ZE7 h1 a1 a2 a3 h2 h3 (ih w h1.sat ⟨_,_,h2⟩ hjn)
 | disA hr hst _ ih=>
  intro hjn
  exact ZcL hn hjn (by omega) (Zei _) hr fun gs w sl t o ow st sm h1 h2 h3=>by
   obtain ⟨a1,rfl,rfl,_⟩:=Zh6 h3 trivial
   exact Zgy h1 (hst w h1.sat) (Zap w _) (.refl Wg w) h2 (Ztq (.inl rfl)) rfl (.opn (tag:=.sp 0 4) trivial a1 (fun vs e=>by cases e)) (ih hjn)
 | add hr hj hst _ ih=>
  intro hjn
  rename_i j g gf B L _
  exact ZcL hn hjn (by omega) (Zei _) hr fun gs w sl t o ow st sm h1 h2 h3=>by
   obtain ⟨a1,rfl,rfl,_⟩:=Zh6 h3 trivial
   have hV:=Vc_le j (cap o.D)
   have hgo:=hst w (Vc j (cap o.D)) h1.sat (by omega) (by simpa [PTag.ct,pend] using h2)
   refine Zgy h1 hgo (ZcH (a:=stA Wg)) (aside_setCell w (stA Wg) _) (h2.setSt _) ZAR rfl ?_ (ih _ (by omega) (by show j+1≤n;omega))
   have e:(((Vc j (cap o.D):Nat):Int)+1)*KK=((Vc j (cap o.D)+pend (.sp 0 3):Nat):Int)*KK:=by simp [pend]
   rw [e]
   exact .opn (tag:=.sp 0 3) trivial a1 (fun vs e=>by cases e)
 | enaA hr hst _ ih=>
  intro hjn
  exact ZcL hn hjn (by simp only [PTag.ct,pend] at hjn;omega) (Zei _) hr fun gs w sl t o ow st sm h1 h2 h3=>by
   obtain ⟨a1,rfl,rfl,_⟩:=Zh6 h3 trivial
   exact Zgy h1 (hst w h1.sat) (Zap w _) (.refl Wg w) h2 (Ztq (.inr rfl)) rfl (.opn (tag:=.sp 0 2) trivial a1 (fun vs e=>by cases e)) (ih hjn)
 | go hr hst hw _ ih=>
  intro hjn
  rename_i j g g' child B L _
  have hj1:j+1≤n:=hjn
  exact ZcL hn hjn (by omega) (Zei _) hr fun gs w sl t o ow st sm h1 h2 h3=>by
   obtain ⟨a1,rfl,rfl,_⟩:=Zh6 h3 trivial
   have hrun:=runT_crowd_spawn (P:=P) (sl:=sl) (i:=0) h1.g0 (by simpa using hst w h1.sat)
   obtain ⟨τ,hτ⟩:=hw
   refine ⟨_,_,hrun,.inl ?_⟩
   have e0:(MemOp.ofEvents 0 g.frame.fn g.frame.place (#[]:Array Event)) = #[]:=by rw [ofEvents_eq];simp
   have hsz:gs.size=n0+j:=h1.size
   rw [e0,hsz]
   have h1':PInv P ty Wg C n n0 T0 val W Shun j gs w t o ow g B L 0:=h1
   obtain ⟨ow',hp⟩:=h1'.fork (a':=g') (x:={ g:=0,fn:=g.frame.fn,pos:=g.frame.place,act:=.go (n0+j) }) (y:={ g:=n0+j,fn:=child.frame.fn,pos:=g.frame.place,act:=.start }) ⟨rfl,rfl⟩ ⟨rfl,rfl⟩ hτ
   refine ih (by show j+1+0≤n;omega) _ _ _ _ _ ⟨ow',_,_,hp,h2,?_⟩
   have hD:(o.up j ⟨8,0,0⟩ τ B []).D=upd o.D j ⟨8,0,0⟩:=rfl
   have hV:Vc (j+1) (cap (upd o.D j ⟨8,0,0⟩))=Vc j (cap o.D)+1:=by
    rw [ZiF]
    simp only [Vc,sumTo]
    rw [upd_same]
    have:(sumTo j fun i=>cnt (upd (cap o.D) j (ZwJ ⟨8,0,0⟩) i))=sumTo j fun i=>cnt (cap o.D i):=sumTo_congr fun i hi=>by rw [upd_ne _ _ (by omega)]
    rw [this]
    rfl
   rw [hD]
   have:=ConcN.Mode.opn (j:=j+1) (D:=cap (upd o.D j ⟨8,0,0⟩)) (tag:=.sp 0 5) trivial (fun i hi=>by
    rw [ZiF]
    by_cases e:i=j
    ·subst e;rw [upd_same];exact .inl rfl
    ·rw [upd_ne _ _ e];exact a1 i (by omega)) (fun vs e=>by cases e)
   rw [hV] at this
   exact this
 | disW hr hst _ ih=>
  intro hjn
  rename_i g g' B L _
  exact ZcL hn hjn (by omega) (Zei _) hr fun gs w sl t o ow st sm h1 h2 h3=>by
   obtain ⟨a1,rfl,rfl,_⟩:=Zh6 h3 trivial
   have hV:=Vc_le n (cap o.D)
   by_cases h0:n=0
   ·have e:ZpG n = .ld0:=by simp [ZpG,h0]
    rw [e] at ih
    have hV0:Vc n (cap o.D)=0:=by omega
    refine Zgy h1 (hst w h1.sat) (Zap w _) (.refl Wg w) h2 (Ztq (.inl rfl)) rfl ?_ (ih (by show n+0≤n;omega))
    have:=ConcN.Mode.fin (j:=n) (D:=cap o.D) (tag:=.ret) trivial (Zg4 a1 hV0)
    rw [hV0]
    simpa [PTag.ct,pend] using this
   ·have e:ZpG n = .ldb n:=by simp [ZpG,h0]
    rw [e] at ih
    exact Zgy h1 (hst w h1.sat) (Zap w _) (.refl Wg w) h2 (Ztq (.inl rfl)) rfl (.opn (tag:=.w2 n) trivial a1 (fun vs e=>by cases e;omega)) (ih (by show n+0≤n;omega))
 | ldb hr hst _ _ ih0 ihv=>
  intro hjn
  rename_i M g gf B L _ _
  exact ZcL hn hjn (by omega) (Zei _) hr fun gs w sl t o ow st sm h1 h2 h3=>by
   obtain ⟨a1,rfl,rfl,a4⟩:=Zh6 h3 trivial
   obtain ⟨a5,a6⟩:=a4 M rfl
   have hV:=Vc_le n (cap o.D)
   have hgo:=hst w (Vc n (cap o.D)) h1.sat (by omega) (by simpa [PTag.ct,pend] using h2)
   by_cases h0:Vc n (cap o.D)=0
   ·refine Zgy h1 hgo (Zap w _) (.refl Wg w) h2 Zqe rfl ?_ (by rw [h0];exact ih0 (by show n+0≤n;omega))
    have:=ConcN.Mode.fin (j:=n) (D:=cap o.D) (tag:=.ke) trivial (Zg4 a1 h0)
    rw [h0]
    simpa [PTag.ct,pend] using this
   ·exact Zgy h1 hgo (Zap w _) (.refl Wg w) h2 Zqe rfl (.opn (tag:=.w2 (Vc n (cap o.D))) trivial a1 (fun vs e=>by cases e;omega)) (ihv _ h0 a5 (by omega) (by show n+0≤n;omega))
 | ld0 hr hst _ ih=>
  intro hjn
  exact ZcL hn hjn (by omega) (Zei _) hr fun gs w sl t o ow st sm h1 h2 h3=>by
   obtain ⟨a1,rfl,rfl⟩:=ZoP h3 trivial
   exact Zgy h1 (hst w h1.sat h2) (Zap w _) (.refl Wg w) h2 Zqe rfl (.fin (tag:=.ke) trivial a1) (ih hjn)
 | cas hr hst _ hst' _ ih1 ih2=>
  intro hjn
  rename_i vs g g1 g2 B L _ _
  exact ZcL hn hjn (by omega) (Zei _) hr fun gs w sl t o ow st sm h1 h2 h3=>by
   obtain ⟨a1,rfl,rfl,a4⟩:=Zh6 h3 trivial
   obtain ⟨a5,a6⟩:=a4 vs rfl
   have hV:=Vc_le n (cap o.D)
   have h2':WgAt ty Wg w ((Vc n (cap o.D):Int)*KK) 0:=by simpa [PTag.ct,pend] using h2
   by_cases he:Vc n (cap o.D)=vs
   ·subst he
    exact Zgy h1 (hst w h1.sat h2') (ZcH (a:=stA Wg)) (aside_setCell w (stA Wg) _) (h2.setSt _) ZAR rfl (.reg (tag:=.w3) trivial a1 a6) (ih1 (by show n+0≤n;omega))
   ·have hgo:=hst' w _ h1.sat (by omega) he h2'
    by_cases h0:vs - 1=0
    ·have e:ZpG (vs - 1) = .ld0:=by simp [ZpG,h0]
     rw [e] at ih2
     have hV0:Vc n (cap o.D)=0:=by omega
     refine Zgy h1 hgo (Zap w _) (.refl Wg w) h2 Zqe rfl ?_ (ih2 (by show n+0≤n;omega))
     have:=ConcN.Mode.fin (j:=n) (D:=cap o.D) (tag:=.ret) trivial (Zg4 a1 hV0)
     rw [hV0]
     simpa [PTag.ct,pend] using this
    ·have e:ZpG (vs - 1) = .ldb (vs - 1):=by simp [ZpG,h0]
     rw [e] at ih2
     exact Zgy h1 hgo (Zap w _) (.refl Wg w) h2 Zqe rfl (.opn (tag:=.w2 (vs - 1)) trivial a1 (fun vs' e=>by cases e;omega)) (ih2 (by show n+0≤n;omega))
 | sem hr hof hst hst' _ ih=>
  intro hjn
  rename_i g g' B L _
  exact ZcL hn hjn (by omega) (Zei _) hr fun gs w sl t o ow st sm h1 h2 h3=>by
   have blk :∀{st},WgAt ty Wg w st 0→ConcN.Mode n (cap o.D) .blk st 0→∃m' ops,runT P (crowd gs w sl) 0=(.next m',ops)∧(Ends P Post m' (t ++ ops)∨(PTag.w3.ct = .w3∧g.offers=none∧∃gs' w',m'=crowd gs' w' sl∧St P ty Wg C n n0 T0 val W Shun .blk n gs' w' (t ++ ops) o { g with status:=.blocked } B L PTag.w3.deaf)):=fun {st} hwg hm=>by
    have hgo:=hst w st h1.sat hwg
    have hrun:=runT_crowd_go (P:=P) (sl:=sl) (i:=0) h1.g0 (by simpa using hgo)
    have:=h1.book0 (a':={ g with status:=.blocked }) (es:=#[]) (Zap w _) (.refl Wg w) ⟨_,_,hwg⟩ (bk0 (fun e he=>by simp at he))
    exact ⟨_,_,hrun,.inr ⟨rfl,hof,_,_,rfl,_,_,_,this,hwg,hm⟩⟩
   cases h3 with
   | opn h3 _ _=>exact h3.elim
   | reg _ b2 b3=>exact blk h2 (.reg trivial b2 b3)
   | last Lx _ b2 b3 b4=>exact blk h2 (.last Lx trivial b2 b3 b4)
   | sema b1=>exact Zgy h1 (hst' w h1.sat h2) (ZcH (a:=smA Wg)) (aside_setCell w (smA Wg) _) (h2.setSm 0) ZAQ (by simp [deafBehind,semEvents,PTag.deaf]) (.fin (tag:=.w4) trivial b1) (ih hjn)
   | fin h3 _=>exact h3.elim
 | ld2 hr hst _ ih=>
  intro hjn
  exact ZcL hn hjn (by omega) (Zei _) hr fun gs w sl t o ow st sm h1 h2 h3=>by
   obtain ⟨a1,rfl,rfl⟩:=ZoP h3 trivial
   exact Zgy h1 (hst w h1.sat h2) (Zap w _) (.refl Wg w) h2 Zqe rfl (.fin (tag:=.ke) trivial a1) (ih hjn)
 | enaW hr hst _ ih=>
  intro hjn
  exact ZcL hn hjn (by omega) (Zei _) hr fun gs w sl t o ow st sm h1 h2 h3=>by
   obtain ⟨a1,rfl,rfl⟩:=ZoP h3 trivial
   exact Zgy h1 (hst w h1.sat) (Zap w _) (.refl Wg w) h2 (Ztq (.inr rfl)) rfl (.fin (tag:=.acq) trivial a1) (ih hjn)
 | acq hr hst hk=>
  intro hjn
  exact ZcL hn hjn (by omega) (Zei _) hr fun gs w sl t o ow st sm h1 h2 h3=>by
   obtain ⟨a1,rfl,rfl⟩:=ZoP h3 trivial
   have hgo:=hst w h1.sat
   have hrun:=runT_crowd_go (P:=P) (sl:=sl) (i:=0) h1.g0 (by simpa using hgo)
   exact ⟨_,_,hrun,.inl (hK _ _ _ hk _ _ _ _ _ _ (Zsd h1 a1 hgo hr))⟩
end
end Go.BL
namespace Go.BL
open Go.Conc Go.ConcN Go.RowKit Go.Conc.Lib Go.ConcR.Gen Go.ConcN.Gen
open Go.ConcR (KK wgBlock WgAt stA smA rd wr mk Payload g_of_ofEvents)
def DI (Wg:Nat) (w w':World) (es:Array Event):Prop:=w'=w∧∀e,e∈es→Said Wg e
theorem Zl {Wg:Nat} {w:World} {es:Array Event} (h :∀e∈es,False):DI Wg w w es:=⟨rfl,fun e he=>(h e he).elim⟩
theorem Ztb {Wg:Nat} {w:World} {e:Event} (h:Said Wg e):DI Wg w w #[e]:=⟨rfl,fun x hx=>by
 simp only [List.mem_toArray,List.mem_singleton] at hx
 exact hx ▸ h⟩
theorem Zvn {x:GStep} {Q:Goroutine→World→Array Event→Prop} (h:x.goes Q) :∃g' w' es,x = .go g' w' es∧Q g' w' es:=by
 cases x <;> first | exact ⟨_,_,_,rfl,h⟩ | exact h.elim
def RS (ty:TypeId) (Wg:Nat) (B:Kn) (L:Cells) (_ w:World):Prop:=Sat B L w∧WgLive ty Wg w
variable [Payload]
section
variable {P:Program} {ty:TypeId} {Wg C n:Nat} {val:Nat→Value} {K:Goroutine→Kn→Cells→Prop} {p:PTag} {j:Nat} {B:Kn} {L:Cells}
theorem phz' :∀(m:Nat) (g:Goroutine) (w:World),Sat B L w→WgLive ty Wg w→Goes P true (RS ty Wg B L) (DI Wg) (fun g _=>PhaseR P ty Wg C n val K p j g B L) m g w→PhaseR P ty Wg C n val K p j g B L
 | 0,g,w,s,l,h=>h w ⟨s,l⟩
 | m+1,g,w,s,l,h=>by
  rcases h with h | ⟨hr,h⟩
  ·exact h w ⟨s,l⟩
  ·refine PhaseR.step hr fun w₁ s₁ l₁=>?_
   have h1:=h w₁ ⟨s₁,l₁⟩
   obtain ⟨g',w',es,hx,⟨rfl,he⟩,hg⟩:=Zvn h1
   exact ⟨g',w',es,B,L,hx,fun e hh=>.inr (he e hh),Ok.refl s₁,phz' m g' w' s₁ l₁ hg⟩
theorem phz {g:Goroutine} (m:Nat) (hr:g.status = .running) (h :∀w,Sat B L w∧WgLive ty Wg w→Goes P true (RS ty Wg B L) (DI Wg) (fun g _=>PhaseR P ty Wg C n val K p j g B L) m g w):PhaseR P ty Wg C n val K p j g B L:=by
 by_cases hw :∃w,Sat B L w∧WgLive ty Wg w
 ·obtain ⟨w,hw⟩:=hw
  exact phz' m g w hw.1 hw.2 (h w hw)
 ·exact PhaseR.step hr fun w s l=>absurd ⟨w,s,l⟩ hw
end
section
variable {P:PJ} {X:Lg P} {B:Kn} {L:Cells} {b:Frame} {a:Act} {k:List Item} {cs:List Frame}
theorem Lg.goV {ops:Array Oper} {i:Nat} {rest:List Nat} {o:Oper} (v:Value) (ho:ops[i]? = some o) (hw:Region.wanted o (yielded ops a.tmps)=true) (hk:b.kind≠.early)
  (hr :∀w,(execOp a.eval o).run P w = .ok (.value v) w) (he :∀w,(execOp a.eval o).events P w #[] = #[])
  (h:X.R (G (b.at (a.put o.dst v) (.inRegion ops rest :: k)) cs) B L):X.R (G (b.at a (.inRegion ops (i :: rest) :: k)) cs) B L:=
 X.ctl rfl (fun w=>by rw [stepG_value ho hw hk (hr w)];unfold listed;rw [he w,seen_none]) h
theorem Lg.leave0 {b₀:Frame} {a₀:Act} {ops:Array Oper} {i:Nat} {rest:List Nat} {fn:Func} {todo:List Item} (hn:b.kind = .normal) (hd:a.defers=[]) (hf:P.funcs[b.fn]? = some fn) (hr:fn.results = #[])
  (h:X.R (G (b₀.at (a₀.put ((ops[i]?).bind (·.dst)) (.tuple #[])) (.inRegion ops rest :: k)) cs) B L):X.R (G { b.at a todo with mode:=.returning } (b₀.at a₀ (.inRegion ops (i :: rest) :: k) :: cs)) B L:=
 X.ctl rfl (fun w=>by rw [stepG_leave hn hd hf (results_none hr _ P w) (events_results_none hr _ _),Frame.finish_at]) h
end
end Go.BL
namespace Go.BL
open Go.Conc Go.ConcN Go.RowKit Go.Conc.Lib Go.ConcR.Gen Go.ConcN.Gen
open Go.ConcR (KK wgBlock WgAt stA smA rd wr mk Payload)
variable [Payload] {L:WgLink} {P:Program} {Wg C n:Nat} {val:Nat→Value} {K:Goroutine→Kn→Cells→Prop} {j:Nat} {B:Kn} {Lc:Cells} {b₀:Frame} {a₀:Act} {ops₀:Array Oper} {i₀:Nat} {rest₀:List Nat} {k₀:List Item} {cs:List Frame}
set_option maxRecDepth 100000 in
set_option maxHeartbeats 8000000 in
theorem ZF0 (H:WgLib P L) (hj:j<n) (hT:PhaseR P L.tWg Wg C n val K .a2 j (G (b₀.at (a₀.put ((ops₀[i₀]?).bind (·.dst)) (.tuple #[])) (.inRegion ops₀ rest₀ :: k₀)) cs) B Lc) (A:Array Value) (hA:A = #[.pointer (some ⟨Wg,0,none⟩),.int .i64 1,undef,undef,undef,undef,undef,undef,undef,undef,undef,undef,undef,undef,undef,undef,undef,undef,undef,undef,undef,undef,undef,undef,undef,undef,undef,undef,undef,undef,undef,undef,undef,undef,undef,undef,undef,undef,undef,undef,undef,undef,undef,undef,undef,undef,undef,undef,undef,undef,undef,undef,undef,undef,undef,undef,undef,undef,undef,undef,undef,undef,undef,undef,undef,undef,undef,undef,undef,undef,undef,undef,undef,undef,undef,undef,undef,undef,undef,undef,undef,undef,undef,undef,undef,undef,undef,undef,undef,undef,undef,undef,undef,undef,undef,undef,undef,undef,undef,undef,undef,undef,undef,undef,undef,undef,undef,undef,undef,undef,undef,undef,undef,undef,undef,undef,undef]) :
  PhaseR P L.tWg Wg C n val K .a5 j (G ((base L.add).at ⟨A,[]⟩ [.code (body_add L)]) (b₀.at a₀ (.inRegion ops₀ (i₀ :: rest₀) :: k₀) :: cs)) B Lc:=by
 subst hA
 lib_facts
 simp only [body_add,addFn,Option.getD_some]
 refine phz 120 rfl (fun w hF=>?_)
 iterate 12 first
  | (refine Goes.step rfl (fun _ h₁=>?_);replace hF:=(fun _ h=>h) hF h₁;clear h₁;rw [stepG_seq];simp only [goes_go];refine ⟨by (refine Zl ?_;intro e he;simp at he),?_⟩)
  | (refine Goes.step rfl (fun _ h₁=>?_);replace hF:=(fun _ h=>h) hF h₁;clear h₁;rw [stepG_cond (t:=true) rfl];simp only [goes_go,if_true,if_false,Bool.false_eq_true,↓reduceIte];refine ⟨by (refine Zl ?_;intro e he;simp at he),?_⟩)
  | (refine Goes.step rfl (fun _ h₁=>?_);replace hF:=(fun _ h=>h) hF h₁;clear h₁;rw [stepG_region];simp only [goes_go,List.size_toArray,List.length_cons,List.length_nil,Nat.reduceAdd,Nat.zero_add,List.range,List.range.loop];refine ⟨by (refine Zl ?_;intro e he;simp at he),?_⟩)
  | (refine Goes.step rfl (fun _ h₁=>?_);replace hF:=(fun _ h=>h) hF h₁;clear h₁;rw [stepG_region_end];simp only [goes_go];refine ⟨by (refine Zl ?_;intro e he;simp at he),?_⟩)
  | (refine Goes.step rfl (fun _ h₁=>?_);replace hF:=(fun _ h=>h) hF h₁;clear h₁;rw [stepG_cond (t:=false) rfl];simp only [goes_go,if_true,if_false,Bool.false_eq_true,↓reduceIte];refine ⟨by (refine Zl ?_;intro e he;simp at he),?_⟩)
  | (refine Goes.step rfl (fun _ h₁=>?_);replace hF:=(fun _ h=>h) hF h₁;clear h₁;rw [stepG_skip];simp only [goes_go];refine ⟨by (refine Zl ?_;intro e he;simp at he),?_⟩)
  | ((refine Goes.step rfl (fun _ h₁=>?_);replace hF:=(fun _ h=>h) hF h₁;clear h₁);refine goes_oper_k rfl rfl (by k_ne) (fun K hK=>?_);go_simp;refine hK _ _ ⟨?_,?_⟩;(focus (refine Zl ?_;intro e he;have hm:=mem_listed he;simp [go_sem, *] at hm));clear hK K;try w_num)
 refine Goes.stop (fun _ _=>?_)
 refine PhaseR.disA rfl (fun w _=>stepG_mark0 .disable (by simp) rfl rfl (by k_ne) rfl H.f_disable (x_disable_n L) (x_disable_b L) (x_disable_x L) (x_disable_f L)) ?_
 walk_nrm
 refine phz 120 rfl (fun w hF=>?_)
 (refine Goes.step rfl (fun _ h₁=>?_);replace hF:=(fun _ h=>h) hF h₁;clear h₁;rw [stepG_region_end];simp only [goes_go];refine ⟨by (refine Zl ?_;intro e he;simp at he),?_⟩)
 (refine Goes.step rfl (fun _ h₁=>?_);replace hF:=(fun _ h=>h) hF h₁;clear h₁;rw [stepG_region];simp only [goes_go,List.size_toArray,List.length_cons,List.length_nil,Nat.reduceAdd,Nat.zero_add,List.range,List.range.loop];refine ⟨by (refine Zl ?_;intro e he;simp at he),?_⟩)
 (refine Goes.step rfl (fun _ h₁=>?_);replace hF:=(fun _ h=>h) hF h₁;clear h₁;rw [stepG_defer rfl rfl (by k_ne) rfl];simp only [goes_go];refine ⟨by (refine Zl ?_;intro e he;simp at he),?_⟩;walk_nrm)
 iterate 8 first
  | (refine Goes.step rfl (fun _ h₁=>?_);replace hF:=(fun _ h=>h) hF h₁;clear h₁;rw [stepG_region_end];simp only [goes_go];refine ⟨by (refine Zl ?_;intro e he;simp at he),?_⟩)
  | (refine Goes.step rfl (fun _ h₁=>?_);replace hF:=(fun _ h=>h) hF h₁;clear h₁;rw [stepG_seq];simp only [goes_go];refine ⟨by (refine Zl ?_;intro e he;simp at he),?_⟩)
  | (refine Goes.step rfl (fun _ h₁=>?_);replace hF:=(fun _ h=>h) hF h₁;clear h₁;rw [stepG_region];simp only [goes_go,List.size_toArray,List.length_cons,List.length_nil,Nat.reduceAdd,Nat.zero_add,List.range,List.range.loop];refine ⟨by (refine Zl ?_;intro e he;simp at he),?_⟩)
  | ((refine Goes.step rfl (fun _ h₁=>?_);replace hF:=(fun _ h=>h) hF h₁;clear h₁);refine goes_oper_k rfl rfl (by k_ne) (fun K hK=>?_);go_simp;refine hK _ _ ⟨?_,?_⟩;(focus (refine Zl ?_;intro e he;have hm:=mem_listed he;simp [go_sem, *] at hm));clear hK K;try w_num)
 (refine Goes.step rfl (fun _ h₁=>?_);replace hF:=(fun _ h=>h) hF h₁;clear h₁;rw [stepG_entry_pure (.bool false) rfl rfl (by k_ne) rfl H.f_inBubble (x_inBubble_n L) (x_inBubble_b L) (x_inBubble_x L) (x_inBubble_f L)];simp only [goes_go];refine ⟨by (refine Zl ?_;intro e he;simp at he),?_⟩;walk_nrm)
 iterate 11 first
  | (refine Goes.step rfl (fun _ h₁=>?_);replace hF:=(fun _ h=>h) hF h₁;clear h₁;rw [stepG_region_end];simp only [goes_go];refine ⟨by (refine Zl ?_;intro e he;simp at he),?_⟩)
  | (refine Goes.step rfl (fun _ h₁=>?_);replace hF:=(fun _ h=>h) hF h₁;clear h₁;rw [stepG_cond (t:=false) rfl];simp only [goes_go,if_true,if_false,Bool.false_eq_true,↓reduceIte];refine ⟨by (refine Zl ?_;intro e he;simp at he),?_⟩)
  | (refine Goes.step rfl (fun _ h₁=>?_);replace hF:=(fun _ h=>h) hF h₁;clear h₁;rw [stepG_skip];simp only [goes_go];refine ⟨by (refine Zl ?_;intro e he;simp at he),?_⟩)
  | (refine Goes.step rfl (fun _ h₁=>?_);replace hF:=(fun _ h=>h) hF h₁;clear h₁;rw [stepG_seq];simp only [goes_go];refine ⟨by (refine Zl ?_;intro e he;simp at he),?_⟩)
  | (refine Goes.step rfl (fun _ h₁=>?_);replace hF:=(fun _ h=>h) hF h₁;clear h₁;rw [stepG_region];simp only [goes_go,List.size_toArray,List.length_cons,List.length_nil,Nat.reduceAdd,Nat.zero_add,List.range,List.range.loop];refine ⟨by (refine Zl ?_;intro e he;simp at he),?_⟩)
  | ((refine Goes.step rfl (fun _ h₁=>?_);replace hF:=(fun _ h=>h) hF h₁;clear h₁);refine goes_oper_k rfl rfl (by k_ne) (fun K hK=>?_);go_simp;refine hK _ _ ⟨?_,?_⟩;(focus (refine Zl ?_;intro e he;have hm:=mem_listed he;simp [go_sem, *] at hm));clear hK K;try w_num)
 (refine Goes.step rfl (fun _ h₁=>?_);replace hF:=(fun _ h=>h) hF h₁;clear h₁;refine goes_call rfl rfl (by k_ne) rfl H.f_uAdd (nm_uAdd L) rfl ⟨by (refine Zl ?_;intro e he;simp at he),?_⟩;walk_nrmf uAddFn)
 iterate 10 first
  | (refine Goes.step rfl (fun _ h₁=>?_);replace hF:=(fun _ h=>h) hF h₁;clear h₁;rw [stepG_seq];simp only [goes_go];refine ⟨by (refine Zl ?_;intro e he;simp at he),?_⟩)
  | (refine Goes.step rfl (fun _ h₁=>?_);replace hF:=(fun _ h=>h) hF h₁;clear h₁;rw [stepG_region];simp only [goes_go,List.size_toArray,List.length_cons,List.length_nil,Nat.reduceAdd,Nat.zero_add,List.range,List.range.loop];refine ⟨by (refine Zl ?_;intro e he;simp at he),?_⟩)
  | (refine Goes.step rfl (fun _ h₁=>?_);replace hF:=(fun _ h=>h) hF h₁;clear h₁;rw [stepG_region_end];simp only [goes_go];refine ⟨by (refine Zl ?_;intro e he;simp at he),?_⟩)
  | ((refine Goes.step rfl (fun _ h₁=>?_);replace hF:=(fun _ h=>h) hF h₁;clear h₁);refine goes_oper_k rfl rfl (by k_ne) (fun K hK=>?_);go_simp;refine hK _ _ ⟨?_,?_⟩;(focus (refine Zl ?_;intro e he;have hm:=mem_listed he;simp [go_sem, *] at hm));clear hK K;try w_num)
 refine Goes.stop (fun _ _=>?_)
 have e1 :∀v:Nat,v<2147483647→IntKind.u64.wrap ((v:Int)*KK+4294967296)=((v:Int)+1)*KK:=fun v hv=>by rw [IntKind.wrap_u64];simp only [KK];omega
 refine PhaseR.add rfl hj (fun w v s hv hw=>(stepG_add_atomic rfl rfl (by k_ne) rfl H.f_addU64 (x_addU64_n L) (x_addU64_b L) (x_addU64_x L) .u64 (x_addU64_f L) rfl rfl hw.cellSt (hw.thaw 0)).trans (by rw [e1 v hv];rfl)) (fun v hv=>?_)
 clear e1
 rcases Nat.eq_zero_or_pos v with rfl | hvp
 ·have z:(((0:Nat):Int)+1)*KK=KK:=by simp
  rw [z]
  simp only [KK]
  refine phz 120 rfl (fun w hF=>?_)
  walk_nrm
  (refine Goes.step rfl (fun _ h₁=>?_);replace hF:=(fun _ h=>h) hF h₁;clear h₁)
  refine goes_oper_k rfl rfl (by k_ne) (fun K hK=>?_)
  go_simp
  refine hK _ _ ⟨?_,?_⟩
  ·(refine Zl ?_;intro e he;have hm:=mem_listed he;simp [go_sem, *] at hm)
  clear hK K
  try w_num
  (refine Goes.step rfl (fun _ h₁=>?_);replace hF:=(fun _ h=>h) hF h₁;clear h₁;rw [stepG_region_end];simp only [goes_go];refine ⟨by (refine Zl ?_;intro e he;simp at he),?_⟩)
  (refine Goes.step rfl (fun _ h₁=>?_);replace hF:=(fun _ h=>h) hF h₁;clear h₁;rw [stepG_ret'];simp only [goes_go];refine ⟨by (refine Zl ?_;intro e he;simp at he),?_⟩)
  (refine Goes.step rfl (fun _ h₁=>?_);replace hF:=(fun _ h=>h) hF h₁;clear h₁;refine goes_leave1 rfl rfl H.f_uAdd rfl ⟨by (refine Zl ?_;intro e he;simp at he),?_⟩;walk_nrm)
  iterate 48 first
   | (refine Goes.step rfl (fun _ h₁=>?_);replace hF:=(fun _ h=>h) hF h₁;clear h₁;rw [stepG_region_end];simp only [goes_go];refine ⟨by (refine Zl ?_;intro e he;simp at he),?_⟩)
   | (refine Goes.step rfl (fun _ h₁=>?_);replace hF:=(fun _ h=>h) hF h₁;clear h₁;rw [stepG_seq];simp only [goes_go];refine ⟨by (refine Zl ?_;intro e he;simp at he),?_⟩)
   | (refine Goes.step rfl (fun _ h₁=>?_);replace hF:=(fun _ h=>h) hF h₁;clear h₁;rw [stepG_region];simp only [goes_go,List.size_toArray,List.length_cons,List.length_nil,Nat.reduceAdd,Nat.zero_add,List.range,List.range.loop];refine ⟨by (refine Zl ?_;intro e he;simp at he),?_⟩)
   | (refine Goes.step rfl (fun _ h₁=>?_);replace hF:=(fun _ h=>h) hF h₁;clear h₁;rw [stepG_unwanted rfl rfl];simp only [goes_go];refine ⟨by (refine Zl ?_;intro e he;simp at he),?_⟩;walk_nrm)
   | (refine Goes.step rfl (fun _ h₁=>?_);replace hF:=(fun _ h=>h) hF h₁;clear h₁;rw [stepG_cond (t:=false) rfl];simp only [goes_go,if_true,if_false,Bool.false_eq_true,↓reduceIte];refine ⟨by (refine Zl ?_;intro e he;simp at he),?_⟩)
   | (refine Goes.step rfl (fun _ h₁=>?_);replace hF:=(fun _ h=>h) hF h₁;clear h₁;rw [stepG_skip];simp only [goes_go];refine ⟨by (refine Zl ?_;intro e he;simp at he),?_⟩)
   | (refine Goes.step rfl (fun _ h₁=>?_);replace hF:=(fun _ h=>h) hF h₁;clear h₁;rw [stepG_cond (t:=true) rfl];simp only [goes_go,if_true,if_false,Bool.false_eq_true,↓reduceIte];refine ⟨by (refine Zl ?_;intro e he;simp at he),?_⟩)
   | ((refine Goes.step rfl (fun _ h₁=>?_);replace hF:=(fun _ h=>h) hF h₁;clear h₁);refine goes_oper_k rfl rfl (by k_ne) (fun K hK=>?_);go_simp;refine hK _ _ ⟨?_,?_⟩;(focus (refine Zl ?_;intro e he;have hm:=mem_listed he;simp [go_sem, *] at hm));clear hK K;try w_num)
  (refine Goes.step rfl (fun _ h₁=>?_);replace hF:=(fun _ h=>h) hF h₁;clear h₁)
  refine goes_oper_k rfl rfl (by k_ne) (fun Kx hKx=>?_)
  have hcv:=run_convert_to_unsafe (P:=P) H.underlying_tPU32 H.underlying_tUP H.room_tU32 (WgLive.cell1 hF.2).choose_spec
  have hce:=fun es=>events_convert_to_unsafe (P:=P) H.underlying_tPU32 H.underlying_tUP H.room_tU32 (WgLive.cell1 hF.2).choose_spec es
  go_simp
  refine hKx _ _ ⟨?_,?_⟩
  ·(refine Zl ?_;intro ex hex;have hmx:=mem_listed hex;simp [go_sem,hce] at hmx)
  clear hKx Kx hcv hce
  (refine Goes.step rfl (fun _ h₁=>?_);replace hF:=(fun _ h=>h) hF h₁;clear h₁)
  rw [stepG_markAt .read (by simp) rfl rfl (by k_ne) rfl H.f_raceRead (x_raceRead_n L) (x_raceRead_b L) (x_raceRead_x L) (x_raceRead_f L) (ad:=⟨Wg,1,none⟩) (by simp [Act.eval] <;> rfl)]
  simp only [goes_go]
  refine ⟨Ztb ⟨_,rfl,.inl rfl⟩,?_⟩
  walk_nrm
  iterate 39 first
   | (refine Goes.step rfl (fun _ h₁=>?_);replace hF:=(fun _ h=>h) hF h₁;clear h₁;rw [stepG_region_end];simp only [goes_go];refine ⟨by (refine Zl ?_;intro e he;simp at he),?_⟩)
   | (refine Goes.step rfl (fun _ h₁=>?_);replace hF:=(fun _ h=>h) hF h₁;clear h₁;rw [stepG_seq];simp only [goes_go];refine ⟨by (refine Zl ?_;intro e he;simp at he),?_⟩)
   | (refine Goes.step rfl (fun _ h₁=>?_);replace hF:=(fun _ h=>h) hF h₁;clear h₁;rw [stepG_region];simp only [goes_go,List.size_toArray,List.length_cons,List.length_nil,Nat.reduceAdd,Nat.zero_add,List.range,List.range.loop];refine ⟨by (refine Zl ?_;intro e he;simp at he),?_⟩)
   | (refine Goes.step rfl (fun _ h₁=>?_);replace hF:=(fun _ h=>h) hF h₁;clear h₁;rw [stepG_cond (t:=false) rfl];simp only [goes_go,if_true,if_false,Bool.false_eq_true,↓reduceIte];refine ⟨by (refine Zl ?_;intro e he;simp at he),?_⟩)
   | (refine Goes.step rfl (fun _ h₁=>?_);replace hF:=(fun _ h=>h) hF h₁;clear h₁;rw [stepG_skip];simp only [goes_go];refine ⟨by (refine Zl ?_;intro e he;simp at he),?_⟩)
   | (refine Goes.step rfl (fun _ h₁=>?_);replace hF:=(fun _ h=>h) hF h₁;clear h₁;rw [stepG_unwanted rfl rfl];simp only [goes_go];refine ⟨by (refine Zl ?_;intro e he;simp at he),?_⟩;walk_nrm)
   | (refine Goes.step rfl (fun _ h₁=>?_);replace hF:=(fun _ h=>h) hF h₁;clear h₁;rw [stepG_cond (t:=true) rfl];simp only [goes_go,if_true,if_false,Bool.false_eq_true,↓reduceIte];refine ⟨by (refine Zl ?_;intro e he;simp at he),?_⟩)
   | (refine Goes.step rfl (fun _ h₁=>?_);replace hF:=(fun _ h=>h) hF h₁;clear h₁;rw [stepG_ret'];simp only [goes_go];refine ⟨by (refine Zl ?_;intro e he;simp at he),?_⟩)
   | ((refine Goes.step rfl (fun _ h₁=>?_);replace hF:=(fun _ h=>h) hF h₁;clear h₁);refine goes_oper_k rfl rfl (by k_ne) (fun K hK=>?_);go_simp;refine hK _ _ ⟨?_,?_⟩;(focus (refine Zl ?_;intro e he;have hm:=mem_listed he;simp [go_sem, *] at hm));clear hK K;try w_num)
  refine Goes.stop (fun _ _=>?_)
  refine PhaseR.enaA rfl (fun w _=>stepG_unwind_entry (v:=.tuple #[]) (evs:=#[mk .enable]) rfl H.f_enable (x_enable_n L) (x_enable_b L) (x_enable_x L) (x_enable_f L) (by simp [Extern.Race.none_]) (by simp [mk]) (by simp [mk])) ?_
  refine phz 120 rfl (fun w hF=>?_)
  (refine Goes.step rfl (fun _ h₁=>?_);replace hF:=(fun _ h=>h) hF h₁;clear h₁;refine goes_leave0 rfl rfl H.f_add rfl ⟨by (refine Zl ?_;intro e he;simp at he),?_⟩;walk_nrm)
  refine Goes.stop (fun _ _=>?_)
  exact hT
 ·obtain ⟨V,hV⟩ :∃V:Int,V=(v:Int)+1:=⟨_,rfl⟩
  obtain ⟨S,hS⟩ :∃S:Int,S=V*KK:=⟨_,rfl⟩
  rw [← hV,← hS]
  have a1:S / 4294967296=V:=by rw [hS];simp only [KK];omega
  have b1:bits .and .u64 S 2147483648=0:=by rw [hS,hV];have:=st_flag (v+1) 0 (by omega) (by omega);simpa [KK] using this
  have b2:bits .and .u64 S 2147483647=0:=by rw [hS,hV];have:=st_waiters (v+1) 0 (by omega) (by omega);simpa [KK] using this
  have c1:IntKind.i32.wrap V=V:=by rw [IntKind.wrap_i32];omega
  have hV1:1<V:=by omega
  have hV2:V<2147483648:=by omega
  have q1:(V == 1)=false:=by simp;omega
  have q2:decide (V=1)=false:=decide_eq_false (by omega)
  have q3:decide (V<0)=false:=decide_eq_false (by omega)
  have q4:decide (0<V)=true:=decide_eq_true (by omega)
  have q5:(V == 0)=false:=by simp;omega
  have q6:decide (V=0)=false:=decide_eq_false (by omega)
  clear hS hV
  refine phz 120 rfl (fun w hF=>?_)
  walk_nrm
  (refine Goes.step rfl (fun _ h₁=>?_);replace hF:=(fun _ h=>h) hF h₁;clear h₁)
  refine goes_oper_k rfl rfl (by k_ne) (fun K hK=>?_)
  go_simp
  refine hK _ _ ⟨?_,?_⟩
  ·(refine Zl ?_;intro e he;have hm:=mem_listed he;simp [go_sem, *] at hm)
  clear hK K
  try w_num
  (refine Goes.step rfl (fun _ h₁=>?_);replace hF:=(fun _ h=>h) hF h₁;clear h₁;rw [stepG_region_end];simp only [goes_go];refine ⟨by (refine Zl ?_;intro e he;simp at he),?_⟩)
  (refine Goes.step rfl (fun _ h₁=>?_);replace hF:=(fun _ h=>h) hF h₁;clear h₁;rw [stepG_ret'];simp only [goes_go];refine ⟨by (refine Zl ?_;intro e he;simp at he),?_⟩)
  (refine Goes.step rfl (fun _ h₁=>?_);replace hF:=(fun _ h=>h) hF h₁;clear h₁;refine goes_leave1 rfl rfl H.f_uAdd rfl ⟨by (refine Zl ?_;intro e he;simp at he),?_⟩;walk_nrm)
  iterate 83 first
   | (refine Goes.step rfl (fun _ h₁=>?_);replace hF:=(fun _ h=>h) hF h₁;clear h₁;rw [stepG_region_end];simp only [goes_go];refine ⟨by (refine Zl ?_;intro e he;simp at he),?_⟩)
   | (refine Goes.step rfl (fun _ h₁=>?_);replace hF:=(fun _ h=>h) hF h₁;clear h₁;rw [stepG_seq];simp only [goes_go];refine ⟨by (refine Zl ?_;intro e he;simp at he),?_⟩)
   | (refine Goes.step rfl (fun _ h₁=>?_);replace hF:=(fun _ h=>h) hF h₁;clear h₁;rw [stepG_region];simp only [goes_go,List.size_toArray,List.length_cons,List.length_nil,Nat.reduceAdd,Nat.zero_add,List.range,List.range.loop];refine ⟨by (refine Zl ?_;intro e he;simp at he),?_⟩)
   | (refine Goes.step rfl (fun _ h₁=>?_);replace hF:=(fun _ h=>h) hF h₁;clear h₁;rw [stepG_unwanted rfl rfl];simp only [goes_go];refine ⟨by (refine Zl ?_;intro e he;simp at he),?_⟩;walk_nrm)
   | (refine Goes.step rfl (fun _ h₁=>?_);replace hF:=(fun _ h=>h) hF h₁;clear h₁;rw [stepG_cond (t:=false) (by first | rfl | (simp [Act.eval];omega))];simp only [goes_go,if_true,if_false,Bool.false_eq_true,↓reduceIte];refine ⟨by (refine Zl ?_;intro e he;simp at he),?_⟩)
   | (refine Goes.step rfl (fun _ h₁=>?_);replace hF:=(fun _ h=>h) hF h₁;clear h₁;rw [stepG_skip];simp only [goes_go];refine ⟨by (refine Zl ?_;intro e he;simp at he),?_⟩)
   | (refine Goes.step rfl (fun _ h₁=>?_);replace hF:=(fun _ h=>h) hF h₁;clear h₁;rw [stepG_cond (t:=true) (by first | rfl | (simp [Act.eval];omega))];simp only [goes_go,if_true,if_false,Bool.false_eq_true,↓reduceIte];refine ⟨by (refine Zl ?_;intro e he;simp at he),?_⟩)
   | (refine Goes.step rfl (fun _ h₁=>?_);replace hF:=(fun _ h=>h) hF h₁;clear h₁;rw [stepG_ret'];simp only [goes_go];refine ⟨by (refine Zl ?_;intro e he;simp at he),?_⟩)
   | ((refine Goes.step rfl (fun _ h₁=>?_);replace hF:=(fun _ h=>h) hF h₁;clear h₁);refine goes_oper_k rfl rfl (by k_ne) (fun K hK=>?_);go_simp;refine hK _ _ ⟨?_,?_⟩;(focus (refine Zl ?_;intro e he;have hm:=mem_listed he;simp [go_sem, *] at hm));clear hK K;try w_num)
  refine Goes.stop (fun _ _=>?_)
  refine PhaseR.enaA rfl (fun w _=>stepG_unwind_entry (v:=.tuple #[]) (evs:=#[mk .enable]) rfl H.f_enable (x_enable_n L) (x_enable_b L) (x_enable_x L) (x_enable_f L) (by simp [Extern.Race.none_]) (by simp [mk]) (by simp [mk])) ?_
  refine phz 120 rfl (fun w hF=>?_)
  (refine Goes.step rfl (fun _ h₁=>?_);replace hF:=(fun _ h=>h) hF h₁;clear h₁;refine goes_leave0 rfl rfl H.f_add rfl ⟨by (refine Zl ?_;intro e he;simp at he),?_⟩;walk_nrm)
  refine Goes.stop (fun _ _=>?_)
  exact hT
set_option maxRecDepth 100000 in
theorem ZF1 (L:WgLink) (Wg:Nat):(#[.pointer (some ⟨Wg,0,none⟩),.int .i64 1]:Array Value) ++ Array.replicate ((addFn L).ntmps - (#[.pointer (some ⟨Wg,0,none⟩),.int .i64 1]:Array Value).size) undef = #[.pointer (some ⟨Wg,0,none⟩),.int .i64 1,undef,undef,undef,undef,undef,undef,undef,undef,undef,undef,undef,undef,undef,undef,undef,undef,undef,undef,undef,undef,undef,undef,undef,undef,undef,undef,undef,undef,undef,undef,undef,undef,undef,undef,undef,undef,undef,undef,undef,undef,undef,undef,undef,undef,undef,undef,undef,undef,undef,undef,undef,undef,undef,undef,undef,undef,undef,undef,undef,undef,undef,undef,undef,undef,undef,undef,undef,undef,undef,undef,undef,undef,undef,undef,undef,undef,undef,undef,undef,undef,undef,undef,undef,undef,undef,undef,undef,undef,undef,undef,undef,undef,undef,undef,undef,undef,undef,undef,undef,undef,undef,undef,undef,undef,undef,undef,undef,undef,undef,undef,undef,undef,undef,undef,undef]:=by
 walk_nrmf addFn
set_option maxRecDepth 100000 in
theorem ZBj (L:WgLink) (Wg:Nat):(#[.pointer (some ⟨Wg,0,none⟩)]:Array Value) ++ Array.replicate ((waitFn L).ntmps - (#[.pointer (some ⟨Wg,0,none⟩)]:Array Value).size) undef = #[.pointer (some ⟨Wg,0,none⟩),undef,undef,undef,undef,undef,undef,undef,undef,undef,undef,undef,undef,undef,undef,undef,undef,undef,undef,undef,undef,undef,undef,undef,undef,undef,undef,undef,undef,undef,undef,undef,undef,undef,undef,undef,undef,undef,undef,undef,undef,undef,undef,undef,undef,undef,undef,undef,undef,undef,undef,undef,undef,undef,undef,undef,undef,undef,undef,undef,undef,undef,undef,undef,undef,undef,undef,undef,undef,undef,undef,undef,undef,undef,undef,undef,undef,undef,undef,undef,undef,undef,undef,undef]:=by
 walk_nrmf waitFn
end Go.BL
namespace Go.BL
open Go.Conc Go.ConcN Go.RowKit Go.Conc.Lib Go.ConcR.Gen Go.ConcN.Gen
open Go.ConcR (KK wgBlock WgAt stA smA rd wr mk Payload)
variable [Payload] {L:WgLink} {P:Program} {Wg C n:Nat} {val:Nat→Value} {K:Goroutine→Kn→Cells→Prop} {j:Nat} {B:Kn} {Lc:Cells} {b₀:Frame} {a₀:Act} {ops₀:Array Oper} {i₀:Nat} {rest₀:List Nat} {k₀:List Item} {cs:List Frame}
variable {Jn:JoinT} {X:Lg ⟨P,Jn⟩}
set_option maxRecDepth 100000 in
set_option maxHeartbeats 8000000 in
theorem ZBi (H:WgLib P L) (hK :∀g B L,X.R g B L→K g B L) (hT:X.R (G (b₀.at (a₀.put ((ops₀[i₀]?).bind (·.dst)) (.tuple #[])) (.inRegion ops₀ rest₀ :: k₀)) cs) B ((C,.cells ((List.range n).map val).toArray Payload.ety (0,0)) :: Lc)) (M:Nat) (hM:M<2147483648) (T:Array Value) (hT84:T.size=84) (t0:T[0]? = some (.pointer (some ⟨Wg,0,none⟩))) :
  PhaseR P L.tWg Wg C n val K (ZpG M) n (G ((base L.wait).at ⟨T,[]⟩ [.code (L7 L),.inLoop (L7 L),.inBlock 0]) (b₀.at a₀ (.inRegion ops₀ (i₀ :: rest₀) :: k₀) :: cs)) B Lc:=by
 lib_facts
 induction M using Nat.strongRecOn generalizing T with
 | _ M ih=>
  obtain ⟨v0,v1,v2,v3,v4,v5,v6,v7,v8,v9,v10,v11,v12,v13,v14,v15,v16,v17,v18,v19,v20,v21,v22,v23,v24,v25,v26,v27,v28,v29,v30,v31,v32,v33,v34,v35,v36,v37,v38,v39,v40,v41,v42,v43,v44,v45,v46,v47,v48,v49,v50,v51,v52,v53,v54,v55,v56,v57,v58,v59,v60,v61,v62,v63,v64,v65,v66,v67,v68,v69,v70,v71,v72,v73,v74,v75,v76,v77,v78,v79,v80,v81,v82,v83,rfl⟩:=array84 T hT84
  simp only [List.getElem?_toArray,List.getElem?_cons_zero,Option.some.injEq] at t0
  subst t0
  simp only [L7,body_wait,waitFn,Option.getD_some]
  by_cases hM:M=0
  ·subst hM
   simp only [ZpG,if_pos rfl]
   refine phz 120 rfl (fun w hF=>?_)
   iterate 6 first
    | (refine Goes.step rfl (fun _ h₁=>?_);replace hF:=(fun _ h=>h) hF h₁;clear h₁;rw [stepG_block];simp only [goes_go];refine ⟨by (refine Zl ?_;intro e he;simp at he),?_⟩)
    | (refine Goes.step rfl (fun _ h₁=>?_);replace hF:=(fun _ h=>h) hF h₁;clear h₁;rw [stepG_seq];simp only [goes_go];refine ⟨by (refine Zl ?_;intro e he;simp at he),?_⟩)
    | (refine Goes.step rfl (fun _ h₁=>?_);replace hF:=(fun _ h=>h) hF h₁;clear h₁;rw [stepG_region];simp only [goes_go,List.size_toArray,List.length_cons,List.length_nil,Nat.reduceAdd,Nat.zero_add,List.range,List.range.loop];refine ⟨by (refine Zl ?_;intro e he;simp at he),?_⟩)
    | ((refine Goes.step rfl (fun _ h₁=>?_);replace hF:=(fun _ h=>h) hF h₁;clear h₁);refine goes_oper_k rfl rfl (by k_ne) (fun K hK=>?_);go_simp;refine hK _ _ ⟨?_,?_⟩;(focus (refine Zl ?_;intro e he;have hm:=mem_listed he;simp [go_sem, *] at hm));clear hK K;try w_num)
   (refine Goes.step rfl (fun _ h₁=>?_);replace hF:=(fun _ h=>h) hF h₁;clear h₁;refine goes_call rfl rfl (by k_ne) rfl H.f_uLoad (nm_uLoad L) rfl ⟨by (refine Zl ?_;intro e he;simp at he),?_⟩;walk_nrmf uLoadFn)
   iterate 9 first
    | (refine Goes.step rfl (fun _ h₁=>?_);replace hF:=(fun _ h=>h) hF h₁;clear h₁;rw [stepG_seq];simp only [goes_go];refine ⟨by (refine Zl ?_;intro e he;simp at he),?_⟩)
    | (refine Goes.step rfl (fun _ h₁=>?_);replace hF:=(fun _ h=>h) hF h₁;clear h₁;rw [stepG_region];simp only [goes_go,List.size_toArray,List.length_cons,List.length_nil,Nat.reduceAdd,Nat.zero_add,List.range,List.range.loop];refine ⟨by (refine Zl ?_;intro e he;simp at he),?_⟩)
    | (refine Goes.step rfl (fun _ h₁=>?_);replace hF:=(fun _ h=>h) hF h₁;clear h₁;rw [stepG_region_end];simp only [goes_go];refine ⟨by (refine Zl ?_;intro e he;simp at he),?_⟩)
    | ((refine Goes.step rfl (fun _ h₁=>?_);replace hF:=(fun _ h=>h) hF h₁;clear h₁);refine goes_oper_k rfl rfl (by k_ne) (fun K hK=>?_);go_simp;refine hK _ _ ⟨?_,?_⟩;(focus (refine Zl ?_;intro e he;have hm:=mem_listed he;simp [go_sem, *] at hm));clear hK K;try w_num)
   refine Goes.stop (fun _ _=>?_)
   refine PhaseR.ld0 rfl (fun w s hw=>stepG_load_atomic (v:=0) rfl rfl (by k_ne) rfl H.f_loadU64 (x_loadU64_n L) (x_loadU64_b L) (x_loadU64_x L) .u64 (x_loadU64_f L) rfl hw.cellSt) ?_
   refine phz 120 rfl (fun w hF=>?_)
   walk_nrm
   (refine Goes.step rfl (fun _ h₁=>?_);replace hF:=(fun _ h=>h) hF h₁;clear h₁)
   refine goes_oper_k rfl rfl (by k_ne) (fun K hK=>?_)
   go_simp
   refine hK _ _ ⟨?_,?_⟩
   ·(refine Zl ?_;intro e he;have hm:=mem_listed he;simp [go_sem, *] at hm)
   clear hK K
   try w_num
   (refine Goes.step rfl (fun _ h₁=>?_);replace hF:=(fun _ h=>h) hF h₁;clear h₁;rw [stepG_region_end];simp only [goes_go];refine ⟨by (refine Zl ?_;intro e he;simp at he),?_⟩)
   (refine Goes.step rfl (fun _ h₁=>?_);replace hF:=(fun _ h=>h) hF h₁;clear h₁;rw [stepG_ret'];simp only [goes_go];refine ⟨by (refine Zl ?_;intro e he;simp at he),?_⟩)
   (refine Goes.step rfl (fun _ h₁=>?_);replace hF:=(fun _ h=>h) hF h₁;clear h₁;refine goes_leave1 rfl rfl H.f_uLoad rfl ⟨by (refine Zl ?_;intro e he;simp at he),?_⟩;walk_nrm)
   iterate 27 first
    | (refine Goes.step rfl (fun _ h₁=>?_);replace hF:=(fun _ h=>h) hF h₁;clear h₁;rw [stepG_region_end];simp only [goes_go];refine ⟨by (refine Zl ?_;intro e he;simp at he),?_⟩)
    | (refine Goes.step rfl (fun _ h₁=>?_);replace hF:=(fun _ h=>h) hF h₁;clear h₁;rw [stepG_seq];simp only [goes_go];refine ⟨by (refine Zl ?_;intro e he;simp at he),?_⟩)
    | (refine Goes.step rfl (fun _ h₁=>?_);replace hF:=(fun _ h=>h) hF h₁;clear h₁;rw [stepG_region];simp only [goes_go,List.size_toArray,List.length_cons,List.length_nil,Nat.reduceAdd,Nat.zero_add,List.range,List.range.loop];refine ⟨by (refine Zl ?_;intro e he;simp at he),?_⟩)
    | (refine Goes.step rfl (fun _ h₁=>?_);replace hF:=(fun _ h=>h) hF h₁;clear h₁;rw [stepG_cond (t:=true) rfl];simp only [goes_go,if_true,if_false,Bool.false_eq_true,↓reduceIte];refine ⟨by (refine Zl ?_;intro e he;simp at he),?_⟩)
    | ((refine Goes.step rfl (fun _ h₁=>?_);replace hF:=(fun _ h=>h) hF h₁;clear h₁);refine goes_oper_k rfl rfl (by k_ne) (fun K hK=>?_);go_simp;refine hK _ _ ⟨?_,?_⟩;(focus (refine Zl ?_;intro e he;have hm:=mem_listed he;simp [go_sem, *] at hm));clear hK K;try w_num)
   refine Goes.stop (fun _ _=>?_)
   refine PhaseR.enaW rfl (fun w _=>stepG_mark0 .enable (by simp) rfl rfl (by k_ne) rfl H.f_enable (x_enable_n L) (x_enable_b L) (x_enable_x L) (x_enable_f L)) ?_
   refine phz 120 rfl (fun w hF=>?_)
   walk_nrm
   (refine Goes.step rfl (fun _ h₁=>?_);replace hF:=(fun _ h=>h) hF h₁;clear h₁;rw [stepG_region_end];simp only [goes_go];refine ⟨by (refine Zl ?_;intro e he;simp at he),?_⟩)
   (refine Goes.step rfl (fun _ h₁=>?_);replace hF:=(fun _ h=>h) hF h₁;clear h₁;rw [stepG_region];simp only [goes_go,List.size_toArray,List.length_cons,List.length_nil,Nat.reduceAdd,Nat.zero_add,List.range,List.range.loop];refine ⟨by (refine Zl ?_;intro e he;simp at he),?_⟩)
   (refine Goes.step rfl (fun _ h₁=>?_);replace hF:=(fun _ h=>h) hF h₁;clear h₁)
   refine goes_oper_k rfl rfl (by k_ne) (fun K hK=>?_)
   go_simp
   refine hK _ _ ⟨?_,?_⟩
   ·(refine Zl ?_;intro e he;have hm:=mem_listed he;simp [go_sem, *] at hm)
   clear hK K
   try w_num
   (refine Goes.step rfl (fun _ h₁=>?_);replace hF:=(fun _ h=>h) hF h₁;clear h₁)
   refine goes_oper_k rfl rfl (by k_ne) (fun Kx hKx=>?_)
   have hcv:=run_convert_to_unsafe (P:=P) H.underlying_tWgP H.underlying_tUP H.room_tWg (WgLive.cell0 hF.2).choose_spec
   have hce:=fun es=>events_convert_to_unsafe (P:=P) H.underlying_tWgP H.underlying_tUP H.room_tWg (WgLive.cell0 hF.2).choose_spec es
   go_simp
   refine hKx _ _ ⟨?_,?_⟩
   ·(refine Zl ?_;intro ex hex;have hmx:=mem_listed hex;simp [go_sem,hce] at hmx)
   clear hKx Kx hcv hce
   refine Goes.stop (fun _ _=>?_)
   refine PhaseR.acq rfl (fun w _=>stepG_markAt .acquire (by simp) rfl rfl (by k_ne) rfl H.f_acquire (x_acquire_n L) (x_acquire_b L) (x_acquire_x L) (x_acquire_f L) (by simp [Act.eval,stA])) ?_
   refine hK _ _ _ ?_
   walk_nrm
   refine Lg.ctl _ rfl (fun _=>stepG_region_end) ?_
   refine Lg.ctl _ rfl (fun _=>stepG_seq) ?_
   refine Lg.ctl _ rfl (fun _=>stepG_seq) ?_
   (refine Lg.ctl _ rfl (fun _=>stepG_region) ?_;simp only [List.size_toArray,List.length_cons,List.length_nil,Nat.reduceAdd,Nat.zero_add,List.range,List.range.loop])
   (refine Lg.goV (.int .u32 0) rfl rfl (by k_ne) (fun _=>by go_simp;try (first | w_num | decide)) (fun _=>by simp [go_sem, *]) ?_;walk_nrm)
   (refine Lg.goV (.bool true) rfl rfl (by k_ne) (fun _=>by go_simp;try (first | w_num | decide)) (fun _=>by simp [go_sem, *]) ?_;walk_nrm)
   (refine Lg.goV (.bool true) rfl rfl (by k_ne) (fun _=>by go_simp;try (first | w_num | decide)) (fun _=>by simp [go_sem, *]) ?_;walk_nrm)
   (refine Lg.goV (.int .u64 0) rfl rfl (by k_ne) (fun _=>by go_simp;try (first | w_num | decide)) (fun _=>by simp [go_sem, *]) ?_;walk_nrm)
   (refine Lg.goV (.int .u64 0) rfl rfl (by k_ne) (fun _=>by go_simp;try (first | w_num | decide)) (fun _=>by simp [go_sem, *]) ?_;walk_nrm)
   (refine Lg.goV (.bool false) rfl rfl (by k_ne) (fun _=>by go_simp;try (first | w_num | decide)) (fun _=>by simp [go_sem, *]) ?_;walk_nrm)
   (refine Lg.goV (.bool false) rfl rfl (by k_ne) (fun _=>by go_simp;try (first | w_num | decide)) (fun _=>by simp [go_sem, *]) ?_;walk_nrm)
   (refine Lg.goV (.bool false) rfl rfl (by k_ne) (fun _=>by go_simp;try (first | w_num | decide)) (fun _=>by simp [go_sem, *]) ?_;walk_nrm)
   (refine Lg.ctl _ rfl (fun _=>stepG_unwanted rfl rfl) ?_;walk_nrm)
   (refine Lg.ctl _ rfl (fun _=>stepG_unwanted rfl rfl) ?_;walk_nrm)
   (refine Lg.goV (.bool false) rfl rfl (by k_ne) (fun _=>by go_simp;try (first | w_num | decide)) (fun _=>by simp [go_sem, *]) ?_;walk_nrm)
   refine Lg.ctl _ rfl (fun _=>stepG_region_end) ?_
   (refine Lg.ctl _ rfl (fun _=>stepG_cond (t:=false) rfl) ?_;simp only [if_true,if_false,Bool.false_eq_true,↓reduceIte])
   refine Lg.ctl _ rfl (fun _=>stepG_skip) ?_
   refine Lg.ctl _ rfl (fun _=>stepG_ret') ?_
   refine Lg.leave0 rfl rfl H.f_wait rfl ?_
   exact hT
  ·simp only [ZpG,if_neg hM]
   refine phz 120 rfl (fun w hF=>?_)
   iterate 6 first
    | (refine Goes.step rfl (fun _ h₁=>?_);replace hF:=(fun _ h=>h) hF h₁;clear h₁;rw [stepG_block];simp only [goes_go];refine ⟨by (refine Zl ?_;intro e he;simp at he),?_⟩)
    | (refine Goes.step rfl (fun _ h₁=>?_);replace hF:=(fun _ h=>h) hF h₁;clear h₁;rw [stepG_seq];simp only [goes_go];refine ⟨by (refine Zl ?_;intro e he;simp at he),?_⟩)
    | (refine Goes.step rfl (fun _ h₁=>?_);replace hF:=(fun _ h=>h) hF h₁;clear h₁;rw [stepG_region];simp only [goes_go,List.size_toArray,List.length_cons,List.length_nil,Nat.reduceAdd,Nat.zero_add,List.range,List.range.loop];refine ⟨by (refine Zl ?_;intro e he;simp at he),?_⟩)
    | ((refine Goes.step rfl (fun _ h₁=>?_);replace hF:=(fun _ h=>h) hF h₁;clear h₁);refine goes_oper_k rfl rfl (by k_ne) (fun K hK=>?_);go_simp;refine hK _ _ ⟨?_,?_⟩;(focus (refine Zl ?_;intro e he;have hm:=mem_listed he;simp [go_sem, *] at hm));clear hK K;try w_num)
   (refine Goes.step rfl (fun _ h₁=>?_);replace hF:=(fun _ h=>h) hF h₁;clear h₁;refine goes_call rfl rfl (by k_ne) rfl H.f_uLoad (nm_uLoad L) rfl ⟨by (refine Zl ?_;intro e he;simp at he),?_⟩;walk_nrmf uLoadFn)
   iterate 9 first
    | (refine Goes.step rfl (fun _ h₁=>?_);replace hF:=(fun _ h=>h) hF h₁;clear h₁;rw [stepG_seq];simp only [goes_go];refine ⟨by (refine Zl ?_;intro e he;simp at he),?_⟩)
    | (refine Goes.step rfl (fun _ h₁=>?_);replace hF:=(fun _ h=>h) hF h₁;clear h₁;rw [stepG_region];simp only [goes_go,List.size_toArray,List.length_cons,List.length_nil,Nat.reduceAdd,Nat.zero_add,List.range,List.range.loop];refine ⟨by (refine Zl ?_;intro e he;simp at he),?_⟩)
    | (refine Goes.step rfl (fun _ h₁=>?_);replace hF:=(fun _ h=>h) hF h₁;clear h₁;rw [stepG_region_end];simp only [goes_go];refine ⟨by (refine Zl ?_;intro e he;simp at he),?_⟩)
    | ((refine Goes.step rfl (fun _ h₁=>?_);replace hF:=(fun _ h=>h) hF h₁;clear h₁);refine goes_oper_k rfl rfl (by k_ne) (fun K hK=>?_);go_simp;refine hK _ _ ⟨?_,?_⟩;(focus (refine Zl ?_;intro e he;have hm:=mem_listed he;simp [go_sem, *] at hm));clear hK K;try w_num)
   refine Goes.stop (fun _ _=>?_)
   refine PhaseR.ldb rfl (fun w v s hv hw=>stepG_load_atomic (v:=(v:Int)*KK) rfl rfl (by k_ne) rfl H.f_loadU64 (x_loadU64_n L) (x_loadU64_b L) (x_loadU64_x L) .u64 (x_loadU64_f L) rfl hw.cellSt) ?_ (fun v hv0 hvM hv=>?_)
   ·have e0:((0:Nat):Int)*KK=0:=by simp
    rw [e0]
    clear e0
    refine phz 120 rfl (fun w hF=>?_)
    walk_nrm
    (refine Goes.step rfl (fun _ h₁=>?_);replace hF:=(fun _ h=>h) hF h₁;clear h₁)
    refine goes_oper_k rfl rfl (by k_ne) (fun K hK=>?_)
    go_simp
    refine hK _ _ ⟨?_,?_⟩
    ·(refine Zl ?_;intro e he;have hm:=mem_listed he;simp [go_sem, *] at hm)
    clear hK K
    try w_num
    (refine Goes.step rfl (fun _ h₁=>?_);replace hF:=(fun _ h=>h) hF h₁;clear h₁;rw [stepG_region_end];simp only [goes_go];refine ⟨by (refine Zl ?_;intro e he;simp at he),?_⟩)
    (refine Goes.step rfl (fun _ h₁=>?_);replace hF:=(fun _ h=>h) hF h₁;clear h₁;rw [stepG_ret'];simp only [goes_go];refine ⟨by (refine Zl ?_;intro e he;simp at he),?_⟩)
    (refine Goes.step rfl (fun _ h₁=>?_);replace hF:=(fun _ h=>h) hF h₁;clear h₁;refine goes_leave1 rfl rfl H.f_uLoad rfl ⟨by (refine Zl ?_;intro e he;simp at he),?_⟩;walk_nrm)
    iterate 27 first
     | (refine Goes.step rfl (fun _ h₁=>?_);replace hF:=(fun _ h=>h) hF h₁;clear h₁;rw [stepG_region_end];simp only [goes_go];refine ⟨by (refine Zl ?_;intro e he;simp at he),?_⟩)
     | (refine Goes.step rfl (fun _ h₁=>?_);replace hF:=(fun _ h=>h) hF h₁;clear h₁;rw [stepG_seq];simp only [goes_go];refine ⟨by (refine Zl ?_;intro e he;simp at he),?_⟩)
     | (refine Goes.step rfl (fun _ h₁=>?_);replace hF:=(fun _ h=>h) hF h₁;clear h₁;rw [stepG_region];simp only [goes_go,List.size_toArray,List.length_cons,List.length_nil,Nat.reduceAdd,Nat.zero_add,List.range,List.range.loop];refine ⟨by (refine Zl ?_;intro e he;simp at he),?_⟩)
     | (refine Goes.step rfl (fun _ h₁=>?_);replace hF:=(fun _ h=>h) hF h₁;clear h₁;rw [stepG_cond (t:=true) rfl];simp only [goes_go,if_true,if_false,Bool.false_eq_true,↓reduceIte];refine ⟨by (refine Zl ?_;intro e he;simp at he),?_⟩)
     | ((refine Goes.step rfl (fun _ h₁=>?_);replace hF:=(fun _ h=>h) hF h₁;clear h₁);refine goes_oper_k rfl rfl (by k_ne) (fun K hK=>?_);go_simp;refine hK _ _ ⟨?_,?_⟩;(focus (refine Zl ?_;intro e he;have hm:=mem_listed he;simp [go_sem, *] at hm));clear hK K;try w_num)
    refine Goes.stop (fun _ _=>?_)
    refine PhaseR.enaW rfl (fun w _=>stepG_mark0 .enable (by simp) rfl rfl (by k_ne) rfl H.f_enable (x_enable_n L) (x_enable_b L) (x_enable_x L) (x_enable_f L)) ?_
    refine phz 120 rfl (fun w hF=>?_)
    walk_nrm
    (refine Goes.step rfl (fun _ h₁=>?_);replace hF:=(fun _ h=>h) hF h₁;clear h₁;rw [stepG_region_end];simp only [goes_go];refine ⟨by (refine Zl ?_;intro e he;simp at he),?_⟩)
    (refine Goes.step rfl (fun _ h₁=>?_);replace hF:=(fun _ h=>h) hF h₁;clear h₁;rw [stepG_region];simp only [goes_go,List.size_toArray,List.length_cons,List.length_nil,Nat.reduceAdd,Nat.zero_add,List.range,List.range.loop];refine ⟨by (refine Zl ?_;intro e he;simp at he),?_⟩)
    (refine Goes.step rfl (fun _ h₁=>?_);replace hF:=(fun _ h=>h) hF h₁;clear h₁)
    refine goes_oper_k rfl rfl (by k_ne) (fun K hK=>?_)
    go_simp
    refine hK _ _ ⟨?_,?_⟩
    ·(refine Zl ?_;intro e he;have hm:=mem_listed he;simp [go_sem, *] at hm)
    clear hK K
    try w_num
    (refine Goes.step rfl (fun _ h₁=>?_);replace hF:=(fun _ h=>h) hF h₁;clear h₁)
    refine goes_oper_k rfl rfl (by k_ne) (fun Kx hKx=>?_)
    have hcv:=run_convert_to_unsafe (P:=P) H.underlying_tWgP H.underlying_tUP H.room_tWg (WgLive.cell0 hF.2).choose_spec
    have hce:=fun es=>events_convert_to_unsafe (P:=P) H.underlying_tWgP H.underlying_tUP H.room_tWg (WgLive.cell0 hF.2).choose_spec es
    go_simp
    refine hKx _ _ ⟨?_,?_⟩
    ·(refine Zl ?_;intro ex hex;have hmx:=mem_listed hex;simp [go_sem,hce] at hmx)
    clear hKx Kx hcv hce
    refine Goes.stop (fun _ _=>?_)
    refine PhaseR.acq rfl (fun w _=>stepG_markAt .acquire (by simp) rfl rfl (by k_ne) rfl H.f_acquire (x_acquire_n L) (x_acquire_b L) (x_acquire_x L) (x_acquire_f L) (by simp [Act.eval,stA])) ?_
    refine hK _ _ _ ?_
    walk_nrm
    refine Lg.ctl _ rfl (fun _=>stepG_region_end) ?_
    refine Lg.ctl _ rfl (fun _=>stepG_seq) ?_
    refine Lg.ctl _ rfl (fun _=>stepG_seq) ?_
    (refine Lg.ctl _ rfl (fun _=>stepG_region) ?_;simp only [List.size_toArray,List.length_cons,List.length_nil,Nat.reduceAdd,Nat.zero_add,List.range,List.range.loop])
    (refine Lg.goV (.int .u32 0) rfl rfl (by k_ne) (fun _=>by go_simp;try (first | w_num | decide)) (fun _=>by simp [go_sem, *]) ?_;walk_nrm)
    (refine Lg.goV (.bool true) rfl rfl (by k_ne) (fun _=>by go_simp;try (first | w_num | decide)) (fun _=>by simp [go_sem, *]) ?_;walk_nrm)
    (refine Lg.goV (.bool true) rfl rfl (by k_ne) (fun _=>by go_simp;try (first | w_num | decide)) (fun _=>by simp [go_sem, *]) ?_;walk_nrm)
    (refine Lg.goV (.int .u64 0) rfl rfl (by k_ne) (fun _=>by go_simp;try (first | w_num | decide)) (fun _=>by simp [go_sem, *]) ?_;walk_nrm)
    (refine Lg.goV (.int .u64 0) rfl rfl (by k_ne) (fun _=>by go_simp;try (first | w_num | decide)) (fun _=>by simp [go_sem, *]) ?_;walk_nrm)
    (refine Lg.goV (.bool false) rfl rfl (by k_ne) (fun _=>by go_simp;try (first | w_num | decide)) (fun _=>by simp [go_sem, *]) ?_;walk_nrm)
    (refine Lg.goV (.bool false) rfl rfl (by k_ne) (fun _=>by go_simp;try (first | w_num | decide)) (fun _=>by simp [go_sem, *]) ?_;walk_nrm)
    (refine Lg.goV (.bool false) rfl rfl (by k_ne) (fun _=>by go_simp;try (first | w_num | decide)) (fun _=>by simp [go_sem, *]) ?_;walk_nrm)
    (refine Lg.ctl _ rfl (fun _=>stepG_unwanted rfl rfl) ?_;walk_nrm)
    (refine Lg.ctl _ rfl (fun _=>stepG_unwanted rfl rfl) ?_;walk_nrm)
    (refine Lg.goV (.bool false) rfl rfl (by k_ne) (fun _=>by go_simp;try (first | w_num | decide)) (fun _=>by simp [go_sem, *]) ?_;walk_nrm)
    refine Lg.ctl _ rfl (fun _=>stepG_region_end) ?_
    (refine Lg.ctl _ rfl (fun _=>stepG_cond (t:=false) rfl) ?_;simp only [if_true,if_false,Bool.false_eq_true,↓reduceIte])
    refine Lg.ctl _ rfl (fun _=>stepG_skip) ?_
    refine Lg.ctl _ rfl (fun _=>stepG_ret') ?_
    refine Lg.leave0 rfl rfl H.f_wait rfl ?_
    exact hT
   ·obtain ⟨S,hS⟩ :∃S:Int,(v:Int)*KK=S:=⟨_,rfl⟩
    have a1:S / 4294967296=(v:Int):=by rw [← hS];simp only [KK];omega
    have b1:bits .and .u64 S 2147483648=0:=by rw [← hS];have:=st_flag v 0 (by omega) (by omega);simpa [KK] using this
    have b2:bits .and .u64 S 2147483647=0:=by rw [← hS];have:=st_waiters v 0 (by omega) (by omega);simpa [KK] using this
    have c1:IntKind.i32.wrap (v:Int)=(v:Int):=by rw [IntKind.wrap_i32];omega
    have w1:IntKind.u64.wrap (S+1)=S+1:=by rw [IntKind.wrap_u64,← hS];simp only [KK];omega
    have q3:decide ((v:Int)<0)=false:=decide_eq_false (by omega)
    have q4:decide (0<(v:Int))=true:=decide_eq_true (by omega)
    have q5:((v:Int) == 0)=false:=by simp;omega
    have q6:decide ((v:Int)=0)=false:=decide_eq_false (by omega)
    rw [hS]
    refine phz 120 rfl (fun w hF=>?_)
    walk_nrm
    (refine Goes.step rfl (fun _ h₁=>?_);replace hF:=(fun _ h=>h) hF h₁;clear h₁)
    refine goes_oper_k rfl rfl (by k_ne) (fun K hK=>?_)
    go_simp
    refine hK _ _ ⟨?_,?_⟩
    ·(refine Zl ?_;intro e he;have hm:=mem_listed he;simp [go_sem, *] at hm)
    clear hK K
    try w_num
    (refine Goes.step rfl (fun _ h₁=>?_);replace hF:=(fun _ h=>h) hF h₁;clear h₁;rw [stepG_region_end];simp only [goes_go];refine ⟨by (refine Zl ?_;intro e he;simp at he),?_⟩)
    (refine Goes.step rfl (fun _ h₁=>?_);replace hF:=(fun _ h=>h) hF h₁;clear h₁;rw [stepG_ret'];simp only [goes_go];refine ⟨by (refine Zl ?_;intro e he;simp at he),?_⟩)
    (refine Goes.step rfl (fun _ h₁=>?_);replace hF:=(fun _ h=>h) hF h₁;clear h₁;refine goes_leave1 rfl rfl H.f_uLoad rfl ⟨by (refine Zl ?_;intro e he;simp at he),?_⟩;walk_nrm)
    iterate 32 first
     | (refine Goes.step rfl (fun _ h₁=>?_);replace hF:=(fun _ h=>h) hF h₁;clear h₁;rw [stepG_region_end];simp only [goes_go];refine ⟨by (refine Zl ?_;intro e he;simp at he),?_⟩)
     | (refine Goes.step rfl (fun _ h₁=>?_);replace hF:=(fun _ h=>h) hF h₁;clear h₁;rw [stepG_seq];simp only [goes_go];refine ⟨by (refine Zl ?_;intro e he;simp at he),?_⟩)
     | (refine Goes.step rfl (fun _ h₁=>?_);replace hF:=(fun _ h=>h) hF h₁;clear h₁;rw [stepG_region];simp only [goes_go,List.size_toArray,List.length_cons,List.length_nil,Nat.reduceAdd,Nat.zero_add,List.range,List.range.loop];refine ⟨by (refine Zl ?_;intro e he;simp at he),?_⟩)
     | (refine Goes.step rfl (fun _ h₁=>?_);replace hF:=(fun _ h=>h) hF h₁;clear h₁;rw [stepG_cond (t:=false) (by first | rfl | (simp [Act.eval];omega))];simp only [goes_go,if_true,if_false,Bool.false_eq_true,↓reduceIte];refine ⟨by (refine Zl ?_;intro e he;simp at he),?_⟩)
     | (refine Goes.step rfl (fun _ h₁=>?_);replace hF:=(fun _ h=>h) hF h₁;clear h₁;rw [stepG_skip];simp only [goes_go];refine ⟨by (refine Zl ?_;intro e he;simp at he),?_⟩)
     | ((refine Goes.step rfl (fun _ h₁=>?_);replace hF:=(fun _ h=>h) hF h₁;clear h₁);refine goes_oper_k rfl rfl (by k_ne) (fun K hK=>?_);go_simp;refine hK _ _ ⟨?_,?_⟩;(focus (refine Zl ?_;intro e he;have hm:=mem_listed he;simp [go_sem, *] at hm));clear hK K;try w_num)
    (refine Goes.step rfl (fun _ h₁=>?_);replace hF:=(fun _ h=>h) hF h₁;clear h₁;refine goes_call rfl rfl (by k_ne) rfl H.f_uCas (nm_uCas L) rfl ⟨by (refine Zl ?_;intro e he;simp at he),?_⟩;walk_nrmf uCasFn)
    iterate 11 first
     | (refine Goes.step rfl (fun _ h₁=>?_);replace hF:=(fun _ h=>h) hF h₁;clear h₁;rw [stepG_seq];simp only [goes_go];refine ⟨by (refine Zl ?_;intro e he;simp at he),?_⟩)
     | (refine Goes.step rfl (fun _ h₁=>?_);replace hF:=(fun _ h=>h) hF h₁;clear h₁;rw [stepG_region];simp only [goes_go,List.size_toArray,List.length_cons,List.length_nil,Nat.reduceAdd,Nat.zero_add,List.range,List.range.loop];refine ⟨by (refine Zl ?_;intro e he;simp at he),?_⟩)
     | (refine Goes.step rfl (fun _ h₁=>?_);replace hF:=(fun _ h=>h) hF h₁;clear h₁;rw [stepG_region_end];simp only [goes_go];refine ⟨by (refine Zl ?_;intro e he;simp at he),?_⟩)
     | ((refine Goes.step rfl (fun _ h₁=>?_);replace hF:=(fun _ h=>h) hF h₁;clear h₁);refine goes_oper_k rfl rfl (by k_ne) (fun K hK=>?_);go_simp;refine hK _ _ ⟨?_,?_⟩;(focus (refine Zl ?_;intro e he;have hm:=mem_listed he;simp [go_sem, *] at hm));clear hK K;try w_num)
    refine Goes.stop (fun _ _=>?_)
    refine PhaseR.cas rfl (fun w s hw=>(stepG_cas_hit (v:=S) (n:=S+1) rfl rfl (by k_ne) rfl H.f_casU64 (x_casU64_n L) (x_casU64_b L) (x_casU64_x L) .u64 (x_casU64_f L) rfl rfl rfl (hS ▸ hw.cellSt) (hw.thaw 0)).trans (by rw [hS];rfl)) ?_ (fun w v' s hv' hne hw=>stepG_cas_miss (v:=(v':Int)*KK) (old:=S) (n:=S+1) rfl rfl (by k_ne) rfl H.f_casU64 (x_casU64_n L) (x_casU64_b L) (x_casU64_x L) .u64 (x_casU64_f L) rfl rfl rfl hw.cellSt (hw.thaw 0) (by rw [← hS];simp only [KK];omega)) ?_
    ·refine phz 120 rfl (fun w hF=>?_)
     walk_nrm
     iterate 3 first
      | (refine Goes.step rfl (fun _ h₁=>?_);replace hF:=(fun _ h=>h) hF h₁;clear h₁;rw [stepG_region_end];simp only [goes_go];refine ⟨by (refine Zl ?_;intro e he;simp at he),?_⟩)
      | (refine Goes.step rfl (fun _ h₁=>?_);replace hF:=(fun _ h=>h) hF h₁;clear h₁;rw [stepG_ret'];simp only [goes_go];refine ⟨by (refine Zl ?_;intro e he;simp at he),?_⟩)
      | ((refine Goes.step rfl (fun _ h₁=>?_);replace hF:=(fun _ h=>h) hF h₁;clear h₁);refine goes_oper_k rfl rfl (by k_ne) (fun K hK=>?_);go_simp;refine hK _ _ ⟨?_,?_⟩;(focus (refine Zl ?_;intro e he;have hm:=mem_listed he;simp [go_sem, *] at hm));clear hK K;try w_num)
     (refine Goes.step rfl (fun _ h₁=>?_);replace hF:=(fun _ h=>h) hF h₁;clear h₁;refine goes_leave1 rfl rfl H.f_uCas rfl ⟨by (refine Zl ?_;intro e he;simp at he),?_⟩;walk_nrm)
     iterate 15 first
      | (refine Goes.step rfl (fun _ h₁=>?_);replace hF:=(fun _ h=>h) hF h₁;clear h₁;rw [stepG_region_end];simp only [goes_go];refine ⟨by (refine Zl ?_;intro e he;simp at he),?_⟩)
      | (refine Goes.step rfl (fun _ h₁=>?_);replace hF:=(fun _ h=>h) hF h₁;clear h₁;rw [stepG_cond (t:=true) (by first | rfl | (simp [Act.eval];omega))];simp only [goes_go,if_true,if_false,Bool.false_eq_true,↓reduceIte];refine ⟨by (refine Zl ?_;intro e he;simp at he),?_⟩)
      | (refine Goes.step rfl (fun _ h₁=>?_);replace hF:=(fun _ h=>h) hF h₁;clear h₁;rw [stepG_seq];simp only [goes_go];refine ⟨by (refine Zl ?_;intro e he;simp at he),?_⟩)
      | (refine Goes.step rfl (fun _ h₁=>?_);replace hF:=(fun _ h=>h) hF h₁;clear h₁;rw [stepG_region];simp only [goes_go,List.size_toArray,List.length_cons,List.length_nil,Nat.reduceAdd,Nat.zero_add,List.range,List.range.loop];refine ⟨by (refine Zl ?_;intro e he;simp at he),?_⟩)
      | ((refine Goes.step rfl (fun _ h₁=>?_);replace hF:=(fun _ h=>h) hF h₁;clear h₁);refine goes_oper_k rfl rfl (by k_ne) (fun K hK=>?_);go_simp;refine hK _ _ ⟨?_,?_⟩;(focus (refine Zl ?_;intro e he;have hm:=mem_listed he;simp [go_sem, *] at hm));clear hK K;try w_num)
     (refine Goes.step rfl (fun _ h₁=>?_);replace hF:=(fun _ h=>h) hF h₁;clear h₁)
     refine goes_oper_k rfl rfl (by k_ne) (fun Kx hKx=>?_)
     have hcv:=run_convert_to_unsafe (P:=P) H.underlying_tPU32 H.underlying_tUP H.room_tU32 (WgLive.cell1 hF.2).choose_spec
     have hce:=fun es=>events_convert_to_unsafe (P:=P) H.underlying_tPU32 H.underlying_tUP H.room_tU32 (WgLive.cell1 hF.2).choose_spec es
     go_simp
     refine hKx _ _ ⟨?_,?_⟩
     ·(refine Zl ?_;intro ex hex;have hmx:=mem_listed hex;simp [go_sem,hce] at hmx)
     clear hKx Kx hcv hce
     (refine Goes.step rfl (fun _ h₁=>?_);replace hF:=(fun _ h=>h) hF h₁;clear h₁)
     rw [stepG_markAt .write (by simp) rfl rfl (by k_ne) rfl H.f_raceWrite (x_raceWrite_n L) (x_raceWrite_b L) (x_raceWrite_x L) (x_raceWrite_f L) (ad:=⟨Wg,1,none⟩) (by simp [Act.eval] <;> rfl)]
     simp only [goes_go]
     refine ⟨Ztb ⟨_,rfl,.inr rfl⟩,?_⟩
     walk_nrm
     iterate 23 first
      | (refine Goes.step rfl (fun _ h₁=>?_);replace hF:=(fun _ h=>h) hF h₁;clear h₁;rw [stepG_region_end];simp only [goes_go];refine ⟨by (refine Zl ?_;intro e he;simp at he),?_⟩)
      | (refine Goes.step rfl (fun _ h₁=>?_);replace hF:=(fun _ h=>h) hF h₁;clear h₁;rw [stepG_seq];simp only [goes_go];refine ⟨by (refine Zl ?_;intro e he;simp at he),?_⟩)
      | (refine Goes.step rfl (fun _ h₁=>?_);replace hF:=(fun _ h=>h) hF h₁;clear h₁;rw [stepG_region];simp only [goes_go,List.size_toArray,List.length_cons,List.length_nil,Nat.reduceAdd,Nat.zero_add,List.range,List.range.loop];refine ⟨by (refine Zl ?_;intro e he;simp at he),?_⟩)
      | (refine Goes.step rfl (fun _ h₁=>?_);replace hF:=(fun _ h=>h) hF h₁;clear h₁;rw [stepG_unwanted rfl rfl];simp only [goes_go];refine ⟨by (refine Zl ?_;intro e he;simp at he),?_⟩;walk_nrm)
      | (refine Goes.step rfl (fun _ h₁=>?_);replace hF:=(fun _ h=>h) hF h₁;clear h₁;rw [stepG_cond (t:=false) (by first | rfl | (simp [Act.eval];omega))];simp only [goes_go,if_true,if_false,Bool.false_eq_true,↓reduceIte];refine ⟨by (refine Zl ?_;intro e he;simp at he),?_⟩)
      | (refine Goes.step rfl (fun _ h₁=>?_);replace hF:=(fun _ h=>h) hF h₁;clear h₁;rw [stepG_skip];simp only [goes_go];refine ⟨by (refine Zl ?_;intro e he;simp at he),?_⟩)
      | ((refine Goes.step rfl (fun _ h₁=>?_);replace hF:=(fun _ h=>h) hF h₁;clear h₁);refine goes_oper_k rfl rfl (by k_ne) (fun K hK=>?_);go_simp;refine hK _ _ ⟨?_,?_⟩;(focus (refine Zl ?_;intro e he;have hm:=mem_listed he;simp [go_sem, *] at hm));clear hK K;try w_num)
     refine Goes.stop (fun _ _=>?_)
     refine PhaseR.sem rfl rfl (fun w st s hw=>stepG_semacquire_wait rfl rfl rfl H.f_semacquire (x_semacquire_n L) (x_semacquire_b L) (x_semacquire_x L) (x_semacquire_f L) (by simp [Act.eval,smA]) hw.cellSm) (fun w s hf=>(stepG_semacquire (n:=1) rfl rfl (by k_ne) rfl H.f_semacquire (x_semacquire_n L) (x_semacquire_b L) (x_semacquire_x L) (x_semacquire_f L) (by simp [Act.eval,smA]) hf.cellSm (by k_ne) (hf.thaw 1)).trans (by rfl)) ?_
     refine phz 120 rfl (fun w hF=>?_)
     walk_nrm
     iterate 6 first
      | (refine Goes.step rfl (fun _ h₁=>?_);replace hF:=(fun _ h=>h) hF h₁;clear h₁;rw [stepG_region_end];simp only [goes_go];refine ⟨by (refine Zl ?_;intro e he;simp at he),?_⟩)
      | (refine Goes.step rfl (fun _ h₁=>?_);replace hF:=(fun _ h=>h) hF h₁;clear h₁;rw [stepG_seq];simp only [goes_go];refine ⟨by (refine Zl ?_;intro e he;simp at he),?_⟩)
      | (refine Goes.step rfl (fun _ h₁=>?_);replace hF:=(fun _ h=>h) hF h₁;clear h₁;rw [stepG_region];simp only [goes_go,List.size_toArray,List.length_cons,List.length_nil,Nat.reduceAdd,Nat.zero_add,List.range,List.range.loop];refine ⟨by (refine Zl ?_;intro e he;simp at he),?_⟩)
      | ((refine Goes.step rfl (fun _ h₁=>?_);replace hF:=(fun _ h=>h) hF h₁;clear h₁);refine goes_oper_k rfl rfl (by k_ne) (fun K hK=>?_);go_simp;refine hK _ _ ⟨?_,?_⟩;(focus (refine Zl ?_;intro e he;have hm:=mem_listed he;simp [go_sem, *] at hm));clear hK K;try w_num)
     (refine Goes.step rfl (fun _ h₁=>?_);replace hF:=(fun _ h=>h) hF h₁;clear h₁;refine goes_call rfl rfl (by k_ne) rfl H.f_uLoad (nm_uLoad L) rfl ⟨by (refine Zl ?_;intro e he;simp at he),?_⟩;walk_nrmf uLoadFn)
     iterate 9 first
      | (refine Goes.step rfl (fun _ h₁=>?_);replace hF:=(fun _ h=>h) hF h₁;clear h₁;rw [stepG_seq];simp only [goes_go];refine ⟨by (refine Zl ?_;intro e he;simp at he),?_⟩)
      | (refine Goes.step rfl (fun _ h₁=>?_);replace hF:=(fun _ h=>h) hF h₁;clear h₁;rw [stepG_region];simp only [goes_go,List.size_toArray,List.length_cons,List.length_nil,Nat.reduceAdd,Nat.zero_add,List.range,List.range.loop];refine ⟨by (refine Zl ?_;intro e he;simp at he),?_⟩)
      | (refine Goes.step rfl (fun _ h₁=>?_);replace hF:=(fun _ h=>h) hF h₁;clear h₁;rw [stepG_region_end];simp only [goes_go];refine ⟨by (refine Zl ?_;intro e he;simp at he),?_⟩)
      | ((refine Goes.step rfl (fun _ h₁=>?_);replace hF:=(fun _ h=>h) hF h₁;clear h₁);refine goes_oper_k rfl rfl (by k_ne) (fun K hK=>?_);go_simp;refine hK _ _ ⟨?_,?_⟩;(focus (refine Zl ?_;intro e he;have hm:=mem_listed he;simp [go_sem, *] at hm));clear hK K;try w_num)
     refine Goes.stop (fun _ _=>?_)
     refine PhaseR.ld2 rfl (fun w s hw=>stepG_load_atomic (v:=0) rfl rfl (by k_ne) rfl H.f_loadU64 (x_loadU64_n L) (x_loadU64_b L) (x_loadU64_x L) .u64 (x_loadU64_f L) rfl hw.cellSt) ?_
     refine phz 120 rfl (fun w hF=>?_)
     walk_nrm
     iterate 3 first
      | (refine Goes.step rfl (fun _ h₁=>?_);replace hF:=(fun _ h=>h) hF h₁;clear h₁;rw [stepG_region_end];simp only [goes_go];refine ⟨by (refine Zl ?_;intro e he;simp at he),?_⟩)
      | (refine Goes.step rfl (fun _ h₁=>?_);replace hF:=(fun _ h=>h) hF h₁;clear h₁;rw [stepG_ret'];simp only [goes_go];refine ⟨by (refine Zl ?_;intro e he;simp at he),?_⟩)
      | ((refine Goes.step rfl (fun _ h₁=>?_);replace hF:=(fun _ h=>h) hF h₁;clear h₁);refine goes_oper_k rfl rfl (by k_ne) (fun K hK=>?_);go_simp;refine hK _ _ ⟨?_,?_⟩;(focus (refine Zl ?_;intro e he;have hm:=mem_listed he;simp [go_sem, *] at hm));clear hK K;try w_num)
     (refine Goes.step rfl (fun _ h₁=>?_);replace hF:=(fun _ h=>h) hF h₁;clear h₁;refine goes_leave1 rfl rfl H.f_uLoad rfl ⟨by (refine Zl ?_;intro e he;simp at he),?_⟩;walk_nrm)
     iterate 7 first
      | (refine Goes.step rfl (fun _ h₁=>?_);replace hF:=(fun _ h=>h) hF h₁;clear h₁;rw [stepG_region_end];simp only [goes_go];refine ⟨by (refine Zl ?_;intro e he;simp at he),?_⟩)
      | (refine Goes.step rfl (fun _ h₁=>?_);replace hF:=(fun _ h=>h) hF h₁;clear h₁;rw [stepG_seq];simp only [goes_go];refine ⟨by (refine Zl ?_;intro e he;simp at he),?_⟩)
      | (refine Goes.step rfl (fun _ h₁=>?_);replace hF:=(fun _ h=>h) hF h₁;clear h₁;rw [stepG_cond (t:=true) rfl];simp only [goes_go,if_true,if_false,Bool.false_eq_true,↓reduceIte];refine ⟨by (refine Zl ?_;intro e he;simp at he),?_⟩)
      | (refine Goes.step rfl (fun _ h₁=>?_);replace hF:=(fun _ h=>h) hF h₁;clear h₁;rw [stepG_region];simp only [goes_go,List.size_toArray,List.length_cons,List.length_nil,Nat.reduceAdd,Nat.zero_add,List.range,List.range.loop];refine ⟨by (refine Zl ?_;intro e he;simp at he),?_⟩)
      | ((refine Goes.step rfl (fun _ h₁=>?_);replace hF:=(fun _ h=>h) hF h₁;clear h₁);refine goes_oper_k rfl rfl (by k_ne) (fun K hK=>?_);go_simp;refine hK _ _ ⟨?_,?_⟩;(focus (refine Zl ?_;intro e he;have hm:=mem_listed he;simp [go_sem, *] at hm));clear hK K;try w_num)
     refine Goes.stop (fun _ _=>?_)
     refine PhaseR.enaW rfl (fun w _=>stepG_mark0 .enable (by simp) rfl rfl (by k_ne) rfl H.f_enable (x_enable_n L) (x_enable_b L) (x_enable_x L) (x_enable_f L)) ?_
     refine phz 120 rfl (fun w hF=>?_)
     walk_nrm
     iterate 3 first
      | (refine Goes.step rfl (fun _ h₁=>?_);replace hF:=(fun _ h=>h) hF h₁;clear h₁;rw [stepG_region_end];simp only [goes_go];refine ⟨by (refine Zl ?_;intro e he;simp at he),?_⟩)
      | (refine Goes.step rfl (fun _ h₁=>?_);replace hF:=(fun _ h=>h) hF h₁;clear h₁;rw [stepG_region];simp only [goes_go,List.size_toArray,List.length_cons,List.length_nil,Nat.reduceAdd,Nat.zero_add,List.range,List.range.loop];refine ⟨by (refine Zl ?_;intro e he;simp at he),?_⟩)
      | ((refine Goes.step rfl (fun _ h₁=>?_);replace hF:=(fun _ h=>h) hF h₁;clear h₁);refine goes_oper_k rfl rfl (by k_ne) (fun K hK=>?_);go_simp;refine hK _ _ ⟨?_,?_⟩;(focus (refine Zl ?_;intro e he;have hm:=mem_listed he;simp [go_sem, *] at hm));clear hK K;try w_num)
     (refine Goes.step rfl (fun _ h₁=>?_);replace hF:=(fun _ h=>h) hF h₁;clear h₁)
     refine goes_oper_k rfl rfl (by k_ne) (fun Kx hKx=>?_)
     have hcv:=run_convert_to_unsafe (P:=P) H.underlying_tWgP H.underlying_tUP H.room_tWg (WgLive.cell0 hF.2).choose_spec
     have hce:=fun es=>events_convert_to_unsafe (P:=P) H.underlying_tWgP H.underlying_tUP H.room_tWg (WgLive.cell0 hF.2).choose_spec es
     go_simp
     refine hKx _ _ ⟨?_,?_⟩
     ·(refine Zl ?_;intro ex hex;have hmx:=mem_listed hex;simp [go_sem,hce] at hmx)
     clear hKx Kx hcv hce
     refine Goes.stop (fun _ _=>?_)
     refine PhaseR.acq rfl (fun w _=>stepG_markAt .acquire (by simp) rfl rfl (by k_ne) rfl H.f_acquire (x_acquire_n L) (x_acquire_b L) (x_acquire_x L) (x_acquire_f L) (by simp [Act.eval,stA])) ?_
     refine hK _ _ _ ?_
     walk_nrm
     refine Lg.ctl _ rfl (fun _=>stepG_region_end) ?_
     refine Lg.ctl _ rfl (fun _=>stepG_seq) ?_
     refine Lg.ctl _ rfl (fun _=>stepG_seq) ?_
     (refine Lg.ctl _ rfl (fun _=>stepG_region) ?_;simp only [List.size_toArray,List.length_cons,List.length_nil,Nat.reduceAdd,Nat.zero_add,List.range,List.range.loop])
     (refine Lg.goV (.bool false) rfl rfl (by k_ne) (fun _=>by go_simp;try (first | w_num | decide)) (fun _=>by simp [go_sem, *]) ?_;walk_nrm)
     refine Lg.ctl _ rfl (fun _=>stepG_region_end) ?_
     (refine Lg.ctl _ rfl (fun _=>stepG_cond (t:=false) rfl) ?_;simp only [if_true,if_false,Bool.false_eq_true,↓reduceIte])
     refine Lg.ctl _ rfl (fun _=>stepG_skip) ?_
     refine Lg.ctl _ rfl (fun _=>stepG_ret') ?_
     refine Lg.leave0 rfl rfl H.f_wait rfl ?_
     exact hT
    ·refine phz 120 rfl (fun w hF=>?_)
     walk_nrm
     iterate 3 first
      | (refine Goes.step rfl (fun _ h₁=>?_);replace hF:=(fun _ h=>h) hF h₁;clear h₁;rw [stepG_region_end];simp only [goes_go];refine ⟨by (refine Zl ?_;intro e he;simp at he),?_⟩)
      | (refine Goes.step rfl (fun _ h₁=>?_);replace hF:=(fun _ h=>h) hF h₁;clear h₁;rw [stepG_ret'];simp only [goes_go];refine ⟨by (refine Zl ?_;intro e he;simp at he),?_⟩)
      | ((refine Goes.step rfl (fun _ h₁=>?_);replace hF:=(fun _ h=>h) hF h₁;clear h₁);refine goes_oper_k rfl rfl (by k_ne) (fun K hK=>?_);go_simp;refine hK _ _ ⟨?_,?_⟩;(focus (refine Zl ?_;intro e he;have hm:=mem_listed he;simp [go_sem, *] at hm));clear hK K;try w_num)
     (refine Goes.step rfl (fun _ h₁=>?_);replace hF:=(fun _ h=>h) hF h₁;clear h₁;refine goes_leave1 rfl rfl H.f_uCas rfl ⟨by (refine Zl ?_;intro e he;simp at he),?_⟩;walk_nrm)
     (refine Goes.step rfl (fun _ h₁=>?_);replace hF:=(fun _ h=>h) hF h₁;clear h₁;rw [stepG_region_end];simp only [goes_go];refine ⟨by (refine Zl ?_;intro e he;simp at he),?_⟩)
     (refine Goes.step rfl (fun _ h₁=>?_);replace hF:=(fun _ h=>h) hF h₁;clear h₁;rw [stepG_cond (t:=false) (by first | rfl | (simp [Act.eval];omega))];simp only [goes_go,if_true,if_false,Bool.false_eq_true,↓reduceIte];refine ⟨by (refine Zl ?_;intro e he;simp at he),?_⟩)
     (refine Goes.step rfl (fun _ h₁=>?_);replace hF:=(fun _ h=>h) hF h₁;clear h₁;rw [stepG_skip];simp only [goes_go];refine ⟨by (refine Zl ?_;intro e he;simp at he),?_⟩)
     (refine Goes.step rfl (fun _ h₁=>?_);replace hF:=(fun _ h=>h) hF h₁;clear h₁;rw [stepG_inBlock];simp only [goes_go];refine ⟨by (refine Zl ?_;intro e he;simp at he),?_⟩)
     (refine Goes.step rfl (fun _ h₁=>?_);replace hF:=(fun _ h=>h) hF h₁;clear h₁;rw [stepG_inLoop];simp only [goes_go];refine ⟨by (refine Zl ?_;intro e he;simp at he),?_⟩)
     refine Goes.stop (fun _ _=>?_)
     exact ih (v - 1) (by omega) (by omega) _ (by simp) (by simp)
set_option maxRecDepth 100000 in
set_option maxHeartbeats 8000000 in
theorem ZBh (H:WgLib P L) (hn:n<2147483648) (hK :∀g B L,X.R g B L→K g B L) (hT:X.R (G (b₀.at (a₀.put ((ops₀[i₀]?).bind (·.dst)) (.tuple #[])) (.inRegion ops₀ rest₀ :: k₀)) cs) B ((C,.cells ((List.range n).map val).toArray Payload.ety (0,0)) :: Lc)) (A:Array Value) (hA:A = #[.pointer (some ⟨Wg,0,none⟩),undef,undef,undef,undef,undef,undef,undef,undef,undef,undef,undef,undef,undef,undef,undef,undef,undef,undef,undef,undef,undef,undef,undef,undef,undef,undef,undef,undef,undef,undef,undef,undef,undef,undef,undef,undef,undef,undef,undef,undef,undef,undef,undef,undef,undef,undef,undef,undef,undef,undef,undef,undef,undef,undef,undef,undef,undef,undef,undef,undef,undef,undef,undef,undef,undef,undef,undef,undef,undef,undef,undef,undef,undef,undef,undef,undef,undef,undef,undef,undef,undef,undef,undef]) :
  PhaseR P L.tWg Wg C n val K .a5 n (G ((base L.wait).at ⟨A,[]⟩ [.code (body_wait L)]) (b₀.at a₀ (.inRegion ops₀ (i₀ :: rest₀) :: k₀) :: cs)) B Lc:=by
 subst hA
 lib_facts
 simp only [body_wait,waitFn,Option.getD_some]
 refine phz 120 rfl (fun w hF=>?_)
 (refine Goes.step rfl (fun _ h₁=>?_);replace hF:=(fun _ h=>h) hF h₁;clear h₁;rw [stepG_seq];simp only [goes_go];refine ⟨by (refine Zl ?_;intro e he;simp at he),?_⟩)
 (refine Goes.step rfl (fun _ h₁=>?_);replace hF:=(fun _ h=>h) hF h₁;clear h₁;rw [stepG_cond (t:=true) rfl];simp only [goes_go,if_true,if_false,Bool.false_eq_true,↓reduceIte];refine ⟨by (refine Zl ?_;intro e he;simp at he),?_⟩)
 (refine Goes.step rfl (fun _ h₁=>?_);replace hF:=(fun _ h=>h) hF h₁;clear h₁;rw [stepG_region];simp only [goes_go,List.size_toArray,List.length_cons,List.length_nil,Nat.reduceAdd,Nat.zero_add,List.range,List.range.loop];refine ⟨by (refine Zl ?_;intro e he;simp at he),?_⟩)
 refine Goes.stop (fun _ _=>?_)
 refine PhaseR.disW rfl (fun w _=>stepG_mark0 .disable (by simp) rfl rfl (by k_ne) rfl H.f_disable (x_disable_n L) (x_disable_b L) (x_disable_x L) (x_disable_f L)) ?_
 refine phz 120 rfl (fun w hF=>?_)
 walk_nrm
 (refine Goes.step rfl (fun _ h₁=>?_);replace hF:=(fun _ h=>h) hF h₁;clear h₁;rw [stepG_region_end];simp only [goes_go];refine ⟨by (refine Zl ?_;intro e he;simp at he),?_⟩)
 (refine Goes.step rfl (fun _ h₁=>?_);replace hF:=(fun _ h=>h) hF h₁;clear h₁;rw [stepG_block];simp only [goes_go];refine ⟨by (refine Zl ?_;intro e he;simp at he),?_⟩)
 (refine Goes.step rfl (fun _ h₁=>?_);replace hF:=(fun _ h=>h) hF h₁;clear h₁;rw [stepG_loop];simp only [goes_go];refine ⟨by (refine Zl ?_;intro e he;simp at he),?_⟩)
 refine Goes.stop (fun _ _=>?_)
 exact ZBi H hK hT n hn _ (by simp) (by simp)
end Go.BL
namespace Go.BL
open Go.Conc Go.ConcN
open Go.ConcR (mk g_of_ofEvents)
def EvX (n N:Nat) (B:Kn) (L:Cells) (e:Event):Prop:=∀x,(MemAct.ofEvent e).touch? = some x→∃blk,ZaX x.loc=some blk∧((∃o,(blk,o)∈L)∨(B.mem blk).isSome=true∨(n≤blk∧blk<N))
theorem Ev.still {n N:Nat} {B:Kn} {L:Cells} {e:Event} (h:Ev n N B L e):EvX n N B L e∧e.loc≠.mark .disable∧e.loc≠.mark .enable:=by
 rcases h with ⟨m,hm,hsf⟩ | ⟨hsy,blk,hl,hx⟩
 ·obtain ⟨a1,a2,a3,a4,a5⟩:=ZdK hm hsf
  exact ⟨fun x hx=>(by rw [a1] at hx;cases hx),a4,a5⟩
 ·obtain ⟨a1,a2,a3,a4,a5⟩:=Zex hsy hl
  refine ⟨fun x hx'=>?_,a4,a5⟩
  rw [a2] at hx'
  simp only [Option.some.injEq] at hx'
  subst hx'
  exact ⟨blk,a3,hx.imp id fun h=>h.imp (·.2) id⟩
inductive LockR (P:Program) (K:Goroutine→Kn→Cells→Prop):Nat→Goroutine→Kn→Cells→Prop
 | done {g:Goroutine} {B:Kn} {L:Cells} : K g B L→LockR P K 0 g B L
 | conv {d:Nat} {g:Goroutine} {B B':Kn} {L L':Cells} : B.le B'→(∀w,Sat B L w→Sat B' L' w)→(∀b o,B'.mem b=some o→(B.mem b).isSome=true∨∃p,p∈L∧p.1=b)→(∀p,p∈L'→∃q,q∈L∧q.1=p.1)→LockR P K d g B' L'→LockR P K d g B L
 | own {d d':Nat} {g:Goroutine} {B:Kn} {L:Cells} {gf:World→Goroutine} {wf:World→World} {ef:World→Array Event} {Bf:World→Kn} {Lf:World→Cells} : g.status = .running→
   (∀w,Sat B L w→stepG P true g w = .go (gf w) (wf w) (ef w)∧(∀e,e∈ef w→EvX w.heap.size (wf w).heap.size B L e)∧deafBehind d (ef w)=d'∧Ok B L w (Bf w) (Lf w) (wf w))→(∀w,Sat B L w→LockR P K d' (gf w) (Bf w) (Lf w))→LockR P K d g B L
theorem LockR.step {P:Program} {K:Goroutine→Kn→Cells→Prop} {d:Nat} (d':Nat) {g:Goroutine} {B:Kn} {L:Cells} (hr:g.status = .running)
  (h :∀w,Sat B L w→∃g' w' es B' L',stepG P true g w = .go g' w' es∧(∀e,e∈es→EvX w.heap.size w'.heap.size B L e)∧deafBehind d es=d'∧Ok B L w B' L' w'∧LockR P K d' g' B' L'):LockR P K d g B L:=by
 classical
 have h' :∀w,∃x:Goroutine × World × Array Event × Kn × Cells,Sat B L w→stepG P true g w = .go x.1 x.2.1 x.2.2.1∧(∀e,e∈x.2.2.1→EvX w.heap.size x.2.1.heap.size B L e)∧deafBehind d x.2.2.1=d'∧Ok B L w x.2.2.2.1 x.2.2.2.2 x.2.1∧LockR P K d' x.1 x.2.2.2.1 x.2.2.2.2:=fun w=>by
  by_cases s:Sat B L w
  ·obtain ⟨g',w',es,B',L',h1,h2,h3,h4,h5⟩:=h w s
   exact ⟨(g',w',es,B',L'),fun _=>⟨h1,h2,h3,h4,h5⟩⟩
  ·exact ⟨(g,w,#[],B,L),fun s1=>absurd s1 s⟩
 let f:=fun w=>Classical.choose (h' w)
 have hf:=fun w=>Classical.choose_spec (h' w)
 exact .own (d':=d') (gf:=fun w=>(f w).1) (wf:=fun w=>(f w).2.1) (ef:=fun w=>(f w).2.2.1) (Bf:=fun w=>(f w).2.2.2.1) (Lf:=fun w=>(f w).2.2.2.2) hr (fun w s=>⟨(hf w s).1,(hf w s).2.1,(hf w s).2.2.1,(hf w s).2.2.2.1⟩) (fun w s=>(hf w s).2.2.2.2)
theorem LockR.stepE {P:Program} {K:Goroutine→Kn→Cells→Prop} {d:Nat} {g:Goroutine} {B:Kn} {L:Cells} (hr:g.status = .running)
  (h :∀w,Sat B L w→∃g' w' es B' L',stepG P true g w = .go g' w' es∧(∀e,e∈es→Ev w.heap.size w'.heap.size B L e)∧Ok B L w B' L' w'∧LockR P K d g' B' L'):LockR P K d g B L:=
 LockR.step d hr fun w s=>by
  obtain ⟨g',w',es,B',L',h1,h2,h3,h4⟩:=h w s
  exact ⟨g',w',es,B',L',h1,fun e he=>(h2 e he).still.1,deafBehind_still (fun e he=>(h2 e he).still.2) d,h3,h4⟩
def ZuZ (P:Program) (K:Goroutine→Kn→Cells→Prop) (d:Nat):Lg (.lone P) where
 main:=true
 R:=LockR P K d
 conv:=fun hle hs hb hl h=>.conv hle hs hb hl h
 step:=fun hg h=>LockR.stepE (by rw [hg];rfl) h
 join:=fun h=>h.elim
theorem LockR.keep {P:Program} {K:Goroutine→Kn→Cells→Prop} {d:Nat} {g:Goroutine} {B:Kn} {L m:Cells} (h:LockR P K d g B L) :
  (∀p,p∈m→B.mem p.1=some p.2)→LockR P (fun g B' L'=>(∀p,p∈m→B'.mem p.1=some p.2)∧K g B' L') d g B L:=by
 induction h with
 | done hk=>exact fun hm=>.done ⟨hm,hk⟩
 | conv hle hs hb hl _ ih=>exact fun hm=>.conv hle hs hb hl (ih fun p hp=>hle _ _ (hm p hp))
 | own hr hst _ ih=>exact fun hm=>.own hr hst fun w s=>ih w s fun p hp=>(hst w s).2.2.2.le _ _ (hm p hp)
structure PastD (Shun:Loc→Prop) (hs:Nat) (t:Trace) (d:Nat):Prop where
 clean :∀said,¬ Race said t
 known :∀i a,touchAt t i=some a→a.loc.isMemory=true→Knows t 0 i∨(Shun a.loc∧a.kind = .atomic)
 over:t.HandedOver
 hears:Deaf t 0=d
 seen :∀op∈t,ZmE hs op
section
variable {Shun:Loc→Prop} {hs hs' d:Nat} {t u:Trace}
theorem PastD.app (h:PastD Shun hs t d) {d':Nat} (hd:Deaf (t ++ u) 0=d') (hu :∀op∈u,op.g=0∧∀x,op.act.touch? = some x→∃b,ZaX x.loc=some b∧((∀l,ZaX l=some b→¬ Shun l)∨hs≤b)) (hl :∀op∈u,ZmE hs' op) (hle:hs≤hs'):PastD Shun hs' (t ++ u) d':=by
 have hug :∀op∈u,op.g=0:=fun op hop=>(hu op hop).1
 refine ⟨fun said=>noRace_append (h.clean said) hug fun i a ha op hop b hb hc=>?_,fun i a ha hm=>?_,fun i g hg hne hc=>?_,hd,fun op hop=>(Array.mem_append.1 hop).elim (fun x=>(h.seen op x).mono hle) (hl op)⟩
 ·obtain ⟨bb,hbb,hx⟩:=(hu op hop).2 b hb
  have hab:ZaX a.loc=some bb:=by rw [hc.1];exact hbb
  have hm:a.loc.isMemory=true:=by cases hl:a.loc <;> rw [hl] at hab <;> first | rfl | cases hab
  rcases hx with hx | hx
  ·rcases h.known i a ha hm with hk | ⟨hk,_⟩
   ·exact hk
   ·exact absurd hk (hx _ hab)
  ·obtain ⟨x,hx',hxa⟩:=touch_of ha
   have:=h.seen x (Array.mem_of_getElem? hx') a bb hxa hab
   omega
 ·obtain ⟨x,hx,hxa⟩:=touch_of ha
  rcases getElem?_append_cases hx with ⟨hi,hx'⟩ | ⟨_,hxu⟩
  ·exact (h.known i a (touchAt_of hx' ▸ hxa) hm).imp (·.app u) id
  ·have:=knows_own hx
   rw [hug x hxu] at this
   exact .inl this
 ·obtain ⟨x,hx,hxg⟩:=Option.map_eq_some_iff.1 hg
  rcases getElem?_append_cases hx with ⟨hi,hx'⟩ | ⟨_,hxu⟩
  ·obtain ⟨q,h1,h2⟩:=h.over i g (by rw [← g?_old (u:=u) hi];exact hg) hne ((counts_old hi).1 hc)
   have hq:q<t.size:=by
    obtain ⟨z,hz,_⟩:=Option.map_eq_some_iff.1 h1
    exact lt_size_of_getElem? hz
   exact ⟨q,by rw [g?_old hq];exact h1,hb_app u h2⟩
  ·rw [hug x hxu] at hxg
   exact absurd hxg.symm hne
theorem PastD.mute {x:Nat} (h:PastD Shun hs t d) (hx0:x≠0) (hu :∀op∈u,op.g=x∧op.act.touch? = none):PastD Shun hs (t ++ u) d:=by
 have no :∀op∈u,∀b,op.act.touch? = some b→False:=fun op hop b hb=>by rw [(hu op hop).2] at hb;cases hb
 have old :∀{i:Nat} {a:Touch},touchAt (t ++ u) i=some a→touchAt t i=some a∧i<t.size:=by
  intro i a ha
  obtain ⟨z,hz,hza⟩:=touch_of ha
  rcases getElem?_append_cases hz with ⟨hi,hz'⟩ | ⟨_,hzu⟩
  ·exact ⟨by rw [touchAt_of hz'];exact hza,hi⟩
  ·exact (no z hzu a hza).elim
 refine ⟨fun said=>noRace_append (h.clean said) (fun op hop=>(hu op hop).1) fun i a _ op hop b hb _=>(no op hop b hb).elim,fun i a ha hm=>(h.known i a (old ha).1 hm).imp (·.app u) id,fun i g hg hne hc=>?_,by rw [Deaf_other t hx0 u (fun op hop=>(hu op hop).1)];exact h.hears,
  fun op hop=>(Array.mem_append.1 hop).elim (h.seen op) fun hy z b hz _=>(no op hy z hz).elim⟩
 have hcl:=hc
 obtain ⟨z,hz,_⟩:=hc
 obtain ⟨_,hi⟩:=old hz
 obtain ⟨q,h1,h2⟩:=h.over i g (by rw [← g?_old (u:=u) hi];exact hg) hne ((counts_old hi).1 hcl)
 have hq:q<t.size:=by
  obtain ⟨z,hz,_⟩:=Option.map_eq_some_iff.1 h1
  exact lt_size_of_getElem? hz
 exact ⟨q,by rw [g?_old hq];exact h1,hb_app _ h2⟩
end
structure FrameD (P:Program) (W:World) (Shun:Loc→Prop) (gs:Array Goroutine) (w:World) (t:Trace) (q:Nat→Nat) (d:Nat) (g:Goroutine) (B:Kn) (L:Cells):Prop where
 g0:gs[0]? = some g
 old :∀i x,0<i→gs[i]? = some x→QuitsD P (q i) (Deaf t i) x
 past:PastD Shun w.heap.size t d
 gs :∀op∈t,op.g<gs.size
 sat:Sat B L w
 shun :∀l,Shun l→∃b,ZaX l=some b∧b<w.heap.size∧B.mem b=none∧∀p,p∈L→p.1≠b
 kw:KW W w
 lowL :∀p,p∈L→W.heap.size≤p.1
theorem FrameS.toD {P:Program} {W:World} {Shun:Loc→Prop} {gs:Array Goroutine} {w:World} {t:Trace} {q:Nat→Nat} {g:Goroutine} {B:Kn} {L:Cells} (h:FrameS P W Shun gs w t q g B L):FrameD P W Shun gs w t q 0 g B L:=
 ⟨h.g0,h.old,⟨h.past.clean,h.past.known,h.past.over,h.past.hears,h.past.seen⟩,h.gs,h.sat,h.shun,h.kw,h.lowL⟩
theorem FrameD.toS {P:Program} {W:World} {Shun:Loc→Prop} {gs:Array Goroutine} {w:World} {t:Trace} {q:Nat→Nat} {g:Goroutine} {B:Kn} {L:Cells} (h:FrameD P W Shun gs w t q 0 g B L):FrameS P W Shun gs w t q g B L:=
 ⟨h.g0,h.old,⟨h.past.clean,h.past.known,h.past.over,h.past.hears,h.past.seen⟩,h.gs,h.sat,h.shun,h.kw,h.lowL⟩
def ZcO (P:Program) (Post:Value→World→Prop) (W:World) (d:Nat) (g:Goroutine) (B:Kn) (L:Cells):Prop:=
∀(gs:Array Goroutine) (w:World) (sl:Option (Nat × Nat)) (t:Trace) (q:Nat→Nat) (Shun:Loc→Prop),FrameD P W Shun gs w t q d g B L→Ends P Post (crowd gs w sl) t
section
variable {P:Program} {Post:Value→World→Prop} {W:World} {Shun:Loc→Prop} {gs:Array Goroutine} {w w':World} {sl:Option (Nat × Nat)} {t:Trace} {q:Nat→Nat} {d d':Nat} {g g':Goroutine} {B B':Kn} {L L':Cells}
theorem FrameD.at (h:FrameD P W Shun gs w t q d g B L) (c:Nat):FrameD P W Shun gs (w.at c) t q d g B L:=
 ⟨h.g0,h.old,h.past,h.gs,⟨h.sat.ro,h.sat.own,h.sat.nodup,h.sat.apart⟩,h.shun,⟨h.kw.same,h.kw.size,h.kw.tape,h.kw.os,h.kw.output⟩,h.lowL⟩
theorem FrameD.awake (h:FrameD P W Shun gs w t q d g B L) (hr:g.status = .running) :∀g∈gs,Go.Conc.awake g:=by
 intro x hx
 obtain ⟨i,hi,rfl⟩:=Array.mem_iff_getElem.1 hx
 have hgx:gs[i]? = some gs[i]:=Array.getElem?_eq_getElem hi
 rcases Nat.eq_zero_or_pos i with rfl | hpos
 ·have:=h.g0
  rw [hgx] at this
  rw [Option.some.inj this]
  exact awake_of (.inl hr)
 ·exact awake_of ((h.old i _ hpos hgx).status.elim .inl fun x=>.inr (.inr x))
theorem FrameD.leaver (h:FrameD P W Shun gs w t q d g B L) (hr:g.status = .running) {x k:Nat} (hx0:0<x) {a a':Goroutine} (ha:gs[x]? = some a) {es:Array Event} (hm :∀e∈es,e.mute=true) (hq:QuitsD P k (deafBehind (Deaf t x) es) a') :
  FrameD P W Shun ((gs.map (woken P a a' w)).setIfInBounds x a') w (t ++ MemOp.ofEvents x a.frame.fn a.frame.place es) (upd q x k) d g B L:=by
 have hlt:x<gs.size:=(Array.getElem?_eq_some_iff.1 ha).1
 have hmu :∀op∈MemOp.ofEvents x a.frame.fn a.frame.place es,op.g=x∧op.act.touch? = none:=fun op hop=>by
  obtain ⟨e,he,rfl⟩:=Zeh hop
  exact ⟨rfl,touch_mute (hm e he)⟩
 refine ⟨?_,fun y gy h0 hgy=>?_,h.past.mute (by omega) hmu,fun op hop=>?_,h.sat,h.shun,h.kw,h.lowL⟩
 ·rw [get_map_set _ _ _ _ (by omega),h.g0,Option.map_some,woken_run hr]
 ·by_cases e:x=y
  ·subst e
   rw [get_map_set_same _ _ _ hlt] at hgy
   cases hgy
   rw [Deaf_own]
   simp only [upd_same]
   exact hq
  ·rw [get_map_set _ _ _ _ e] at hgy
   obtain ⟨z,hz,rfl⟩:=Option.map_eq_some_iff.1 hgy
   have hqz:=h.old y z h0 hz
   rw [woken_quitsD hqz,Deaf_other t e _ g_of_ofEvents]
   simp only [upd_ne _ _ (Ne.symm e)]
   exact hqz
 ·rw [Array.size_setIfInBounds,Array.size_map]
  rcases Array.mem_append.1 hop with hop | hop
  ·exact h.gs op hop
  ·rw [(hmu op hop).1];exact hlt
theorem Zlc (hr:g.status = .running) (H :∀gs w sl t q Shun,FrameD P W Shun gs w t q d g B L→∃m' ops,runT P (crowd gs w sl) 0=(.next m',ops)∧Ends P Post m' (t ++ ops)):ZcO P Post W d g B L:=by
 have key :∀(μ:Nat) gs w sl t q Shun,sumTo gs.size q=μ→FrameD P W Shun gs w t q d g B L→Ends P Post (crowd gs w sl) t:=by
  intro μ
  induction μ using Nat.strongRecOn with
  | _ μ ih=>
   intro gs w sl t q Shun hμ h
   obtain ⟨x,gx,c,sl',hgx,hrx,hstep⟩:=crowd_pick (P:=P) (w:=w) (sl:=sl) (h.awake hr) ⟨0,g,h.g0,hr⟩
   rcases Nat.eq_zero_or_pos x with rfl | hpos
   ·obtain ⟨m',ops,h1,h2⟩:=H gs (w.at c) sl' t q Shun (h.at c)
    exact Ends.next (hstep.trans h1) h2
   ·have hq:=h.old x gx hpos hgx
    have hlt:x<gs.size:=(Array.getElem?_eq_some_iff.1 hgx).1
    cases hk:q x with
    | zero=>rw [hk] at hq;rw [hq.1] at hrx;cases hrx
    | succ k=>
     rw [hk] at hq
     rcases hq with ⟨hf,_⟩ | ⟨_,g',es,hm,hstp,hq'⟩
     ·rw [hf] at hrx;cases hrx
     ·have hrunT:=runT_crowd_go (P:=P) (sl:=sl') (i:=x) hgx (by rw [show (x == 0)=false by simp;omega];exact hstp (w.at c))
      have h':=(h.at c).leaver hr hpos hgx hm hq'
      refine Ends.next (hstep.trans hrunT) (ih (sumTo gs.size (upd q x k)) ?_ _ _ _ _ _ _ (by rw [Array.size_setIfInBounds,Array.size_map]) h')
      have h2:=sumTo_upd q k id hlt
      simp only [id_eq] at h2
      have h3:(sumTo gs.size fun a=>upd q x k a)=sumTo gs.size (upd q x k):=rfl
      have h4:(sumTo gs.size fun a=>q a)=sumTo gs.size q:=rfl
      omega
 exact fun gs w sl t q Shun h=>key _ gs w sl t q Shun rfl h
theorem ZcO.conv (hle:B.le B') (hs :∀w,Sat B L w→Sat B' L' w) (hb :∀b o,B'.mem b=some o→(B.mem b).isSome=true∨∃p,p∈L∧p.1=b) (hl :∀p,p∈L'→∃q,q∈L∧q.1=p.1) (h:ZcO P Post W d g B' L'):ZcO P Post W d g B L:=
 fun gs w sl t q Shun s=>h gs w sl t q Shun ⟨s.g0,s.old,s.past,s.gs,hs w s.sat,fun l hl'=>by
  obtain ⟨b,h1,h2,h3,h4⟩:=s.shun l hl'
  refine ⟨b,h1,h2,?_,fun p hp e=>?_⟩
  ·cases hm:B'.mem b with
   | none=>rfl
   | some x=>
    rcases hb b x hm with hx | ⟨p,hp,e⟩
    ·rw [h3] at hx;cases hx
    ·exact absurd e (h4 p hp)
  ·obtain ⟨r,hr,e'⟩:=hl p hp
   exact h4 r hr (e'.trans e),s.kw,fun p hp=>by
  obtain ⟨r,hr,e⟩:=hl p hp
  rw [← e];exact s.lowL r hr⟩
theorem ZcO.step (hr:g.status = .running) (h :∀w,Sat B L w→∃g' w' es B' L',stepG P true g w = .go g' w' es∧(∀e,e∈es→EvX w.heap.size w'.heap.size B L e)∧deafBehind d es=d'∧Ok B L w B' L' w'∧ZcO P Post W d' g' B' L'):ZcO P Post W d g B L:=by
 refine Zlc hr fun gs w sl t q Shun s=>?_
 obtain ⟨g',w',es,B',L',h1,h2,hd,h3,h4⟩:=h w s.sat
 have hrun:=runT_crowd_go (P:=P) (sl:=sl) (i:=0) s.g0 (by simpa using h1)
 have hlt:0<gs.size:=(Array.getElem?_eq_some_iff.1 s.g0).1
 have notShun :∀{b},((B.mem b).isSome=true∨∃p,p∈L∧p.1=b)→∀l,ZaX l=some b→¬ Shun l:=fun {b} hb l hl hsh=>by
  obtain ⟨b',e1,_,e3,e4⟩:=s.shun l hsh
  rw [hl] at e1
  cases e1
  rcases hb with hb | ⟨p,hp,e⟩
  ·rw [e3] at hb;cases hb
  ·exact e4 p hp e
 have hops :∀op∈MemOp.ofEvents 0 g.frame.fn g.frame.place es,(op.g=0∧∀x,op.act.touch? = some x→∃b,ZaX x.loc=some b∧((∀l,ZaX l=some b→¬ Shun l)∨w.heap.size≤b))∧ZmE w'.heap.size op:=fun op hop=>by
  obtain ⟨e,he,rfl⟩:=Zeh hop
  have hx:=h2 e he
  refine ⟨⟨rfl,fun x hx'=>?_⟩,fun x b hx' hb=>?_⟩
  ·obtain ⟨blk,e1,e2⟩:=hx x hx'
   refine ⟨blk,e1,?_⟩
   rcases e2 with ⟨o,ho⟩ | hb | ⟨hge,_⟩
   ·exact .inl (notShun (.inr ⟨_,ho,rfl⟩))
   ·exact .inl (notShun (.inl hb))
   ·exact .inr hge
  ·obtain ⟨blk,e1,e2⟩:=hx x hx'
   rw [e1] at hb
   cases hb
   rcases e2 with ⟨o,ho⟩ | hb | ⟨_,hlt⟩
   ·exact Nat.lt_of_lt_of_le (s.sat.ltL ho) h3.size
   ·obtain ⟨o,ho⟩:=Option.isSome_iff_exists.1 hb
    exact Nat.lt_of_lt_of_le (s.sat.ltB ho) h3.size
   ·exact hlt
 have m:Mv (fun b=>∃p,p∈L∧p.1=b) w w':=Mv.of_ok h3 fun p hp=>⟨p,hp,rfl⟩
 refine ⟨_,_,hrun,h4 _ _ _ _ q Shun ⟨get_map_set_same _ _ _ hlt,fun x gx h0 hgx=>?_,s.past.app (by rw [Deaf_own,s.past.hears];exact hd) (fun op hop=>(hops op hop).1) (fun op hop=>(hops op hop).2) h3.size,fun op hop=>?_,h3.sat,fun l hl=>?_,s.kw.mv m (fun b ⟨p,hp,e⟩=>e ▸ s.lowL p hp),fun p hp=>?_⟩⟩
 ·rw [get_map_set _ _ _ _ (by omega)] at hgx
  obtain ⟨z,hz,rfl⟩:=Option.map_eq_some_iff.1 hgx
  have hqz:=s.old x z h0 hz
  rw [woken_quitsD hqz,Deaf_other t (by omega) _ g_of_ofEvents]
  exact hqz
 ·rw [Array.size_setIfInBounds,Array.size_map]
  rcases Array.mem_append.1 hop with hop | hop
  ·exact s.gs op hop
  ·rw [(hops op hop).1.1];exact hlt
 ·obtain ⟨b,e1,e2,e3,e4⟩:=s.shun l hl
  refine ⟨b,e1,Nat.lt_of_lt_of_le e2 h3.size,?_,fun p hp e=>?_⟩
  ·cases hm:B'.mem b with
   | none=>rfl
   | some x=>
    rcases h3.newB b x hm with hx | ⟨p,hp,e⟩ | hx
    ·rw [e3] at hx;cases hx
    ·exact absurd e (e4 p hp)
    ·omega
  ·rcases h3.newL p hp with ⟨r,hr',e'⟩ | hx
   ·exact e4 r hr' (e'.trans e)
   ·omega
 ·rcases h3.newL p hp with ⟨r,hr',e'⟩ | hx
  ·rw [← e'];exact s.lowL r hr'
  ·exact Nat.le_trans s.kw.size hx
end
theorem LockR.sound {P:Program} {Post:Value→World→Prop} {W:World} {K:Goroutine→Kn→Cells→Prop} {d:Nat} {g:Goroutine} {B:Kn} {L:Cells} (h:LockR P K d g B L) (hK :∀g B L,K g B L→Zbc P Post W g B L):ZcO P Post W d g B L:=by
 induction h with
 | done hk=>exact fun gs w sl t q Shun s=>hK _ _ _ hk gs w sl t q Shun s.toS
 | conv hle hs hb hl _ ih=>exact ZcO.conv hle hs hb hl ih
 | own hr hst _ ih=>exact ZcO.step hr fun w s=>⟨_,_,_,_,_,(hst w s).1,(hst w s).2.1,(hst w s).2.2.1,(hst w s).2.2.2,ih w s⟩
theorem Zbc.lock {P:Program} {Post:Value→World→Prop} {W:World} {R:Goroutine→Kn→Cells→Prop} {m:Cells} {g:Goroutine} {B:Kn} {L:Cells} (h:LockR P R 0 g B L) (hm0 :∀p,p∈m→B.mem p.1=some p.2) (hR :∀g' B' L',(∀p,p∈m→B'.mem p.1=some p.2)→R g' B' L'→Zbc P Post W g' B' L'):Zbc P Post W g B L:=
 fun gs w sl t q Shun s=>(h.keep hm0).sound (fun g B L hk=>hR g B L hk.1 hk.2) gs w sl t q Shun s.toD
end Go.BL
namespace Go.BL
open Go.Conc Go.ConcN
open Go.ConcR (KK wgBlock WgAt stA smA rd wr mk Payload g_of_ofEvents)
theorem Zxn {B:Kn} {L:Cells} {w:World} {d:Nat} (s:Sat B L w):Sat B L (w.at d):=⟨s.ro,s.own,s.nodup,s.apart⟩
theorem Sat.left0 {B:Kn} {L L':Cells} {w:World} (s:Sat B (L ++ L') w):Sat B L w:=by
 refine ⟨s.ro,fun p hp=>s.own p (List.mem_append.2 (.inl hp)),?_,fun p hp=>s.apart p (List.mem_append.2 (.inl hp))⟩
 have:=s.nodup
 rw [List.map_append] at this
 exact (List.nodup_append.1 this).1
theorem Znh {B:Kn} {L:Cells} {w:World} (s:Sat B L w) {b:Nat} (h:(B.mem b).isSome=true):b<w.heap.size:=by
 obtain ⟨o,ho⟩:=Option.isSome_iff_exists.1 h
 exact s.ltB ho
section
variable {Shun:Loc→Prop} {hs hs':Nat} {t u:Trace}
theorem PastB.app (h:PastB Shun hs t) (hu :∀op∈u,op.g=0∧(op.act≠.mark .disable∧op.act≠.mark .enable)∧∀x,op.act.touch? = some x→∃b,ZaX x.loc=some b∧((∀l,ZaX l=some b→¬ Shun l)∨hs≤b)) (hl :∀op∈u,ZmE hs' op) (hle:hs≤hs'):PastB Shun hs' (t ++ u):=by
 have hug :∀op∈u,op.g=0:=fun op hop=>(hu op hop).1
 refine ⟨fun said=>noRace_append (h.clean said) hug fun i a ha op hop b hb hc=>?_,fun i a ha hm=>?_,fun i g hg hne hc=>?_,by rw [Deaf_still t 0 u (fun op hop=>(hu op hop).2.1)];exact h.hears,fun op hop=>(Array.mem_append.1 hop).elim (fun x=>(h.seen op x).mono hle) (hl op)⟩
 ·obtain ⟨bb,hbb,hx⟩:=(hu op hop).2.2 b hb
  have hab:ZaX a.loc=some bb:=by rw [hc.1];exact hbb
  have hm:a.loc.isMemory=true:=by cases hl:a.loc <;> rw [hl] at hab <;> first | rfl | cases hab
  rcases hx with hx | hx
  ·rcases h.known i a ha hm with hk | ⟨hk,_⟩
   ·exact hk
   ·exact absurd hk (hx _ hab)
  ·obtain ⟨x,hx',hxa⟩:=touch_of ha
   have:=h.seen x (Array.mem_of_getElem? hx') a bb hxa hab
   omega
 ·obtain ⟨x,hx,hxa⟩:=touch_of ha
  rcases getElem?_append_cases hx with ⟨hi,hx'⟩ | ⟨_,hxu⟩
  ·exact (h.known i a (touchAt_of hx' ▸ hxa) hm).imp (·.app u) id
  ·have:=knows_own hx
   rw [hug x hxu] at this
   exact .inl this
 ·obtain ⟨x,hx,hxg⟩:=Option.map_eq_some_iff.1 hg
  rcases getElem?_append_cases hx with ⟨hi,hx'⟩ | ⟨_,hxu⟩
  ·obtain ⟨q,h1,h2⟩:=h.over i g (by rw [← g?_old (u:=u) hi];exact hg) hne ((counts_old hi).1 hc)
   have hq:q<t.size:=by
    obtain ⟨z,hz,_⟩:=Option.map_eq_some_iff.1 h1
    exact lt_size_of_getElem? hz
   exact ⟨q,by rw [g?_old hq];exact h1,hb_app u h2⟩
  ·rw [hug x hxu] at hxg
   exact absurd hxg.symm hne
theorem PastB.mute {x:Nat} (h:PastB Shun hs t) (hx0:x≠0) (hu :∀op∈u,op.g=x∧op.act.touch? = none):PastB Shun hs (t ++ u):=by
 have no :∀op∈u,∀b,op.act.touch? = some b→False:=fun op hop b hb=>by rw [(hu op hop).2] at hb;cases hb
 have old :∀{i:Nat} {a:Touch},touchAt (t ++ u) i=some a→touchAt t i=some a∧i<t.size:=by
  intro i a ha
  obtain ⟨z,hz,hza⟩:=touch_of ha
  rcases getElem?_append_cases hz with ⟨hi,hz'⟩ | ⟨_,hzu⟩
  ·exact ⟨by rw [touchAt_of hz'];exact hza,hi⟩
  ·exact (no z hzu a hza).elim
 refine ⟨fun said=>noRace_append (h.clean said) (fun op hop=>(hu op hop).1) fun i a _ op hop b hb _=>(no op hop b hb).elim,fun i a ha hm=>(h.known i a (old ha).1 hm).imp (·.app u) id,fun i g hg hne hc=>?_,by rw [Deaf_other t hx0 u (fun op hop=>(hu op hop).1)];exact h.hears,
  fun op hop=>(Array.mem_append.1 hop).elim (h.seen op) fun hy z b hz _=>(no op hy z hz).elim⟩
 have hcl:=hc
 obtain ⟨z,hz,_⟩:=hc
 obtain ⟨_,hi⟩:=old hz
 obtain ⟨q,h1,h2⟩:=h.over i g (by rw [← g?_old (u:=u) hi];exact hg) hne ((counts_old hi).1 hcl)
 have hq:q<t.size:=by
  obtain ⟨z,hz,_⟩:=Option.map_eq_some_iff.1 h1
  exact lt_size_of_getElem? hz
 exact ⟨q,by rw [g?_old hq];exact h1,hb_app _ h2⟩
end
section
variable {P:Program} {Post:Value→World→Prop} {W:World} {Shun:Loc→Prop} {gs:Array Goroutine} {w w':World} {sl:Option (Nat × Nat)} {t:Trace} {q:Nat→Nat} {g g':Goroutine} {B B':Kn} {L L':Cells}
theorem Ends.ended {m:Machine} {o:Outcome} {ops:Array MemOp} (hs:stepT P m=(.ended o w',ops)) (hq:Good P Post m o w' (t ++ ops)):Ends P Post m t:=
 ⟨0,m,o,w',t ++ ops,by simp [runNT,hs],rfl,by simp [step,hs],hq⟩
theorem FrameS.at (h:FrameS P W Shun gs w t q g B L) (d:Nat):FrameS P W Shun gs (w.at d) t q g B L:=
 ⟨h.g0,h.old,h.past,h.gs,Zxn h.sat,h.shun,⟨h.kw.same,h.kw.size,h.kw.tape,h.kw.os,h.kw.output⟩,h.lowL⟩
theorem FrameS.awake (h:FrameS P W Shun gs w t q g B L) (hr:g.status = .running) :∀g∈gs,Go.Conc.awake g:=by
 intro x hx
 obtain ⟨i,hi,rfl⟩:=Array.mem_iff_getElem.1 hx
 have hgx:gs[i]? = some gs[i]:=Array.getElem?_eq_getElem hi
 rcases Nat.eq_zero_or_pos i with rfl | hpos
 ·have:=h.g0
  rw [hgx] at this
  rw [Option.some.inj this]
  exact awake_of (.inl hr)
 ·exact awake_of ((h.old i _ hpos hgx).status.elim .inl fun x=>.inr (.inr x))
theorem FrameS.leaver (h:FrameS P W Shun gs w t q g B L) (hr:g.status = .running) {x k:Nat} (hx0:0<x) {a a':Goroutine} (ha:gs[x]? = some a) {es:Array Event} (hm :∀e∈es,e.mute=true) (hq:QuitsD P k (deafBehind (Deaf t x) es) a') :
  FrameS P W Shun ((gs.map (woken P a a' w)).setIfInBounds x a') w (t ++ MemOp.ofEvents x a.frame.fn a.frame.place es) (upd q x k) g B L:=by
 have hlt:x<gs.size:=(Array.getElem?_eq_some_iff.1 ha).1
 have hmu :∀op∈MemOp.ofEvents x a.frame.fn a.frame.place es,op.g=x∧op.act.touch? = none:=fun op hop=>by
  obtain ⟨e,he,rfl⟩:=Zeh hop
  exact ⟨rfl,touch_mute (hm e he)⟩
 refine ⟨?_,fun y gy h0 hgy=>?_,h.past.mute (by omega) hmu,fun op hop=>?_,h.sat,h.shun,h.kw,h.lowL⟩
 ·rw [get_map_set _ _ _ _ (by omega),h.g0,Option.map_some,woken_run hr]
 ·by_cases e:x=y
  ·subst e
   rw [get_map_set_same _ _ _ hlt] at hgy
   cases hgy
   rw [Deaf_own]
   simp only [upd_same]
   exact hq
  ·rw [get_map_set _ _ _ _ e] at hgy
   obtain ⟨z,hz,rfl⟩:=Option.map_eq_some_iff.1 hgy
   have hqz:=h.old y z h0 hz
   rw [woken_quitsD hqz,Deaf_other t e _ g_of_ofEvents]
   simp only [upd_ne _ _ (Ne.symm e)]
   exact hqz
 ·rw [Array.size_setIfInBounds,Array.size_map]
  rcases Array.mem_append.1 hop with hop | hop
  ·exact h.gs op hop
  ·rw [(hmu op hop).1];exact hlt
theorem ZgW (hr:g.status = .running) (H :∀gs w sl t q Shun,FrameS P W Shun gs w t q g B L→(∃m' ops,runT P (crowd gs w sl) 0=(.next m',ops)∧Ends P Post m' (t ++ ops))∨(∃o w' ops,runT P (crowd gs w sl) 0=(.ended o w',ops)∧∀w₀ sl₀,Good P Post (crowd gs w₀ sl₀) o w' (t ++ ops))) :
  Zbc P Post W g B L:=by
 have key :∀(μ:Nat) gs w sl t q Shun,sumTo gs.size q=μ→FrameS P W Shun gs w t q g B L→Ends P Post (crowd gs w sl) t:=by
  intro μ
  induction μ using Nat.strongRecOn with
  | _ μ ih=>
   intro gs w sl t q Shun hμ h
   obtain ⟨x,gx,d,sl',hgx,hrx,hstep⟩:=crowd_pick (P:=P) (w:=w) (sl:=sl) (h.awake hr) ⟨0,g,h.g0,hr⟩
   rcases Nat.eq_zero_or_pos x with rfl | hpos
   ·rcases H gs (w.at d) sl' t q Shun (h.at d) with ⟨m',ops,h1,h2⟩ | ⟨o,w',ops,h1,h2⟩
    ·exact Ends.next (hstep.trans h1) h2
    ·exact Ends.ended (hstep.trans h1) (h2 _ _)
   ·have hq:=h.old x gx hpos hgx
    have hlt:x<gs.size:=(Array.getElem?_eq_some_iff.1 hgx).1
    cases hk:q x with
    | zero=>rw [hk] at hq;rw [hq.1] at hrx;cases hrx
    | succ k=>
     rw [hk] at hq
     rcases hq with ⟨hf,_⟩ | ⟨_,g',es,hm,hstp,hq'⟩
     ·rw [hf] at hrx;cases hrx
     ·have hrunT:=runT_crowd_go (P:=P) (sl:=sl') (i:=x) hgx (by rw [show (x == 0)=false by simp;omega];exact hstp (w.at d))
      have h':=(h.at d).leaver hr hpos hgx hm hq'
      refine Ends.next (hstep.trans hrunT) (ih (sumTo gs.size (upd q x k)) ?_ _ _ _ _ _ _ (by rw [Array.size_setIfInBounds,Array.size_map]) h')
      have h2:=sumTo_upd q k id hlt
      simp only [id_eq] at h2
      have h3:(sumTo gs.size fun a=>upd q x k a)=sumTo gs.size (upd q x k):=rfl
      have h4:(sumTo gs.size fun a=>q a)=sumTo gs.size q:=rfl
      omega
 exact fun gs w sl t q Shun h=>key _ gs w sl t q Shun rfl h
theorem Zbc.conv (hle:B.le B') (hs :∀w,Sat B L w→Sat B' L' w) (hb :∀b o,B'.mem b=some o→(B.mem b).isSome=true∨∃p,p∈L∧p.1=b) (hl :∀p,p∈L'→∃q,q∈L∧q.1=p.1) (h:Zbc P Post W g B' L'):Zbc P Post W g B L:=
 fun gs w sl t q Shun s=>h gs w sl t q Shun ⟨s.g0,s.old,s.past,s.gs,hs w s.sat,fun l hl'=>by
  obtain ⟨b,h1,h2,h3,h4⟩:=s.shun l hl'
  refine ⟨b,h1,h2,?_,fun p hp e=>?_⟩
  ·cases hm:B'.mem b with
   | none=>rfl
   | some x=>
    rcases hb b x hm with hx | ⟨p,hp,e⟩
    ·rw [h3] at hx;cases hx
    ·exact absurd e (h4 p hp)
  ·obtain ⟨r,hr,e'⟩:=hl p hp
   exact h4 r hr (e'.trans e),s.kw,fun p hp=>by
  obtain ⟨r,hr,e⟩:=hl p hp
  rw [← e];exact s.lowL r hr⟩
theorem Zbc.step (hr:g.status = .running) (h :∀w,Sat B L w→∃g' w' es B' L',stepG P true g w = .go g' w' es∧(∀e,e∈es→Ev w.heap.size w'.heap.size B L e)∧Ok B L w B' L' w'∧Zbc P Post W g' B' L'):Zbc P Post W g B L:=by
 refine ZgW hr fun gs w sl t q Shun s=>.inl ?_
 obtain ⟨g',w',es,B',L',h1,h2,h3,h4⟩:=h w s.sat
 have hrun:=runT_crowd_go (P:=P) (sl:=sl) (i:=0) s.g0 (by simpa using h1)
 have hlt:0<gs.size:=(Array.getElem?_eq_some_iff.1 s.g0).1
 have notShun :∀{b},((B.mem b).isSome=true∨∃p,p∈L∧p.1=b)→∀l,ZaX l=some b→¬ Shun l:=fun {b} hb l hl hsh=>by
  obtain ⟨b',e1,_,e3,e4⟩:=s.shun l hsh
  rw [hl] at e1
  cases e1
  rcases hb with hb | ⟨p,hp,e⟩
  ·rw [e3] at hb;cases hb
  ·exact e4 p hp e
 have hops :∀op∈MemOp.ofEvents 0 g.frame.fn g.frame.place es,(op.g=0∧(op.act≠.mark .disable∧op.act≠.mark .enable)∧∀x,op.act.touch? = some x→∃b,ZaX x.loc=some b∧((∀l,ZaX l=some b→¬ Shun l)∨w.heap.size≤b))∧ZmE w'.heap.size op:=fun op hop=>by
  obtain ⟨e,he,rfl⟩:=Zeh hop
  rcases h2 e he with ⟨m,hm,hsf⟩ | ⟨hsy,blk,hl,hx⟩
  ·obtain ⟨a1,a2,a3,a4,a5⟩:=ZdK hm hsf
   refine ⟨⟨rfl,⟨fun e=>?_,fun e=>?_⟩,fun x hx=>?_⟩,fun x b hx=>?_⟩
   ·exact a4 (ConcR.loc_of_ofEvent e)
   ·exact a5 (ConcR.loc_of_ofEvent e)
   ·rw [a1] at hx;cases hx
   ·rw [a1] at hx;cases hx
  ·obtain ⟨a1,a2,a3,a4,a5⟩:=Zex hsy hl
   have hblk:blk<w'.heap.size:=by
    rcases hx with ⟨o,ho⟩ | ⟨_,hb⟩ | ⟨_,hlt⟩
    ·exact Nat.lt_of_lt_of_le (s.sat.ltL ho) h3.size
    ·exact Nat.lt_of_lt_of_le (Znh s.sat hb) h3.size
    ·exact hlt
   refine ⟨⟨rfl,⟨fun e=>?_,fun e=>?_⟩,fun x hx'=>?_⟩,fun x b hx' hb=>?_⟩
   ·exact a4 (ConcR.loc_of_ofEvent e)
   ·exact a5 (ConcR.loc_of_ofEvent e)
   ·simp only at hx'
    rw [a2] at hx'
    simp only [Option.some.injEq] at hx'
    subst hx'
    refine ⟨blk,a3,?_⟩
    rcases hx with ⟨o,ho⟩ | ⟨_,hb⟩ | ⟨hge,_⟩
    ·exact .inl (notShun (.inr ⟨_,ho,rfl⟩))
    ·exact .inl (notShun (.inl hb))
    ·exact .inr hge
   ·simp only at hx'
    rw [a2] at hx'
    simp only [Option.some.injEq] at hx'
    subst hx'
    rw [a3] at hb
    cases hb
    exact hblk
 have m:Mv (fun b=>∃p,p∈L∧p.1=b) w w':=Mv.of_ok h3 fun p hp=>⟨p,hp,rfl⟩
 refine ⟨_,_,hrun,h4 _ _ _ _ q Shun ⟨get_map_set_same _ _ _ hlt,fun x gx h0 hgx=>?_,s.past.app (fun op hop=>(hops op hop).1) (fun op hop=>(hops op hop).2) h3.size,fun op hop=>?_,h3.sat,fun l hl=>?_,s.kw.mv m (fun b ⟨p,hp,e⟩=>e ▸ s.lowL p hp),fun p hp=>?_⟩⟩
 ·rw [get_map_set _ _ _ _ (by omega)] at hgx
  obtain ⟨z,hz,rfl⟩:=Option.map_eq_some_iff.1 hgx
  have hqz:=s.old x z h0 hz
  rw [woken_quitsD hqz,Deaf_other t (by omega) _ g_of_ofEvents]
  exact hqz
 ·rw [Array.size_setIfInBounds,Array.size_map]
  rcases Array.mem_append.1 hop with hop | hop
  ·exact s.gs op hop
  ·rw [(hops op hop).1.1];exact hlt
 ·obtain ⟨b,e1,e2,e3,e4⟩:=s.shun l hl
  refine ⟨b,e1,Nat.lt_of_lt_of_le e2 h3.size,?_,fun p hp e=>?_⟩
  ·cases hm:B'.mem b with
   | none=>rfl
   | some x=>
    rcases h3.newB b x hm with hx | ⟨p,hp,e⟩ | hx
    ·rw [e3] at hx;cases hx
    ·exact absurd e (e4 p hp)
    ·omega
  ·rcases h3.newL p hp with ⟨r,hr',e'⟩ | hx
   ·exact e4 r hr' (e'.trans e)
   ·omega
 ·rcases h3.newL p hp with ⟨r,hr',e'⟩ | hx
  ·rw [← e'];exact s.lowL r hr'
  ·exact Nat.le_trans s.kw.size hx
theorem Zbc.ended (hr:g.status = .running) (h :∀w,Sat B L w→KW W w→∃v es,stepG P true g w = .ended (.done v) w es∧(∀e,e∈es→Ev w.heap.size w.heap.size B L e)∧Post v w):Zbc P Post W g B L:=by
 refine ZgW hr fun gs w sl t q Shun s=>.inr ?_
 obtain ⟨v,es,h1,h2,h3⟩:=h w s.sat s.kw
 have hrun:=runT_crowd_ended (P:=P) (sl:=sl) (i:=0) s.g0 (by simpa using h1)
 have notShun :∀{b},((B.mem b).isSome=true∨∃p,p∈L∧p.1=b)→∀l,ZaX l=some b→¬ Shun l:=fun {b} hb l hl hsh=>by
  obtain ⟨b',e1,_,e3,e4⟩:=s.shun l hsh
  rw [hl] at e1
  cases e1
  rcases hb with hb | ⟨p,hp,e⟩
  ·rw [e3] at hb;cases hb
  ·exact e4 p hp e
 have hops :∀op∈MemOp.ofEvents 0 g.frame.fn g.frame.place es,(op.g=0∧(op.act≠.mark .disable∧op.act≠.mark .enable)∧∀x,op.act.touch? = some x→∃b,ZaX x.loc=some b∧((∀l,ZaX l=some b→¬ Shun l)∨w.heap.size≤b))∧ZmE w.heap.size op:=fun op hop=>by
  obtain ⟨e,he,rfl⟩:=Zeh hop
  rcases h2 e he with ⟨m,hm,hsf⟩ | ⟨hsy,blk,hl,hx⟩
  ·obtain ⟨a1,a2,a3,a4,a5⟩:=ZdK hm hsf
   refine ⟨⟨rfl,⟨fun e=>?_,fun e=>?_⟩,fun x hx=>?_⟩,fun x b hx=>?_⟩
   ·exact a4 (ConcR.loc_of_ofEvent e)
   ·exact a5 (ConcR.loc_of_ofEvent e)
   ·rw [a1] at hx;cases hx
   ·rw [a1] at hx;cases hx
  ·obtain ⟨a1,a2,a3,a4,a5⟩:=Zex hsy hl
   have hblk:blk<w.heap.size:=by
    rcases hx with ⟨o,ho⟩ | ⟨_,hb⟩ | ⟨_,hlt⟩
    ·exact s.sat.ltL ho
    ·exact Znh s.sat hb
    ·exact hlt
   refine ⟨⟨rfl,⟨fun e=>?_,fun e=>?_⟩,fun x hx'=>?_⟩,fun x b hx' hb=>?_⟩
   ·exact a4 (ConcR.loc_of_ofEvent e)
   ·exact a5 (ConcR.loc_of_ofEvent e)
   ·simp only at hx'
    rw [a2] at hx'
    simp only [Option.some.injEq] at hx'
    subst hx'
    refine ⟨blk,a3,?_⟩
    rcases hx with ⟨o,ho⟩ | ⟨_,hb⟩ | ⟨hge,_⟩
    ·exact .inl (notShun (.inr ⟨_,ho,rfl⟩))
    ·exact .inl (notShun (.inl hb))
    ·exact .inr hge
   ·simp only at hx'
    rw [a2] at hx'
    simp only [Option.some.injEq] at hx'
    subst hx'
    rw [a3] at hb
    cases hb
    exact hblk
 have hpast:=s.past.app (fun op hop=>(hops op hop).1) (fun op hop=>(hops op hop).2) (Nat.le_refl _)
 refine ⟨_,_,_,hrun,fun w₀ sl₀=>⟨v,rfl,h3,hpast.clean,hpast.over,⟨fun x hx=>?_,rfl⟩,fun i x hx hi0=>?_⟩⟩
 ·obtain ⟨i,hi⟩:=List.mem_iff_getElem?.1 hx
  rw [List.getElem?_drop] at hi
  exact ⟨_,(s.old (1+i) x (by omega) (by simpa [crowd] using hi)).leaves⟩
 ·have hq:=s.old i x (by omega) hx
  refine ⟨q i,?_⟩
  have:(t ++ MemOp.ofEvents 0 g.frame.fn g.frame.place es).deaf i (t ++ MemOp.ofEvents 0 g.frame.fn g.frame.place es).size=Deaf t i:=Deaf_other t (g:=i) (g':=0) (by omega) _ g_of_ofEvents
  rw [this]
  exact hq.hears _
end
def ZyR (P:Program) (main:Bool) (R:Goroutine→Kn→Cells→Prop) (g:Goroutine) (B:Kn) (L:Cells):Prop:=
 main=true→g.status = .running∧∃(pay:Payload) (ty:TypeId) (C n:Nat) (val:Nat→Value) (cs:Array Value) (L₁:Cells) (gf:Nat→Goroutine),
  n<2147483648∧cs.size=n∧L.Perm ((C,.cells cs pay.ety (0,0)) :: L₁)∧(∀w,Sat B L w→stepG P true g w = .go (gf w.heap.size) { w with heap:=w.heap.push (wgBlock ty 0 0) } #[])∧
∀Wg,B.mem Wg=none→(∀p,p∈L→p.1≠Wg)→PhaseR P ty Wg C n val R .a5 0 (gf Wg) B L₁
theorem PhaseR.keep [Payload] {P:Program} {ty:TypeId} {Wg C n:Nat} {val:Nat→Value} {K:Goroutine→Kn→Cells→Prop} {p:PTag} {j:Nat} {g:Goroutine} {B:Kn} {L m:Cells} (h:PhaseR P ty Wg C n val K p j g B L) :
  (∀p,p∈m→B.mem p.1=some p.2)→PhaseR P ty Wg C n val (fun g B' L'=>(∀p,p∈m→B'.mem p.1=some p.2)∧K g B' L') p j g B L:=by
 induction h with
 | conv hle hs hb hl _ ih=>exact fun hm=>.conv hle hs hb hl (ih fun p hp=>hle _ _ (hm p hp))
 | own hr hst _ ih=>exact fun hm=>.own hr hst fun w s l=>ih w s l fun p hp=>(hst w s l).2.2.le _ _ (hm p hp)
 | disA hr hst _ ih=>exact fun hm=>.disA hr hst (ih hm)
 | add hr hj hst _ ih=>exact fun hm=>.add hr hj hst fun v hv=>ih v hv hm
 | enaA hr hst _ ih=>exact fun hm=>.enaA hr hst (ih hm)
 | go hr hst hw _ ih=>exact fun hm=>.go hr hst hw (ih hm)
 | disW hr hst _ ih=>exact fun hm=>.disW hr hst (ih hm)
 | ldb hr hst _ _ ih0 ihv=>exact fun hm=>.ldb hr hst (ih0 hm) fun v h1 h2 h3=>ihv v h1 h2 h3 hm
 | ld0 hr hst _ ih=>exact fun hm=>.ld0 hr hst (ih hm)
 | cas hr hst _ hst' _ ih1 ih2=>exact fun hm=>.cas hr hst (ih1 hm) hst' (ih2 hm)
 | sem hr hof hst hst' _ ih=>exact fun hm=>.sem hr hof hst hst' (ih hm)
 | ld2 hr hst _ ih=>exact fun hm=>.ld2 hr hst (ih hm)
 | enaW hr hst _ ih=>exact fun hm=>.enaW hr hst (ih hm)
 | acq hr hst hk=>exact fun hm=>.acq hr hst ⟨hm,hk⟩
inductive JoinI (P:Program) (main:Bool):(Goroutine→Kn→Cells→Prop)→Goroutine→Kn→Cells→Prop
 | base {R:Goroutine→Kn→Cells→Prop} {g:Goroutine} {B:Kn} {L:Cells} : ZyR P main R g B L→JoinI P main R g B L
 | lend {R:Goroutine→Kn→Cells→Prop} {l:Cells} {g:Goroutine} {B:Kn} {L:Cells} : (l.map (·.1)).Nodup→(∀p,p∈l→B.mem p.1=some p.2)→JoinI P main (Zz6 R l) g B L→JoinI P main R g (B.minus l) (l ++ L)
 | lock {R:Goroutine→Kn→Cells→Prop} {g:Goroutine} {B:Kn} {L:Cells} : (main=true→g.status = .running∧LockR P R 0 g B L)→JoinI P main R g B L
def Zqj (P:Program):JoinT:=⟨JoinI P,fun hn hl h=>.lend hn hl h⟩
theorem Zbc.joinB {P:Program} {Post:Value→World→Prop} {W:World} {R:Goroutine→Kn→Cells→Prop} {m:Cells} {g:Goroutine} {B:Kn} {L:Cells} (h:ZyR P true R g B L) (hm0 :∀p,p∈m→B.mem p.1=some p.2) (hR :∀g' B' L',(∀p,p∈m→B'.mem p.1=some p.2)→R g' B' L'→Zbc P Post W g' B' L'):Zbc P Post W g B L:=by
 classical
 obtain ⟨hr,pay,ty,C,n,val,cs,L₁,gf,hn,hcs,hp,hst,hph⟩:=h rfl
 refine ZgW hr fun gs w sl t q Shun s=>.inl ?_
 have hrun:=runT_crowd_go (P:=P) (sl:=sl) (i:=0) s.g0 (by simpa using hst w s.sat)
 have hlt:0<gs.size:=(Array.getElem?_eq_some_iff.1 s.g0).1
 have hm:=s.sat.perm hp
 have hCL:(C,Obj.cells cs pay.ety (0,0))∈L:=hp.mem_iff.2 (List.mem_cons_self ..)
 have hC:C<w.heap.size:=s.sat.ltL hCL
 have hBC:B.mem C=none:=s.sat.apart _ hCL
 have hL1 :∀p,p∈L₁→p∈L:=fun p hp'=>hp.mem_iff.2 (List.mem_cons_of_mem _ hp')
 have hnd:=List.nodup_cons.1 (by simpa using hm.nodup:(C :: L₁.map (·.1)).Nodup)
 have hne :∀p,p∈L₁→p.1≠C:=fun p hp' e=>hnd.1 (e ▸ List.mem_map_of_mem (f:=(·.1)) hp')
 have hBw:B.mem w.heap.size=none:=by
  cases hx:B.mem w.heap.size with
  | none=>rfl
  | some x=>exact absurd (s.sat.ltB hx) (Nat.lt_irrefl _)
 have notShun :∀{b},((B.mem b).isSome=true∨∃p,p∈L∧p.1=b)→∀l,ZaX l=some b→¬ Shun l:=fun {b} hb l hl hsh=>by
  obtain ⟨b',e1,_,e3,e4⟩:=s.shun l hsh
  rw [hl] at e1
  cases e1
  rcases hb with hb | ⟨p,hp,e⟩
  ·rw [e3] at hb;cases hb
  ·exact e4 p hp e
 have e0:MemOp.ofEvents 0 g.frame.fn g.frame.place (#[]:Array Event) = #[]:=by rw [ofEvents_eq];simp
 rw [e0] at hrun
 refine ⟨_,_,hrun,?_⟩
 rw [Array.append_empty]
 let ow:Nat→Ow:=fun b=>if b=C then .pay else if b=w.heap.size then .grp else if∃p,p∈L₁∧p.1=b then .own 0 else .free
 have owC:ow C = .pay:=by simp [ow]
 have owW:ow w.heap.size = .grp:=by simp only [ow];rw [if_neg (by omega),if_pos trivial]
 have owL :∀p,p∈L₁→ow p.1 = .own 0:=fun p hp'=>by
  simp only [ow]
  rw [if_neg (hne p hp'),if_neg (by have:=s.sat.ltL (hL1 p hp');omega),if_pos ⟨p,hp',rfl⟩]
 have owF :∀b,b≠C→b≠w.heap.size→(∀p,p∈L₁→p.1≠b)→ow b = .free:=fun b h1 h2 h3=>by
  simp only [ow]
  rw [if_neg h1,if_neg h2,if_neg (fun ⟨p,hp',e⟩=>h3 p hp' e)]
 have owI :∀b x,ow b = .own x→x=0∧∃p,p∈L₁∧p.1=b:=fun b x hb=>by
  simp only [ow] at hb
  split at hb
  ·cases hb
  ·split at hb
   ·cases hb
   ·split at hb
    ·rename_i h3;cases hb;exact ⟨rfl,h3⟩
    ·cases hb
 let o:Oth:=⟨fun _=>⟨1,0,0⟩,fun _=>.leaf,fun _=>⟨fun _=>none⟩,fun _=>[],q⟩
 have kb :∀x b,KB gs.size 0 o B x b→x=0∧(B.mem b).isSome=true:=fun x b hb=>by
  rcases hb with hb | ⟨k,hk,_⟩
  ·exact hb
  ·exact absurd hk (Nat.not_lt_zero _)
 have htl:=TL.start (C:=C) (ow:=ow) (KB:=KB gs.size 0 o B) s.past s.gs hlt (notShun (.inr ⟨_,hCL,rfl⟩)) (fun b x hb=>by
  obtain ⟨h1,p,hp',e⟩:=owI b x hb
  exact ⟨h1,notShun (.inr ⟨p,hL1 p hp',e⟩)⟩) (fun x b hb=>⟨(kb x b hb).1,notShun (.inl (kb x b hb).2)⟩)
 have hsat':Sat B L₁ { w with heap:=w.heap.push (wgBlock ty 0 0) }:=by
  have h1:=s.sat.new (wgBlock ty 0 0)
  have h2:((w.heap.size,wgBlock ty 0 0) :: L).Perm (L₁ ++ [(w.heap.size,wgBlock ty 0 0),(C,.cells cs pay.ety (0,0))]):=by
   refine ((hp.cons _).trans ?_)
   exact (List.perm_append_comm (l₁:=[(w.heap.size,wgBlock ty 0 0),(C,.cells cs pay.ety (0,0))]) (l₂:=L₁))
  exact (h1.perm h2).left0
 have hkw:KW W { w with heap:=w.heap.push (wgBlock ty 0 0) }:=by
  have hok:=Ok.new s.sat (wgBlock ty 0 0) rfl
  exact s.kw.mv (Mv.of_ok (S:=fun b=>∃p,p∈L∧p.1=b) hok fun p hp=>⟨p,hp,rfl⟩) (fun b ⟨p,hp,e⟩=>e ▸ s.lowL p hp)
 have hsz:({ w with heap:=w.heap.push (wgBlock ty 0 0) } : World).heap.size=w.heap.size+1:=by simp
 have hPI:PInv P ty w.heap.size C n gs.size t.size val W Shun 0 ((gs.map (woken P g (gf w.heap.size) { w with heap:=w.heap.push (wgBlock ty 0 0) })).setIfInBounds 0 (gf w.heap.size)) { w with heap:=w.heap.push (wgBlock ty 0 0) } t o ow (gf w.heap.size) B L₁ 0:=by
  refine ⟨hlt,by simp,get_map_set_same _ _ _ hlt,fun i x h0 hi hx=>?_,fun i hi=>absurd hi (Nat.not_lt_zero _),hsat',owL,fun i hi=>absurd hi (Nat.not_lt_zero _),fun p hp'=>s.lowL p (hL1 p hp'),fun i hi=>absurd hi (Nat.not_lt_zero _),s.lowL _ hCL,s.kw.size,by rw [hsz];exact htl,
   ⟨fun x b hb=>?_,fun x b hb=>?_,owC,owW,by rw [hsz];omega,by rw [hsz];omega⟩,s.past.hears,fun i hi=>absurd hi (Nat.not_lt_zero _),fun i hi=>absurd hi (Nat.not_lt_zero _),fun i hi=>absurd hi (Nat.not_lt_zero _),⟨cs,?_,hcs⟩,fun l hl=>?_,hkw⟩
  ·rw [get_map_set _ _ _ _ (by omega)] at hx
   obtain ⟨z,hz,rfl⟩:=Option.map_eq_some_iff.1 hx
   have hqz:=s.old i z h0 hz
   rw [woken_quitsD hqz]
   exact hqz
  ·obtain ⟨_,hb'⟩:=kb x b hb
   refine .inl (owF b (fun e=>by rw [e,hBC] at hb';cases hb') (fun e=>by rw [e,hBw] at hb';cases hb') (fun p hp' e=>?_))
   have:=s.sat.apart p (hL1 p hp')
   rw [e] at this
   rw [this] at hb';cases hb'
  ·have:=Znh s.sat (kb x b hb).2
   rw [hsz];omega
  ·show (w.heap.push (wgBlock ty 0 0))[C]? = _
   rw [Array.getElem?_push,if_neg (by omega)];exact s.sat.own _ hCL
  ·obtain ⟨b,h1,h2,h3,h4⟩:=s.shun l hl
   exact ⟨b,h1,by rw [hsz];omega,owF b (fun e=>h4 _ hCL e.symm) (by omega) (fun p hp'=>h4 p (hL1 p hp')),h3⟩
 have hwg:WgAt ty w.heap.size { w with heap:=w.heap.push (wgBlock ty 0 0) } 0 0:=by
  show (w.heap.push (wgBlock ty 0 0))[w.heap.size]? = _
  simp
 refine phase hn (fun g B L h=>hR g B L h.1 h.2) ((hph w.heap.size hBw (fun p hp' e=>by have:=s.sat.ltL hp';omega)).keep hm0) (by show 0+0≤n;omega) _ _ _ _ o ⟨ow,0,0,hPI,hwg,?_⟩
 have:=ConcN.Mode.opn (j:=0) (D:=cap o.D) (tag:=.sp 0 5) trivial (fun i hi=>absurd hi (Nat.not_lt_zero _)) (fun vs e=>by cases e)
 show ConcN.Mode 0 (cap o.D) (.sp 0 5) 0 0
 simpa [Vc,sumTo,pend] using this
theorem Zbc.joinI {P:Program} {Post:Value→World→Prop} {W:World} {R:Goroutine→Kn→Cells→Prop} {g:Goroutine} {B:Kn} {L:Cells} (h:JoinI P true R g B L) :∀m:Cells,(∀p,p∈m→B.mem p.1=some p.2)→(∀g' B' L',(∀p,p∈m→B'.mem p.1=some p.2)→R g' B' L'→Zbc P Post W g' B' L')→Zbc P Post W g B L:=by
 induction h with
 | base h=>exact fun m hm0 hR=>Zbc.joinB h hm0 hR
 | lock h=>exact fun m hm0 hR=>Zbc.lock (h rfl).2 hm0 hR
 | @lend R l g B L hn hl _ ih=>
  intro m hm0 hR gs w sl t q Shun s
  have hlow :∀p,p∈l→W.heap.size≤p.1:=fun p hp=>s.lowL p (List.mem_append.2 (.inl hp))
  refine ih (l ++ m) (fun p hp=>?_) (fun g' B' L' hm' hr=>?_) gs w sl t q Shun ⟨s.g0,s.old,s.past,s.gs,Zj8 hl s.sat,fun x hx=>?_,s.kw,fun p hp=>s.lowL p (List.mem_append.2 (.inr hp))⟩
  ·rcases List.mem_append.1 hp with hp | hp
   ·exact hl p hp
   ·exact (Kn.minus_mem.1 (hm0 p hp)).1
  ·have hlB' :∀p,p∈l→B'.mem p.1=some p.2:=fun p hp=>hm' p (List.mem_append.2 (.inl hp))
   have key:=hR g' (B'.minus l) (l ++ L') (fun p hp=>Kn.minus_mem.2 ⟨hm' p (List.mem_append.2 (.inr hp)),(Kn.minus_mem.1 (hm0 p hp)).2⟩) (hr hlB')
   intro gs w sl t q Shun s'
   refine key gs w sl t q Shun ⟨s'.g0,s'.old,s'.past,s'.gs,ZjP hlB' hn s'.sat,fun x hx=>?_,s'.kw,fun p hp=>?_⟩
   ·obtain ⟨b,h1,h2,h3,h4⟩:=s'.shun x hx
    refine ⟨b,h1,h2,?_,fun p hp e=>?_⟩
    ·simp only [Kn.minus,h3];exact ite_self _
    ·rcases List.mem_append.1 hp with hp | hp
     ·have:=hlB' p hp
      rw [e,h3] at this;cases this
     ·exact h4 p hp e
   ·rcases List.mem_append.1 hp with hp | hp
    ·exact hlow p hp
    ·exact s'.lowL p hp
  ·obtain ⟨b,h1,h2,h3,h4⟩:=s.shun x hx
   have hb:inL l b=false:=Ze0.2 fun p hp=>h4 p (List.mem_append.2 (.inl hp))
   refine ⟨b,h1,h2,?_,fun p hp=>h4 p (List.mem_append.2 (.inr hp))⟩
   cases hm:B.mem b with
   | none=>rfl
   | some o=>rw [Kn.minus_mem.2 ⟨hm,hb⟩] at h3;cases h3
def Zsq (P:Program) (Post:Value→World→Prop) (W:World):Lg ⟨P,Zqj P⟩ where
 main:=true
 R:=Zbc P Post W
 conv:=fun hle hs hb hl h=>Zbc.conv hle hs hb hl h
 step:=fun hg h=>Zbc.step (by rw [hg];rfl) h
 join:=fun h=>Zbc.joinI h [] (fun _ hp=>by cases hp) fun _ _ _ _ h=>h
end Go.BL
