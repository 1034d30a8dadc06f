/-
  THE WALK'S LOGIC: owned cells and known cells, goroutines started and awaited, calls, loops, data, and plain laws on lists: no program in sight.
-/
import Derived.Test.YtikanaeckjcelaaGreatDoorB1
set_option linter.unusedVariables false
set_option linter.unusedSimpArgs false
set_option linter.unusedSectionVars false
namespace Go.BL
open Go
def ZmL (x:DHost) (id:Int) (u:Str):Nat:=if (Zac x.queue id u).2.2=false then 1 else ZfS x (ZaI (inF u inbox) x.folders).toNat 0 (Zac x.queue id u).2.1
def ZlA (x:DHost) (id:Int) (u:Str):DHost:=if (Zac x.queue id u).2.2=false then x else if ZmL x id u=4 then (Zam x (ZaI (inF u inbox) x.folders).toNat 0 (Zac x.queue id u).2.1).1 else (Zam x (ZaI (inF u inbox) x.folders).toNat 0 (Zac x.queue id u).2.1).1.withQueue (Zac x.queue id u).1
theorem Zvz (x:DHost) (id:Int) (u:Str):ZmL x id u<5:=by
 unfold ZmL
 split
 ·omega
 ·exact ZuE _ _ _ _
theorem Zc3 {q:DQueue} {id:Int} {u:Str} (h:Zab q=true):Zac q id u=Zba q id u:=by rw [Zac,if_pos h]
theorem ZwW {x:DHost} {id:Int} {u:Str} : ((if true=true∧Zx x=true then (ZlA x id u,(ZmL x id u:Int)) else (ZaT,5)):DHost × Int)=Zy x id u:=by
 unfold Zy
 cases h:Zx x with
 | false=>rw [if_neg (fun k=>absurd k.2 (by decide)),if_pos rfl]
 | true=>
  rw [if_pos ⟨rfl,rfl⟩,if_neg (by decide)]
  have hq:=Zc3 (id:=id) (u:=u) (Zbt h)
  rw [← hq]
  by_cases h1:(Zac x.queue id u).2.2=false
  ·rw [if_pos h1,ZlA,if_pos h1,ZmL,if_pos h1];rfl
  ·have e:=ZiS x (ZaI (inF u inbox) x.folders).toNat 0 (Zac x.queue id u).2.1
   have en:ZmL x id u=ZfS x (ZaI (inF u inbox) x.folders).toNat 0 (Zac x.queue id u).2.1:=by rw [ZmL,if_neg h1]
   rw [if_neg h1,ZlA,if_neg h1,en]
   by_cases h2:ZfS x (ZaI (inF u inbox) x.folders).toNat 0 (Zac x.queue id u).2.1=4
   ·rw [if_pos h2,if_neg (by omega),e]
   ·rw [if_neg h2,if_pos (by omega),e]
theorem Zls {x:DHost} {id:Int} {u:Str} (h:(Zac x.queue id u).2.2=false):ZmL x id u=1∧ZlA x id u=x:=⟨by rw [ZmL,if_pos h],by rw [ZlA,if_pos h]⟩
theorem ZfI {x:DHost} {id:Int} {u:Str} {k:Nat} (h:(Zac x.queue id u).2.2=true) (hk:ZaI (inF u inbox) x.folders=(k:Int)) (h2:ZfS x k 0 (Zac x.queue id u).2.1≠4):ZmL x id u=ZfS x k 0 (Zac x.queue id u).2.1∧ZlA x id u=(Zam x k 0 (Zac x.queue id u).2.1).1.withQueue (Zac x.queue id u).1:=by
 have e:ZmL x id u=ZfS x k 0 (Zac x.queue id u).2.1:=by rw [ZmL,if_neg (by rw [h];decide),hk];rfl
 exact ⟨e,by rw [ZlA,if_neg (by rw [h];decide),if_neg (by rw [e];exact h2),hk];rfl⟩
theorem Zlt {x:DHost} {id:Int} {u:Str} {k:Nat} (h:(Zac x.queue id u).2.2=true) (hk:ZaI (inF u inbox) x.folders=(k:Int)) (h2:ZfS x k 0 (Zac x.queue id u).2.1=4):ZmL x id u=ZfS x k 0 (Zac x.queue id u).2.1∧ZlA x id u=(Zam x k 0 (Zac x.queue id u).2.1).1:=by
 have e:ZmL x id u=ZfS x k 0 (Zac x.queue id u).2.1:=by rw [ZmL,if_neg (by rw [h];decide),hk];rfl
 exact ⟨e,by rw [ZlA,if_neg (by rw [h];decide),if_pos (by rw [e];exact h2),hk];rfl⟩
theorem ZgP (x:DHost) (k:Nat) (fl:Int) (t:Str):ZfS x k fl t=0∨ZfS x k fl t=3∨ZfS x k fl t=4:=by
 unfold ZfS
 split
 ·exact .inl rfl
 ·split
  ·exact .inr (.inl rfl)
  ·split
   ·exact .inl rfl
   ·exact .inr (.inr rfl)
theorem Znr {x:DHost} {k:Nat} {fl:Int} {t:Str} (h:(Zam x k fl t).2=3) :∃f,x.folders[k]? = some f∧Zcq x.users f.owner<(ZaZ x.folders f.owner:Int)+t.length∧(Zam x k fl t).1=x:=by
 cases hf:x.folders[k]? with
 | none=>simp only [Zam,hf] at h;exact absurd h (show ¬ ((0:Int)=3) by decide)
 | some f=>
  by_cases hq:Zcq x.users f.owner<(ZaZ x.folders f.owner:Int)+t.length
  ·exact ⟨f,rfl,hq,by rw [ZeS hf hq]⟩
  ·cases ha:(ZeI f.box fl t).2 with
   | true=>rw [ZfE hf hq ha] at h;exact absurd h (show ¬ ((0:Int)=3) by decide)
   | false=>rw [Zhj hf hq ha] at h;exact absurd h (show ¬ ((4:Int)=3) by decide)
theorem Zkz {x:DHost} {id:Int} {u:Str} (h:(Zy x id u).2=4∨(Zy x id u).2=1):(Zy x id u).1=x:=by
 unfold Zy at h ⊢
 by_cases h1:Zx x=false
 ·rw [if_pos h1] at h;rcases h with h | h
  ·exact absurd h (show ¬ ((5:Int)=4) by decide)
  ·exact absurd h (show ¬ ((5:Int)=1) by decide)
 ·rw [if_neg h1] at h ⊢
  by_cases h2:(Zba x.queue id u).2.2=false
  ·rw [if_pos h2]
  ·rw [if_neg h2] at h ⊢
   have hv:=ZgP x (ZaI (inF u inbox) x.folders).toNat 0 (Zba x.queue id u).2.1
   have he:=ZiS x (ZaI (inF u inbox) x.folders).toNat 0 (Zba x.queue id u).2.1
   by_cases h3:(Zam x (ZaI (inF u inbox) x.folders).toNat 0 (Zba x.queue id u).2.1).2≠4
   ·rw [if_pos h3] at h
    rcases h with h | h
    ·exact absurd h h3
    ·have h4:(Zam x (ZaI (inF u inbox) x.folders).toNat 0 (Zba x.queue id u).2.1).2=1:=h
     omega
   ·rw [if_neg h3]
    have h4:=Decidable.not_not.1 h3
    unfold Zam at h4 ⊢
    cases hf:x.folders[(ZaI (inF u inbox) x.folders).toNat]? with
    | none=>rfl
    | some f=>
     simp only [hf] at h4 ⊢
     split
     ·rfl
     ·rename_i hq
      rw [if_neg hq] at h4
      split
      ·rename_i ha;rw [if_pos ha] at h4;exact absurd h4 (show ¬ ((0:Int)=4) by decide)
      ·rfl
theorem ZgY {x:DHost} {id:Int} {u:Str} (h:(Zy x id u).2=0∨(Zy x id u).2=3):Zx x=true∧(Zba x.queue id u).2.2=true∧(Zy x id u).1.queue=(Zba x.queue id u).1:=by
 unfold Zy at h ⊢
 by_cases h1:Zx x=false
 ·rw [if_pos h1] at h;rcases h with h | h
  ·exact absurd h (show ¬ ((5:Int)=0) by decide)
  ·exact absurd h (show ¬ ((5:Int)=3) by decide)
 ·rw [if_neg h1] at h ⊢
  by_cases h2:(Zba x.queue id u).2.2=false
  ·rw [if_pos h2] at h;rcases h with h | h
   ·exact absurd h (show ¬ ((1:Int)=0) by decide)
   ·exact absurd h (show ¬ ((1:Int)=3) by decide)
  ·rw [if_neg h2] at h ⊢
   refine ⟨by simpa using h1,by simpa using h2,?_⟩
   by_cases h3:(Zam x (ZaI (inF u inbox) x.folders).toNat 0 (Zba x.queue id u).2.1).2≠4
   ·rw [if_pos h3];rfl
   ·rw [if_neg h3] at h;omega
theorem Zrn {y:DHost} {id:Int} {u:Str} (hok:Zx y=true) (h:(Zba y.queue id u).2.2=false):(Zy y id u).2=1:=by
 rw [Zy,if_neg (fun k=>by rw [hok] at k;cases k),if_pos h]
theorem ZkA {x:DHost} {id:Int} {u:Str} (h:(Zy x id u).2=0∨(Zy x id u).2=3):(Zy (Zy x id u).1 id u).2=1:=by
 obtain ⟨hok,ht,hq⟩:=ZgY h
 have ho:Zx (Zy x id u).1=true:=(Zjo hok).resolve_left (by omega)
 refine Zrn ho ?_
 have h1:=Zc3 (id:=id) (u:=u) (Zbt hok)
 have h2:=Zc3 (id:=id) (u:=u) (Zbt ho)
 rw [← h1] at ht hq
 have h3:=ZoX ht
 rw [← hq] at h3
 rw [← h2,h3]
end Go.BL
namespace Go.BL
open Go
theorem ZpJ {x:DHost} {id:Int} {u:Str} (h:(Zy x id u).2=3):Zx x=true∧(Za4 x.users u).2=true∧(Za4 x.users u).1.quota<(ZaZ x.folders u:Int)+(Zba x.queue id u).2.1.length∧(Zba x.queue id u).2.1.length≤20∧(Zy x id u).1.folders=x.folders∧0≤Zds x.users u:=by
 obtain ⟨hok,ht,_⟩:=ZgY (.inr h)
 have hk:=ZdC hok ht
 obtain ⟨f,hf⟩:=Zag (xs:=x.folders) (i:=(ZaI (inF u inbox) x.folders).toNat) (by have:=ZcY (inF u inbox) x.folders;omega)
 have hp:=ZoA hk hf
 simp only [inF,Bool.and_eq_true,decide_eq_true_eq] at hp
 unfold Zy at h ⊢
 rw [if_neg (fun k=>by rw [hok] at k;cases k),if_neg (fun k=>by rw [ht] at k;cases k)] at h ⊢
 by_cases h4:(Zam x (ZaI (inF u inbox) x.folders).toNat 0 (Zba x.queue id u).2.1).2≠4
 ·rw [if_pos h4] at h ⊢
  obtain ⟨f',hf',hq,he⟩:=Znr h
  rw [hf] at hf';cases hf'
  obtain ⟨w,hw,hwn⟩:=ZgS (ZaK hok hf)
  rw [hp.1] at hwn hq
  have hi:0≤Zds x.users u:=Za6.2 ⟨w,hw,hwn⟩
  subst hwn
  rw [Zhh (ZbZ hok) hw] at hq
  exact ⟨hok,by rw [Zdl (ZbZ hok) hw],by rw [Zdl (ZbZ hok) hw];exact hq,Zec hok,by rw [he];rfl,hi⟩
 ·rw [if_neg h4] at h;omega
theorem Zro {x:DHost} {id:Int} {u:Str} (h:(Zy x id u).2=4) :∃f,Zaw x u inbox=(f,true)∧Zbk f.box=true∧(f.mail.length=10∨99<f.next):=by
 have hok:Zx x=true:=by
  cases hx:Zx x with
  | true=>rfl
  | false=>rw [Zy,if_pos hx] at h;exact absurd h (show ¬ ((5:Int)=4) by decide)
 unfold Zy at h
 rw [if_neg (fun k=>by rw [hok] at k;cases k)] at h
 by_cases ht:(Zba x.queue id u).2.2=false
 ·rw [if_pos ht] at h;exact absurd h (show ¬ ((1:Int)=4) by decide)
 ·rw [if_neg ht] at h
  have hk:=ZdC hok (by simpa using ht)
  obtain ⟨f,hf⟩:=Zag (xs:=x.folders) (i:=(ZaI (inF u inbox) x.folders).toNat) (by have:=ZcY (inF u inbox) x.folders;omega)
  have hp:=ZoA hk hf
  simp only [inF,Bool.and_eq_true,decide_eq_true_eq] at hp
  have hb:=Zby (ZaK hok hf)
  refine ⟨f,by rw [← hp.1,← hp.2];exact Zj1 hok (List.mem_of_getElem? hf),hb,?_⟩
  by_cases hq:Zcq x.users f.owner<(ZaZ x.folders f.owner:Int)+(Zba x.queue id u).2.1.length
  ·rw [ZeS hf hq,if_pos (by show (3:Int)≠4;decide)] at h;exact absurd h (show ¬ ((3:Int)=4) by decide)
  ·have hl:f.mail.length≤10:=(Zca hb).2.2
   cases ha:(ZeI f.box 0 (Zba x.queue id u).2.1).2 with
   | true=>rw [ZfE hf hq ha,if_pos (by show (0:Int)≠4;decide)] at h;exact absurd h (show ¬ ((0:Int)=4) by decide)
   | false=>
    unfold ZeI at ha
    split at ha
    ·rename_i hh
     have hh':10≤f.mail.length∨99<f.next:=hh
     rcases hh' with hh | hh
     ·exact .inl (by omega)
     ·exact .inr hh
    ·cases ha
theorem ZoB {x:DHost} {id:Int} {u:Str} (h:x.domain.length≤2000000):(Zy x id u).1.domain.length≤2000000:=by
 unfold Zy
 split
 ·simp [ZaT]
 ·split
  ·exact h
  ·split
   ·show (Zam x _ 0 _).1.domain.length≤_
    rw [(ZR (x:=x)).2.2.1];exact h
   ·rw [(ZR (x:=x)).2.2.1];exact h
end Go.BL
namespace Go.BL
open Go
end Go.BL
namespace Go.BL
section
variable {P:PJ} {n:Nat} {ops:Array Oper} {i:Nat} {K:Zao} {S:Env} {D:List Deferred} {B:Kn} {L:List Cells}
variable {dst:Option Tmp} {ty:TypeId} {pos:String} {after:Array Edge} {g:Option (Nat × Bool)}
end
end Go.BL
