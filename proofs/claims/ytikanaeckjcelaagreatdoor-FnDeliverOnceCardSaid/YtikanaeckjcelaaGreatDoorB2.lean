/-
  THE WALK'S LOGIC: owned cells and known cells, goroutines started and awaited, calls, loops, data, and plain laws on lists: no program in sight.
-/
import Derived.Test.YtikanaeckjcelaaGreatDoorB1
set_option linter.unusedVariables false
set_option linter.unusedSimpArgs false
set_option linter.unusedSectionVars false
namespace Go.BL
open Go
theorem Zqv {x y:DHost} {k:Nat} {f:DFolder} {b:DBox} (hok:Zz x=true) (hoy:Zz y=true) (hf:x.folders[k]? = some f) (hy:y.folders=x.folders.set k (f.withBox b)) :
  ZN x f.owner f.name=(f,true)∧ZN y f.owner f.name=(f.withBox b,true)∧∀g,g∈x.folders→(g.owner≠f.owner∨g.name≠f.name)→ZN y g.owner g.name=(g,true):=by
 refine ⟨Zed hok (List.mem_of_getElem? hf),?_,fun g hg hn=>?_⟩
 ·exact Zed hoy (f:=f.withBox b) (by rw [hy];exact List.mem_of_getElem? (Zun hf))
 ·refine Zed hoy ?_
  obtain ⟨i,hi⟩:=List.mem_iff_getElem?.1 hg
  have hik:i≠k:=fun e=>by
   subst e;rw [hf] at hi;cases hi
   rcases hn with hn | hn <;> exact hn rfl
  rw [hy]
  refine List.mem_of_getElem? (i:=i) ?_
  rw [List.getElem?_set_ne (Ne.symm hik)];exact hi
theorem Zpx {x:DHost} {id:Int} {u:Str} (h:(ZA x id u).2=0) :
∃f,Zz (ZA x id u).1=true∧(Zbj x.queue id u).2.2=true∧Zbg f.box=true∧(Zbj x.queue id u).2.1.length≤20∧ZN x u inbox=(f,true)∧ZN (ZA x id u).1 u inbox=(f.withBox (ZdQ f.box 0 (Zbj x.queue id u).2.1).1,true)∧(ZdQ f.box 0 (Zbj x.queue id u).2.1).2=true∧(∀g,g∈x.folders→(g.owner≠u∨g.name≠inbox)→ZN (ZA x id u).1 g.owner g.name=(g,true)):=by
 have hv:=Zfm (.inl h)
 obtain ⟨hok,ht,_⟩:=hv
 have ho:Zz (ZA x id u).1=true:=(Zgj hok).resolve_left (by omega)
 have hk:=Zez hok ht
 obtain ⟨f,hf⟩:=Zah (xs:=x.folders) (i:=(ZaK (inF u inbox) x.folders).toNat) (by have:=Zda (inF u inbox) x.folders;omega)
 have hp:=Zs4 hk hf
 simp only [inF,Bool.and_eq_true,decide_eq_true_eq] at hp
 have hb:=Zby (ZaR hok hf)
 have key:(ZdQ f.box 0 (Zbj x.queue id u).2.1).2=true∧(ZA x id u).1.folders=x.folders.set (ZaK (inF u inbox) x.folders).toNat (f.withBox (ZdQ f.box 0 (Zbj x.queue id u).2.1).1):=by
  clear ho
  unfold ZA at h ⊢
  rw [if_neg (fun k=>by rw [hok] at k;cases k),if_neg (fun k=>by rw [ht] at k;cases k)] at h ⊢
  by_cases hq:ZcT x.users f.owner<(Zba x.folders f.owner:Int)+(Zbj x.queue id u).2.1.length
  ·rw [Zgc hf hq,if_pos (by show (3:Int)≠4;decide)] at h;exact absurd h (show ¬ ((3:Int)=0) by decide)
  ·cases ha:(ZdQ f.box 0 (Zbj x.queue id u).2.1).2 with
   | true=>rw [Zhc hf hq ha,if_pos (by show (0:Int)≠4;decide)];exact ⟨rfl,rfl⟩
   | false=>rw [Zhb hf hq ha,if_neg (fun k=>k rfl)] at h;exact absurd h (show ¬ ((4:Int)=0) by decide)
 obtain ⟨a,b,d⟩:=Zqv hok ho hf key.2
 rw [hp.1,hp.2] at a b d
 exact ⟨f,ho,ht,hb,Zd5 hok,a,b,key.1,d⟩
theorem Zk5 {x:DHost} {id:Int} {u:Str} (h:x.domain.length≤2000000):(ZA x id u).1.domain.length≤2000000:=by
 unfold ZA
 split
 ·simp [ZaT]
 ·split
  ·exact h
  ·split
   ·show (Zaz x _ 0 _).1.domain.length≤_
    rw [(ZS (x:=x)).2.2.1];exact h
   ·rw [(ZS (x:=x)).2.2.1];exact h
end Go.BL
namespace Go.BL
open Go
end Go.BL
namespace Go.BL
section
variable {P:PJ} {n:Nat} {ops:Array Oper} {i:Nat} {K:Zao} {S:Env} {D:List Deferred} {B:Kn} {L:List Cells}
variable {dst:Option Tmp} {ty:TypeId} {pos:String} {after:Array Edge} {g:Option (Nat × Bool)}
end
end Go.BL
