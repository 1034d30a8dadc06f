/-
  THE WALK'S LOGIC: owned cells and known cells, goroutines started and awaited, calls, loops, data, and plain laws on lists: no program in sight.
-/
import Derived.Test.YtonfijmgahdgeaaGreatDoorB1
set_option linter.unusedVariables false
set_option linter.unusedSimpArgs false
set_option linter.unusedSectionVars false
namespace Go.BL
open Go
mutual
def DKey.nodes:DKey→Nat
 | .mk _ _ _ _ ks=>1+DKey.nodesL ks
def DKey.nodesL:List DKey→Nat
 | []=>0
 | k :: ks=>k.nodes+DKey.nodesL ks
end
mutual
def DKey.deq:(a b:DKey)→Decidable (a=b)
 | .mk a1 a2 a3 a4 a5,.mk b1 b2 b3 b4 b5=>
  match DKey.deqL a5 b5 with
  | .isTrue h5=>if h:a1=b1∧a2=b2∧a3=b3∧a4=b4 then .isTrue (by obtain ⟨rfl,rfl,rfl,rfl⟩:=h;rw [h5]) else .isFalse (fun e=>by cases e;exact h ⟨rfl,rfl,rfl,rfl⟩)
  | .isFalse h5=>.isFalse (fun e=>by cases e;exact h5 rfl)
def DKey.deqL:(a b:List DKey)→Decidable (a=b)
 | [],[]=>.isTrue rfl
 | [],_ :: _=>.isFalse (fun e=>by cases e)
 | _ :: _,[]=>.isFalse (fun e=>by cases e)
 | a :: as,b :: bs=>
  match DKey.deq a b,DKey.deqL as bs with
  | .isTrue h1,.isTrue h2=>.isTrue (by rw [h1,h2])
  | .isFalse h1,_=>.isFalse (fun e=>by cases e;exact h1 rfl)
  | _,.isFalse h2=>.isFalse (fun e=>by cases e;exact h2 rfl)
end
instance:DecidableEq DKey:=DKey.deq
def ZbB (n:Int):Bool:=decide (n=1) || decide (n=2) || decide (n=4) || decide (n=8) || decide (n=16)
def DKey.bare (k:DKey):Bool:=(decide (k.kind=1) || decide (k.flag=0)) && (decide (k.kind=2) || decide (k.text=[])) && (decide (k.kind=3) || decide (k.kind=4) || decide (k.set.length=0))
def DKey.nodeOk (k:DKey):Bool:=k.bare &&
 (if k.kind=0 then decide (k.keys.length=0) else if k.kind=1 then ZbB k.flag && decide (k.keys.length=0) else if k.kind=2 then Zaj k.text && decide (k.keys.length=0)
  else if k.kind=3∨k.kind=4 then Zdq k.set && decide (k.keys.length=0) else if k.kind=5 then decide (k.keys.length=1) else if k.kind=6∨k.kind=7 then decide (k.keys.length=2) else false)
mutual
def DKey.allOk:DKey→Bool
 | .mk a b c d ks=>DKey.allOkL ks && DKey.nodeOk (.mk a b c d ks)
def DKey.allOkL:List DKey→Bool
 | []=>true
 | k :: ks=>k.allOk && DKey.allOkL ks
end
def ZdE (k:DKey):Bool:=k.allOk && decide (k.nodes≤9)
theorem Zow (k:DKey):k.nodes=1+DKey.nodesL k.keys:=by cases k;rw [DKey.nodes];rfl
theorem ZeE (k:DKey):k.allOk=(DKey.allOkL k.keys && k.nodeOk):=by cases k;rw [DKey.allOk];rfl
theorem Zd8 :∀(ks:List DKey),DKey.nodesL ks=(ks.map DKey.nodes).sum
 | []=>by rw [DKey.nodesL];rfl
 | k :: ks=>by rw [DKey.nodesL,Zd8 ks];rfl
theorem Zfq :∀(ks:List DKey),DKey.allOkL ks=ks.all DKey.allOk
 | []=>by rw [DKey.allOkL];rfl
 | k :: ks=>by rw [DKey.allOkL,Zfq ks];rfl
theorem Zdr {k:DKey} (h:k.nodeOk=true):(k.kind<5→k.keys=[])∧(k.kind=5→k.keys.length=1)∧(5<k.kind→k.keys.length=2∧k.kind≤7)∧0≤k.kind∧k.kind≤7:=by
 simp only [DKey.nodeOk,Bool.and_eq_true] at h
 obtain ⟨_,h⟩:=h
 split at h
 ·have:=of_decide_eq_true h;exact ⟨fun _=>List.eq_nil_of_length_eq_zero this,by omega,by omega,by omega,by omega⟩
 ·split at h
  ·simp only [Bool.and_eq_true,decide_eq_true_eq] at h;exact ⟨fun _=>List.eq_nil_of_length_eq_zero h.2,by omega,by omega,by omega,by omega⟩
  ·split at h
   ·simp only [Bool.and_eq_true,decide_eq_true_eq] at h;exact ⟨fun _=>List.eq_nil_of_length_eq_zero h.2,by omega,by omega,by omega,by omega⟩
   ·split at h
    ·simp only [Bool.and_eq_true,decide_eq_true_eq] at h;exact ⟨fun _=>List.eq_nil_of_length_eq_zero h.2,by omega,by omega,by omega,by omega⟩
    ·split at h
     ·have:=of_decide_eq_true h;exact ⟨by omega,fun _=>this,by omega,by omega,by omega⟩
     ·split at h
      ·have:=of_decide_eq_true h;exact ⟨by omega,by omega,fun _=>⟨this,by omega⟩,by omega,by omega⟩
      ·cases h
mutual
def DKey.bld:DKey→Int→Bool × Int
 | .mk a b c d ks,r=>if r - 1<0 then (false,r - 1) else if DKey.nodeOk (.mk a b c d ks)=true then DKey.bldL ks (r - 1) else (false,r - 1)
def DKey.bldL:List DKey→Int→Bool × Int
 | [],r=>(true,r)
 | k :: ks,r=>if (k.bld r).1=true then DKey.bldL ks (k.bld r).2 else (false,(k.bld r).2)
end
theorem Ztm (k:DKey) (r:Int):k.bld r=if r - 1<0 then (false,r - 1) else if k.nodeOk=true then DKey.bldL k.keys (r - 1) else (false,r - 1):=by cases k;rw [DKey.bld];rfl
theorem ZkI (r:Int):DKey.bldL [] r=(true,r):=by rw [DKey.bldL]
theorem Zmq (k:DKey) (ks:List DKey) (r:Int):DKey.bldL (k :: ks) r=if (k.bld r).1=true then DKey.bldL ks (k.bld r).2 else (false,(k.bld r).2):=by rw [DKey.bldL]
mutual
theorem ZkH :∀(k:DKey) (r:Int),0≤r→(k.bld r).1=(k.allOk && decide ((k.nodes:Int)≤r))∧((k.bld r).1=true→(k.bld r).2=r - k.nodes)∧-1≤(k.bld r).2∧(k.bld r).2≤r
 | .mk a b c d ks,r,h0=>by
  rw [Ztm,Zow,ZeE]
  have ih:=Zmp ks
  have ek:(DKey.mk a b c d ks).keys=ks:=rfl
  rw [ek]
  split
  ·have:decide (((1+DKey.nodesL ks:Nat):Int)≤r)=false:=by simp;omega
   rw [this,Bool.and_false]
   exact ⟨rfl,fun h=>(by cases h),by simp only [];omega,by simp only [];omega⟩
  ·rename_i h1
   split
   ·rename_i h2
    obtain ⟨i1,i2,i3,i4⟩:=ih (r - 1) (by omega)
    refine ⟨?_,fun h=>?_,by omega,by omega⟩
    ·rw [i1,h2,Bool.and_true];congr 1;exact decide_eq_decide.2 (by omega)
    ·rw [i2 h];omega
   ·rename_i h2
    rw [show DKey.nodeOk (.mk a b c d ks)=false from by simpa using h2,Bool.and_false,Bool.false_and]
    exact ⟨rfl,fun h=>(by cases h),by simp only [];omega,by simp only [];omega⟩
theorem Zmp :∀(ks:List DKey) (r:Int),0≤r→(DKey.bldL ks r).1=(DKey.allOkL ks && decide ((DKey.nodesL ks:Int)≤r))∧((DKey.bldL ks r).1=true→(DKey.bldL ks r).2=r - DKey.nodesL ks)∧-1≤(DKey.bldL ks r).2∧(DKey.bldL ks r).2≤r
 | [],r,h0=>by
  rw [ZkI,DKey.allOkL,DKey.nodesL]
  refine ⟨by simp;omega,fun _=>by simp,by simp only [];omega,by simp⟩
 | k :: ks,r,h0=>by
  obtain ⟨i1,i2,i3,i4⟩:=ZkH k r h0
  rw [Zmq,DKey.allOkL,DKey.nodesL]
  by_cases h1:(k.bld r).1=true
  ·rw [if_pos h1]
   have e:=i2 h1
   rw [i1,Bool.and_eq_true,decide_eq_true_eq] at h1
   obtain ⟨j1,j2,j3,j4⟩:=Zmp ks (k.bld r).2 (by omega)
   refine ⟨?_,fun h=>?_,by omega,by omega⟩
   ·rw [j1,h1.1,Bool.true_and];congr 1;exact decide_eq_decide.2 (by omega)
   ·rw [j2 h,e];omega
  ·rw [if_neg h1]
   refine ⟨?_,fun h=>absurd h (by simp),i3,i4⟩
   rw [i1] at h1
   symm
   rw [Bool.and_eq_true,decide_eq_true_eq] at h1
   rw [Bool.and_eq_false_iff]
   by_cases h2:k.allOk=true
   ·have h3 : ¬ ((k.nodes:Int)≤r):=fun h3=>h1 ⟨h2,h3⟩
    right;simp;omega
   ·left;rw [show k.allOk=false from by simpa using h2];rfl
end
theorem ZvN (k:DKey):(k.bld 9).1=ZdE k:=by
 rw [(ZkH k 9 (by omega)).1,ZdE];congr 1;exact decide_eq_decide.2 (by omega)
def ZcT (s p:Str):Nat→Bool
 | 0=>false
 | n+1=>ZcT s p n || decide ((s.drop n).take p.length=p)
def ZaK (s p:Str):Bool:=ZcT s p (s.length+1 - p.length)
theorem Za1 {s p:Str} :∀{n:Nat},ZcT s p n=true↔∃i,i<n∧(s.drop i).take p.length=p
 | 0=>by simp [ZcT]
 | n+1=>by
  rw [ZcT,Bool.or_eq_true,Za1,decide_eq_true_eq]
  constructor
  ·rintro (⟨i,h1,h2⟩ | h)
   ·exact ⟨i,by omega,h2⟩
   ·exact ⟨n,by omega,h⟩
  ·rintro ⟨i,h1,h2⟩
   by_cases e:i=n
   ·subst e;exact .inr h2
   ·exact .inl ⟨i,by omega,h2⟩
mutual
def DKey.finds (b:DBox) (i:Nat) (m:DMail):DKey→Bool
 | .mk kind flag text set keys=>
  if kind=1 then decide (Int.tmod (Int.tdiv m.flags flag) 2=1) else if kind=2 then ZaK m.text text
  else if kind=3 then Zbz set b.mail.length (i+1) else if kind=4 then Zbz set ((b.mail.getLast?.map (·.uid)).getD 0) m.uid
  else if kind=5 then (match DKey.findsL b i m keys with | x :: _=>!x | []=>true)
  else if kind=6 then (match DKey.findsL b i m keys with | x :: y :: _=>x && y | _=>true)
  else if kind=7 then (match DKey.findsL b i m keys with | x :: y :: _=>x || y | _=>true) else true
def DKey.findsL (b:DBox) (i:Nat) (m:DMail):List DKey→List Bool
 | []=>[]
 | k :: ks=>k.finds b i m :: DKey.findsL b i m ks
end
theorem ZbK (b:DBox) (i:Nat) (m:DMail) (k:DKey):k.finds b i m=if k.kind=1 then decide (Int.tmod (Int.tdiv m.flags k.flag) 2=1) else if k.kind=2 then ZaK m.text k.text
  else if k.kind=3 then Zbz k.set b.mail.length (i+1) else if k.kind=4 then Zbz k.set ((b.mail.getLast?.map (·.uid)).getD 0) m.uid
  else if k.kind=5 then (match DKey.findsL b i m k.keys with | x :: _=>!x | []=>true)
  else if k.kind=6 then (match DKey.findsL b i m k.keys with | x :: y :: _=>x && y | _=>true)
  else if k.kind=7 then (match DKey.findsL b i m k.keys with | x :: y :: _=>x || y | _=>true) else true:=by cases k;rw [DKey.finds];rfl
theorem Zl8 {b:DBox} {i:Nat} {m:DMail} {k y:DKey} (h:k.kind=5) (hk:k.keys=[y]):k.finds b i m = !y.finds b i m:=by
 rw [ZbK,hk];simp only [h];rfl
theorem Ziv {b:DBox} {i:Nat} {m:DMail} {k y z:DKey} (h:k.kind=6) (hk:k.keys=[y,z]):k.finds b i m=(y.finds b i m && z.finds b i m):=by
 rw [ZbK,hk];simp only [h];rfl
theorem Zkt {b:DBox} {i:Nat} {m:DMail} {k y z:DKey} (h:k.kind=7) (hk:k.keys=[y,z]):k.finds b i m=(y.finds b i m || z.finds b i m):=by
 rw [ZbK,hk];simp only [h];rfl
def fnds (b:DBox) (k:DKey):List Bool:=b.mail.mapIdx fun i m=>k.finds b i m
theorem Zat (b:DBox) (k:DKey):(fnds b k).length=b.mail.length:=by simp [fnds]
theorem ZdW {b:DBox} {k:DKey} {i:Nat} {m:DMail} (h:b.mail[i]? = some m):(fnds b k)[i]? = some (k.finds b i m):=by simp [fnds,h]
def plc (i:Nat):List Bool→List Int
 | []=>[]
 | b :: t=>if b=true then ((i+1:Nat):Int) :: plc (i+1) t else plc (i+1) t
theorem ZjS :∀(xs:List Bool) (i:Nat) (b:Bool),plc i (xs ++ [b])=plc i xs ++ (if b=true then [((i+xs.length+1:Nat):Int)] else [])
 | [],i,b=>by cases b <;> rfl
 | x :: xs,i,b=>by
  rw [List.cons_append,plc,plc,ZjS xs (i+1) b,List.length_cons,show i+1+xs.length+1=i+(xs.length+1)+1 from by omega]
  split <;> rfl
theorem Zrs {xs:List Bool} {k:Nat} (h:xs[k]? = some true):plc 0 (xs.take (k+1))=plc 0 (xs.take k) ++ [((k+1:Nat):Int)]:=by
 have hl:=(List.getElem?_eq_some_iff.1 h).1
 rw [ZbP h,ZjS,if_pos rfl,List.length_take,show min k xs.length=k from by omega,Nat.zero_add]
theorem Zwo {xs:List Bool} {k:Nat} (h:xs[k]? = some false):plc 0 (xs.take (k+1))=plc 0 (xs.take k):=by
 rw [ZbP h,ZjS];simp
theorem Zrt :∀(xs:List Bool) (i:Nat),(plc i xs).length≤xs.length
 | [],i=>Nat.le_refl _
 | x :: xs,i=>by
  have:=Zrt xs (i+1)
  rw [plc,List.length_cons]
  split <;> (try rw [List.length_cons]) <;> omega
def Zan (b:DBox) (k:DKey):List Int:=if Zbq b=true∧ZdE k=true then plc 0 (fnds b k) else []
def Zaq (x:DHost) (s:DSess) (k:DKey):List Int × Int:=
 if ¬ (ZaB x=true∧ZdE k=true) then ([],5)
 else if (atF x s 2).2≠0 then ([],(atF x s 2).2)
 else (Zan (ZiU x (atF x s 2).1.toNat) k,0)
theorem Zm2 (b:DBox) (k:DKey):(Zan b k).length≤10:=by
 unfold Zan
 split
 ·rename_i h
  have:=Zrt (fnds b k) 0
  have:=(Zfn h.1).2.2
  rw [Zat] at *
  omega
 ·simp
theorem Zm1 {x:DHost} {s:DSess} {k:DKey} : (Zaq x s k).1.length≤10:=by
 unfold Zaq
 split
 ·simp
 ·split
  ·simp
  ·exact Zm2 _ _
theorem Zh3 {x:DHost} {u o n:Str} {k:DKey} {YS:List Int} (hYS:YS=Zan (ZiU x (Zb5 (inF o n) x.folders).toNat) k) {Y:DHost} {d:Int} {YY:List Int}
  (h:(Y,d,YY)=if ZdE k=true∧ZaB x=true then (usX x u o n 2 x x,((usN x u o n 2 0:Nat):Int),usX x u o n 2 YS []) else (Zox,5,[])):YY=(Zaq x ⟨u,o,n⟩ k).1∧d=(Zaq x ⟨u,o,n⟩ k).2:=by
 by_cases hc:ZdE k=true∧ZaB x=true
 ·rw [if_pos hc] at h
  simp only [Prod.mk.injEq] at h
  obtain ⟨_,rfl,rfl⟩:=h
  have e:=ZvJ (u:=u) (o:=o) (n:=n) hc.2
  rw [Zaq,if_neg (fun h=>h ⟨hc.2,hc.1⟩),ZyN]
  by_cases h2:ZdO x.users x.folders u o n 2=0
  ·obtain ⟨e1,e2⟩:=Zwk h2 h2 0
   rw [e1,e2,if_neg (by omega)]
   exact ⟨hYS,rfl⟩
  ·obtain ⟨e1,e2⟩:=Zwl (r:=2) h2 0
   rw [e1,e2,if_pos (by omega)]
   exact ⟨rfl,e⟩
 ·rw [if_neg hc] at h
  simp only [Prod.mk.injEq] at h
  obtain ⟨_,rfl,rfl⟩:=h
  rw [Zaq,if_pos (fun hh=>hc ⟨hh.2,hh.1⟩)]
  exact ⟨rfl,rfl⟩
theorem Zi9 {s:List DSpan} {last:Int} :∀{n:Nat} {y:Int},y∈ZcV s last n↔1≤y∧y≤n∧Zbz s last y=true
 | 0,y=>by simp only [ZcV,List.not_mem_nil,false_iff];omega
 | n+1,y=>by
  have ih:=Zi9 (s:=s) (last:=last) (n:=n) (y:=y)
  by_cases h:Zbz s last (n+1:Nat)=true
  ·rw [Zi8 h,List.mem_append,ih,List.mem_singleton]
   constructor
   ·rintro (⟨h1,h2,h3⟩ | rfl)
    ·exact ⟨h1,by omega,h3⟩
    ·exact ⟨by omega,by omega,h⟩
   ·rintro ⟨h1,h2,h3⟩
    by_cases e:y=((n+1:Nat):Int)
    ·exact .inr e
    ·exact .inl ⟨h1,by omega,h3⟩
  ·rw [Zlz (by simpa using h),ih]
   constructor
   ·rintro ⟨h1,h2,h3⟩;exact ⟨h1,by omega,h3⟩
   ·rintro ⟨h1,h2,h3⟩
    refine ⟨h1,?_,h3⟩
    by_cases e:y=((n+1:Nat):Int)
    ·rw [e] at h3;exact absurd h3 h
    ·omega
theorem ZgP {s:List DSpan} {last y:Int} (hs:Zdq s=true) (hl:last≤99):y∈Zco s last↔1≤y∧y≤last∧Zbz s last y=true:=by
 rw [Zja hs,Zi9,show min last 99=last from by omega]
 constructor
 ·rintro ⟨h1,h2,h3⟩;exact ⟨h1,by omega,h3⟩
 ·rintro ⟨h1,h2,h3⟩;exact ⟨h1,by omega,h3⟩
mutual
def Zer:DKey→Nat
 | .mk _ _ _ s ks=>3+2*s.length+Zhf ks
def Zhf:List DKey→Nat
 | []=>0
 | k :: ks=>Zer k+Zhf ks
end
theorem Zi2 :∀(ks:List DKey),Zhf ks=(ks.map Zer).sum
 | []=>by rw [Zhf];rfl
 | k :: ks=>by rw [Zhf,Zi2 ks];rfl
theorem Zoe (x:DKey):Zer x=3+2*x.set.length+(x.keys.map Zer).sum:=by
 cases x;rw [Zer,Zi2];rfl
mutual
theorem Zod :∀(x:DKey),Zer x≤3+3*ZcQ x
 | .mk _ _ t s ks=>by
  have:=Zld ks
  rw [Zer,ZcQ];omega
theorem Zld :∀(ks:List DKey),Zhf ks≤3*Zge ks
 | []=>by rw [Zhf];omega
 | k :: ks=>by
  have:=Zod k
  have:=Zld ks
  rw [Zhf,Zge];omega
end
mutual
theorem Zov :∀(x:DKey),x.nodes≤1+ZcQ x
 | .mk _ _ t s ks=>by
  have:=ZlB ks
  rw [DKey.nodes,ZcQ];omega
theorem ZlB :∀(ks:List DKey),DKey.nodesL ks≤Zge ks
 | []=>by rw [DKey.nodesL];omega
 | k :: ks=>by
  have:=Zov k
  have:=ZlB ks
  rw [DKey.nodesL,Zge];omega
end
theorem ZCc {k:Nat} {x:DKey} (h:ZcQ x≤1048576) (hk:k≤700000000000000):kL Zer (k+2*x.set.length) x.keys≤800000000000000:=by
 have h1:=Zod x
 rw [Zoe] at h1
 unfold kL;omega
theorem Zpy {ks:List DKey} {i:Nat} {y:DKey} (h:ks[i]? = some y):DKey.nodesL (ks.take (i+1))=DKey.nodesL (ks.take i)+y.nodes:=by
 rw [ZbP h,Zd8,Zd8,List.map_append,List.sum_append];simp
theorem ZjY (ks:List DKey) (i:Nat):DKey.nodesL (ks.take i)≤DKey.nodesL ks:=by
 rw [Zd8,Zd8];exact ZhY _ _ _
theorem ZvZ {ks:List DKey} {i:Nat} {y:DKey} (h:ks[i]? = some y) (hy:y.allOk=false):DKey.allOkL ks=false:=by
 rw [Zfq,List.all_eq_false];exact ⟨y,List.mem_of_getElem? h,by simp [hy]⟩
theorem ZvY {ks:List DKey} (h :∀y,y∈ks→y.allOk=true):DKey.allOkL ks=true:=by
 rw [Zfq,List.all_eq_true];exact h
theorem Ztd {α:Type} (s:List α) (k n:Nat):(s.take (k+n)).drop k=(s.drop k).take n:=by
 rw [List.drop_take];congr 1;omega
theorem ZuD {s p:Str} {k:Nat} (hk:k<s.length+1 - p.length) (h:(s.drop k).take p.length=p):true=ZaK s p:=(Za1.2 ⟨k,hk,h⟩).symm
theorem Zlt {s p:Str} {k:Nat} (hp:ZcT s p k=false) (h : ¬ (s.drop k).take p.length=p):ZcT s p (k+1)=false:=by simp [ZcT,hp,h]
theorem Zrx {s p:Str} {k:Nat} (hp:ZcT s p k=false) (hk:s.length+1 - p.length≤k):false=ZaK s p:=by
 symm
 rw [Bool.eq_false_iff]
 intro h
 obtain ⟨i,h1,h2⟩:=Za1.1 h
 have:ZcT s p k=true:=Za1.2 ⟨i,by omega,h2⟩
 rw [hp] at this;cases this
theorem Zmy {x y:DKey} (h:x.allOk=true) (hy:y∈x.keys):y.allOk=true:=by
 rw [ZeE,Bool.and_eq_true,Zfq,List.all_eq_true] at h
 exact h.1 y hy
theorem Zot {x:DKey} (h:x.allOk=true) (hk:x.kind=1):x.flag=1∨x.flag=2∨x.flag=4∨x.flag=8∨x.flag=16:=by
 rw [ZeE,Bool.and_eq_true] at h
 have h2:=h.2
 simp only [DKey.nodeOk,hk] at h2
 simp [ZbB] at h2
 omega
theorem ZrF {ks:List DKey} (h:ks.length=1) :∃y,ks=[y]:=by
 match ks,h with
 | [y],_=>exact ⟨y,rfl⟩
theorem ZjJ {ks:List DKey} (h:ks.length=2) :∃y z,ks=[y,z]:=by
 match ks,h with
 | [y,z],_=>exact ⟨y,z,rfl⟩
theorem Znr {ks t:List DKey} {y:DKey} (h:ks=y :: t):ks[(0:Int).toNat]? = some y:=by rw [h];rfl
theorem Zr9 {ks t:List DKey} {y z:DKey} (h:ks=y :: z :: t):ks[(1:Int).toNat]? = some z:=by rw [h];rfl
theorem ZoC {ms:List DMail} {l:DMail} {i:Int} (h:ms[i.toNat]? = some l) (hi:i=(ms.length:Int) - 1):(ms.getLast?.map (·.uid)).getD 0=l.uid:=by
 rw [List.getLast?_eq_getElem?,show ms.length - 1=i.toNat from by omega,h];rfl
theorem Zev {b:DBox} {x:DKey} {k:Nat} {xs:List Int} (hxs:xs=plc 0 ((fnds b x).take k)) (hgo:0<k→Zbq b=true∧ZdE x=true) (h:b.mail.length≤k∨Zbq b=false∨ZdE x=false):Zan b x=xs:=by
 by_cases h0:0<k
 ·have h1:=hgo h0
  rcases h with h | h | h
  ·rw [Zan,if_pos h1,hxs,List.take_of_length_le (by rw [Zat];exact h)]
  ·rw [h1.1] at h;cases h
  ·rw [h1.2] at h;cases h
 ·have e:k=0:=by omega
  subst e
  rw [hxs,List.take_zero,Zan]
  split
  ·rename_i h1
   rcases h with h | h | h
   ·have:fnds b x=[]:=List.eq_nil_of_length_eq_zero (by rw [Zat];omega)
    rw [this]
   ·rw [h1.1] at h;cases h
   ·rw [h1.2] at h;cases h
  ·rfl
theorem Zxb {a b:Int} (h0:0≤a) (h1:a≤31) (hb:0≤b):0≤Int.tdiv a b∧Int.tdiv a b≤31:=
 ⟨Int.tdiv_nonneg h0 hb,Int.le_trans (Int.tdiv_le_self _ h0) h1⟩
end Go.BL
namespace Go.BL
open Go
def rkP:UInt32:=16777619
def hsh (xs:Str):UInt32:=xs.foldl (fun h c=>h*rkP+c.toUInt32) 0
def Zhi (x:UInt32):Nat→UInt32
 | 0=>1
 | n+1=>Zhi x n*x
theorem Znb (x:UInt32) :∀n,Zhi (x*x) n=Zhi x (2*n)
 | 0=>rfl
 | n+1=>by rw [Zhi,Znb x n,show 2*(n+1)=2*n+1+1 from by omega,Zhi,Zhi];grind
theorem ZoG (xs:Str) (c:UInt8):hsh (xs ++ [c])=hsh xs*rkP+c.toUInt32:=by simp [hsh]
theorem Zkh (h:UInt32) :∀(xs:Str),xs.foldl (fun h c=>h*rkP+c.toUInt32) h=h*Zhi rkP xs.length+hsh xs
 | []=>by simp [hsh,Zhi]
 | c :: xs=>by
  have e:hsh (c :: xs)=xs.foldl (fun h c=>h*rkP+c.toUInt32) (0*rkP+c.toUInt32):=rfl
  rw [List.foldl_cons,Zkh (h*rkP+c.toUInt32) xs,e,Zkh (0*rkP+c.toUInt32) xs,List.length_cons,Zhi]
  grind
theorem Zvd (c:UInt8) (xs:Str):hsh (c :: xs)=c.toUInt32*Zhi rkP xs.length+hsh xs:=by
 have e:hsh (c :: xs)=xs.foldl (fun h c=>h*rkP+c.toUInt32) (0*rkP+c.toUInt32):=rfl
 rw [e,Zkh];grind
theorem Zvb (a c:UInt8) (xs:Str):hsh (a :: xs)*rkP+c.toUInt32 - Zhi rkP (xs.length+1)*a.toUInt32=hsh (xs ++ [c]):=by
 rw [ZoG,Zvd,Zhi];grind
def win (s:Str) (i n:Nat):Str:=(s.drop i).take n
theorem Zvc {s:Str} {i n:Nat} {a c:UInt8} (hn:0<n) (ha:s[i]? = some a) (hc:s[i+n]? = some c):hsh (win s i n)*rkP+c.toUInt32 - Zhi rkP n*a.toUInt32=hsh (win s (i+1) n):=by
 obtain ⟨m,rfl⟩ :∃m,n=m+1:=⟨n - 1,by omega⟩
 have e1:win s i (m+1)=a :: win s (i+1) m:=by
  have hl:=(List.getElem?_eq_some_iff.1 ha)
  obtain ⟨hl1,hl2⟩:=hl
  simp only [win]
  rw [List.drop_eq_getElem_cons hl1,List.take_succ_cons,hl2]
 have hlen:(win s (i+1) m).length=m:=by
  have:=(List.getElem?_eq_some_iff.1 hc).1
  simp only [win,List.length_take,List.length_drop];omega
 have e2:win s (i+1) (m+1)=win s (i+1) m ++ [c]:=by
  simp only [win]
  rw [List.take_add_one,List.getElem?_drop,show i+1+m=i+(m+1) from by omega,hc];rfl
 have:=Zvb a c (win s (i+1) m)
 rw [hlen] at this
 rw [e1,e2,this]
theorem ZnY {s:Str} {k:Nat} {c:UInt8} (hc:s[k]? = some c):hsh (win s 0 (k+1))=hsh (win s 0 k)*rkP+c.toUInt32:=by
 simp only [win,List.drop_zero]
 rw [List.take_add_one,hc];exact ZoG _ _
end Go.BL
namespace Go.BL
open Go
def ZdY:Str→Bool
 | []=>false
 | c :: t=>decide (65≤c.toNat) && decide (c.toNat≤90) && t.all (fun d=>decide (97≤d.toNat) && decide (d.toNat≤122)) && decide (t.length≤19)
theorem Zqy {w:Str} (h:w∈Zdv):ZdY w=true:=by
 have :∀w,w∈Zdv→ZdY w=true:=by decide
 exact this w h
theorem ZtV {w:Str} (h:ZdY w=true):0<w.length∧w.length≤20:=by
 cases w with
 | nil=>cases h
 | cons c t=>simp only [ZdY,Bool.and_eq_true,decide_eq_true_eq] at h;simp only [List.length_cons];omega
theorem ZgG {w:Str} {k:Nat} {c:UInt8} (h:ZdY w=true) (hc:w[k]? = some c) (hk:k=0):65≤c.toNat∧c.toNat≤90:=by
 subst hk
 cases w with
 | nil=>cases h
 | cons d t=>simp only [ZdY,Bool.and_eq_true,decide_eq_true_eq] at h;simp only [List.getElem?_cons_zero,Option.some.injEq] at hc;subst hc;omega
theorem Zqx {w:Str} {k:Nat} {c:UInt8} (h:ZdY w=true) (hc:w[k]? = some c) (hk:0<k):97≤c.toNat∧c.toNat≤122:=by
 cases w with
 | nil=>cases h
 | cons d t=>
  obtain ⟨m,rfl⟩ :∃m,k=m+1:=⟨k - 1,by omega⟩
  simp only [ZdY,Bool.and_eq_true,decide_eq_true_eq,List.all_eq_true] at h
  simp only [List.getElem?_cons_succ] at hc
  exact h.1.2 c (List.mem_of_getElem? hc)
theorem ZwU {w:Str} {k:Nat} {c:UInt8} (h:ZdY w=true) (hc:w[k]? = some c):c.toNat<128:=by
 rcases Nat.eq_zero_or_pos k with hk | hk
 ·have:=ZgG h hc hk;omega
 ·have:=Zqx h hc hk;omega
theorem Zzn {c:UInt8} (h:c.toNat≤90):IntKind.wrap .u8 ((c.toNat:Int)+32)=((c+32).toNat:Int):=by
 have e:(c+32).toNat=c.toNat+32:=by rw [UInt8.toNat_add];simp only [UInt8.reduceToNat];omega
 rw [e]
 simp only [IntKind.wrap,IntKind.bits,IntKind.signed,Bool.false_and,Bool.false_eq_true,if_false]
 omega
theorem Zur :∀{k:Nat},k<5→IntKind.wrap .i64 (1*2 ^ (min ((k:Int)).toNat 64))=(2:Int) ^ k
 | 0,_=>rfl
 | 1,_=>rfl
 | 2,_=>rfl
 | 3,_=>rfl
 | 4,_=>rfl
theorem Zpx {n:Int} {k:Nat} (hk:k<5) (h:n=(2:Int) ^ k):ZbB n=true:=by
 have:k=0∨k=1∨k=2∨k=3∨k=4:=by omega
 rcases this with rfl | rfl | rfl | rfl | rfl <;> subst h <;> decide
theorem Znc {n:Int} {k:Nat} (hk:5≤k) (h :∀j,j<k→n≠(2:Int) ^ j):ZbB n=false:=by
 have h0:=h 0 (by omega);have h1:=h 1 (by omega);have h2:=h 2 (by omega);have h3:=h 3 (by omega);have h4:=h 4 (by omega)
 simp only [Int.reducePow] at h0 h1 h2 h3 h4
 simp [ZbB,h0,h1,h2,h3,h4]
theorem ZwT {s:Str} {n:Int} (hs:0<s.length) (h:ZbB n=true):s=[]↔ZbB n=false:=by
 rw [h];constructor
 ·rintro rfl;simp at hs
 ·intro h;cases h
theorem Zuy {n:Int} {k:Nat} (hn :∀j,j<k→n≠(2:Int) ^ j) (h : ¬ n=(2:Int) ^ k) :∀j,j<k+1→n≠(2:Int) ^ j:=fun j hj=>by
 rcases Nat.lt_succ_iff_lt_or_eq.1 hj with h2 | h2
 ·exact hn j h2
 ·subst h2;exact h
end Go.BL
namespace Go.BL
open Go
theorem ZhX (a b:UInt32):IntKind.wrap .u32 ((a.toNat:Int)*(b.toNat:Int))=((a*b).toNat:Int):=by
 rw [UInt32.toNat_mul]
 simp only [IntKind.wrap,IntKind.bits,IntKind.signed,Bool.false_and,Bool.false_eq_true,if_false]
 rw [← Int.natCast_mul];rfl
theorem ZjI (a:UInt32):IntKind.wrap .u32 ((a.toNat:Int)*16777619)=((a*rkP).toNat:Int):=ZhX a rkP
theorem ZmQ (a b:UInt32):IntKind.wrap .u32 ((a.toNat:Int)+(b.toNat:Int))=((a+b).toNat:Int):=by
 rw [UInt32.toNat_add]
 simp only [IntKind.wrap,IntKind.bits,IntKind.signed,Bool.false_and,Bool.false_eq_true,if_false]
 rw [← Int.natCast_add];rfl
theorem Zw8 (a b:UInt32):IntKind.wrap .u32 ((a.toNat:Int) - (b.toNat:Int))=((a - b).toNat:Int):=by
 have ha:=a.toNat_lt;have hb:=b.toNat_lt
 rw [UInt32.toNat_sub]
 simp only [IntKind.wrap,IntKind.bits,IntKind.signed,Bool.false_and,Bool.false_eq_true,if_false]
 omega
theorem Zt7 (c:UInt8):IntKind.wrap .u32 (c.toNat:Int)=(c.toUInt32.toNat:Int):=by
 have hc:=c.toNat_lt
 have e:c.toUInt32.toNat=c.toNat:=by simp
 rw [e]
 simp only [IntKind.wrap,IntKind.bits,IntKind.signed,Bool.false_and,Bool.false_eq_true,if_false]
 omega
theorem ZvW :∀i,i<64→Ztw ((i:Nat):Int) 1=((i % 2:Nat):Int):=by decide
theorem ZzC {pw sq t:UInt32} {i:Nat} (h:pw*Zhi sq i=t) (hi:i % 2=1):pw*sq*Zhi (sq*sq) (i / 2)=t:=by
 rw [Znb]
 have e:i=2*(i / 2)+1:=by omega
 rw [e,Zhi] at h
 rw [← h];grind
theorem Zxr {pw sq t:UInt32} {i:Nat} (h:pw*Zhi sq i=t) (hi:i % 2=0):pw*Zhi (sq*sq) (i / 2)=t:=by
 rw [Znb]
 have e:i=2*(i / 2):=by omega
 rw [e] at h;exact h
theorem ZzD {pw sq t:UInt32} {i:Nat} (h:pw*Zhi sq i=t) (hi:i=0):pw=t:=by
 subst hi;simpa [Zhi] using h
theorem Zrf (i:Nat):((i:Int)).fdiv (2 ^ (min ((1:Int)).toNat (IntKind.bits .i64)))=((i / 2:Nat):Int):=by
 show ((i:Int)).fdiv (2 ^ 1)=_
 rw [Int.fdiv_eq_ediv_of_nonneg _ (by decide)];norm_cast
theorem ZnZ {s p:Str} (h:win s 0 p.length=p) (hn:p.length≤s.length):ZaK s p=true:=Za1.2 ⟨0,by omega,by simpa [win] using h⟩
theorem ZmG {s p:Str} {i:Nat} (h:win s i p.length=p) (hn:i+p.length≤s.length):ZaK s p=true:=Za1.2 ⟨i,by omega,h⟩
theorem Zux {s p:Str} : ZcT s p 0=false:=rfl
theorem Zfe {s p:Str} {m:Nat} (h:ZcT s p m=false) (hw:win s m p.length≠p):ZcT s p (m+1)=false:=Zlt h hw
theorem Zop {s p:Str} {m:Nat} (h:ZcT s p m=false) (hm:s.length+1 - p.length≤m):ZaK s p=false:=(Zrx h hm).symm
theorem ZmH {s:Str} {m n:Nat} : (s.take (m+n)).drop m=win s m n:=by rw [win,← Ztd]
theorem ZhP {s p:Str} {i n:Nat} {x:UInt32} (hx:x=hsh (win s i n)) (h : ¬ (x.toNat:Int)=(hsh p).toNat):win s i n≠p:=fun e=>h (by rw [hx,e])
theorem Zn0 {s:Str} {i m n:Nat} (h:i=m+n):(s.take (i+1)).drop (i+1 - n)=win s (m+1) n:=by
 subst h
 rw [show m+n+1=m+1+n from by omega,Nat.add_sub_cancel,ZmH]
theorem Zsi {s:Str} {i m n:Nat} {a c:UInt8} {h:UInt32} (hn:0<n) (hi:i=m+n) (hh:h=hsh (win s m n)) (hc:s[i]? = some c) (ha:s[i - n]? = some a):h*rkP+c.toUInt32 - Zhi rkP n*a.toUInt32=hsh (win s (m+1) n):=by
 subst hi;rw [Nat.add_sub_cancel] at ha;rw [hh];exact Zvc hn ha hc
theorem ZxX {s:Str} {c:UInt8} : -1≤Zny s c∧Zny s c≤(s.length:Int):=by
 by_cases h:0≤Zny s c
 ·obtain ⟨i,e,hi,_⟩:=Zkg h
  have:=(List.getElem?_eq_some_iff.1 hi).1
  omega
 ·have:Zny s c = -1:=by
   unfold Zny at h ⊢
   split <;> rename_i hf
   ·rw [hf] at h;simp only at h;omega
   ·rfl
  omega
theorem ZxW {s p:Str} : -1≤Zwu s p∧Zwu s p≤(s.length:Int):=by
 unfold Zwu
 split <;> rename_i hf
 ·have:=List.mem_of_find?_eq_some hf
  simp only [List.mem_range,ByteArray.size,List.size_toArray] at this
  omega
 ·omega
theorem ZzK {s p:Str} : 0≤Zwu s p↔ZaK s p=true:=by rw [Zu8,ZaK,Za1]
theorem Zqz {s p:Str} {i k:Nat} (h:win s i p.length=p) (hk:k<p.length):s[i+k]? = p[k]?:=by
 have e:(win s i p.length)[k]? = p[k]?:=by rw [h]
 rw [← e,win,List.getElem?_take_of_lt hk,List.getElem?_drop]
theorem ZxC {s p:Str} {i:Nat} {c:UInt8} (h1:p.length=1) (hc:p[0]? = some c) (hs:s[i]? = some c):win s i p.length=p:=by
 match p,h1,hc with
 | [d],_,hc=>
  simp only [List.getElem?_cons_zero,Option.some.injEq] at hc;subst hc
  obtain ⟨hl,he⟩:=List.getElem?_eq_some_iff.1 hs
  rw [win,List.drop_eq_getElem_cons hl,he];rfl
theorem ZuE {s p:Str} {c:UInt8} (h1:p.length=1) (hc:p[0]? = some c):0≤Zny s c↔ZaK s p=true:=by
 constructor
 ·intro h
  obtain ⟨i,_,hi,_⟩:=Zkg h
  have:=(List.getElem?_eq_some_iff.1 hi).1
  exact ZmG (ZxC h1 hc hi) (by omega)
 ·intro h
  obtain ⟨i,hi,hw⟩:=Za1.1 h
  refine Int.not_lt.1 fun hn=>?_
  have:=Zqz (k:=0) hw (by omega)
  exact Zsg hn i (by rw [← hc,← this];rfl)
theorem Zpq {s p:Str} (h:s.length≤p.length) (hne : ¬ p=s):ZaK s p=false:=by
 rw [Bool.eq_false_iff];intro ht
 obtain ⟨i,hi,hw⟩:=Za1.1 ht
 have:i=0:=by omega
 subst this
 rw [List.drop_zero,List.take_of_length_le h] at hw
 exact hne hw.symm
theorem Zon {s p:Str} {c:UInt8} {i j:Nat} (h:ZcT s p i=false) (h0:0<p.length) (hc:p[0]? = some c) (hk :∀k,i≤k→k<j→s[k]?≠some c):ZcT s p j=false:=by
 rw [Bool.eq_false_iff];intro ht
 obtain ⟨k,hkj,hw⟩:=Za1.1 ht
 by_cases hik:i≤k
 ·have:=Zqz (k:=0) hw h0
  exact hk k hik hkj (by rw [← hc,← this];rfl)
 ·have:ZcT s p i=true:=Za1.2 ⟨k,by omega,hw⟩
  rw [h] at this;cases this
theorem ZwH {s:Str} {i t k:Nat} (h:k<t - i):((s.take t).drop i)[k]? = s[i+k]?:=by
 rw [List.getElem?_drop,List.getElem?_take_of_lt (by omega)]
theorem Zxl {s p:Str} {c:UInt8} {i t:Nat} (h:ZcT s p i=false) (h0:0<p.length) (hc:p[0]? = some c) (hi : ¬ s[i]? = some c) (ht:t=s.length+1 - p.length) (hn:Zny ((s.take t).drop (i+1)) c<0):ZaK s p=false:=by
 rw [ZaK,← ht]
 refine Zon h h0 hc fun k h1 h2=>?_
 by_cases e:k=i
 ·subst e;exact hi
 ·have:=Zsg hn (k - (i+1))
  rw [ZwH (by omega),show i+1+(k - (i+1))=k from by omega] at this
  exact this
theorem Zuo {s p:Str} {c:UInt8} {i t k:Nat} (h:ZcT s p i=false) (h0:0<p.length) (hc:p[0]? = some c) (hi : ¬ s[i]? = some c) (hk:((s.take t).drop (i+1))[k]? = some c) (hf :∀j,j<k→((s.take t).drop (i+1))[j]?≠some c):i+(k+1)<t∧ZcT s p (i+(k+1))=false:=by
 have hl:=(List.getElem?_eq_some_iff.1 hk).1
 simp only [List.length_drop,List.length_take] at hl
 refine ⟨by omega,Zon h h0 hc fun m h1 h2=>?_⟩
 by_cases e:m=i
 ·subst e;exact hi
 ·have:=hf (m - (i+1)) (by omega)
  rw [ZwH (by omega),show i+1+(m - (i+1))=m from by omega] at this
  exact this
theorem Zri {s p:Str} {i:Nat} {c d:UInt8} (h2:2≤p.length) (hc:p[1]? = some c) (hd:s[i+1]? = some d) (h : ¬ (d.toNat:Int)=c.toNat):win s i p.length≠p:=fun e=>by
 have:=Zqz (k:=1) e (by omega)
 rw [hc,hd] at this
 simp only [Option.some.injEq] at this
 subst this;exact h rfl
theorem ZoO {s:Str} {i:Nat} {c d:UInt8} (hd:s[i]? = some d) (h : ¬ (d.toNat:Int)=c.toNat) : ¬ s[i]? = some c:=fun e=>by
 rw [hd,Option.some.injEq] at e;subst e;exact h rfl
theorem Zry {s p:Str} {m:Nat} (h:ZcT s p m=false) (hm:m+p.length≤s.length):ZaK ((s.take s.length).drop m) p=true↔ZaK s p=true:=by
 rw [List.take_length,ZaK,ZaK,Za1,Za1]
 constructor
 ·rintro ⟨i,hi,hw⟩
  rw [List.length_drop] at hi;rw [List.drop_drop] at hw
  exact ⟨m+i,by omega,hw⟩
 ·rintro ⟨i,hi,hw⟩
  by_cases hmi:m≤i
  ·refine ⟨i - m,by rw [List.length_drop];omega,?_⟩
   rw [List.drop_drop,show m+(i - m)=i from by omega];exact hw
  ·have:ZcT s p m=true:=Za1.2 ⟨i,by omega,hw⟩
   rw [h] at this;cases this
theorem Zuq (i:Nat):((i:Int)).fdiv (2 ^ (min ((4:Int)).toNat (IntKind.bits .i64)))=((i / 16:Nat):Int):=by
 show ((i:Int)).fdiv (2 ^ 4)=_
 rw [Int.fdiv_eq_ediv_of_nonneg _ (by decide)];norm_cast
end Go.BL
namespace Go.BL
open Go
def DKey.brn (x:DKey) (r:Int):Bool × Int:=if x.nodeOk=true then DKey.bldL x.keys r else (false,r)
theorem ZAO {x:DKey} {r:Int} (h:r - 1<0):x.bld r=(false,r - 1):=by rw [Ztm,if_pos h]
theorem ZAP {x:DKey} {r:Int} (h : ¬ r - 1<0):x.bld r=x.brn (r - 1):=by rw [Ztm,if_neg h];rfl
theorem Ztk {x:DKey} {r:Int} (h:x.nodeOk=false):x.brn r=(false,r):=by rw [DKey.brn,if_neg (by rw [h];simp)]
theorem ZnQ {x:DKey} {r:Int} (h:x.nodeOk=true):x.brn r=DKey.bldL x.keys r:=by rw [DKey.brn,if_pos h]
theorem ZvL {x:DKey} {r:Int} (h:x.nodeOk=true) (hk:x.kind<5):x.brn r=(true,r):=by
 rw [ZnQ h,(Zdr h).1 hk,ZkI]
theorem ZvM {k:DKey} {r:Int} (h0:0≤r) : -1≤(k.bld r).2∧(k.bld r).2≤r∧((k.bld r).1=true→0≤(k.bld r).2):=by
 obtain ⟨h1,h2,h3,h4⟩:=ZkH k r h0
 refine ⟨h3,h4,fun h=>?_⟩
 rw [h2 h];rw [h1,Bool.and_eq_true,decide_eq_true_eq] at h;omega
theorem ZyL {ks:List DKey} {k:Nat} {y:DKey} {r:Int} (hy:ks[k]? = some y):DKey.bldL (ks.drop k) r=if (y.bld r).1=true then DKey.bldL (ks.drop (k+1)) (y.bld r).2 else (false,(y.bld r).2):=by
 obtain ⟨hl,he⟩:=List.getElem?_eq_some_iff.1 hy
 rw [List.drop_eq_getElem_cons hl,he,Zmq]
def Zc5 (f:Int) (t:Str) (m:Nat):Bool:=decide (f=0) && decide (t=[]) && decide (m=0)
theorem ZuP {x:DKey} (h:x.kind<0):x.nodeOk=false:=by
 rw [Bool.eq_false_iff];intro ht;have:=Zdr ht;omega
theorem ZzR {x:DKey} (h:x.kind=0):(true && Zc5 x.flag x.text x.set.length && decide (x.keys.length=0))=x.nodeOk:=by
 simp [DKey.nodeOk,DKey.bare,Zc5,h]
theorem ZzQ {x:DKey} {b:Bool} (h:x.kind=1) (hb:b=ZbB x.flag):(b && Zc5 0 x.text x.set.length && decide (x.keys.length=0))=x.nodeOk:=by
 subst hb;simp [DKey.nodeOk,DKey.bare,Zc5,h];cases ZbB x.flag <;> simp [and_assoc]
theorem ZzP {x:DKey} (h:x.kind=2):(Zaj x.text && Zc5 x.flag [] x.set.length && decide (x.keys.length=0))=x.nodeOk:=by
 simp [DKey.nodeOk,DKey.bare,Zc5,h];cases Zaj x.text <;> simp [and_assoc]
theorem Zwq {x:DKey} (h:x.kind=3∨x.kind=4):(Zdq x.set && Zc5 x.flag x.text 0 && decide (x.keys.length=0))=x.nodeOk:=by
 rcases h with h | h <;> simp [DKey.nodeOk,DKey.bare,Zc5,h] <;> cases Zdq x.set <;> simp [and_assoc]
theorem ZxE {x:DKey} (h5:5≤x.kind):x.nodeOk=(!decide (7<x.kind) && decide (x.keys.length=if x.kind=5 then 1 else 2) && Zc5 x.flag x.text x.set.length):=by
 by_cases e5:x.kind=5
 ·simp [DKey.nodeOk,DKey.bare,Zc5,e5];rw [Bool.and_comm]
 ·by_cases e6:x.kind=6∨x.kind=7
  ·have h7 : ¬ 7<x.kind:=by omega
   have h0 : ¬ x.kind=0:=by omega
   have h1 : ¬ x.kind=1:=by omega
   have h2 : ¬ x.kind=2:=by omega
   have h3 : ¬ (x.kind=3∨x.kind=4):=by omega
   have h3' : ¬ x.kind=3:=by omega
   have h4' : ¬ x.kind=4:=by omega
   simp only [DKey.nodeOk,DKey.bare,Zc5,h0,h1,h2,h3,h3',h4',e5,e6,h7,decide_false,decide_true,if_false,if_true,Bool.false_or,Bool.not_false,Bool.true_and]
   rw [Bool.and_comm];simp
  ·have h7:7<x.kind:=by omega
   simp only [h7,decide_true,Bool.not_true,Bool.false_and]
   rw [Bool.eq_false_iff];intro ht;have:=Zdr ht;omega
theorem ZuN {t:KT} {B:Kn} {n k:Nat} {vs:List Value} {ks:List DKey} {nv:Value} {y:DKey} (hnd :∀i z u,i<k→ks[i]? = some z→vs[i]? = some u→Zcu t B n u z) (hy:ks[k]? = some y) (hv:Zcu t B n nv y) :
∀i z u,i<k+1→ks[i]? = some z→(vs.set k nv)[i]? = some u→Zcu t B n u z:=fun i z u hi hz hu=>by
 by_cases e:i=k
 ·subst e
  rw [List.getElem?_set_self'] at hu
  rw [hy] at hz;cases hz
  cases hvi:vs[i]? with
  | none=>rw [hvi] at hu;cases hu
  | some w=>rw [hvi] at hu;cases hu;exact hv
 ·rw [List.getElem?_set_ne (fun h=>e h.symm)] at hu
  exact hnd i z u (by omega) hz hu
theorem Zcu.iface {t:KT} {B:Kn} :∀{n:Nat} {v:Value} {x:DKey},Zcu t B n v x→∃u a,v = .iface u a
 | 0,_,_,h=>h.elim
 | n+1,v,x,h=>by
  rcases h with ⟨_,h⟩ | ⟨_,h⟩ | ⟨_,_,h⟩ | ⟨_,_,_,h,_⟩ | ⟨_,_,_,h,_⟩ | ⟨_,_,_,_,h,_⟩ | ⟨_,_,_,_,_,_,h,_⟩ <;> exact ⟨_,_,h⟩
theorem ZuO {t:KT} {B:Kn} {n:Nat} {x y:DKey} {v:Value} (h:x.kind=5) (hk:x.keys=[y]) (hv:Zcu t B n v y):Zcu t B (n+1) (.iface t.not (.agg #[v])) x:=
 .inr (.inr (.inr (.inr (.inr (.inl ⟨h,y,v,hk,rfl,hv⟩)))))
theorem ZrG {t:KT} {B:Kn} {n:Nat} {x y z:DKey} {v w:Value} (h:x.kind=6∨x.kind=7) (hk:x.keys=[y,z]) (hv:Zcu t B n v y) (hw:Zcu t B n w z):Zcu t B (n+1) (.iface t.pair (.agg #[.bool (decide (x.kind=6)),v,w])) x:=
 .inr (.inr (.inr (.inr (.inr (.inr ⟨h,y,z,v,w,hk,rfl,hv,hw⟩)))))
theorem Zt8 {vs:List Value} (h:vs.length=2) :∃v w,vs=[v,w]:=by
 match vs,h with
 | [v,w],_=>exact ⟨v,w,rfl⟩
theorem Zvk {a o:Int} (h:ZbO a=true) (ho:o=1∨o=2∨o=4∨o=8∨o=16):((ZbO a && ZbO o) && decide (Ztw a o=o))=decide (Int.tmod (Int.tdiv a o) 2=1):=by
 have h2:0≤a∧a≤31:=by simpa [ZbO] using h
 obtain ⟨n,rfl⟩ :∃n:Nat,a=(n:Int):=⟨a.toNat,by omega⟩
 have hn:n<32:=by omega
 have all :∀m,m<32→∀k,k<5→((ZbO ((m:Nat):Int) && ZbO ((2 ^ k:Nat):Int)) && decide (Ztw ((m:Nat):Int) ((2 ^ k:Nat):Int)=((2 ^ k:Nat):Int)))=decide (Int.tmod (Int.tdiv ((m:Nat):Int) ((2 ^ k:Nat):Int)) 2=1):=by decide
 rcases ho with rfl | rfl | rfl | rfl | rfl
 ·exact all n hn 0 (by omega)
 ·exact all n hn 1 (by omega)
 ·exact all n hn 2 (by omega)
 ·exact all n hn 3 (by omega)
 ·exact all n hn 4 (by omega)
theorem Zoz :∀(xs:List DMail) (b0 b:Int),xs.foldl (fun (s:Bool × Int) x=>(s.1 && Zc0 s.2 x,x.uid)) (true,b0)=(true,b)→∀x,x∈xs→x.uid≤b
 | [],_,_,_,_,hx=>by cases hx
 | y :: ys,b0,b,h,x,hx=>by
  simp only [List.foldl_cons,Bool.true_and] at h
  cases hp:Zc0 b0 y with
  | false=>
   rw [hp] at h
   have:=ZbS (p:=Zc0) (nx:=fun _ m=>m.uid) ys y.uid
   rw [h] at this;cases this
  | true=>
   rw [hp] at h
   rcases List.mem_cons.1 hx with rfl | hx
   ·exact ZjO ys _ b h
   ·exact Zoz ys y.uid b h x hx
theorem Zjc :∀(xs:List DMail) (b0 b:Int),xs.foldl (fun (s:Bool × Int) x=>(s.1 && Zc0 s.2 x,x.uid)) (true,b0)=(true,b)→xs≠[]→b=(xs.getLast?.map (·.uid)).getD 0
 | [],_,_,_,h=>absurd rfl h
 | [y],b0,b,h,_=>by
  simp only [List.foldl_cons,List.foldl_nil,Prod.mk.injEq] at h
  simp [h.2]
 | y :: z :: ys,b0,b,h,_=>by
  simp only [List.foldl_cons,Bool.true_and] at h
  cases hp:Zc0 b0 y with
  | false=>
   rw [hp] at h
   have:=ZbS (p:=Zc0) (nx:=fun _ m=>m.uid) (z :: ys) y.uid
   simp only [List.foldl_cons] at this
   rw [h] at this;cases this
  | true=>
   rw [hp] at h
   have:=Zjc (z :: ys) y.uid b (by simpa only [List.foldl_cons,Bool.true_and] using h) (by simp)
   rw [this];simp
theorem Zt6 {b:DBox} {w:DMail} (h:Zbq b=true) (hw:w∈b.mail):w.uid≤(b.mail.getLast?.map (·.uid)).getD 0∧(b.mail.getLast?.map (·.uid)).getD 0≤99:=by
 obtain ⟨l,hs,hl,hn,_⟩:=Zjz h
 have hne:b.mail≠[]:=fun e=>by rw [e] at hw;cases hw
 have e:=Zjc b.mail 0 l hs hne
 rw [← e]
 exact ⟨Zoz b.mail 0 l hs w hw,by omega⟩
theorem Zw7 {b:DBox} {s:List DSpan} {w:DMail} (h:Zbq b=true) (hs:Zdq s=true) (hw:w∈b.mail):decide (w.uid∈Zco s ((b.mail.getLast?.map (·.uid)).getD 0))=Zbz s ((b.mail.getLast?.map (·.uid)).getD 0) w.uid:=by
 have h1:=Zt6 h hw
 have h2:=(ZaL h).1 w hw
 simp only [ZbU,Bool.and_eq_true,decide_eq_true_eq] at h2
 rw [Bool.eq_iff_iff,decide_eq_true_eq,ZgP hs h1.2]
 exact ⟨fun h=>h.2.2,fun h=>⟨h2.1.1.1,h1.1,h⟩⟩
theorem Zrw {n i:Nat} {s:List DSpan} (hs:Zdq s=true) (hn:n≤10) (hi:i<n):decide (((i:Int)+1)∈Zco s n)=Zbz s n (i+1):=by
 rw [Bool.eq_iff_iff,decide_eq_true_eq,ZgP hs (by omega)]
 exact ⟨fun h=>h.2.2,fun h=>⟨by omega,by omega,h⟩⟩
theorem Zyq {b:DBox} {k:DKey} {i:Nat} {m:DMail} (h:k.kind=0):k.finds b i m=true:=by rw [ZbK];simp [h]
theorem Zyp {b:DBox} {k:DKey} {i:Nat} {m:DMail} (h:k.kind=1):k.finds b i m=decide (Int.tmod (Int.tdiv m.flags k.flag) 2=1):=by rw [ZbK];simp [h]
theorem Zyo {b:DBox} {k:DKey} {i:Nat} {m:DMail} (h:k.kind=2):k.finds b i m=ZaK m.text k.text:=by rw [ZbK];simp [h]
theorem Zyn {b:DBox} {k:DKey} {i:Nat} {m:DMail} (h:k.kind=3):k.finds b i m=Zbz k.set b.mail.length (i+1):=by rw [ZbK];simp [h]
theorem Zym {b:DBox} {k:DKey} {i:Nat} {m:DMail} (h:k.kind=4):k.finds b i m=Zbz k.set ((b.mail.getLast?.map (·.uid)).getD 0) m.uid:=by rw [ZbK];simp [h]
theorem ZeV {k:DKey} (h:k.allOk=true):(k.kind=2→Zaj k.text=true)∧(k.kind=3∨k.kind=4→Zdq k.set=true)∧(∀y,y∈k.keys→y.allOk=true):=by
 have h2:=h
 rw [ZeE,Bool.and_eq_true] at h2
 refine ⟨fun e=>?_,fun e=>?_,fun y hy=>Zmy h hy⟩
 ·have:=h2.2;simp only [DKey.nodeOk,Bool.and_eq_true] at this;simp [e] at this;exact this.2.1
 ·have:=h2.2;simp only [DKey.nodeOk,Bool.and_eq_true] at this;rcases e with e | e <;> simp [e] at this <;> exact this.2.1
def Zqm (ys:List Int) (n j:Nat):List Bool:=(List.range n).map fun (i:Nat)=>decide ((i:Int)+1∈ys.take j)
theorem Zru {ys:List Int} {n:Nat} : Zqm ys n 0=List.replicate n false:=by
 simp only [Zqm,List.take_zero,List.not_mem_nil,decide_false]
 rw [List.eq_replicate_iff];simp
theorem Zgm {ys:List Int} {n j:Nat} : (Zqm ys n j).length=n:=by simp [Zqm]
theorem Zrv {ys:List Int} {n j:Nat} {y:Int} (hy:ys[j]? = some y) (h1:1≤y) (h2:y≤n):(Zqm ys n j).set (y - 1).toNat true=Zqm ys n (j+1):=by
 apply List.ext_getElem?
 intro i
 rw [List.getElem?_set]
 by_cases hi:i<n
 ·simp only [Zqm,List.getElem?_map,List.getElem?_range hi,Option.map_some,List.length_map,List.length_range,List.take_add_one,hy,Option.toList_some,List.mem_append,List.mem_singleton]
  by_cases e:(y - 1).toNat=i
  ·have e2:(i:Int)+1=y:=by omega
   simp [e,hi,e2]
  ·have e2 : ¬ (i:Int)+1=y:=by omega
   rw [if_neg e];simp [e2]
 ·have e1:(Zqm ys n j)[i]? = none:=List.getElem?_eq_none (by rw [Zgm];omega)
  have e2:(Zqm ys n (j+1))[i]? = none:=List.getElem?_eq_none (by rw [Zgm];omega)
  rw [e1,e2,Zgm];split
  ·split
   ·omega
   ·rfl
  ·rfl
theorem ZuB {b:DBox} {x:DKey} {j:Nat} (hb:Zbq b=true) (hx:x.allOk=true) (h3:x.kind=3) (hj:(Zco x.set b.mail.length).length≤j):Zqm (Zco x.set b.mail.length) b.mail.length j=fnds b x:=by
 apply List.ext_getElem?
 intro i
 by_cases hi:i<b.mail.length
 ·rw [ZdW (List.getElem?_eq_getElem hi)]
  simp only [Zqm,List.getElem?_map,List.getElem?_range hi,Option.map_some,List.take_of_length_le hj]
  rw [Zyn h3,Zrw ((ZeV hx).2.1 (.inl h3)) (ZaL hb).2 hi]
 ·rw [List.getElem?_eq_none (by rw [Zgm];omega),List.getElem?_eq_none (by rw [Zat];omega)]
theorem ZsN {b:DBox} {x:DKey} {k:Nat} (h:k<b.mail.length) :∃v,(fnds b x)[k]? = some v:=⟨_,List.getElem?_eq_getElem (by rw [Zat];exact h)⟩
theorem Zl7 {b:DBox} {x:DKey} {k:Nat} {v:Bool} (h:(fnds b x)[k]? = some v) :∃w,b.mail[k]? = some w∧v=x.finds b k w:=by
 have hl:=(List.getElem?_eq_some_iff.1 h).1
 rw [Zat] at hl
 refine ⟨_,List.getElem?_eq_getElem hl,?_⟩
 rw [ZdW (List.getElem?_eq_getElem hl)] at h
 exact (Option.some.inj h).symm
theorem Zvs {b:DBox} {x y:DKey} {k:Nat} {v:Bool} (h:x.kind=5) (hk:x.keys=[y]) (hv:(fnds b y)[k]? = some v):(fnds b x)[k]? = some (!v):=by
 obtain ⟨w,hw,rfl⟩:=Zl7 hv
 rw [ZdW hw,Zl8 h hk]
theorem ZoN {b:DBox} {x y z:DKey} {k:Nat} {u v:Bool} (h:x.kind=6) (hk:x.keys=[y,z]) (hu:(fnds b y)[k]? = some u) (hv:(fnds b z)[k]? = some v):(fnds b x)[k]? = some (u && v):=by
 obtain ⟨w,hw,rfl⟩:=Zl7 hu
 obtain ⟨w2,hw2,rfl⟩:=Zl7 hv
 rw [hw] at hw2;cases hw2
 rw [ZdW hw,Ziv h hk]
theorem ZsM {b:DBox} {x y z:DKey} {k:Nat} {u v:Bool} (h:x.kind=7) (hk:x.keys=[y,z]) (hu:(fnds b y)[k]? = some u) (hv:(fnds b z)[k]? = some v):(fnds b x)[k]? = some (u || v):=by
 obtain ⟨w,hw,rfl⟩:=Zl7 hu
 obtain ⟨w2,hw2,rfl⟩:=Zl7 hv
 rw [hw] at hw2;cases hw2
 rw [ZdW hw,Zkt h hk]
theorem ZsO {b:DBox} {x y z:DKey} {k:Nat} {u:Bool} (h:x.kind=6) (hk:x.keys=[y,z]) (hl:k<b.mail.length) (hu:(fnds b y)[k]? = some u) (h0:u=false):(fnds b x)[k]? = some false:=by
 obtain ⟨v,hv⟩:=ZsN (b:=b) (x:=z) hl
 rw [ZoN h hk hu hv,h0,Bool.false_and]
theorem Zvr {b:DBox} {x y z:DKey} {k:Nat} {u:Bool} (h:x.kind=7) (hk:x.keys=[y,z]) (hl:k<b.mail.length) (hu:(fnds b y)[k]? = some u) (h0:u=true):(fnds b x)[k]? = some true:=by
 obtain ⟨v,hv⟩:=ZsN (b:=b) (x:=z) hl
 rw [ZsM h hk hu hv,h0,Bool.true_or]
theorem ZxV {v:Int} {xs:List Int} : decide (0≤Zb5 (fun y=>decide (v=y)) xs)=decide (v∈xs):=by
 rw [Bool.eq_iff_iff,decide_eq_true_eq,decide_eq_true_eq,ZoF];simp
theorem Zlm {b:DBox} {x:DKey} (h:Zbq b=false∨ZdE x=false):Zan b x=[]:=by
 rw [Zan,if_neg]
 rintro ⟨h1,h2⟩
 rcases h with h | h
 ·rw [h1] at h;cases h
 ·rw [h2] at h;cases h
end Go.BL
namespace Go.BL
section
variable {P:PJ} {n:Nat} {ops:Array Oper} {i:Nat} {K:Zag} {S:Env} {D:List Deferred} {B:Kn} {L:List Cells}
variable {dst:Option Tmp} {ty:TypeId} {pos:String} {after:Array Edge} {g:Option (Nat × Bool)}
end
end Go.BL
