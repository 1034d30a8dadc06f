/-
  THE WALK'S LOGIC: owned cells and known cells, goroutines started and awaited, calls, loops, data, and plain laws on lists: no program in sight.
-/
import Derived.Test.YthgggppcgbglkaaGreatDoorB0
set_option linter.unusedVariables false
set_option linter.unusedSimpArgs false
set_option linter.unusedSectionVars false
namespace Go.BL
set_option linter.unusedVariables false
structure SlB {α:Type} (B:Kn) (q:Option Addr) (cp w:Nat) (R:Rel α) (xs:List α):Prop where
  rows:Zc6 B q w R xs
  cap:xs.length≤cp
  len:xs.length≤140737488355328
theorem SlB.mono {α:Type} {B B':Kn} {q:Option Addr} {cp w:Nat} {R:Rel α} {xs:List α} (h:SlB B q cp w R xs) (hR:Mono R) (hle:B.le B'):SlB B' q cp w R xs:=⟨h.rows.mono hR hle,h.cap,h.len⟩
theorem SlB.base {α:Type} {B:Kn} {q:Option Addr} {cp w:Nat} {R:Rel α} {xs:List α} (h:SlB B q cp w R xs) {i:Nat} {z:α} (hz:xs[i]? = some z) :∃b o,q=some ⟨b,o,none⟩:=h.rows.base hz
theorem SlB.elem {α:Type} {B:Kn} {b o cp w:Nat} {R:Rel α} {xs:List α} (h:SlB B (some ⟨b,o,none⟩) cp w R xs) {i:Nat} {z:α} (hz:xs[i]? = some z) :∃row,R B row z∧Zaq B b (o+i*w) row:=h.rows.elem hz
theorem SlB.small {α:Type} {B:Kn} {q:Option Addr} {cp w:Nat} {R R':Rel α} {xs:List α} (h:SlB B q cp w R xs) (hl:xs.length≤2000000) (hR :∀x,x∈xs→∀row,R B row x→R' B row x):SlK B q cp w R' xs:=
  ⟨fun i x hi=>by obtain ⟨b,o,row,h1,h2,h3⟩:=h.rows i x hi;exact ⟨b,o,row,h1,hR x (List.mem_of_getElem? hi) row h2,h3⟩,h.cap,hl⟩
def Zid:Rel Str:=fun _ row x=>row=[str x]∧x.length≤140737488355328
theorem Zid.mono:Mono Zid:=fun _ _ _ h=>h
def ZhF:Rel DUser:=fun _ row x=>row=[str x.name,str x.pass,.int .i64 x.quota]∧x.name.length≤140737488355328∧x.pass.length≤140737488355328
theorem ZhF.mono:Mono ZhF:=fun _ _ _ h=>h
def ZeX:Rel DGrant:=fun _ row x=>row=[str x.user,.int .i64 x.rights]∧x.user.length≤140737488355328
theorem ZeX.mono:Mono ZeX:=fun _ _ _ h=>h
def Zgf:Rel DMail:=fun _ row x=>row=[.int .i64 x.uid,.int .i64 x.flags,str x.text]∧x.text.length≤140737488355328
theorem Zgf.mono:Mono Zgf:=fun _ _ _ h=>h
def Zgg:Rel DItem:=fun B row x=>∃q cp,row=[.int .i64 x.id,str x.fr,str x.text,.slice q x.left.length cp]∧SlB B q cp 1 Zid x.left∧x.fr.length≤140737488355328∧x.text.length≤140737488355328
theorem Zgg.mono:Mono Zgg:=by rintro B B' hle row x ⟨q,cp,h1,h2,h3,h4⟩;exact ⟨q,cp,h1,h2.mono Zid.mono hle,h3,h4⟩
def Zdl:Rel DFolder:=fun B row x=>∃q cp q' cp',row=[str x.owner,str x.name,.slice q x.grants.length cp,.int .i64 x.next,.slice q' x.mail.length cp']∧SlB B q cp 2 ZeX x.grants∧SlB B q' cp' 3 Zgf x.mail∧x.owner.length≤140737488355328∧x.name.length≤140737488355328
theorem Zdl.mono:Mono Zdl:=by rintro B B' hle row x ⟨q,cp,q',cp',h1,h2,h3,h4⟩;exact ⟨q,cp,q',cp',h1,h2.mono ZeX.mono hle,h3.mono Zgf.mono hle,h4⟩
def szL {α:Type} (f:α→Nat) (xs:List α):Nat:=xs.length+(xs.map f).sum
def ZeP (xs:List Str):Nat:=szL List.length xs
def ZcP (u:DUser):Nat:=u.name.length+u.pass.length
def Zb6 (g:DGrant):Nat:=g.user.length
def Zdb (m:DMail):Nat:=m.text.length
def Zbl (x:DItem):Nat:=x.fr.length+x.text.length+ZeP x.left
def Zas (f:DFolder):Nat:=f.owner.length+f.name.length+szL Zb6 f.grants+szL Zdb f.mail
def ZcQ (h:DHost):Nat:=h.domain.length+szL ZcP h.users+szL Zas h.folders+szL Zbl h.queue.items
def szI (left:Int) (s:Nat):Int:=if left<s then -1 else left - s
theorem ZbD {left:Int} {s:Nat} (h:left<s):szI left s = -1:=if_pos h
theorem ZlA {left:Int} {s:Nat} (h:s≤left):szI left s=left - s:=if_neg (by omega)
theorem Zb5 {left:Int} {s:Nat} (h:0≤left):szI left s<0↔left<s:=by unfold szI;split <;> omega
theorem Zcr {left:Int} {s:Nat} (h0:0≤left) (h:0≤szI left s):szI left s=left - s∧s≤left:=by unfold szI at *;split at h <;> split <;> omega
theorem ZdP {α:Type} (f:α→Nat) {xs:List α} {k:Nat} {x:α} (hx:xs[k]? = some x):((xs.take (k+1)).map f).sum=((xs.take k).map f).sum+f x:=by
  have:xs.take (k+1)=xs.take k ++ [x]:=by rw [List.take_add_one,hx];rfl
  simp [this]
theorem Zkp {α:Type} (f:α→Nat) (xs:List α) (k:Nat):((xs.take k).map f).sum≤(xs.map f).sum:=by
  conv=>rhs;rw [← List.take_append_drop k xs]
  rw [List.map_append,List.sum_append];omega
theorem ZfW {α:Type} {f:α→Nat} {xs:List α} {left:Int} (h:left<xs.length):szI left (szL f xs) = -1:=ZbD (by unfold szL;omega)
theorem ZfU {α:Type} {f:α→Nat} {xs:List α} {k:Nat} {x:α} {left l:Int} (hx:xs[k]? = some x) (hl:l=left - xs.length - ((xs.take k).map f).sum) (h:l<f x):szI left (szL f xs) = -1:=by
  have h1:=ZdP f hx
  have h2:=Zkp f xs (k+1)
  exact ZbD (by unfold szL;omega)
theorem ZfV {α:Type} {f:α→Nat} {xs:List α} {k:Nat} {left l:Int} (hl:l=left - xs.length - ((xs.take k).map f).sum) (h0:0≤l) (hk:xs.length≤k):szI left (szL f xs)=l:=by
  rw [List.take_of_length_le hk] at hl
  rw [ZlA (by unfold szL;omega)]
  unfold szL;omega
theorem Zau {α:Type} {f:α→Nat} {xs:List α} {n:Nat} (h:szL f xs≤n):xs.length≤n∧∀x,x∈xs→f x≤n:=by
  unfold szL at h
  refine ⟨by omega,fun x hx=>?_⟩
  have:f x≤(xs.map f).sum:=by
    clear h
    induction xs with
    | nil=>cases hx
    | cons y ys ih=>
      simp only [List.map_cons,List.sum_cons]
      rcases List.mem_cons.1 hx with rfl | hx
      · omega
      · have:=ih hx;omega
  omega
theorem Zsz {x:DItem} {n:Nat} (h:Zbl x≤n):ZeP x.left≤n:=by unfold Zbl at h;omega
theorem Zhc {x:DFolder} {n:Nat} (h:Zas x≤n):szL Zb6 x.grants≤n∧szL Zdb x.mail≤n:=by unfold Zas at h;omega
theorem ZkZ {x:DHost} {n:Nat} (h:ZcQ x≤n):x.domain.length≤n∧szL ZcP x.users≤n∧szL Zas x.folders≤n∧szL Zbl x.queue.items≤n:=by unfold ZcQ at h;omega
theorem Zr8 {xs:List Str} {n:Nat} (h:ZeP xs≤n):xs.length≤n:=(Zau h).1
theorem Zmp {B:Kn} {q:Option Addr} {cp:Nat} {xs:List Str} (h:SlB B q cp 1 Zid xs) (hs:ZeP xs≤1048576):SlK B q cp 1 Zc5 xs:=
  h.small (by have:=(Zau hs).1;omega) fun x hx row hr=>⟨hr.1,by have:=(Zau hs).2 x hx;omega⟩
theorem Zkk {B:Kn} {q:Option Addr} {cp:Nat} {xs:List DUser} (h:SlB B q cp 3 ZhF xs) (hs:szL ZcP xs≤1048576):SlK B q cp 3 Zn xs:=
  h.small (by have:=(Zau hs).1;omega) fun x hx row hr=>by
    have:=(Zau hs).2 x hx
    unfold ZcP at this
    exact ⟨hr.1,by omega,by omega⟩
theorem ZjV {B:Kn} {q:Option Addr} {cp:Nat} {xs:List DGrant} (h:SlB B q cp 2 ZeX xs) (hs:szL Zb6 xs≤1048576):SlK B q cp 2 ZW xs:=
  h.small (by have:=(Zau hs).1;omega) fun x hx row hr=>by
    have:=(Zau hs).2 x hx
    unfold Zb6 at this
    exact ⟨hr.1,by omega⟩
theorem ZkN {B:Kn} {q:Option Addr} {cp:Nat} {xs:List DMail} (h:SlB B q cp 3 Zgf xs) (hs:szL Zdb xs≤1048576):SlK B q cp 3 ZZ xs:=
  h.small (by have:=(Zau hs).1;omega) fun x hx row hr=>by
    have:=(Zau hs).2 x hx
    unfold Zdb at this
    exact ⟨hr.1,by omega⟩
theorem ZkU {B:Kn} {q:Option Addr} {cp:Nat} {xs:List DItem} (h:SlB B q cp 4 Zgg xs) (hs:szL Zbl xs≤1048576):SlK B q cp 4 Zu xs:=
  h.small (by have:=(Zau hs).1;omega) fun x hx row hr=>by
    have:=(Zau hs).2 x hx
    unfold Zbl at this
    obtain ⟨q,cp,h1,h2,h3,h4⟩:=hr
    exact ⟨q,cp,h1,Zmp h2 (by omega),by omega,by omega⟩
theorem ZiK {B:Kn} {q:Option Addr} {cp:Nat} {xs:List DFolder} (h:SlB B q cp 5 Zdl xs) (hs:szL Zas xs≤1048576):SlK B q cp 5 Zj xs:=
  h.small (by have:=(Zau hs).1;omega) fun x hx row hr=>by
    have:=(Zau hs).2 x hx
    unfold Zas at this
    obtain ⟨q,cp,q',cp',h1,h2,h3,h4,h5⟩:=hr
    exact ⟨q,cp,q',cp',h1,ZjV h2 (by omega),ZkN h3 (by omega),by omega,by omega⟩
end Go.BL
namespace Go.BL
open Go.Conc (G)
set_option linter.unusedVariables false
def Z3 (Tg Tm:TypeId):ZfQ DFolder:=fun row x ins=>∃q c q' c' i1 i2,row=[str x.owner,str x.name,.slice q x.grants.length c,.int .i64 x.next,.slice q' x.mail.length c']∧ins=i1 ++ i2∧ZU Kn.none i1 q c Tg 2 ZW x.grants∧ZU Kn.none i2 q' c' Tm 3 ZZ x.mail∧
  x.owner.length≤2000000∧x.name.length≤2000000∧x.grants.length≤2000000∧x.mail.length≤2000000
theorem Z3.known {Tg Tm:TypeId} {B:Kn} {row:List Value} {x:DFolder} {ins:Cells} (h:Z3 Tg Tm row x ins) (hm :∀q,q∈ins→B.mem q.1=some q.2):Zj B row x:=by
  obtain ⟨q,c,q',c',i1,i2,h1,rfl,h2,h3,h4,h5,h6,h7⟩:=h
  exact ⟨q,c,q',c',h1,⟨h2.rowsF ZW.any fun p hp=>hm p (List.mem_append.2 (.inl hp)),h2.cap,h6⟩,⟨h3.rowsF ZZ.any fun p hp=>hm p (List.mem_append.2 (.inr hp)),h3.cap,h7⟩,h4,h5⟩
theorem All3.set {α:Type} {R:ZfQ α} {rows:List (List Value)} {xs:List α} {s:Cells} (h:All3 R rows xs s) {row:List Value} {z:α} {ins:Cells} (hz:R row z ins) :∀k,k<xs.length→∃s' gl,All3 R (rows.set k row) (xs.set k z) s'∧(s ++ ins).Perm (s' ++ gl):=by
  induction h with
  | nil=>intro k hk;simp at hk
  | @cons row0 x ins0 rest rows xs h1 h2 ih=>
    intro k hk
    cases k with
    | zero=>
      refine ⟨ins ++ rest,ins0,.cons hz h2,?_⟩
      exact Zn8 fun f g h0 ha hc=>by simp only [ha];omega
    | succ k=>
      obtain ⟨s',gl,h3,h4⟩:=ih k (by simpa using hk)
      refine ⟨ins0 ++ s',gl,.cons h1 h3,?_⟩
      rw [List.append_assoc,List.append_assoc]
      exact List.Perm.append_left _ h4
theorem All3.zeros {α:Type} {R:ZfQ α} {row:List Value} {d:α} (h:R row d []) :∀m,All3 R (List.replicate m row) (List.replicate m d) []
  | 0=>.nil
  | m+1=>by rw [List.replicate_succ,List.replicate_succ];exact All3.cons (ins:=[]) h (All3.zeros h m)
theorem ZaM.zeros {α:Type} {b:Nat} {T:TypeId} {R:ZfQ α} {zs:List Value} {d:α} {m c w:Nat} (hw:zs.length=w) (hR:R zs d []) (hmc:m≤c):ZaM (Zae b (zrow zs c) T) (some ⟨b,0,Option.none⟩) c T w R (List.replicate m d):=by
  refine ⟨List.replicate m zs,_,[],All3.zeros hR m,fun r hr=>by rw [(List.mem_replicate.1 hr).2];exact hw,by rw [List.append_nil],?_,.inr ⟨b,_,rfl,by rw [ZbQ,hw],?_,rfl,by rw [List.length_replicate];exact hmc⟩⟩
  · rw [List.length_replicate]
    exact (ZbQ (z:=zs) (c:=m)).trans (by rw [hw])
  · rw [List.length_replicate]
    have e:zrow zs c=zrow zs m ++ zrow zs (c - m):=by
      simp only [zrow,← List.flatten_append,List.replicate_append_replicate]
      rw [show m+(c - m)=c from by omega]
    rw [e,List.take_append_of_le_length (by rw [ZbQ,hw];exact Nat.le_refl _),List.take_of_length_le (by rw [ZbQ,hw];exact Nat.le_refl _)]
    rfl
theorem ZaM.ptr {α:Type} {l:Cells} {p:Option Addr} {c:Nat} {T:TypeId} {w:Nat} {R:ZfQ α} {xs:List α} (h:ZaM l p c T w R xs) (hx:0<xs.length) :∃b,p=some ⟨b,0,Option.none⟩:=by
  obtain ⟨rows,blk,ins,_,_,_,_,⟨_,h0,_,_⟩ | ⟨b,arr,rfl,_⟩⟩:=h
  · omega
  · exact ⟨b,rfl⟩
theorem ZfZ :∀{l vs:List Value},l.length=vs.length→Z6 l 0 vs=vs
  | l,[],h=>by rw [Zbs];exact List.eq_nil_of_length_eq_zero h
  | [],v :: vs,h=>by simp at h
  | x :: l,v :: vs,h=>by
    have:=ZfZ (l:=l) (vs:=vs) (by simpa using h)
    simp [Z6,this]
section
variable {P:PJ} {n:Nat} {ops:Array Oper} {i:Nat} {K:ZaJ} {S:Env} {D:List Deferred} {B:Kn} {L:List Cells} {Q:Exit→Zaa}
variable {dst:Option Tmp} {ty:TypeId} {pos:String} {after:Array Edge} {g:Option (Nat × Bool)}
theorem ZkC {o:Oper} {L':List Cells} {K':ZaJ} (hp:L.flatten.Perm L'.flatten) (h:opX P n ops i o K' S D B L') (hk :∀v D' B' L₁,B.le B'→K' v D' B' L₁→∃L₂ gl,L₁.flatten.Perm (L₂.flatten ++ gl)∧K v D' B' L₂):opX P n ops i o K S D B L:=⟨h.1,fun C todo k T ho hn hT hA=>
  C.X.perm (hp.append_right _) (h.2 C todo k T ho hn hT fun v D' B' L₁ hle hK=>by
    obtain ⟨L₂,gl,hp2,hK2⟩:=hk v D' B' L₁ hle hK
    refine C.X.drop (r:=L₂.flatten ++ C.F) (gl:=gl) ((hp2.append_right _).trans ?_) (hA v D' B' L₂ hle hK2)
    rw [List.append_assoc,List.append_assoc]
    exact List.Perm.append_left _ List.perm_append_comm)⟩
theorem Ztl {α:Type} {R:ZfQ α} {xs:List α} (z:α) {t T:TypeId} {x y:Operand} {v:Value} {row:List Value} {sz k c b:Nat} {l:Cells} {p:Option Addr} {inss r:List Cells} (j:Nat) (ks:List Nat) (hpk:ZaC L (j :: ks)=some (l :: inss,r)) (hnd:Zee (j :: ks)=true) (hv:ZaM l p c T sz R xs) (hp:p=some ⟨b,0,Option.none⟩) (hk:k<xs.length) (hg:Zo ops S g=some true) (hd:Zv n dst=true) (hsz:ZR P t=some sz)
    (hx:ev S x=some (ptr ⟨b,k*sz,Option.none⟩)) (hy:ev S y=some v) (hvc:v.cells=row.toArray) (ho:row.all ZfS=true) (hrl:row.length=sz) (ins0:Cells) (hi0:inss.flatten=ins0) (hr:R row z ins0)
    (h :∀l',ZaM l' p c T sz R (xs.set k z)→K undef D B (Zcl r (j :: ks) (l' :: inss.map fun _=>[]))):opX P n ops i ⟨dst,.store t x y,ty,pos,after,g⟩ K S D B L:=by
  subst hp
  subst hi0
  obtain ⟨rows,blk,ins,h1,h2,h3,hl1,⟨hc,_⟩ | ⟨b',arr,e,ha,ht,rfl,hmc⟩⟩:=hv
  · cases hc
  · cases e
    have hpp:=Zag (j :: ks) L (l :: inss) r hpk
    have hb1:k*sz+row.length≤arr.length:=by
      have:(k+1)*sz≤c*sz:=Nat.mul_le_mul_right sz (by omega)
      rw [Nat.succ_mul] at this;omega
    obtain ⟨s',gl,a1,a2⟩:=h1.set hr k hk
    refine ZkC (L':=[Zae b arr T ++ ins,inss.flatten ++ r.flatten]) (K':=fun u D' B' L₁=>u=undef∧D'=D∧B'=B∧L₁=[Zae b (Z6 arr (k*sz) row) T ++ ins,inss.flatten ++ r.flatten]) ?_ ?_ ?_
    · refine hpp.trans ?_
      simp only [List.flatten_cons,List.flatten_nil,List.append_nil,List.append_assoc]
      refine (h3.append_right _).trans ?_
      rw [List.append_assoc]
    · exact Z4 row 0 (Z6 arr (k*sz) row) hg hd (by rw [hrl];exact hsz) hx hy hvc ho (T:=T) (r:=ins) rfl rfl (by rw [Nat.ble_eq];exact hb1) rfl ⟨rfl,rfl,rfl,rfl⟩
    · rintro u D' B' L₁ hle ⟨rfl,rfl,rfl,rfl⟩
      have hlen:k<rows.length:=by rw [h1.len];exact hk
      have hnew:ZaM (Zae b (Z6 arr (k*sz) row) T ++ s') (some ⟨b,0,Option.none⟩) c T sz R (xs.set k z):=by
        refine ⟨rows.set k row,_,s',a1,fun r' hr'=>?_,.refl _,?_,.inr ⟨b,_,rfl,by rw [Z2];exact ha,?_,rfl,by rw [List.length_set];exact hmc⟩⟩
        · rcases List.mem_or_eq_of_mem_set hr' with hr' | rfl
          · exact h2 r' hr'
          · exact hrl
        · rw [ZcM (w:=sz),List.length_set,List.length_set,h1.len]
          intro r' hr'
          rcases List.mem_or_eq_of_mem_set hr' with hr' | rfl
          · exact h2 r' hr'
          · exact hrl
        · rw [List.length_set]
          have hr1:rows[k]? = some rows[k]:=List.getElem?_eq_getElem hlen
          have hrow0:rows[k].length=sz:=h2 _ (List.getElem_mem hlen)
          have e:=ZcH (us:=row) (off:=0) h2 hr1 (by omega)
          rw [ZfZ (by rw [hrow0,hrl]),Nat.add_zero] at e
          have hb2:k*sz+row.length≤xs.length*sz:=by
            have:(k+1)*sz≤xs.length*sz:=Nat.mul_le_mul_right sz hk
            rw [Nat.succ_mul] at this;omega
          have hb3:xs.length*sz≤arr.length:=by rw [ha];exact Nat.mul_le_mul_right sz hmc
          rw [ZcS _ _ _ _ hb2 hb3,ht,e]
      refine ⟨_,gl,?_,h _ hnew⟩
      have hq:=ZbE ((Zae b (Z6 arr (k*sz) row) T ++ s') :: inss.map fun _=>[]) r (j :: ks) (ZbG hnd) (fun jj hj=>ZbF (j :: ks) L (l :: inss) r hpk jj (.inr hj))
      have hnil:((inss.map fun _=>([]:Cells))).flatten=[]:=by
        clear hpk hpp hq hr h
        induction inss with
        | nil=>rfl
        | cons a as ih=>simp
      rw [List.flatten_cons,hnil,List.append_nil] at hq
      simp only [List.flatten_cons,List.flatten_nil,List.append_nil]
      refine List.Perm.trans ?_ (hq.append_right gl)
      have e1:(Zae b (Z6 arr (k*sz) row) T ++ ins ++ (inss.flatten ++ r.flatten)).Perm (Zae b (Z6 arr (k*sz) row) T ++ ((ins ++ inss.flatten) ++ r.flatten)):=by simp only [List.append_assoc];exact .refl _
      have e2:(Zae b (Z6 arr (k*sz) row) T ++ ((ins ++ inss.flatten) ++ r.flatten)).Perm (Zae b (Z6 arr (k*sz) row) T ++ ((s' ++ gl) ++ r.flatten)):=List.Perm.append_left _ (a2.append_right _)
      refine (e1.trans e2).trans ?_
      exact Zn8 fun f g h0 ha hc=>by simp only [ha];omega
end
section
variable {P:PJ} {n:Nat} {ops:Array Oper} {i:Nat} {K:ZaJ} {S:Env} {D:List Deferred} {B BV:Kn} {L:List Cells}
variable {dst:Option Tmp} {ty:TypeId} {pos:String} {after:Array Edge} {g:Option (Nat × Bool)}
theorem ZpN {α:Type} {R:Rel α} {xs:List α} (z:α) {t T:TypeId} {x y:Operand} {v:Value} {row:List Value} {l:Cells} {p:Option Addr} {c sz k b:Nat} (j:Nat) (hj:L[j]? = some l) (hv:ZU BV l p c T sz R xs) (hp:p=some ⟨b,0,none⟩) (hk:k<xs.length) (hg:Zo ops S g=some true) (hd:Zv n dst=true) (hsz:ZR P t=some sz)
    (hx:ev S x=some (ptr ⟨b,k*sz,none⟩)) (hy:ev S y=some v) (hvc:v.cells=row.toArray) (ho:row.all ZfS=true) (hrl:row.length=sz) (hr:R BV row z)
    (h :∀l',ZU BV l' p c T sz R (xs.set k z)→K undef D B (L.set j l')):opX P n ops i ⟨dst,.store t x y,ty,pos,after,g⟩ K S D B L:=by
  obtain ⟨rows,h1,h2,h3,⟨rfl,_,_,_⟩ | ⟨b',arr,rfl,ha,ht,rfl,hmc⟩⟩:=hv
  · cases hp
  · cases hp
    have hlen:k<rows.length:=by rw [h1.len];exact hk
    have hr1:rows[k]? = some rows[k]:=List.getElem?_eq_getElem hlen
    have hrow0:rows[k].length=sz:=h2 _ (List.getElem_mem hlen)
    have hb1:k*sz+row.length≤xs.length*sz:=by
      have:(k+1)*sz≤xs.length*sz:=Nat.mul_le_mul_right sz hk
      rw [Nat.succ_mul] at this;omega
    have hb2:xs.length*sz≤arr.length:=by rw [ha];exact Nat.mul_le_mul_right sz hmc
    refine Z4 row j (Z6 arr (k*sz) row) hg hd (by rw [hrl];exact hsz) hx hy hvc ho (r:=[]) hj rfl (by rw [Nat.ble_eq];show k*sz+row.length≤arr.length;omega) rfl (h _ ?_)
    have e:=ZcH (us:=row) (off:=0) h2 hr1 (by omega)
    rw [ZfZ (by rw [hrow0,hrl]),Nat.add_zero] at e
    refine ⟨rows.set k row,h1.set hr k,fun r hr'=>?_,?_,.inr ⟨b,_,rfl,by rw [Z2];exact ha,?_,rfl,by rw [List.length_set];exact hmc⟩⟩
    · rcases List.mem_or_eq_of_mem_set hr' with hr' | rfl
      · exact h2 r hr'
      · exact hrl
    · rw [← e,Z2,List.length_set];exact h3
    · rw [List.length_set,ZcS _ _ _ _ hb1 hb2,ht,e]
end
theorem ZU.ptr {α:Type} {B:Kn} {l:Cells} {p:Option Addr} {c:Nat} {T:TypeId} {w:Nat} {R:Rel α} {xs:List α} (h:ZU B l p c T w R xs) (hx:0<xs.length) :∃b,p=some ⟨b,0,none⟩:=by
  obtain ⟨rows,_,_,_,⟨_,h0,_,_⟩ | ⟨b,arr,rfl,_⟩⟩:=h
  · omega
  · exact ⟨b,rfl⟩
def fill {α:Type} (xs:List α) (d:α) (k:Nat):List α:=xs.take k ++ List.replicate (xs.length - k) d
theorem ZeA {α:Type} {xs:List α} {d:α} {k:Nat} (h:k≤xs.length):(fill xs d k).length=xs.length:=by
  rw [fill,List.length_append,List.length_take,List.length_replicate];omega
theorem ZdC {α:Type} {xs:List α} {d:α} : fill xs d 0=List.replicate xs.length d:=by simp [fill]
theorem ZeB {α:Type} {xs:List α} {d:α} {k:Nat} (h:xs.length≤k):fill xs d k=xs:=by
  rw [fill,List.take_of_length_le h,show xs.length - k=0 from by omega];simp
theorem ZdD {α:Type} {xs:List α} {d z:α} {k:Nat} (hz:xs[k]? = some z):(fill xs d k).set k z=fill xs d (k+1):=by
  have hk:=(List.getElem?_eq_some_iff.1 hz).1
  have e1:(xs.take k).length=k:=by rw [List.length_take];omega
  rw [fill,fill,List.set_append_right _ _ (by omega),e1,Nat.sub_self,List.take_add_one,hz,show xs.length - k=(xs.length - (k+1))+1 from by omega,List.replicate_succ]
  simp
theorem Zz.borrowL {P:PJ} {f:FuncId} {args:List Value} {B:Kn} {ls Ls:List Cells} {Post:Value→Kn→List Cells→Prop}
    (h:(∀p,p∈ls.flatten→(B.add ls.flatten).mem p.1=some p.2)→Zz P f args (B.add ls.flatten) Ls Post) :
    Zz P f args B (ls ++ Ls) (fun v B' Ls'=>∃B₂ Ls₂,Ls'=ls ++ Ls₂∧B'=B₂.minus ls.flatten∧(B.add ls.flatten).le B₂∧(∀p,p∈ls.flatten→(B.add ls.flatten).mem p.1=some p.2)∧(B.add ls.flatten).minus ls.flatten=B∧Post v B₂ Ls₂):=fun X kind c cs F hk hA=>by
  have key:=Zz.borrow (l:=ls.flatten) (Ls:=Ls) h X kind c cs F hk fun v B' Ls' hle ⟨B₂,Ls₂,h1,h2,h3,h4,h5,h6⟩=>by
    have:=hA v B' (ls ++ Ls₂) hle ⟨B₂,Ls₂,rfl,h2,h3,h4,h5,h6⟩
    subst h1
    rw [List.flatten_cons]
    rwa [List.flatten_append] at this
  rw [List.flatten_cons] at key
  rwa [List.flatten_append]
section
variable {P:PJ} {C:Cx P} {k:List Item} {n:Nat} {ops:Array Oper} {i:Nat} {S:Env} {D:List Deferred} {B BV:Kn} {L:List Cells} {Q:Exit→Zaa}
variable {α:Type} {xs:List α} {l:Cells} {p:Option Addr} {cp:Nat} {T:TypeId} {w:Nat}
theorem Zw8 {R:Rel α} {B':Kn} (hv:ZU BV l p cp T w R xs) (hA:Zni R) (hl:xs.length≤2000000) (hm :∀q,q∈l→B'.mem q.1=some q.2):SlK B' p cp w R xs:=⟨hv.rowsF hA hm,hv.cap,hl⟩
theorem Zry {R:Rel α} {o:Oper} {K:Zaa} (j:Nat) (hj:L[j]? = some l) (hv:ZU BV l p cp T w R xs) (hA:Zni R) (hl:xs.length≤2000000) (h :∀B',B.le B'→SlK B' p cp w R xs→opW P n ops i o K S D B' (L.set j [])):opW P n ops i o K S D B L:=fun C todo k T ho hn hT hA'=>by
  obtain ⟨r,h1,h2⟩:=ZT C.F [] hj
  exact C.X.publish rfl h1 fun B' hle hm=>C.X.perm (by simpa using h2.symm) (h B' hle (Zw8 hv hA hl hm) C todo k T ho hn hT fun S' D' B'' L' T' hle' hq=>hA' S' D' B'' L' T' (hle.trans hle') hq)
theorem ZuO {R:Rel α} {I:Kn→List Cells→Prop} {ℓ:List Nat} {K:Zaa} (j:Nat) (hj:L[j]? = some l) (hv:ZU BV l p cp T w R xs) (hA:Zni R) (hl:xs.length≤2000000) (hI' :∀B',B.le B'→I B' (L.set j []))
    (h :∀B',B.le B'→SlK B' p cp w R xs→Za8 C k n ops I ℓ K S D B' (L.set j [])):Za8 C k n ops I ℓ K S D B L:=fun T ex pend π a1 a2 a3 a4 a5 a6 a7 a8 a9 hI hA'=>by
  obtain ⟨r,h1,h2⟩:=ZT C.F [] hj
  exact C.X.publish rfl h1 fun B' hle hm=>C.X.perm (by simpa using h2.symm) (h B' hle (Zw8 hv hA hl hm) T ex pend π a1 a2 a3 a4 a5 a6 a7 a8 a9 (hI' B' hle) fun S' D' B'' L' T' hle' hq=>hA' S' D' B'' L' T' (hle.trans hle') hq)
theorem ZlJ {R:ZfQ α} {R':Rel α} {o:Oper} {K:Zaa} (j:Nat) (hj:L[j]? = some l) (hv:ZaM l p cp T w R xs) (hR :∀{B:Kn} {row:List Value} {x:α} {ins:Cells},R row x ins→(∀q,q∈ins→B.mem q.1=some q.2)→R' B row x) (hM:Mono R') (hl:xs.length≤2000000)
    (h :∀B',B.le B'→SlK B' p cp w R' xs→opW P n ops i o K S D B' (L.set j [])):opW P n ops i o K S D B L:=fun C todo k T ho hn hT hA'=>by
  obtain ⟨r,h1,h2⟩:=ZT C.F [] hj
  exact C.X.publish rfl h1 fun B' hle hm=>C.X.perm (by simpa using h2.symm) (h B' hle (hv.known (fun _ _ _ a b=>hR a b) hM hm hl) C todo k T ho hn hT fun S' D' B'' L' T' hle' hq=>hA' S' D' B'' L' T' (hle.trans hle') hq)
theorem ZrO {R:ZfQ α} {R':Rel α} {I:Kn→List Cells→Prop} {ℓ:List Nat} {K:Zaa} (j:Nat) (hj:L[j]? = some l) (hv:ZaM l p cp T w R xs) (hR :∀{B:Kn} {row:List Value} {x:α} {ins:Cells},R row x ins→(∀q,q∈ins→B.mem q.1=some q.2)→R' B row x) (hM:Mono R') (hl:xs.length≤2000000) (hI' :∀B',B.le B'→I B' (L.set j []))
    (h :∀B',B.le B'→SlK B' p cp w R' xs→Za8 C k n ops I ℓ K S D B' (L.set j [])):Za8 C k n ops I ℓ K S D B L:=fun T ex pend π a1 a2 a3 a4 a5 a6 a7 a8 a9 hI hA'=>by
  obtain ⟨r,h1,h2⟩:=ZT C.F [] hj
  exact C.X.publish rfl h1 fun B' hle hm=>C.X.perm (by simpa using h2.symm) (h B' hle (hv.known (fun _ _ _ a b=>hR a b) hM hm hl) T ex pend π a1 a2 a3 a4 a5 a6 a7 a8 a9 (hI' B' hle) fun S' D' B'' L' T' hle' hq=>hA' S' D' B'' L' T' (hle.trans hle') hq)
end
end Go.BL
namespace Go.BL
open Go.ChangeShapes Go.WideShapes Go.ChangeAt Go.RowKit
set_option linter.unusedVariables false
theorem ZjC {α β:Type} {f:α→Option β} :∀{xs:List α} {ys:List β},xs.mapM f=some ys→ys.length=xs.length∧∀(i:Nat) (x:α),xs[i]? = some x→f x=ys[i]?
  | [],ys,h=>by
    simp only [List.mapM_nil,Option.pure_def,Option.some.injEq] at h
    subst h;simp
  | x :: xs,ys,h=>by
    simp only [List.mapM_cons,Option.bind_eq_bind,Option.pure_def,Option.bind_eq_some_iff,Option.some.injEq] at h
    obtain ⟨y,hy,zs,hz,rfl⟩:=h
    obtain ⟨h1,h2⟩:=ZjC hz
    refine ⟨by simp [h1],fun i z hi=>?_⟩
    cases i with
    | zero=>simp only [List.getElem?_cons_zero,Option.some.injEq] at hi;subst hi;simpa using hy
    | succ i=>simpa using h2 i z (by simpa using hi)
theorem Zpq {w:World} {a:Addr} {n:Nat} {cs:List Value} (h:w.cells? 0 a n=some cs):cs.length=n∧∀i,i<n→w.cell? (a.add i)=cs[i]?:=by
  unfold World.cells? at h
  rw [if_pos (Nat.zero_le _)] at h
  obtain ⟨h1,h2⟩:=ZjC h
  exact ⟨by simpa using h1,fun i hi=>h2 i i (by simp [hi])⟩
section
variable {H:Type} (enc:TypeId × Value→H) (P:Program) (W:World)
def ZdH (t:TypeId) (p:List Value→Prop):Prop:=∀(fuel:Nat) (cs:List Value) (d:DataW H) (ps:List MemPlace),DataW.trod enc P W 0 (fun _=>true) true fuel t cs=some (d,ps)→(∀m,m∈d.weights P t→m≤reachBytes)→p cs
def Zcp {α:Type} (t:TypeId) (R:Rel α):Prop:=ZdH enc P W t fun cs=>∃x,R (Za1 W) cs x
def ZdG {α:Type} (w:Nat) (R:Rel α):Rel (List α):=fun B row xs=>∃q cp,row=[.slice q xs.length cp]∧SlB B q cp w R xs
def Parts:List (List Value→Prop)→List Value→Prop
  | [],cs=>cs=[]
  | p :: ps,cs=>∃a b,cs=a ++ b∧p a∧Parts ps b
def ZeC (P:Program):List Field→Nat→Nat→Bool
  | [],off,n=>off == n
  | f :: fs,off,n=>f.offset == off && ZeC P fs (off+P.cellsOf f.type) n
end
section
variable {H:Type} {enc:TypeId × Value→H} {P:Program} {W:World}
theorem ZdH.mono {t:TypeId} {p p':List Value→Prop} (h:ZdH enc P W t p) (hp :∀cs,p cs→p' cs):ZdH enc P W t p':=fun fuel cs d ps ht hw=>hp cs (h fuel cs d ps ht hw)
theorem Zoc {t:TypeId} (ht:P.underlying t=some (.int .i64)):Zcp enc P W t Zdo:=fun fuel cs d ps h _=>by
  cases fuel with
  | zero=>simp [DataW.trod] at h
  | succ n=>
    unfold DataW.trod at h
    rw [ht] at h
    split at h <;> simp_all
    rename_i he
    subst he
    exact ⟨_,rfl⟩
theorem Zob {t:TypeId} (ht:P.underlying t=some .string):Zcp enc P W t Zid:=fun fuel cs d ps h hw=>by
  cases fuel with
  | zero=>simp [DataW.trod] at h
  | succ n=>
    unfold DataW.trod at h
    rw [ht] at h
    split at h <;> simp_all
    rename_i s
    obtain ⟨_,rfl,_⟩:=h
    have h1:=hw s.data.toList.length (by simp [DataW.weights])
    refine ⟨s.data.toList,rfl,?_⟩
    unfold reachBytes at h1
    omega
theorem Zqh {fs:List Field} {ps:List (List Value→Prop)} {n off:Nat} (hf:ZeC P fs off n=true) {cs:List Value} (hl:cs.length=n) (hlen:fs.length=ps.length)
    (h :∀(i:Nat) (f:Field) (p:List Value→Prop),fs[i]? = some f→ps[i]? = some p→p ((cs.drop f.offset).take (P.cellsOf f.type))):Parts ps (cs.drop off):=by
  induction fs generalizing ps off with
  | nil=>
    simp only [ZeC,beq_iff_eq] at hf
    cases ps with
    | nil=>show cs.drop off=[];rw [List.drop_eq_nil_iff];omega
    | cons p ps=>simp at hlen
  | cons f fs ih=>
    simp only [ZeC,Bool.and_eq_true,beq_iff_eq] at hf
    cases ps with
    | nil=>simp at hlen
    | cons p ps=>
      refine ⟨(cs.drop off).take (P.cellsOf f.type),(cs.drop off).drop (P.cellsOf f.type),(List.take_append_drop _ _).symm,?_,?_⟩
      · have:=h 0 f p rfl rfl
        rwa [hf.1] at this
      · rw [List.drop_drop]
        exact ih hf.2 (by simpa using hlen) fun i f' p' h1 h2=>h (i+1) f' p' (by simpa using h1) (by simpa using h2)
theorem ZcN :∀{ts:List TypeId} {ds:List (DataW H)} {i:Nat} {t:TypeId} {d:DataW H},ts[i]? = some t→ds[i]? = some d→∀m,m∈d.weights P t→m∈DataW.weightsEach P ts ds
  | t :: ts,d :: ds,0,t',d',h1,h2,m,hm=>by
    simp only [List.getElem?_cons_zero,Option.some.injEq] at h1 h2
    subst h1;subst h2
    simp only [DataW.weightsEach,List.mem_append];exact .inl hm
  | t :: ts,d :: ds,i+1,t',d',h1,h2,m,hm=>by
    simp only [DataW.weightsEach,List.mem_append];exact .inr (ZcN (by simpa using h1) (by simpa using h2) m hm)
  | [],_,_,_,_,h1,_,_,_=>by simp at h1
  | _ :: _,[],_,_,_,_,h2,_,_=>by simp at h2
theorem ZeN {e:TypeId} :∀{ds:List (DataW H)} {i:Nat} {d:DataW H},ds[i]? = some d→∀m,m∈d.weights P e→m∈DataW.weightsAll P e ds
  | d :: ds,0,d',h2,m,hm=>by
    simp only [List.getElem?_cons_zero,Option.some.injEq] at h2
    subst h2
    simp only [DataW.weightsAll,List.mem_append];exact .inl hm
  | d :: ds,i+1,d',h2,m,hm=>by
    simp only [DataW.weightsAll,List.mem_append];exact .inr (ZeN (by simpa using h2) m hm)
  | [],_,_,h2,_,_=>by simp at h2
theorem Zjs {t:TypeId} {fs:Array Field} (ht:P.underlying t=some (.struct fs)) (ps:List (List Value→Prop)) (hf:ZeC P fs.toList 0 (P.cellsOf t)=true) (hlen:fs.toList.length=ps.length)
    (h :∀(i:Nat) (f:Field) (p:List Value→Prop),fs.toList[i]? = some f→ps[i]? = some p→ZdH enc P W f.type p):ZdH enc P W t (Parts ps):=fun fuel cs d pl htr hw=>by
  obtain ⟨xs,n,rfl,hx,hl,hxl,hel⟩:=DataW.trod_struct ht htr
  simp only [Prod.mk.injEq] at hx
  obtain ⟨rfl,_⟩:=hx
  have:=Zqh (ps:=ps) hf hl hlen fun i f p h1 h2=>by
    have h3:=hel i f (by simpa using h1)
    have hi:i<xs.length:=by
      have:=(List.getElem?_eq_some_iff.1 h1).1
      simp only [Array.length_toList] at this
      omega
    rw [List.getElem?_eq_getElem hi] at h3
    rcases hxi:xs[i] with ⟨d,pl'⟩
    refine h i f p h1 h2 n _ d pl' (by rw [h3,hxi]) fun m hm=>hw m ?_
    simp only [DataW.weights,ht]
    exact ZcN (i:=i) (t:=f.type) (d:=d) (by simp [h1]) (by simp [List.getElem?_eq_getElem hi,hxi]) m hm
  simpa using this
theorem Zb8 {α:Type} {t e:TypeId} {w:Nat} {R:Rel α} (ht:P.underlying t=some (.slice e)) (hc:P.cellsOf e=w) (hb:0<P.bytesOf e) (hw0:0<w) (h:Zcp enc P W e R):Zcp enc P W t (ZdG w R):=fun fuel cs d pl htr hw=>by
  rcases DataW.trod_slice ht htr with ⟨rfl,_⟩ | ⟨a,len,cap,elems,rest,n,rfl,rfl,hx,_,hl,hm,hlen,hel,_,_⟩
  · exact ⟨[],none,0,rfl,⟨fun i x hi=>by simp at hi,Nat.le_refl _,Nat.zero_le _⟩⟩
  · simp only [Prod.mk.injEq] at hx
    obtain ⟨rfl,_⟩:=hx
    have hlen2:len≤140737488355328:=by
      have:=hw ((elems.length+rest.length)*P.bytesOf e) (by simp [DataW.weights,ht])
      have h2:elems.length+rest.length≤(elems.length+rest.length)*P.bytesOf e:=Nat.le_mul_of_pos_right _ hb
      unfold reachBytes at this
      omega
    have each :∀i,i<len→∃x row,R (Za1 W) row x∧row.length=w∧∀j,j<w→W.cell? ((a.add (i*w)).add j)=row[j]?:=fun i hi=>by
      have h1:=hel i hi
      have hi':i<elems.length:=by omega
      rw [List.getElem?_eq_getElem hi'] at h1
      obtain ⟨row,hr1,hr2⟩:=Option.bind_eq_some_iff.1 h1
      rw [hc] at hr1
      obtain ⟨hr3,hr4⟩:=Zpq hr1
      rcases hxi:elems[i] with ⟨d,pl'⟩
      obtain ⟨x,hx⟩:=h n row d pl' (by rw [hr2,hxi]) fun m hm=>hw m (by
        simp only [DataW.weights,ht,List.mem_cons,List.mem_append]
        exact .inr (.inl (ZeN (i:=i) (d:=d) (by simp [List.getElem?_eq_getElem hi',hxi]) m hm)))
      exact ⟨x,row,hx,hr3,hr4⟩
    have hsp:0<len→a.spot=none:=fun h0=>by
      obtain ⟨x,row,_,hr,hj⟩:=each 0 h0
      have h1:=hj 0 hw0
      rw [List.getElem?_eq_getElem (by omega)] at h1
      have:=(Zho h1).1
      simpa [Addr.add] using this
    refine ⟨(List.range len).attach.map fun i=>(each i.1 (List.mem_range.1 i.2)).choose,some a,cap,by simp,⟨fun i x hi=>?_,by simpa using hl,by simpa using hlen2⟩⟩
    have hi':i<len:=by
      have:=(List.getElem?_eq_some_iff.1 hi).1
      simpa using this
    have hxx:x=(each i hi').choose:=by
      simp [hi'] at hi
      exact hi.symm
    obtain ⟨row,hr1,hr2,hr3⟩:=(each i hi').choose_spec
    have hs:=hsp (by omega)
    refine ⟨a.block,a.off,row,?_,by rw [hxx];exact hr1,fun j u hj=>?_⟩
    · obtain ⟨b,o,s⟩:=a;simp only at hs;subst hs;rfl
    · have hjw:j<w:=by rw [← hr2];exact (List.getElem?_eq_some_iff.1 hj).1
      have h4:=hr3 j hjw
      rw [hj] at h4
      have:=Zho h4
      have ea:(a.add (i*w)).add j=⟨a.block,a.off+i*w+j,none⟩:=by
        rw [Addr.add_off _ _ (by rw [Addr.add_off _ _ hs]),Addr.add_off _ _ hs]
      rwa [ea] at this
def Zrj (enc:TypeId × Value→H) (P:Program) (W:World):List Field→List (List Value→Prop)→Prop
  | [],[]=>True
  | f :: fs,p :: ps=>ZdH enc P W f.type p∧Zrj enc P W fs ps
  | _,_=>False
theorem Zjt :∀{fs:List Field} {ps:List (List Value→Prop)},Zrj enc P W fs ps→fs.length=ps.length
  | [],[],_=>rfl
  | _ :: _,_ :: _,h=>by simp only [List.length_cons,Zjt h.2]
  | [],_ :: _,h=>h.elim
  | _ :: _,[],h=>h.elim
theorem Zju :∀{fs:List Field} {ps:List (List Value→Prop)},Zrj enc P W fs ps→∀(i:Nat) (f:Field) (p:List Value→Prop),fs[i]? = some f→ps[i]? = some p→ZdH enc P W f.type p
  | _ :: _,_ :: _,h,0,f,p,h1,h2=>by
    simp only [List.getElem?_cons_zero,Option.some.injEq] at h1 h2
    subst h1;subst h2;exact h.1
  | _ :: _,_ :: _,h,i+1,f,p,h1,h2=>Zju h.2 i f p (by simpa using h1) (by simpa using h2)
  | [],_,_,i,f,p,h1,h2=>by simp at h1
  | _ :: _,[],h,_,_,_,_,_=>h.elim
theorem Zcn {t:TypeId} {fs:Array Field} (ht:P.underlying t=some (.struct fs)) (ps:List (List Value→Prop)) (hf:ZeC P fs.toList 0 (P.cellsOf t)=true) (h:Zrj enc P W fs.toList ps):ZdH enc P W t (Parts ps):=
  Zjs ht ps hf (Zjt h) (Zju h)
theorem ZfB {t:TypeId} {v:Value} {d:DataW H} {ps:List MemPlace} {p:List Value→Prop} (h:DataW.Trod enc P W 0 (fun _=>true) true t v d ps) (ho:ZdH enc P W t p) (hw :∀m,m∈d.weights P t→m≤reachBytes):p v.cells.toList:=by
  obtain ⟨n,hn⟩:=h;exact ho n _ _ _ hn hw
theorem weigh {ts:List TypeId} {ds:List (DataW H)} (h:(DataW.weightsEach P ts ds).all (·≤reachBytes)=true) {i:Nat} {t:TypeId} {d:DataW H} (h1:ts[i]? = some t) (h2:ds[i]? = some d) :∀m,m∈d.weights P t→m≤reachBytes:=fun m hm=>by
  have:=List.all_eq_true.1 h m (ZcN h1 h2 m hm)
  simpa using this
end
end Go.BL
namespace Go.BL
section
variable {P:PJ} {n:Nat} {ops:Array Oper} {i:Nat} {K:ZaJ} {S:Env} {D:List Deferred} {B:Kn} {L:List Cells}
variable {dst:Option Tmp} {ty:TypeId} {pos:String} {after:Array Edge} {g:Option (Nat × Bool)}
theorem ZmZ {P:Program} {B:Kn} {L:Cells} {q:Addr} {cp:Nat} {b:Int} (hs:Zcg B L (some q) [.int .u8 b]) {Q:Value→Kn→Cells→Prop} (h:Q (str [UInt8.ofNat b.toNat]) B L):hb P (Conv.bytesToString (.slice (some q) 1 cp)) Q B L:=by
  simp only [Conv.bytesToString,Zm,loadCells]
  refine Zbz [.int .u8 b] 0 #[] (fun j v hj=>by simpa using hs j v hj) ?_
  have e:Q (Value.string (ByteArray.empty.push (UInt8.ofNat b.toNat))) B L:=h
  simpa [Zs,Zm] using e
theorem Zny {s d e:TypeId} {x:Operand} {q:Addr} {cp:Nat} {b:Int} (hg:Zo ops S g=some true) (hd:Zv n dst=true) (hs:P.underlying s=some (.slice e)) (hd':P.underlying d=some .string) (he:P.underlying e=some (.int .u8))
    (hx:ev S x=some (.slice (some q) 1 cp)) (hc:Zcg B L.flatten (some q) [.int .u8 b]) (h:K (str [UInt8.ofNat b.toNat]) D B L):opX P n ops i ⟨dst,.convert s d x,ty,pos,after,g⟩ K S D B L:=
  ZK hg hd (fun ρ hρ Q F q'=>by
    simp only [execOp,convert,hρ x _ hx,Zm,Zt hs,Zt hd',Zt he]
    exact ZmZ hc.app q') h
end
end Go.BL
namespace Go.BL
set_option linter.unusedVariables false
theorem All3.at {α:Type} {R:ZfQ α} {rows:List (List Value)} {xs:List α} {s:Cells} (h:All3 R rows xs s) :∀{i:Nat} {x:α},xs[i]? = some x→∃row li lr,rows[i]? = some row∧R row x li∧s.Perm (li ++ lr)∧∀x' li',R row x' li'→∃s',All3 R rows (xs.set i x') s'∧s'.Perm (li' ++ lr):=by
  induction h with
  | nil=>intro i x hx;simp at hx
  | @cons row0 x0 ins0 rest rows xs h1 h2 ih=>
    intro i x hx
    cases i with
    | zero=>
      simp only [List.getElem?_cons_zero,Option.some.injEq] at hx
      subst hx
      exact ⟨row0,ins0,rest,rfl,h1,.refl _,fun x' li' hr=>⟨li' ++ rest,.cons hr h2,.refl _⟩⟩
    | succ i=>
      obtain ⟨row,li,lr,e1,e2,e3,e4⟩:=ih (by simpa using hx)
      refine ⟨row,li,ins0 ++ lr,by simpa using e1,e2,?_,fun x' li' hr=>?_⟩
      · exact (List.Perm.append_left ins0 e3).trans (by rw [← List.append_assoc,← List.append_assoc];exact List.Perm.append_right lr List.perm_append_comm)
      · obtain ⟨s',f1,f2⟩:=e4 x' li' hr
        exact ⟨ins0 ++ s',.cons h1 f1,(List.Perm.append_left ins0 f2).trans (by rw [← List.append_assoc,← List.append_assoc];exact List.Perm.append_right lr List.perm_append_comm)⟩
theorem ZaM.open1 {α:Type} {l:Cells} {p:Option Addr} {c:Nat} {T:TypeId} {w:Nat} {R:ZfQ α} {xs:List α} (h:ZaM l p c T w R xs) {i:Nat} {x:α} (hx:xs[i]? = some x) :
∃b arr row li lr,p=some ⟨b,0,none⟩∧R row x li∧row.length=w∧l.Perm (li ++ (Zae b arr T ++ lr))∧(∀(j:Nat) (u:Value),row[j]? = some u→arr[i*w+j]? = some u)∧
∀x' li',R row x' li'→ZaM (li' ++ (Zae b arr T ++ lr)) p c T w R (xs.set i x'):=by
  obtain ⟨rows,blk,ins,h1,h2,h3,hvl⟩:=h
  have hlt:=(List.getElem?_eq_some_iff.1 hx).1
  obtain ⟨hl0,⟨_,h0,_,_⟩ | ⟨b,arr,rfl,ha,ht,rfl,hm⟩⟩:=hvl
  · omega
  · obtain ⟨row,li,lr,e1,e2,e3,e4⟩:=h1.at hx
    refine ⟨b,arr,row,li,lr,rfl,e2,h2 row (List.mem_of_getElem? e1),?_,fun j u hj=>?_,fun x' li' hr=>?_⟩
    · refine h3.trans ((List.Perm.append_left _ e3).trans ?_)
      rw [← List.append_assoc,← List.append_assoc];exact List.Perm.append_right lr List.perm_append_comm
    · have hu:=Zfq h2 e1 hj
      rw [← ht,List.getElem?_take] at hu
      split at hu
      · exact hu
      · cases hu
    · obtain ⟨s',f1,f2⟩:=e4 x' li' hr
      refine ⟨rows,Zae b arr T,s',f1,h2,?_,by rw [List.length_set];exact hl0,.inr ⟨b,arr,rfl,ha,by rw [List.length_set];exact ht,rfl,by rw [List.length_set];exact hm⟩⟩
      refine List.Perm.trans ?_ (List.Perm.append_left _ f2.symm)
      rw [← List.append_assoc,← List.append_assoc];exact List.Perm.append_right lr List.perm_append_comm
section
variable {P:PJ} {n:Nat} {Q:Exit→Zaa} {S:Env} {D:List Deferred} {B:Kn} {L:List Cells} {c:Code}
theorem Zrn {L':List Cells} (hp:L.flatten.Perm L'.flatten) (h:wpS P n c Q S D B L'):wpS P n c Q S D B L:=fun C k T hn hT hA=>by
  refine C.X.drop (r:=L'.flatten ++ C.F) (gl:=[]) ?_ (h C k T hn hT hA)
  rw [List.append_nil];exact hp.append_right C.F
theorem Ze0 {a b:Cells} (j m:Nat) (hj:L[j]? = some a) (hm:L[m]? = some b) (hne:j≠m) (h:wpS P n c Q S D B ((L.set j (b ++ a)).set m [])):wpS P n c Q S D B L:=by
  refine Zrn ?_ h
  obtain ⟨r,h1,h2⟩:=ZT [] (b ++ a) hj
  have hm':(L.set j (b ++ a))[m]? = some b:=by rw [List.getElem?_set_ne hne];exact hm
  obtain ⟨r2,h3,h4⟩:=ZT [] [] hm'
  rw [List.append_nil] at h1 h2 h3 h4
  rw [List.nil_append] at h4
  have h5:(b ++ (a ++ r)).Perm (b ++ r2):=by rw [← List.append_assoc];exact h2.symm.trans h3
  exact h1.trans (((List.perm_append_left_iff b).1 h5).trans h4.symm)
end
end Go.BL
namespace Go.BL
set_option linter.unusedVariables false
theorem All3.row {α:Type} {R:ZfQ α} {rows:List (List Value)} {xs:List α} {s:Cells} (h:All3 R rows xs s) {z x:α} (f:List Value→List Value) (hf :∀row li,R row x li→R (f row) z li) :∀{k:Nat},xs[k]? = some x→∃row,rows[k]? = some row∧All3 R (rows.set k (f row)) (xs.set k z) s:=by
  induction h with
  | nil=>intro k hx;simp at hx
  | @cons row0 x0 ins0 rest rows xs h1 h2 ih=>
    intro k hx
    cases k with
    | zero=>
      simp only [List.getElem?_cons_zero,Option.some.injEq] at hx
      subst hx
      exact ⟨row0,rfl,.cons (hf _ _ h1) h2⟩
    | succ k=>
      obtain ⟨row,e1,e2⟩:=ih (k:=k) (by simpa using hx)
      exact ⟨row,by simpa using e1,.cons h1 e2⟩
theorem ZaM.cell {α:Type} {l:Cells} {p:Option Addr} {c:Nat} {T:TypeId} {w:Nat} {R:ZfQ α} {xs:List α} (h:ZaM l p c T w R xs) {i:Nat} {x:α} (hx:xs[i]? = some x) {B:Kn} {L:List Cells} (j:Nat) (hj:L[j]? = some l) :
∃b row li lr,p=some ⟨b,0,none⟩∧R row x li∧row.length=w∧l.Perm (li ++ lr)∧(∀(m:Nat) (u:Value),row[m]? = some u→ZaH B L.flatten ⟨b,i*w+m,none⟩ u)∧∀x' li',R row x' li'→ZaM (li' ++ lr) p c T w R (xs.set i x'):=by
  obtain ⟨b,arr,row,li,lr,e1,e2,e3,e4,e5,e6⟩:=h.open1 hx
  refine ⟨b,row,li,Zae b arr T ++ lr,e1,e2,e3,e4,fun m u hm=>⟨rfl,arr.toArray,T,(0,0),.inr ?_,by simpa using e5 m u hm⟩,e6⟩
  obtain ⟨r,h1,h2⟩:=ZT [] [] hj
  rw [List.append_nil] at h1
  rw [h1.mem_iff]
  refine List.mem_append_left _ (e4.mem_iff.2 (List.mem_append_right _ (List.mem_append_left _ ?_)))
  exact List.mem_singleton.2 rfl
section
variable {P:PJ} {n:Nat} {ops:Array Oper} {i:Nat} {K:ZaJ} {S:Env} {D:List Deferred} {B:Kn} {L:List Cells}
variable {dst:Option Tmp} {ty:TypeId} {pos:String} {after:Array Edge} {g:Option (Nat × Bool)}
theorem ZhI {α:Type} {R:ZfQ α} {xs:List α} {x0:α} (z:α) {t T:TypeId} {x y:Operand} {v:Value} {us:List Value} {sz k c b:Nat} (off:Nat) {l:Cells} {p:Option Addr} (j:Nat) (hj:L[j]? = some l) (hv:ZaM l p c T sz R xs) (hp:p=some ⟨b,0,Option.none⟩) (hx0:xs[k]? = some x0) (hg:Zo ops S g=some true) (hd:Zv n dst=true) (hsz:ZR P t=some us.length)
    (hx:ev S x=some (ptr ⟨b,k*sz+off,Option.none⟩)) (hy:ev S y=some v) (hvc:v.cells=us.toArray) (ho:us.all ZfS=true) (hoff:off+us.length≤sz) (hr :∀row li,R row x0 li→R (Z6 row off us) z li)
    (h :∀l',ZaM l' p c T sz R (xs.set k z)→K undef D B (L.set j l')):opX P n ops i ⟨dst,.store t x y,ty,pos,after,g⟩ K S D B L:=by
  subst hp
  obtain ⟨rows,blk,ins,h1,h2,h3,hl1,⟨hc,_⟩ | ⟨b',arr,e,ha,ht,rfl,hmc⟩⟩:=hv
  · cases hc
  · cases e
    have hk:=(List.getElem?_eq_some_iff.1 hx0).1
    obtain ⟨row,hrow,a1⟩:=h1.row (fun row=>Z6 row off us) hr hx0
    have hw:row.length=sz:=h2 row (List.mem_of_getElem? hrow)
    have hsz1:(k+1)*sz≤xs.length*sz:=Nat.mul_le_mul_right sz hk
    have hcs:xs.length*sz≤c*sz:=Nat.mul_le_mul_right sz hmc
    rw [Nat.succ_mul] at hsz1
    have hb1:k*sz+off+us.length≤arr.length:=by omega
    refine ZkC (L':=L.set j (Zae b arr T ++ ins)) (K':=fun u D' B' L₁=>u=undef∧D'=D∧B'=B∧L₁=(L.set j (Zae b arr T ++ ins)).set j (Zae b (Z6 arr (k*sz+off) us) T ++ ins)) ?_ ?_ ?_
    · obtain ⟨r,e1,e2⟩:=ZT [] (Zae b arr T ++ ins) hj
      rw [List.append_nil] at e1 e2
      exact e1.trans ((h3.append_right r).trans e2.symm)
    · have hj':(L.set j (Zae b arr T ++ ins))[j]? = some (Zae b arr T ++ ins):=by
        rw [List.getElem?_set_self (List.getElem?_eq_some_iff.1 hj).1]
      exact Z4 us j (Z6 arr (k*sz+off) us) hg hd hsz hx hy hvc ho (T:=T) (r:=ins) hj' rfl (by rw [Nat.ble_eq];exact hb1) rfl ⟨rfl,rfl,rfl,rfl⟩
    · rintro u D' B' L₁ hle ⟨rfl,rfl,rfl,rfl⟩
      have hnew:ZaM (Zae b (Z6 arr (k*sz+off) us) T ++ ins) (some ⟨b,0,Option.none⟩) c T sz R (xs.set k z):=by
        have hsl:(Z6 row off us).length=sz:=by rw [Z2];exact hw
        have hwide:wide sz (rows.set k (Z6 row off us)):=fun r' hr'=>by
          rcases List.mem_or_eq_of_mem_set hr' with hr' | rfl
          · exact h2 r' hr'
          · exact hsl
        refine ⟨rows.set k (Z6 row off us),_,ins,a1,hwide,.refl _,?_,.inr ⟨b,_,rfl,by rw [Z2];exact ha,?_,rfl,by rw [List.length_set];exact hmc⟩⟩
        · rw [ZcM hwide,List.length_set,List.length_set,h1.len]
        · rw [List.length_set]
          have e:=ZcH (us:=us) (off:=off) h2 hrow hoff
          rw [ZcS _ _ _ _ (by omega) (by omega),ht,e]
      refine ⟨L.set j (Zae b (Z6 arr (k*sz+off) us) T ++ ins),[],?_,h _ hnew⟩
      rw [List.set_set,List.append_nil]
end
end Go.BL
namespace Go.BL
open Go.Conc (G)
set_option linter.unusedVariables false
section
variable {P:PJ} {n:Nat} {ops:Array Oper} {i:Nat} {K:ZaJ} {S:Env} {D:List Deferred} {B:Kn} {L:List Cells}
variable {dst:Option Tmp} {ty:TypeId} {pos:String} {after:Array Edge} {g:Option (Nat × Bool)}
theorem ZrZ {α:Type} {R:ZfQ α} {xs:List α} (z:α) {t u e:TypeId} {x y:Operand} {sz by_ m c c2:Nat} {p q:Option Addr} {row:List Value} {l:Cells} {inss r:List Cells} (j:Nat) (ks:List Nat) (hpk:ZaC L (j :: ks)=some (l :: inss,r)) (hnd:Zee (j :: ks)=true) (hv:ZaM l p c e sz R xs) (hm:m=xs.length) (hg:Zo ops S g=some true) (hd:Zv n dst=true)
    (he:Zcz P t e sz by_=true) (hu:(match P.underlying u with | some (.slice _)=>true | _=>false)=true) (hx:ev S x=some (.slice p m c)) (hy:ev S y=some (.slice q 1 c2)) (hs:Zcg B L.flatten q row) (hone:row.all ZfS=true) (hrl:row.length=sz) (ins0:Cells) (hi0:inss.flatten=ins0) (hr:R row z ins0) (hb1:(xs.length+1)*by_≤140737488355328)
    (h :∀l' p' c',ZaM l' p' c' e sz R (xs ++ [z])→K (.slice p' (xs ++ [z]).length c') D B (Zcl r (j :: ks) (l' :: inss.map fun _=>[]))):opX P n ops i ⟨dst,.call ⟨.builtin .append,#[x,y],#[t,u]⟩,ty,pos,after,g⟩ K S D B L:=by
  subst hm
  subst hi0
  obtain ⟨rows,blk,inn,h1,h2,h3,h4⟩:=hv
  have hpp:=Zag (j :: ks) L (l :: inss) r hpk
  have p1:L.flatten.Perm (blk ++ (inn ++ (inss.flatten ++ r.flatten))):=by
    refine hpp.trans ?_
    simp only [List.flatten_cons,List.append_assoc]
    refine (h3.append_right _).trans ?_
    rw [List.append_assoc]
  refine ZlP (L':=[blk,inn ++ (inss.flatten ++ r.flatten)]) (K':=fun v D' B' L₁=>∃blk' p' c',L₁=[blk',inn ++ (inss.flatten ++ r.flatten)]∧v = .slice p' (xs.length+1) c'∧D'=D∧B'=B∧ZgH blk' p' (xs.length+1) c' e sz (rows.flatten ++ row)) ?_ ?_ ?_
  · simpa using p1
  · refine Zes 0 rfl h4 hg hd he hu hx hy ?_ (by rw [hrl,Nat.one_mul]) hone hb1 fun l' p' c' hv'=>⟨l',p',c',rfl,rfl,rfl,rfl,hv'⟩
    cases q with
    | none=>exact hs
    | some a=>
      intro jj v hjj
      exact (hs jj v hjj).perm (by simpa using p1)
  · rintro v D' B' L₁ hle ⟨blk',p',c',rfl,rfl,rfl,rfl,hv'⟩
    have hnew:ZaM (blk' ++ (inn ++ inss.flatten)) p' c' e sz R (xs ++ [z]):=⟨rows ++ [row],blk',inn ++ inss.flatten,h1.snoc hr,fun r' hr'=>by
      rcases List.mem_append.1 hr' with hr' | hr'
      · exact h2 r' hr'
      · rw [List.mem_singleton.1 hr'];exact hrl,.refl _,by rw [List.length_append,List.flatten_append];simpa using hv'⟩
    refine ⟨_,?_,by have:=h _ _ _ hnew;rwa [List.length_append] at this⟩
    have hq:=ZbE ((blk' ++ (inn ++ inss.flatten)) :: inss.map fun _=>[]) r (j :: ks) (ZbG hnd) (fun jj hj=>ZbF (j :: ks) L (l :: inss) r hpk jj (.inr hj))
    have hnil:((inss.map fun _=>([]:Cells))).flatten=[]:=by
      clear hpk hpp h hnew hs h3 p1 hq
      induction inss with
      | nil=>rfl
      | cons a as ih=>simp
    rw [List.flatten_cons,hnil,List.append_nil] at hq
    refine List.Perm.trans ?_ hq
    simp only [List.flatten_cons,List.flatten_nil,List.append_nil,List.append_assoc]
    exact .refl _
theorem Z9.borrowL {f:FuncId} {args:List Value} {ls:List Cells} {v:Value} (h:(∀p,p∈ls.flatten→(B.add ls.flatten).mem p.1=some p.2)→Z9 P f args (B.add ls.flatten) v):Zz P f args B ls (fun v' B' Ls=>v'=v∧B'=B∧Ls=ls):=by
  have:=(Zz.borrowL (P:=P) (Ls:=[]) h).mono (Post':=fun v' B' Ls=>v'=v∧B'=B∧Ls=ls) fun v' B' Ls' _ ⟨B₂,Ls₂,a1,a2,_,_,a3,a4,a5,a6⟩=>by subst a5;subst a6;exact ⟨a4,a2.trans a3,by rw [a1,List.append_nil]⟩
  rwa [List.append_nil] at this
theorem Zgj {f:FuncId} {xs:List Operand} {vs:List Value} {ats:Array TypeId} {v:Value} {ls r:List Cells} (js:List Nat) (hp:ZaC L js=some (ls,r)) (hput:Zcl r js ls=L) (hn:Zee js=true) (hg:Zo ops S g=some true) (hd:Zv n dst=true) (he:enters P f=true) (ha:evs S xs=some vs)
    (hc:Zz P f vs B ls (fun v' B' Ls=>v'=v∧B'=B∧Ls=ls)) (h:K v D B L):opX P n ops i ⟨dst,.call ⟨.value (.func f),xs.toArray,ats⟩,ty,pos,after,g⟩ K S D B L:=
  ZaI js hp hn hg hd he ha hc fun v' B' Ls' hle ⟨h1,h2,h3⟩=>by subst h1;subst h2;subst h3;rw [hput];exact h
end
theorem Zz.borrowK {P:PJ} {B:Kn} {f:FuncId} {args:List Value} {Ls:List Cells} {Post:Value→Kn→List Cells→Prop} (k:Nat)
    (h:(∀p,p∈(Ls.take k).flatten→(B.add (Ls.take k).flatten).mem p.1=some p.2)→Zz P f args (B.add (Ls.take k).flatten) (Ls.drop k) Post) :
    Zz P f args B Ls (fun v B' Ls'=>∃B₂ Ls₂,Ls'=Ls.take k ++ Ls₂∧B'=B₂.minus (Ls.take k).flatten∧(B.add (Ls.take k).flatten).le B₂∧(∀p,p∈(Ls.take k).flatten→(B.add (Ls.take k).flatten).mem p.1=some p.2)∧(B.add (Ls.take k).flatten).minus (Ls.take k).flatten=B∧Post v B₂ Ls₂):=by
  have:=Zz.borrowL (P:=P) (ls:=Ls.take k) (Ls:=Ls.drop k) h
  rwa [List.take_append_drop] at this
theorem Zou {B:Kn} {ls:List Cells} {l:Cells} (hm :∀p,p∈ls.flatten→B.mem p.1=some p.2) (k:Nat) (hk:ls[k]? = some l) :∀q,q∈l→B.mem q.1=some q.2:=fun q hq=>hm q (List.mem_flatten.2 ⟨l,List.mem_of_getElem? hk,hq⟩)
theorem ZU.lendK {α:Type} {B BV:Kn} {l:Cells} {ls:List Cells} {p:Option Addr} {c:Nat} {T:TypeId} {w:Nat} {R:Rel α} {xs:List α} (h:ZU BV l p c T w R xs) (hR:Zni R) (k:Nat) (hk:ls[k]? = some l) (hm :∀q,q∈ls.flatten→(B.add ls.flatten).mem q.1=some q.2) (hl:xs.length≤2000000):SlK (B.add ls.flatten) p c w R xs:=⟨h.rowsF hR (Zou hm k hk),h.cap,hl⟩
theorem ZaM.lendK {α:Type} {B:Kn} {l:Cells} {ls:List Cells} {p:Option Addr} {c:Nat} {T:TypeId} {w:Nat} {R:ZfQ α} {R':Rel α} {xs:List α} (h:ZaM l p c T w R xs) (hR :∀{B:Kn} {row:List Value} {x:α} {ins:Cells},R row x ins→(∀q,q∈ins→B.mem q.1=some q.2)→R' B row x) (hM:Mono R') (k:Nat) (hk:ls[k]? = some l) (hm :∀q,q∈ls.flatten→(B.add ls.flatten).mem q.1=some q.2) (hl:xs.length≤2000000):SlK (B.add ls.flatten) p c w R' xs:=h.known (fun _ _ _ a b=>hR a b) hM (Zou hm k hk) hl
theorem ZtY {l a lr:Cells} (h:l.Perm (a ++ lr)):l.Perm (lr ++ ([a]:List Cells).flatten):=by
  simpa using h.trans List.perm_append_comm
theorem Zn9 {l a b lr:Cells} (h:l.Perm (a ++ b ++ lr)):l.Perm (lr ++ ([a,b]:List Cells).flatten):=by
  simpa using h.trans List.perm_append_comm
theorem ZtB {P:PJ} {n:Nat} {Q:Exit→Zaa} {S:Env} {D:List Deferred} {B:Kn} {L:List Cells} {c:Code} (es:List Cells) (he:es.flatten=[]) (h:wpS P n c Q S D B (L ++ es)):wpS P n c Q S D B L:=
  Zrn (by rw [List.flatten_append,he,List.append_nil]) h
end Go.BL
namespace Go.BL
open Go.Conc (G)
set_option linter.unusedVariables false
def errv (tE:TypeId) (a:Nat→Addr):Nat→Value
  | 0=>.nilIface
  | k+1=>.iface tE (.pointer (some (a k)))
structure ErrsB (tE:TypeId) (gs:List Nat) (B:Kn) (a:Nat→Addr):Prop where
  row :∀k,k<4→Zaq B (gs.getD k 0) 0 [.iface tE (.pointer (some (a k)))]
  cell :∀k,k<4→∃cs T,B.mem (a k).block=some (.cells cs T (0,0))
  ne :∀i j,i<4→j<4→i≠j→a i≠a j
theorem ErrsB.mono {tE:TypeId} {gs:List Nat} {B B':Kn} {a:Nat→Addr} (h:ErrsB tE gs B a) (hle:B.le B'):ErrsB tE gs B' a:=
  ⟨fun k hk=>(h.row k hk).mono hle,fun k hk=>let ⟨cs,T,e⟩:=h.cell k hk;⟨cs,T,hle _ _ e⟩,h.ne⟩
theorem ErrsB.perm {tE:TypeId} {gs:List Nat} {B:Kn} {a:Nat→Addr} (h:ErrsB tE gs B a) (p0 p1 p2 p3:Nat) (hp:(p0<4∧p1<4∧p2<4∧p3<4)∧p0≠p1∧p0≠p2∧p0≠p3∧p1≠p2∧p1≠p3∧p2≠p3) :
    ErrsB tE [gs.getD p0 0,gs.getD p1 0,gs.getD p2 0,gs.getD p3 0] B (fun k=>a (if k=0 then p0 else if k=1 then p1 else if k=2 then p2 else p3)):=by
  obtain ⟨⟨h0,h1,h2,h3⟩,e⟩:=hp
  refine ⟨fun k hk=>?_,fun k hk=>?_,fun i j hi hj hne=>?_⟩
  · match k,hk with
    | 0,_=>exact h.row p0 h0
    | 1,_=>exact h.row p1 h1
    | 2,_=>exact h.row p2 h2
    | 3,_=>exact h.row p3 h3
  · match k,hk with
    | 0,_=>exact h.cell p0 h0
    | 1,_=>exact h.cell p1 h1
    | 2,_=>exact h.cell p2 h2
    | 3,_=>exact h.cell p3 h3
  · refine h.ne _ _ ?_ ?_ ?_
    · split
      · omega
      · split
        · omega
        · split <;> omega
    · split
      · omega
      · split
        · omega
        · split <;> omega
    · intro he
      match i,j,hi,hj with
      | 0,0,_,_=>exact hne rfl
      | 0,1,_,_=>exact e.1 he
      | 0,2,_,_=>exact e.2.1 he
      | 0,3,_,_=>exact e.2.2.1 he
      | 1,0,_,_=>exact e.1 he.symm
      | 1,1,_,_=>exact hne rfl
      | 1,2,_,_=>exact e.2.2.2.1 he
      | 1,3,_,_=>exact e.2.2.2.2.1 he
      | 2,0,_,_=>exact e.2.1 he.symm
      | 2,1,_,_=>exact e.2.2.2.1 he.symm
      | 2,2,_,_=>exact hne rfl
      | 2,3,_,_=>exact e.2.2.2.2.2 he
      | 3,0,_,_=>exact e.2.2.1 he.symm
      | 3,1,_,_=>exact e.2.2.2.2.1 he.symm
      | 3,2,_,_=>exact e.2.2.2.2.2 he.symm
      | 3,3,_,_=>exact hne rfl
section
variable {P:Program}
theorem ZqL {a:Addr} {B:Kn} {L:Cells} {Q:Bool→Kn→Cells→Prop} (q:Q true B L):hb P (sameAddr a a) Q B L:=by
  have e:sameAddr a a=pure true:=by simp [sameAddr]
  rw [e];exact q
theorem Zgp {x:Addr} {cx:Array Value} {tx:TypeId} {B:Kn} {L:Cells} {Q:Bool→Kn→Cells→Prop} (hx:Zie B L x.block (.cells cx tx (0,0))) (q:Q false B L):hb P (stringish x) Q B L:=by
  unfold stringish
  rw [Zm]
  refine ⟨_,hx,?_⟩
  simp only [Zbk,Zs,ZaU,Nat.not_lt_zero,decide_false,Bool.and_false,Bool.false_eq_true,if_false]
  rw [Zm]
  refine ⟨_,hx,?_⟩
  simp only [Zik,Zs,ZaU]
  refine ⟨_,hx,?_⟩
  simp only [Zbk,Nat.not_lt_zero,decide_false,Bool.and_false]
  exact q
theorem ZjR {x:Addr} {cx:Array Value} {tx:TypeId} {B:Kn} {L:Cells} {Q:Unit→Kn→Cells→Prop} (hx:Zie B L x.block (.cells cx tx (0,0))) (q:Q () B L):hb P (noView x) Q B L:=by
  unfold noView viewAt
  simp only [Zm]
  refine ⟨_,hx,?_⟩
  simp only [Zik,Option.isSome_some,if_true,Zs,ZaU]
  exact q
theorem ZqM {a b:Addr} {ca cb:Array Value} {ta tb:TypeId} {B:Kn} {L:Cells} {Q:Bool→Kn→Cells→Prop} (hne:a≠b) (ha:Zie B L a.block (.cells ca ta (0,0))) (hb':Zie B L b.block (.cells cb tb (0,0))) (q:Q false B L):hb P (sameAddr a b) Q B L:=by
  unfold sameAddr
  by_cases h:a.block=b.block
  · have e1:(a.block == b.block)=true:=by simpa using h
    have e2:(a == b)=false:=by simpa using hne
    simp only [e1,if_true,e2];exact q
  · have e1:(a.block == b.block)=false:=by simpa using h
    simp only [e1,Bool.false_eq_true,if_false,Zm]
    refine ⟨_,ha,?_⟩
    have f1:Zbk a.off (.cells ca ta (0,0))=false:=by simp [Zbk]
    simp only [f1,Zs,ZaU,Bool.false_eq_true,if_false,Bool.false_and,Zm]
    refine ⟨_,hb',?_⟩
    simp only [Zs,ZaU,Zm]
    refine ZjR ha ?_
    rw [Zm]
    refine ZjR hb' ?_
    unfold mayBeOne
    simp only [Zm]
    refine Zgp ha ?_
    rw [Zm]
    refine Zgp hb' ?_
    simp only [Zm]
    refine ⟨_,ha,?_⟩
    simp only [Zs,ZaU,Zm]
    refine ⟨_,hb',?_⟩
    simp only [Bool.false_and,Bool.or_false,Bool.false_eq_true,if_false,Zs,ZaU]
    exact q
theorem Zuh {tI tE te:TypeId} {ms:Array (String × TypeId)} {i:TypeInfo} {d:Nat} {x y:Addr} {B:Kn} {L:Cells} {Q:Bool→Kn→Cells→Prop} (hi:P.underlying tI=some (.interface ms)) (hp:P.underlying tE=some (.pointer te)) (hinfo:P.info? tE=some i) (hc:i.comparable=true) (hs:ZR P te=some (d+1))
    (h:hb P (sameAddr x y) Q B L):hb P (Op.equal tI (.iface tE (.pointer (some x))) (.iface tE (.pointer (some y)))) Q B L:=by
  show hb P (Op.equalIn (9999+1) tI _ _) Q B L
  rw [Op.equalIn,Zm,Zt hi]
  simp only [ne_eq,not_true_eq_false,if_false,Zm,Zbb hinfo,hc,Bool.not_true,Bool.false_eq_true]
  show hb P (Op.equalIn (9998+1) tE _ _) Q B L
  rw [Op.equalIn,Zm,Zt hp]
  simp only [Zm,ZaA hs,ne_eq,Nat.add_eq_zero_iff,Nat.one_ne_zero,and_false,not_false_eq_true,if_true]
  exact h
theorem Zo4 {tE:TypeId} {gs:List Nat} {B:Kn} {a:Nat→Addr} (h:ErrsB tE gs B a) {k:Nat} (hk:k<4) (L:Cells) :∃cs T,Zie B L (a k).block (.cells cs T (0,0)):=
  let ⟨cs,T,e⟩:=h.cell k hk;⟨cs,T,.inl e⟩
theorem Zui {tI tE te:TypeId} {ms:Array (String × TypeId)} {i:TypeInfo} {d:Nat} {c k:Nat} {gs:List Nat} {a:Nat→Addr} {B:Kn} {L:Cells} {Q:Bool→Kn→Cells→Prop} (hE:ErrsB tE gs B a) (hcb:c<5) (hkb:k<4) (hi:P.underlying tI=some (.interface ms)) (hp:P.underlying tE=some (.pointer te)) (hinfo:P.info? tE=some i) (hc:i.comparable=true) (hs:ZR P te=some (d+1))
    (h:Q (decide (c=k+1)) B L):hb P (Op.equal tI (errv tE a c) (errv tE a (k+1))) Q B L:=by
  cases c with
  | zero=>
    show hb P (Op.equalIn (9999+1) tI .nilIface _) Q B L
    rw [Op.equalIn,Zm,Zt hi]
    simp only [errv,Zs]
    simpa using h
  | succ c=>
    refine Zuh hi hp hinfo hc hs ?_
    by_cases e:c=k
    · subst e
      exact ZqL (by simpa using h)
    · obtain ⟨cs,T,h1⟩:=Zo4 hE (k:=c) (by omega) L
      obtain ⟨cs',T',h2⟩:=Zo4 hE hkb L
      exact ZqM (hE.ne c k (by omega) hkb e) h1 h2 (by simpa [e] using h)
end
section
variable {P:PJ} {n:Nat} {ops:Array Oper} {i:Nat} {K:ZaJ} {S:Env} {D:List Deferred} {B:Kn} {L:List Cells}
variable {dst:Option Tmp} {ty:TypeId} {pos:String} {after:Array Edge} {g:Option (Nat × Bool)}
theorem Zlv {t u:TypeId} {x:Operand} {tE:TypeId} {a:Nat→Addr} {c:Nat} {ms:Array (String × TypeId)} (hg:Zo ops S g=some true) (hd:Zv n dst=true) (hu:P.underlying t=some (.interface ms)) (hx:ev S x=some (errv tE a c)) (h:K (.bool (decide (c=0))) D B L):opX P n ops i ⟨dst,.binOp .eql t x (.const .nilIface) u,ty,pos,after,g⟩ K S D B L:=
  ZK hg hd (fun ρ hρ Q F q=>by
    have e0:ρ (.const .nilIface) = .nilIface:=hρ (.const .nilIface) _ rfl
    simp only [execOp,hρ x _ hx,e0,Zm]
    cases c with
    | zero=>
      simp only [errv,eqGuard,binOp,Bool.not_true,Bool.false_eq_true,if_false,Bool.or_true,if_true,Zs,Zm]
      show hb P (Op.equalIn (9999+1) t .nilIface .nilIface) _ B _
      rw [Op.equalIn,Zm,Zt hu]
      simp only [Zs]
      simpa using q
    | succ c=>
      simp only [errv,eqGuard,binOp,Bool.not_true,Bool.false_eq_true,if_false,Bool.or_true,if_true,Zs,Zm]
      show hb P (Op.equalIn (9999+1) t (.iface tE _) .nilIface) _ B _
      rw [Op.equalIn,Zm,Zt hu]
      simp only [Zs]
      simpa using q) h
theorem Ztq {t u:TypeId} {x:Operand} {tE:TypeId} {a:Nat→Addr} {c:Nat} {ms:Array (String × TypeId)} (hg:Zo ops S g=some true) (hd:Zv n dst=true) (hu:P.underlying t=some (.interface ms)) (hx:ev S x=some (errv tE a c)) (h:K (.bool (decide (c≠0))) D B L):opX P n ops i ⟨dst,.binOp .neq t x (.const .nilIface) u,ty,pos,after,g⟩ K S D B L:=
  ZK hg hd (fun ρ hρ Q F q=>by
    have e0:ρ (.const .nilIface) = .nilIface:=hρ (.const .nilIface) _ rfl
    simp only [execOp,hρ x _ hx,e0,Zm]
    cases c with
    | zero=>
      simp only [errv,eqGuard,binOp,Bool.not_true,Bool.false_eq_true,if_false,Bool.or_true,if_true,Zs,Zm]
      show hb P (Op.equalIn (9999+1) t .nilIface .nilIface) _ B _
      rw [Op.equalIn,Zm,Zt hu]
      simp only [Zs]
      simpa using q
    | succ c=>
      simp only [errv,eqGuard,binOp,Bool.not_true,Bool.false_eq_true,if_false,Bool.or_true,if_true,Zs,Zm]
      show hb P (Op.equalIn (9999+1) t (.iface tE _) .nilIface) _ B _
      rw [Op.equalIn,Zm,Zt hu]
      simp only [Zs]
      simpa using q) h
theorem Znv {t u:TypeId} {x y:Operand} {tE te:TypeId} {gs:List Nat} {a:Nat→Addr} {c k:Nat} {ms:Array (String × TypeId)} (hE:ErrsB tE gs B a) (hcb:c<5) (hkb:k<4) (hg:Zo ops S g=some true) (hd:Zv n dst=true) (hu:P.underlying t=some (.interface ms)) (hp:P.underlying tE=some (.pointer te)) (hinf:(P.info? tE).map (·.comparable)=some true) (hs:ZR P te=some 1)
    (hx:ev S x=some (errv tE a c)) (hy:ev S y=some (errv tE a (k+1))) (h:K (.bool (decide (c=k+1))) D B L):opX P n ops i ⟨dst,.binOp .eql t x y u,ty,pos,after,g⟩ K S D B L:=
  ZK hg hd (fun ρ hρ Q F q=>by
    obtain ⟨inf,hinfo,hc⟩:=Option.map_eq_some_iff.1 hinf
    have hpl:Zga (errv tE a c) (errv tE a (k+1))=true:=by cases c <;> rfl
    simp only [execOp,hρ x _ hx,hρ y _ hy,Zm,Zfd hpl,Zj7 (.inl hpl)]
    exact Zui hE hcb hkb hu hp hinfo hc hs q) h
theorem ZgL {x:Operand} {xt t asserted:TypeId} {v:Value} {want:Array (String × TypeId)} (hg:Zo ops S g=some true) (hd:Zv n dst=true) (hu:P.underlying asserted=some (.interface want)) (hl:(P.info? t).map (fun i=>(lacking want i.methods).isEmpty)=some false) (hz:Zak P asserted=some .nilIface)
    (hx:ev S x=some (.iface t v)) (h:K (.tuple #[.nilIface,.bool false]) D B L):opX P n ops i ⟨dst,.typeAssert x xt asserted true,ty,pos,after,g⟩ K S D B L:=
  ZK hg hd (fun ρ hρ Q F q=>by
    obtain ⟨j,hj,hm⟩:=Option.map_eq_some_iff.1 hl
    obtain ⟨m,hm⟩:=missingMethod_some (want:=want) (got:=j.methods) (fun e=>by rw [e] at hm;cases hm)
    simp only [execOp,Instr.typeAssert,hρ x _ hx,Zm,Zt hu,Zbb hj,hm,if_true,Zba hz,Zs]
    exact q) h
theorem ZtA {f:FuncId} {fn:Func} {ext:Array Value→Sem Value} {x:Operand} {ats:Array TypeId} {v r:Value} (hg:Zo ops S g=some true) (hd:Zv n dst=true) (hf:P.funcs[f]? = some fn) (hname:(fn.name == "runtime.NumGoroutine")=false) (hb0:fn.body.isNone=true) (hn:Extern.findNext fn=none) (he:Extern.find fn=some ext)
    (hx:ev S x=some v) (hr :∀(Q:Value→Kn→Cells→Prop) B L,hb P (ext #[v]) Q B L=Q r B L) (h:K r D B L):opX P n ops i ⟨dst,.call ⟨.value (.func f),#[x],ats⟩,ty,pos,after,g⟩ K S D B L:=
  Zds hg hd fun ρ hρ F=>by
    have e0:ρ (.func f) = .func (.func f) #[] #[]:=hρ (.func f) _ rfl
    simp only [execOp,resolve,e0,Deferred.ofValue,Zm,Zs,invoke,List.map_toArray,List.map_cons,List.map_nil,hρ x _ hx]
    have e:(#[] ++ #[v]:Array Value) ++ #[] = #[v]:=by simp
    rw [e]
    simp only [callFunc,Zm,ZbM,hf,hname,Bool.false_eq_true,if_false,hb0,if_true,hn,he]
    refine ⟨rfl,?_⟩
    simp only [ZaU,Zs,Zm,hr]
    exact ⟨L,.of (.refl _),h⟩
theorem Ztx {f:FuncId} {fn:Func} {ext:Array Value→Sem Value} {x:Operand} {t:TypeId} {name:String} {ats:Array TypeId} {v u r:Value} (hg:Zo ops S g=some true) (hd:Zv n dst=true) (hf:P.funcs[f]? = some fn) (hname:(fn.name == "runtime.NumGoroutine")=false) (hb0:fn.body.isNone=true) (hn:Extern.findNext fn=none) (he:Extern.find fn=some ext)
    (hx:ev S x=some (.iface t v)) (hm :∀(k:Nat) (Q:FuncId × Value→Kn→Cells→Prop) B L,hb P (method (k+1) t v name) Q B L=Q (f,u) B L) (hr :∀(Q:Value→Kn→Cells→Prop) B L,hb P (ext #[u]) Q B L=Q r B L) (h:K r D B L):opX P n ops i ⟨dst,.call ⟨.invoke x name,#[],ats⟩,ty,pos,after,g⟩ K S D B L:=
  Zds hg hd fun ρ hρ F=>by
    have e1:(#[Value.iface t v] ++ #[])[0]? = some (.iface t v):=by simp
    have e2:(#[Value.iface t v] ++ #[]).extract 1 (#[Value.iface t v] ++ #[]).size = #[]:=by apply Array.ext';simp
    have e3 : #[u] ++ #[] = #[u]:=by simp
    simp only [execOp,resolve,hρ x _ hx,Zm,Zs,invoke,List.map_toArray,List.map_nil,e1,e2,callMethod,ZbM]
    have hpos:0<Made.depth:=by decide
    obtain ⟨d,hd'⟩ :∃d,P.types.size+Made.depth=d+1:=⟨P.types.size+Made.depth - 1,by omega⟩
    rw [hd',hm]
    simp only [e3,callFunc,Zm,ZbM,hf,hname,Bool.false_eq_true,if_false,hb0,if_true,hn,he]
    refine ⟨rfl,?_⟩
    simp only [ZaU,Zs,Zm,hr]
    exact ⟨L,.of (.refl _),h⟩
end
end Go.BL
namespace Go.BL
open Go.ChangeShapes Go.WideShapes Go.ChangeAt Go.RowKit Go.Conc
set_option linter.unusedVariables false
section
variable {H:Type} {enc:TypeId × Value→H} {P:Program}
theorem Zmk {t:TypeId} {ms:Array (String × TypeId)} (hu:P.underlying t=some (.interface ms)) {W W':World} {sp sp':Nat→Bool} {fuel:Nat} {cs:List Value} : DataW.trod enc P W 0 sp true fuel t cs=DataW.trod enc P W' 0 sp' true fuel t cs:=by
  cases fuel with
  | zero=>simp [DataW.trod]
  | succ n=>
    cases cs with
    | nil=>simp [DataW.trod,hu]
    | cons x xs=>
      cases xs with
      | nil=>cases x <;> simp [DataW.trod,hu]
      | cons y ys=>cases x <;> simp [DataW.trod,hu]
theorem ZpR {W W':World} (hk:Kept W W') {n:String} {g:Nat} {cs:Array Value} (hg:P.globalNamed n=some g) (hlt:g<W.heap.size) (h:W.var? P n=some cs):W'.var? P n=some cs:=by
  simp only [World.var?,hg,Option.bind_some] at h ⊢
  rw [hk.1 g hlt];exact h
theorem Zjl {W W':World} (hk:Kept W W') {sp sp':Nat→Bool} :∀{ns:List String} {gs:List (DataW H)} {ps:List MemPlace},(∀n,n∈ns→∀g t,P.globalNamed n=some g→(P.globals[g]?).map (·.type)=some t→∃ms,P.underlying t=some (.interface ms))→
    DataW.TrodVars enc P W sp ns gs ps→(∀n,n∈ns→∀g,P.globalNamed n=some g→g<W.heap.size)→DataW.TrodVars enc P W' sp' ns gs ps
  | [],[],_,_,h,_=>h
  | n :: ns,d :: ds,ps,ht,⟨g,t,cs,fuel,p,q,hg,hty,hv,hd,hr,e⟩,hlt=>by
    obtain ⟨ms,hu⟩:=ht n (List.mem_cons_self ..) g t hg hty
    exact ⟨g,t,cs,fuel,p,q,hg,hty,ZpR hk hg (hlt n (List.mem_cons_self ..) g hg) hv,(Zmk hu).trans hd,
      Zjl hk (fun n hn=>ht n (List.mem_cons_of_mem _ hn)) hr (fun n hn=>hlt n (List.mem_cons_of_mem _ hn)),e⟩
  | [],_ :: _,_,_,h,_=>h.elim
  | _ :: _,[],_,_,h,_=>h.elim
theorem Znz {W:World} {sp:Nat→Bool} :∀{ns:List String} {gs:List (DataW H)} {ps:List MemPlace},DataW.TrodVars enc P W sp ns gs ps→∀n,n∈ns→∀g,P.globalNamed n=some g→g<W.heap.size
  | [],_,_,_,n,hn,_,_=>by cases hn
  | m :: ns,d :: ds,ps,⟨g,t,cs,fuel,p,q,hg,hty,hv,hd,hr,e⟩,n,hn,g',hg'=>by
    rcases List.mem_cons.1 hn with rfl | hn
    · obtain rfl:=Option.some.inj (hg.symm.trans hg')
      simp only [World.var?,hg,Option.bind_some] at hv
      rcases Nat.lt_or_ge g W.heap.size with h | h
      · exact h
      · rw [Array.getElem?_eq_none h] at hv;cases hv
    · exact Znz hr n hn g' hg'
  | _ :: _,[],_,h,_,_,_,_=>h.elim
theorem Zlx {W:World} {sp:Nat→Bool} :∀{ns:List String} {gs:List (DataW H)} {ps:List MemPlace},DataW.TrodVars enc P W sp ns gs ps→gs.length=ns.length
  | [],[],_,_=>rfl
  | n :: ns,d :: ds,ps,⟨g,t,cs,fuel,p,q,hg,hty,hv,hd,hr,e⟩=>by rw [List.length_cons,List.length_cons,Zlx hr]
  | [],_ :: _,_,h=>h.elim
  | _ :: _,[],_,h=>h.elim
theorem Zov {f:Func} {s:ChangeSpec} {apart fresh handsOn again:Bool} {W W':World} {args:Array Value} {ds gs:List (DataW H)} {before:List MemPlace} {tb:TypeId}
    (hl:laidOutB P=true) (hts:(f.params.toList.all fun t=>P.readableRec t && decide (t<P.types.size))=true) (hres:f.resultTypes.toList=[tb]) (hb:P.underlying tb=some .bool)
    (hvars :∀n,n∈s.vars→∀g t,P.globalNamed n=some g→(P.globals[g]?).map (·.type)=some t→∃ms,P.underlying t=some (.interface ms))
    (hW:DataW.Whole enc P f.params.toList s.vars apart W args.toList ds gs before) (hfn :∀ds' gs',gs'.length=s.vars.length→ds'.length=f.params.toList.length→s.fn H (ds' ++ gs') = { results:=[.lit (.bool true)],args:=ds',vars:=gs' })
    (hk:Kept W W'):s.post enc P f apart fresh handsOn again W args (.bool true) W':=by
  have hlt:=hW.lt
  have hW':=hW
  obtain ⟨p,q,hA0,hV,rfl,hfz,hnd⟩:=hW
  have hlen:=(trodAll_length hA0).2
  have hvl:gs.length=s.vars.length:=Zlx hV
  have hf2:=hfn ds gs hvl hlen
  have hr2:f.resultTypes = #[tb]:=by apply Array.ext';rw [hres]
  refine post_of_same (pa:=p) (pv:=q) hW' (fun b sp hd=>?_) (fun sp hsp=>?_) (fun sp hsp=>?_) rfl (hk.2.frame _) hk.2.2.1 ?_
  · rw [hf2,hr2]
    exact trodAll_cons_mk (shut_bool hb _) trodAll_mk0
  · rw [hf2]
    exact ZlG hl hk hts hA0 (fun x hx=>hlt x (List.mem_append_left _ hx)) (fun x hx=>hsp x (List.mem_append_left _ hx))
  · rw [hf2]
    exact Zjl hk hvars hV (Znz hV)
  · intro j t r h1 h2
    rw [hr2] at h1 h2
    cases j with
    | zero=>
      simp only [List.getElem?_toArray,List.getElem?_cons_zero,Option.some.injEq] at h1
      simp [Value.resultList] at h2
      subst h1;subst h2
      exact okWide_bool_mk hb _
    | succ j=>simp at h1
theorem Zkj {ns:List String} (h:(ns.all fun n=>match P.globalNamed n with | some g=>(match (P.globals[g]?).map (·.type) with | some t=>(match P.underlying t with | some (.interface _)=>true | _=>false) | none=>true) | none=>true)=true) :
∀n,n∈ns→∀g t,P.globalNamed n=some g→(P.globals[g]?).map (·.type)=some t→∃ms,P.underlying t=some (.interface ms):=fun n hn g t hg ht=>by
  have h1:=List.all_eq_true.1 h n hn
  simp only [hg,ht] at h1
  split at h1
  · exact ⟨_,by assumption⟩
  · cases h1
theorem Zp5 {ts:Array TypeId} (h:(ts.toList.all fun t=>!P.wantsStandIn t)=true) {j:Nat} {t:TypeId} (ht:ts[j]? = some t):P.wantsStandIn t=false:=by
  have:=List.all_eq_true.1 h t (by
    rw [← Array.getElem?_toList] at ht
    exact List.mem_of_getElem? ht)
  simpa using this
theorem Zjn {a:Assume} {C:Checked} {os:Os} {f:FuncId} {fn:Func} {s:ChangeSpec} {conds:List PathCond} {apart fresh handsOn again:Bool} {laid:List (String × DataW Unit)}
    (own:ownKnob C.prog.godebug=none) (started:os.Started) (hfn:C.prog.funcs[f]? = some fn)
    (witness :∃(w:World) (tape:Tape) (i:Input),w.os=os∧(w.forCall tape i).Shaped C.prog∧i.vars=[]∧Input.okWide C.prog (w.forCall tape i) .any w.heap.size f i∧
      ((s.pre enc C.prog fn conds apart (w.forCall tape i).memory i.args∧laidMetH C.prog laid (w.forCall tape i).memory)∧sizedMet enc C.prog fn (OpenSpec.ofChange s) apart (w.forCall tape i).memory i.args)∧a.holds C.prog (lone (Frame.enter C.prog f i.args .normal) [] (w.forCall tape i)))
    (runs :∀(W:World) (base:Nat) (args:Array Value) (ds gs:List (DataW H)) (before:List MemPlace),
      (∀(j:Nat) t v,fn.params[j]? = some t→args[j]? = some v→Value.okWide C.prog W .any base t v)→
      DataW.Whole enc C.prog fn.params.toList s.vars apart W args.toList ds gs before→
      (DataW.weightsEach C.prog (fn.params.toList ++ s.plain.varTypes C.prog) (ds ++ gs)).all (·≤reachBytes)=true→
      laidMetH C.prog laid W→
∃M last o w' t',runNT C.prog (M+1) (solo (G (Frame.enter C.prog f args .normal) []) W) #[]=(.ended o w',t')∧runN C.prog M (solo (G (Frame.enter C.prog f args .normal) []) W) = .next last∧
        step C.prog last = .ended o w'∧Conc.Good C.prog (fun v W'=>s.post enc C.prog fn apart fresh handsOn again W args v W') last o w' t') :
    ReturnsInLeavingWide a C os f .any (fun w args=>(s.pre enc C.prog fn conds apart w args∧laidMetH C.prog laid w)∧sizedMet enc C.prog fn (OpenSpec.ofChange s) apart w args) (s.post enc C.prog fn apart fresh handsOn again):=by
  refine returnsInLeavingWide_of_good own started witness ?_
  intro w tape i _ _ _ hok hpre hholds
  obtain ⟨_,_,_,fn',hfn',_,_,_,_,hval⟩:=hok
  have e:fn'=fn:=Option.some.inj (hfn'.symm.trans hfn)
  subst e
  obtain ⟨⟨⟨ds,gs,before,hw,hc⟩,hL⟩,hz⟩:=hpre
  have hw':=DataW.Whole.of_heap (w':=w.forCall tape i) (by rfl) hw
  have hL':=hL.of_heap (w':=w.forCall tape i) (by rfl)
  obtain ⟨M,last,o,w',t',h1,h2,h3,h4⟩:=runs (w.forCall tape i) w.heap.size i.args ds gs before hval hw' (hz.weights hw) hL'
  exact ⟨M,last,o,w',t',h1,h2,h3,h4.mono fun v hp=>ChangeSpec.post_blind hp⟩
theorem Zo5 {n0 n1 n2 n3 nm:String} {x0 x1 x2 x3:List UInt8} {r:List (String × DataW Unit)} {W:World} {k0 k1 k2 k3:Nat} {ti tp te ts:TypeId} {ms:Array (String × TypeId)} {f:Field}
    (h:laidMet P ((n0,.iface nm (.ptr (.agg [.lit (.string x0)]))) :: (n1,.iface nm (.ptr (.agg [.lit (.string x1)]))) :: (n2,.iface nm (.ptr (.agg [.lit (.string x2)]))) :: (n3,.iface nm (.ptr (.agg [.lit (.string x3)]))) :: r) W)
    (hg0:P.globalNamed n0=some k0) (hg1:P.globalNamed n1=some k1) (hg2:P.globalNamed n2=some k2) (hg3:P.globalNamed n3=some k3) (hy0:(P.globals[k0]?).map (·.type)=some ti) (hy1:(P.globals[k1]?).map (·.type)=some ti) (hy2:(P.globals[k2]?).map (·.type)=some ti) (hy3:(P.globals[k3]?).map (·.type)=some ti)
    (hi:P.underlying ti=some (.interface ms)) (hrow :∀u,P.typeName? 3 u=some nm→u=tp)
    (hp:P.underlying tp=some (.pointer te)) (he:P.underlying te=some (.struct #[f])) (hft:f.type=ts) (hfo:f.offset=0) (hs:P.underlying ts=some .string) (hc:P.cellsOf te=1) (hcs:P.cellsOf ts=1) :
∃a:Nat→Addr,ErrsB tp [k0,k1,k2,k3] (Za1 W) a:=by
  obtain ⟨ps,⟨g0,t0,cs0,f0,p0,q0,hg0',ht0',hv0,hd0,⟨g1,t1,cs1,f1,p1,q1,hg1',ht1',hv1,hd1,⟨g2,t2,cs2,f2,p2,q2,hg2',ht2',hv2,hd2,⟨g3,t3,cs3,f3,p3,q3,hg3',ht3',hv3,hd3,_,e3⟩,e2⟩,e1⟩,e0⟩,hnd,hrows⟩:=h
  obtain rfl:=Option.some.inj (hg0.symm.trans hg0')
  obtain rfl:=Option.some.inj (hg1.symm.trans hg1')
  obtain rfl:=Option.some.inj (hg2.symm.trans hg2')
  obtain rfl:=Option.some.inj (hg3.symm.trans hg3')
  obtain rfl:=Option.some.inj (hy0.symm.trans ht0')
  obtain rfl:=Option.some.inj (hy1.symm.trans ht1')
  obtain rfl:=Option.some.inj (hy2.symm.trans ht2')
  obtain rfl:=Option.some.inj (hy3.symm.trans ht3')
  subst e3
  subst e2
  subst e1
  subst e0
  obtain ⟨l0⟩:=cs0
  obtain ⟨l1⟩:=cs1
  obtain ⟨l2⟩:=cs2
  obtain ⟨l3⟩:=cs3
  have ok0 :∀u v,l0=[.iface u v]→Value.okWide P W .any 0 u v:=fun u v e=>by
    subst e
    exact (hrows k0 0 (by simp [MemPlace.row])).2 u v (by simpa using World.var?_cell hg0' hv0 0)
  have ok1 :∀u v,l1=[.iface u v]→Value.okWide P W .any 0 u v:=fun u v e=>by
    subst e
    exact (hrows k1 0 (by simp [MemPlace.row])).2 u v (by simpa using World.var?_cell hg1' hv1 0)
  have ok2 :∀u v,l2=[.iface u v]→Value.okWide P W .any 0 u v:=fun u v e=>by
    subst e
    exact (hrows k2 0 (by simp [MemPlace.row])).2 u v (by simpa using World.var?_cell hg2' hv2 0)
  have ok3 :∀u v,l3=[.iface u v]→Value.okWide P W .any 0 u v:=fun u v e=>by
    subst e
    exact (hrows k3 0 (by simp [MemPlace.row])).2 u v (by simpa using World.var?_cell hg3' hv3 0)
  obtain ⟨a0,s0,rfl,hc0,hs0,hz0,rfl⟩:=errorString_of_trod hi hrow hp he hft hfo hs hc hcs hd0 ok0
  obtain ⟨a1,s1,rfl,hc1,hs1,hz1,rfl⟩:=errorString_of_trod hi hrow hp he hft hfo hs hc hcs hd1 ok1
  obtain ⟨a2,s2,rfl,hc2,hs2,hz2,rfl⟩:=errorString_of_trod hi hrow hp he hft hfo hs hc hcs hd2 ok2
  obtain ⟨a3,s3,rfl,hc3,hs3,hz3,rfl⟩:=errorString_of_trod hi hrow hp he hft hfo hs hc hcs hd3 ok3
  have b0:=(hrows a0.block a0.off (by simp [MemPlace.row])).1
  have b1:=(hrows a1.block a1.off (by simp [MemPlace.row])).1
  have b2:=(hrows a2.block a2.off (by simp [MemPlace.row])).1
  have b3:=(hrows a3.block a3.off (by simp [MemPlace.row])).1
  have row :∀(g:Nat) (v:Value) (n:String),P.globalNamed n=some g→W.var? P n=some #[v]→Zaq (Za1 W) g 0 [v]:=fun g v n hg hv L j u hj=>by
    cases j with
    | zero=>
      simp only [List.getElem?_cons_zero,Option.some.injEq] at hj
      subst hj
      have:=Zho (by simpa using World.var?_cell hg hv 0:W.cell? ⟨g,0,none⟩=some v)
      obtain ⟨h1,cs,T,fr,h2,h3⟩:=this
      exact ⟨h1,cs,T,fr,h2.elim .inl (fun h=>by cases h),h3⟩
    | succ j=>simp at hj
  refine ⟨fun k=>if k=0 then a0 else if k=1 then a1 else if k=2 then a2 else a3,fun k hk=>?_,fun k hk=>?_,fun i j hi' hj' hne=>?_⟩
  · match k,hk with
    | 0,_=>exact row k0 _ _ hg0 hv0
    | 1,_=>exact row k1 _ _ hg1 hv1
    | 2,_=>exact row k2 _ _ hg2 hv2
    | 3,_=>exact row k3 _ _ hg3 hv3
  · match k,hk with
    | 0,_=>exact b0
    | 1,_=>exact b1
    | 2,_=>exact b2
    | 3,_=>exact b3
  · have h01:a0≠a1:=by rintro rfl;simp [MemPlace.row] at hnd
    have h02:a0≠a2:=by rintro rfl;simp [MemPlace.row] at hnd
    have h03:a0≠a3:=by rintro rfl;simp [MemPlace.row] at hnd
    have h12:a1≠a2:=by rintro rfl;simp [MemPlace.row] at hnd
    have h13:a1≠a3:=by rintro rfl;simp [MemPlace.row] at hnd
    have h23:a2≠a3:=by rintro rfl;simp [MemPlace.row] at hnd
    match i,j,hi',hj',hne with
    | 0,1,_,_,_=>exact h01
    | 0,2,_,_,_=>exact h02
    | 0,3,_,_,_=>exact h03
    | 1,0,_,_,_=>exact h01.symm
    | 1,2,_,_,_=>exact h12
    | 1,3,_,_,_=>exact h13
    | 2,0,_,_,_=>exact h02.symm
    | 2,1,_,_,_=>exact h12.symm
    | 2,3,_,_,_=>exact h23
    | 3,0,_,_,_=>exact h03.symm
    | 3,1,_,_,_=>exact h13.symm
    | 3,2,_,_,_=>exact h23.symm
    | 0,0,_,_,h=>exact (h rfl).elim
    | 1,1,_,_,h=>exact (h rfl).elim
    | 2,2,_,_,h=>exact (h rfl).elim
    | 3,3,_,_,h=>exact (h rfl).elim
end
theorem Zpr (Lk:Looks) {p:Pinned} {s:OpenSpec} {c:OpenClaim} (kinds:List LaidKind) (tests:Bool) (har:Bool × String) (lk:Bool)
    (hc:c.holds p s) (hw:c.wfByText s=true) (htie:c.laidByTextAt Lk p kinds tests)
    (hst:c.start = .entering) (hnb:c.noBlocks=false∧c.again=false) (hm:p.checked.prog.mainIs=some (har.1,har.2.toList)) (hn:(!har.1 && har.2.isEmpty && !lk)=false)
    (hl :∀f fn,p.checked.prog.funcNamed c.func=some f→p.checked.prog.funcs[f]? = some fn→lk=p.checked.prog.looks []∧∀(j:Nat) t,fn.params[j]? = some t→p.checked.prog.wantsStandIn t=false)
    (hg:true=c.goesBy p.checked.prog) :
    Claim7.holds p (.plain s) { stood:={ row:=c,standIns:=[],harness:=har,looks:=lk },kinds:=[],alts:=[],goes:=true,laidByText:=true,laidKinds:=kinds,laidTests:=tests,laidLooks:=Lk }:=by
  have h6 :∀r:OpenClaim,Claim7.isSixth { stood:={ row:=r,standIns:=[],harness:=har,looks:=lk },kinds:=[] } = false:=fun r=>by simpa [Claim7.isSixth] using hn
  refine ⟨Claim7.tied_new_at Lk kinds tests (Claim7.new_of_sixth hc har lk hst hnb hm (h6 c) hl) hw,(fun D hD=>by cases hD),htie,(fun h=>by cases h),hg⟩
end Go.BL
namespace Go.BL
open Go.Conc (G)
set_option linter.unusedVariables false
section
variable {P:PJ} {n:Nat} {ops:Array Oper} {i:Nat} {K:ZaJ} {S:Env} {D:List Deferred} {B:Kn} {L:List Cells}
variable {dst:Option Tmp} {ty:TypeId} {pos:String} {after:Array Edge} {g:Option (Nat × Bool)}
theorem ZrX {f:FuncId} {x:Operand} {cap:Array Value} {xs:List Operand} {vs:List Value} {ats:Array TypeId} {Post:Value→Kn→List Cells→Prop} (js:List Nat) {ss r:List Cells} (hp:ZaC L js=some (ss,r)) (hn:Zee js=true) (hg:Zo ops S g=some true) (hd:Zv n dst=true) (he:enters P f=true) (hx:ev S x=some (.func (.func f) #[] cap)) (ha:evs S xs=some vs) (hc:Zz P f (vs ++ cap.toList) B ss Post)
    (h :∀v B' Ls',B.le B'→Post v B' Ls'→K v D B' (Zcl r js Ls')):opX P n ops i ⟨dst,.call ⟨.value x,xs.toArray,ats⟩,ty,pos,after,g⟩ K S D B L:=
  Zdt (o:=⟨dst,.call ⟨.value x,xs.toArray,ats⟩,ty,pos,after,g⟩) (vs:=vs ++ cap.toList) hg (fun ρ hρ Q F q=>by
      have:=Zd2 (P:=P) (B:=B) (L:=L) (dst:=dst) (ty:=ty) (pos:=pos) (after:=after) (g:=g) (x:=x) (first:=#[]) (cap:=cap) (ats:=ats) he hx ha ρ hρ Q F
      exact this (by simpa using q)) hd (Ls:=ss) (Lk:=r) (Zag js L ss r hp) hc
    fun v' B' Ls' hle hq=>⟨Zcl r js Ls',ZbE Ls' r js (ZbG hn) (fun j hj=>ZbF js L ss r hp j (.inr hj)),h v' B' Ls' hle hq⟩
theorem All3.turn {α:Type} {R:ZfQ α} {rows:List (List Value)} {xs:List α} {s:Cells} (h:All3 R rows xs s) {z x:α} {ex:Cells} (f:List Value→List Value) (hf :∀row li,R row x li→∃li' gl,R (f row) z li'∧(li ++ ex).Perm (li' ++ gl)) :∀{k:Nat},xs[k]? = some x→∃row s' gl,rows[k]? = some row∧All3 R (rows.set k (f row)) (xs.set k z) s'∧(s ++ ex).Perm (s' ++ gl):=by
  induction h with
  | nil=>intro k hx;simp at hx
  | @cons row0 x0 ins0 rest rows xs h1 h2 ih=>
    intro k hx
    cases k with
    | zero=>
      simp only [List.getElem?_cons_zero,Option.some.injEq] at hx
      subst hx
      obtain ⟨li',gl,e1,e2⟩:=hf _ _ h1
      refine ⟨row0,li' ++ rest,gl,rfl,.cons e1 h2,?_⟩
      have e3:(ins0 ++ rest ++ ex).Perm ((ins0 ++ ex) ++ rest):=by
        rw [List.append_assoc,List.append_assoc];exact List.Perm.append_left _ List.perm_append_comm
      refine e3.trans ((e2.append_right rest).trans ?_)
      rw [List.append_assoc,List.append_assoc];exact List.Perm.append_left _ List.perm_append_comm
    | succ k=>
      obtain ⟨row,s',gl,e1,e2,e3⟩:=ih (k:=k) (by simpa using hx)
      refine ⟨row,ins0 ++ s',gl,by simpa using e1,.cons h1 e2,?_⟩
      rw [List.append_assoc,List.append_assoc]
      exact List.Perm.append_left ins0 e3
theorem Ztk {α:Type} {R:ZfQ α} {xs:List α} {x0:α} (z:α) {t T:TypeId} {x y:Operand} {v:Value} {us:List Value} {sz k c b:Nat} (off:Nat) {l:Cells} {p:Option Addr} {inss r:List Cells} (j:Nat) (ks:List Nat) (hpk:ZaC L (j :: ks)=some (l :: inss,r)) (hnd:Zee (j :: ks)=true) (hv:ZaM l p c T sz R xs) (hp:p=some ⟨b,0,Option.none⟩) (hx0:xs[k]? = some x0) (hg:Zo ops S g=some true) (hd:Zv n dst=true) (hsz:ZR P t=some us.length)
    (hx:ev S x=some (ptr ⟨b,k*sz+off,Option.none⟩)) (hy:ev S y=some v) (hvc:v.cells=us.toArray) (ho:us.all ZfS=true) (hoff:off+us.length≤sz) (hr :∀row li,R row x0 li→∃li' gl,R (Z6 row off us) z li'∧(li ++ inss.flatten).Perm (li' ++ gl))
    (h :∀l',ZaM l' p c T sz R (xs.set k z)→K undef D B (Zcl r (j :: ks) (l' :: inss.map fun _=>[]))):opX P n ops i ⟨dst,.store t x y,ty,pos,after,g⟩ K S D B L:=by
  subst hp
  obtain ⟨rows,blk,ins,h1,h2,h3,hl1,⟨hc,_⟩ | ⟨b',arr,e,ha,ht,rfl,hmc⟩⟩:=hv
  · cases hc
  · cases e
    have hk:=(List.getElem?_eq_some_iff.1 hx0).1
    obtain ⟨row,s',gl,hrow,a1,a2⟩:=h1.turn (fun row=>Z6 row off us) hr hx0
    have hw:row.length=sz:=h2 row (List.mem_of_getElem? hrow)
    have hsz1:(k+1)*sz≤xs.length*sz:=Nat.mul_le_mul_right sz hk
    have hcs:xs.length*sz≤c*sz:=Nat.mul_le_mul_right sz hmc
    rw [Nat.succ_mul] at hsz1
    have hb1:k*sz+off+us.length≤arr.length:=by omega
    have hpp:=Zag (j :: ks) L (l :: inss) r hpk
    refine ZkC (L':=[Zae b arr T ++ ins,inss.flatten ++ r.flatten]) (K':=fun u D' B' L₁=>u=undef∧D'=D∧B'=B∧L₁=[Zae b (Z6 arr (k*sz+off) us) T ++ ins,inss.flatten ++ r.flatten]) ?_ ?_ ?_
    · refine hpp.trans ?_
      simp only [List.flatten_cons,List.flatten_nil,List.append_nil,List.append_assoc]
      refine (h3.append_right _).trans ?_
      rw [List.append_assoc]
    · exact Z4 us 0 (Z6 arr (k*sz+off) us) hg hd hsz hx hy hvc ho (T:=T) (r:=ins) rfl rfl (by rw [Nat.ble_eq];exact hb1) rfl ⟨rfl,rfl,rfl,rfl⟩
    · rintro u D' B' L₁ hle ⟨rfl,rfl,rfl,rfl⟩
      have hnew:ZaM (Zae b (Z6 arr (k*sz+off) us) T ++ s') (some ⟨b,0,Option.none⟩) c T sz R (xs.set k z):=by
        have hsl:(Z6 row off us).length=sz:=by rw [Z2];exact hw
        have hwide:wide sz (rows.set k (Z6 row off us)):=fun r' hr'=>by
          rcases List.mem_or_eq_of_mem_set hr' with hr' | rfl
          · exact h2 r' hr'
          · exact hsl
        refine ⟨rows.set k (Z6 row off us),_,s',a1,hwide,.refl _,?_,.inr ⟨b,_,rfl,by rw [Z2];exact ha,?_,rfl,by rw [List.length_set];exact hmc⟩⟩
        · rw [ZcM hwide,List.length_set,List.length_set,h1.len]
        · rw [List.length_set]
          have e:=ZcH (us:=us) (off:=off) h2 hrow hoff
          rw [ZcS _ _ _ _ (by omega) (by omega),ht,e]
      refine ⟨_,gl,?_,h _ hnew⟩
      have hq:=ZbE ((Zae b (Z6 arr (k*sz+off) us) T ++ s') :: inss.map fun _=>[]) r (j :: ks) (ZbG hnd) (fun jj hj=>ZbF (j :: ks) L (l :: inss) r hpk jj (.inr hj))
      have hnil:((inss.map fun _=>([]:Cells))).flatten=[]:=by
        clear hpk hpp hr h a2 hq
        induction inss with
        | nil=>rfl
        | cons a as ih=>simp
      rw [List.flatten_cons,hnil,List.append_nil] at hq
      refine List.Perm.trans ?_ (hq.append_right gl)
      simp only [List.flatten_cons,List.flatten_nil,List.append_nil]
      have e1:(Zae b (Z6 arr (k*sz+off) us) T ++ ins ++ (inss.flatten ++ r.flatten)).Perm (Zae b (Z6 arr (k*sz+off) us) T ++ ((ins ++ inss.flatten) ++ r.flatten)):=by simp only [List.append_assoc];exact .refl _
      refine (e1.trans (List.Perm.append_left _ (a2.append_right _))).trans ?_
      exact Zn8 fun f g h0 ha hc=>by simp only [ha];omega
end
theorem Zxy {B:Kn} {ls:List Cells} {b:Nat} {row:List Value} {T:TypeId} (k:Nat) (hk:ls[k]? = some (Zae b row T)) (hm :∀q,q∈ls.flatten→(B.add ls.flatten).mem q.1=some q.2):Zaq (B.add ls.flatten) b 0 row:=ZaW (Zou hm k hk)
end Go.BL
namespace Go.BL
open Go.Conc (G)
set_option linter.unusedVariables false
@[reducible] def Zgu (x:DMail) (v:Value):List Value:=[.int .i64 x.uid,.int .i64 x.flags,str x.text,v]
def Zgv (Tn:TypeId):Value→List DMail→Cells→Prop
  | v,[],s=>v = .pointer none∧s=[]
  | v,x :: xs,s=>∃b nx rest,v=ptr ⟨b,0,none⟩∧s.Perm (Zae b (Zgu x nx) Tn ++ rest)∧x.text.length≤2000000∧Zgv Tn nx xs rest
theorem Zgv.ptr {Tn:TypeId} {v:Value} {xs:List DMail} {s:Cells} (h:Zgv Tn v xs s) :∃p,v = .pointer p:=by
  cases xs with
  | nil=>exact ⟨none,h.1⟩
  | cons x xs=>obtain ⟨b,nx,rest,rfl,_⟩:=h;exact ⟨_,rfl⟩
theorem Zgv.more {Tn:TypeId} {p:Option Addr} {xs:List DMail} {s:Cells} (h:Zgv Tn (.pointer p) xs s) (hp:p.isNone=false) :∃y ys b np rest,p=some ⟨b,0,none⟩∧xs=y :: ys∧s.Perm (Zae b (Zgu y (.pointer np)) Tn ++ [rest].flatten)∧y.text.length≤2000000∧Zgv Tn (.pointer np) ys rest:=by
  cases xs with
  | nil=>obtain ⟨h1,_⟩:=h;cases h1;cases hp
  | cons x xs=>
    obtain ⟨b,nx,rest,h1,h2,h3,h4⟩:=h
    obtain ⟨np,rfl⟩:=h4.ptr
    cases h1
    exact ⟨x,xs,b,np,rest,rfl,rfl,by simpa using h2,h3,h4⟩
theorem Zgv.done {Tn:TypeId} {p:Option Addr} {xs:List DMail} {s:Cells} (h:Zgv Tn (.pointer p) xs s) (hp:p.isNone=true):xs=[]:=by
  cases xs with
  | nil=>rfl
  | cons x xs=>obtain ⟨b,nx,rest,h1,_⟩:=h;cases h1;cases hp
def Zhw (Tn:TypeId) (v0:Value) (bl:Nat) (x:DMail) (rest:Cells) (pre:List DMail):Prop:=
∀v xs s,Zgv Tn v xs s→∃s0,Zgv Tn v0 (pre ++ xs) s0∧(Zae bl (Zgu x v) Tn ++ (rest ++ s)).Perm s0
theorem Zhw.init {Tn:TypeId} {b:Nat} {x:DMail} (hx:x.text.length≤2000000):Zhw Tn (Go.BL.ptr ⟨b,0,none⟩) b x [] [x]:=fun v xs s h=>
  ⟨Zae b (Zgu x v) Tn ++ s,⟨b,v,s,rfl,.refl _,hx,h⟩,by simp⟩
theorem Zhw.step {Tn:TypeId} {v0:Value} {bl b:Nat} {x y:DMail} {rest:Cells} {pre:List DMail} (h:Zhw Tn v0 bl x rest pre) (hy:y.text.length≤2000000) :
    Zhw Tn v0 b y (rest ++ Zae bl (Zgu x (Go.BL.ptr ⟨b,0,none⟩)) Tn) (pre ++ [y]):=fun v xs s hs=>by
  obtain ⟨s0,h1,h2⟩:=h (Go.BL.ptr ⟨b,0,none⟩) (y :: xs) (Zae b (Zgu y v) Tn ++ s) ⟨b,v,s,rfl,.refl _,hy,hs⟩
  refine ⟨s0,by simpa using h1,?_⟩
  refine List.Perm.trans ?_ h2
  exact Zn8 fun f g h0 ha hc=>by simp only [ha];omega
def MLst (TL Tn:TypeId) (b:Nat) (xs:List DMail) (s:Cells):Prop:=
  (xs=[]∧s.Perm (Zae b [.pointer none,.pointer none,.int .i64 0] TL))∨
∃v0 bl x rest,s.Perm (Zae b [v0,ptr ⟨bl,0,none⟩,.int .i64 xs.length] TL ++ [Zae bl (Zgu x (.pointer none)) Tn,rest].flatten)∧Zhw Tn v0 bl x rest xs
theorem MLst.nil {TL Tn:TypeId} {b:Nat} : MLst TL Tn b [] (Zae b [.pointer none,.pointer none,.int .i64 0] TL):=.inl ⟨rfl,.refl _⟩
theorem MLst.chain {TL Tn:TypeId} {b:Nat} {xs:List DMail} {s:Cells} (h:MLst TL Tn b xs s) :∃p vl s0,s.Perm (Zae b [.pointer p,vl,.int .i64 xs.length] TL ++ [s0].flatten)∧Zgv Tn (.pointer p) xs s0:=by
  rcases h with ⟨rfl,hp⟩ | ⟨v0,bl,x,rest,hp,hh⟩
  · exact ⟨none,.pointer none,[],by simpa using hp,rfl,rfl⟩
  · obtain ⟨s0,h1,h2⟩:=hh (.pointer none) [] [] ⟨rfl,rfl⟩
    rw [List.append_nil] at h1
    obtain ⟨p,rfl⟩:=h1.ptr
    refine ⟨p,_,s0,hp.trans (List.Perm.append_left _ ?_),h1⟩
    simpa using h2
end Go.BL
namespace Go.BL
section
variable {P:PJ} {n:Nat} {ops:Array Oper} {i:Nat} {K:ZaJ} {S:Env} {D:List Deferred} {B:Kn} {L:List Cells}
variable {dst:Option Tmp} {ty:TypeId} {pos:String} {after:Array Edge} {g:Option (Nat × Bool)}
end
end Go.BL
namespace Go.BL
section
variable {P:PJ} {n:Nat} {ops:Array Oper} {i:Nat} {K:ZaJ} {S:Env} {D:List Deferred} {B:Kn} {L:List Cells}
variable {dst:Option Tmp} {ty:TypeId} {pos:String} {after:Array Edge} {g:Option (Nat × Bool)}
variable {α:Type} {R:Rel α} {xs:List α}
theorem Zcg.own {B:Kn} {L:List Cells} {l:Cells} {p:Option Addr} {m c sz:Nat} {T:TypeId} {vs:List Value} (h:ZgH l p m c T sz vs) (j:Nat) (hj:L[j]? = some l):Zcg B L.flatten p vs:=by
  obtain ⟨h1,⟨rfl,rfl,rfl,rfl⟩ | ⟨b,arr,rfl,h2,h3,rfl,h4⟩⟩:=h
  · exact List.eq_nil_of_length_eq_zero (by simpa using h1)
  · intro k v hk
    have hv':arr[k]? = some v:=by
      rw [← h3,List.getElem?_take] at hk
      split at hk
      · exact hk
      · cases hk
    exact Zcg.box (B:=B) j hj k v hv'
end
end Go.BL
namespace Go.BL
theorem ZE {P:PJ} {n:Nat} {Q:Exit→Zaa} {S:Env} {D:List Deferred} {B:Kn} {L:List Cells} {c:Code} (L':List Cells) (hl:L=L') (h:wpS P n c Q S D B L'):wpS P n c Q S D B L:=by subst hl;exact h
theorem sQ:(∀(p:Prop) [Decidable p],(decide p=true)=p)∧(∀(p:Prop) [Decidable p],(decide p=false) = ¬p)∧(∀b:Bool,((!b)=true)=(b=false))∧(∀b:Bool,((!b)=false)=(b=true))∧(∀(p:Prop) [Decidable p],(decide (¬p)) = !decide p)∧(∀(p:Prop) [Decidable p],(¬¬p)=p)∧(∀a b:Int,(¬a<b)=(b≤a))∧(∀a b:Int,(¬a≤b)=(b<a)):=
  ⟨fun p _=>by simp,fun p _=>by simp,by simp,by simp,fun p _=>by simp,fun p _=>by simp,by simp,by simp⟩
end Go.BL
namespace Go.BL
def orI (a b:Int):Int:=IntKind.i64.wrap (BitVec.ofInt 64 a ||| BitVec.ofInt 64 b).toNat
def ZuJ (a b:Int):Int:=IntKind.i64.wrap (BitVec.ofInt 64 a &&& BitVec.ofInt 64 b).toNat
section
variable {P:PJ} {n:Nat} {ops:Array Oper} {i:Nat} {K:ZaJ} {S:Env} {D:List Deferred} {B:Kn} {L:List Cells}
variable {dst:Option Tmp} {ty:TypeId} {pos:String} {after:Array Edge} {g:Option (Nat × Bool)}
theorem Zlt {t kt et:TypeId} {x y:Operand} {b:Nat} {l:Cells} {kvs:KV} {k:List UInt8} (j:Nat) (hj:L[j]? = some l) (hl:Ztf l b kvs) (hg:Zo ops S g=some true) (hd:Zv n dst=true) (hu:P.underlying t=some (.map kt et)) (hk:P.underlying kt=some .string)
    (hz:Zak P et=some (.int .i64 0)) (hx:ev S x=some (.map (some b))) (hy:ev S y=some (str k)) (h:K (.int .i64 ((mget kvs k).getD 0)) D B L):opX P n ops i ⟨dst,.lookup t x y false,ty,pos,after,g⟩ K S D B L:=
  Zds hg hd fun ρ hρ F=>by
    obtain ⟨es,clock,rfl,ok⟩:=hl
    have hin:(b,Obj.map es clock)∈L.flatten ++ F:=by
      rw [((ZT F [] hj).choose_spec.1).mem_iff];simp
    simp only [execOp,Instr.lookup,hρ x _ hx,hρ y _ hy,Zm,Zt hu]
    refine ⟨_,.inr hin,rfl,rfl,?_⟩
    simp only [ZaU,Zm,Zs]
    refine Zg9 hk ?_
    rw [Zm]
    refine Zh2 hk ok.ent ?_
    cases hm:mlook kvs k 0 with
    | none=>
      obtain ⟨_,_,_,m4⟩:=Zf3 hm
      simp only [Zba hz,Zs,Zm,ZoH,Bool.false_eq_true,if_false]
      rw [m4] at h
      exact ⟨L,.of (List.Perm.refl _),h⟩
    | some p=>
      obtain ⟨jj,u⟩:=p
      obtain ⟨m,w,rfl,rfl,m3,m4,_,m6⟩:=Zf2 hm
      simp only [Zs,Zm,Bool.false_eq_true,if_false]
      rw [m6] at h
      exact ⟨L,.of (List.Perm.refl _),h⟩
section
variable {t u:TypeId} {x y:Operand} {a b r:Int}
theorem Zvc (hg:Zo ops S g=some true) (hd:Zv n dst=true) (hx:ev S x=some (.int .i64 a)) (hy:ev S y=some (.int .i64 b)) (h:K (.int .i64 (orI a b)) D B L):opX P n ops i ⟨dst,.binOp .or t x y u,ty,pos,after,g⟩ K S D B L:=
  ZK hg hd (fun ρ hρ Q F q=>by
    simp only [execOp,hρ x _ hx,hρ y _ hy,Zm,Zad,binOp,ne_eq,not_true_eq_false,if_false,Op.intBits,Zs];exact q) h
theorem ZtF (hg:Zo ops S g=some true) (hd:Zv n dst=true) (hx:ev S x=some (.int .i64 a)) (hy:ev S y=some (.int .i64 b)) (h:K (.int .i64 (ZuJ a b)) D B L):opX P n ops i ⟨dst,.binOp .and t x y u,ty,pos,after,g⟩ K S D B L:=
  ZK hg hd (fun ρ hρ Q F q=>by
    simp only [execOp,hρ x _ hx,hρ y _ hy,Zm,Zad,binOp,ne_eq,not_true_eq_false,if_false,Op.intBits,Zs];exact q) h
end
end
end Go.BL
namespace Go.BL
theorem om {p:Prop} (h:p:=by first | omega | (simp;done) | (simp;omega)):p:=h
theorem om2 {p:Prop} (h:p:=by first | assumption | omega | (simp;done) | (simp;omega)):p:=h
theorem oz {p:Prop} (h:p:=by omega):p:=h
theorem kr {p:Prop} (h:p:=by kernel_rfl):p:=h
theorem so {p:Prop} (h:p:=by simp only [];omega):p:=h
theorem so2 {p:Prop} (h:p:=by first | omega | (simp only [];omega)):p:=h
theorem oa {p:Prop} (h:p:=by first | assumption | omega):p:=h
theorem oy {p:Prop} (h:p:=by assumption):p:=h
theorem om3 {p:Prop} (h:p:=by first | omega | decide | (simp;done) | (simp;omega)):p:=h
theorem t1 {α0:Sort _} {a0:α0} : a0=a0∧True:=⟨rfl,trivial⟩
theorem t2 {α0 α1:Sort _} {a0:α0} {a1:α1} : a0=a0∧a1=a1∧True:=⟨rfl,rfl,trivial⟩
theorem t3 {α0 α1 α2:Sort _} {a0:α0} {a1:α1} {a2:α2} : a0=a0∧a1=a1∧a2=a2∧True:=⟨rfl,rfl,rfl,trivial⟩
theorem t4 {α0 α1 α2 α3:Sort _} {a0:α0} {a1:α1} {a2:α2} {a3:α3} : a0=a0∧a1=a1∧a2=a2∧a3=a3∧True:=⟨rfl,rfl,rfl,rfl,trivial⟩
theorem t5 {α0 α1 α2 α3 α4:Sort _} {a0:α0} {a1:α1} {a2:α2} {a3:α3} {a4:α4} : a0=a0∧a1=a1∧a2=a2∧a3=a3∧a4=a4∧True:=⟨rfl,rfl,rfl,rfl,rfl,trivial⟩
theorem t6 {α0 α1 α2 α3 α4 α5:Sort _} {a0:α0} {a1:α1} {a2:α2} {a3:α3} {a4:α4} {a5:α5} : a0=a0∧a1=a1∧a2=a2∧a3=a3∧a4=a4∧a5=a5∧True:=⟨rfl,rfl,rfl,rfl,rfl,rfl,trivial⟩
theorem t7 {α0 α1 α2 α3 α4 α5 α6:Sort _} {a0:α0} {a1:α1} {a2:α2} {a3:α3} {a4:α4} {a5:α5} {a6:α6} : a0=a0∧a1=a1∧a2=a2∧a3=a3∧a4=a4∧a5=a5∧a6=a6∧True:=⟨rfl,rfl,rfl,rfl,rfl,rfl,rfl,trivial⟩
theorem t8 {α0 α1 α2 α3 α4 α5 α6 α7:Sort _} {a0:α0} {a1:α1} {a2:α2} {a3:α3} {a4:α4} {a5:α5} {a6:α6} {a7:α7} : a0=a0∧a1=a1∧a2=a2∧a3=a3∧a4=a4∧a5=a5∧a6=a6∧a7=a7∧True:=⟨rfl,rfl,rfl,rfl,rfl,rfl,rfl,rfl,trivial⟩
theorem t10 {α0 α1 α2 α3 α4 α5 α6 α7 α8 α9:Sort _} {a0:α0} {a1:α1} {a2:α2} {a3:α3} {a4:α4} {a5:α5} {a6:α6} {a7:α7} {a8:α8} {a9:α9} : a0=a0∧a1=a1∧a2=a2∧a3=a3∧a4=a4∧a5=a5∧a6=a6∧a7=a7∧a8=a8∧a9=a9∧True:=⟨rfl,rfl,rfl,rfl,rfl,rfl,rfl,rfl,rfl,rfl,trivial⟩
theorem t11 {α0 α1 α2 α3 α4 α5 α6 α7 α8 α9 α10:Sort _} {a0:α0} {a1:α1} {a2:α2} {a3:α3} {a4:α4} {a5:α5} {a6:α6} {a7:α7} {a8:α8} {a9:α9} {a10:α10} : a0=a0∧a1=a1∧a2=a2∧a3=a3∧a4=a4∧a5=a5∧a6=a6∧a7=a7∧a8=a8∧a9=a9∧a10=a10∧True:=⟨rfl,rfl,rfl,rfl,rfl,rfl,rfl,rfl,rfl,rfl,rfl,trivial⟩
section
variable {P:PJ} {n:Nat} {ops:Array Oper} {i:Nat} {K:Zaa} {S:Env} {D:List Deferred} {B:Kn} {L:List Cells}
variable {dst:Option Tmp} {ty:TypeId} {pos:String} {after:Array Edge} {g:Option (Nat × Bool)} {t u:TypeId} {x y:Operand}
theorem xM {x:Operand} {v:Value} (hg:Zo ops S g=some true:=by exact rfl) (hd:Zv n dst=true:=by exact rfl) (hx:ev S x=some v:=by exact rfl) (h:K (Zbt S dst v) D B L):opW P n ops i ⟨dst,.move x,ty,pos,after,g⟩ K S D B L:=Zp (Zrs hg hd hx h)
theorem xA {x:Operand} {v:Value} (hg:Zo ops S g=some true:=by exact rfl) (hd:Zv n dst=true:=by exact rfl) (hx:ev S x=some v:=by exact rfl) (h:K (Zbt S dst v) D B L):opW P n ops i ⟨dst,.assign x,ty,pos,after,g⟩ K S D B L:=Zp (Zlw hg hd hx h)
theorem xP  {dst:Option Tmp} {op:Op} {t:TypeId} {pos:String} {after:Array Edge} {g:Option (Nat × Bool)}   (hg:Zo ops S g=some false:=by exact rfl) (hd:Zv n dst=true:=by exact rfl) (h:K (Zbt S dst undef) D B L):opW P n ops i ⟨dst,op,t,pos,after,g⟩ K S D B L:=Zp (Zro  hg hd h)
theorem xT  {c:Operand} {a:Operand} {b:Operand} {v:Value}   (hg:Zo ops S g=some true:=by exact rfl) (hd:Zv n dst=true:=by exact rfl) (hc:ev S c=some (.bool true):=by exact rfl) (hx:ev S a=some v:=by exact rfl) (h:K (Zbt S dst v) D B L):opW P n ops i ⟨dst,.pick c a b,ty,pos,after,g⟩ K S D B L:=Zp (Zns  hg hd hc hx h)
theorem xF  {c:Operand} {a:Operand} {b:Operand} {v:Value}   (hg:Zo ops S g=some true:=by exact rfl) (hd:Zv n dst=true:=by exact rfl) (hc:ev S c=some (.bool false):=by exact rfl) (hx:ev S b=some v:=by exact rfl) (h:K (Zbt S dst v) D B L):opW P n ops i ⟨dst,.pick c a b,ty,pos,after,g⟩ K S D B L:=Zp (Znt  hg hd hc hx h)
theorem xE  {x:Operand} {ix:Nat} {vs:List Value} {v:Value}   (hg:Zo ops S g=some true:=by exact rfl) (hd:Zv n dst=true:=by exact rfl) (hx:ev S x=some (.tuple vs.toArray):=by exact rfl) (hi:vs[ix]? = some v:=by exact rfl) (h:K (Zbt S dst v) D B L):opW P n ops i ⟨dst,.extract x ix,ty,pos,after,g⟩ K S D B L:=Zp (Zi4  hg hd hx hi h)
theorem xN  {x:Operand} {b:Bool} {t:TypeId}   (hg:Zo ops S g=some true:=by exact rfl) (hd:Zv n dst=true:=by exact rfl) (hx:ev S x=some (.bool b):=by exact rfl) (h:K (Zbt S dst (.bool (!b))) D B L):opW P n ops i ⟨dst,.unOp .not t x,ty,pos,after,g⟩ K S D B L:=Zp (Zto  hg hd hx h)
theorem xW  {s:TypeId} {x:Operand} {fi:Nat} {off:Nat} {a:Addr}  (hf:Zy P s fi=some off) (hg:Zo ops S g=some true:=by exact rfl) (hd:Zv n dst=true:=by exact rfl) (hx:ev S x=some (ptr a):=by exact rfl) (h:K (Zbt S dst (ptr (a.add off))) D B L):opW P n ops i ⟨dst,.fieldAddr s x fi,ty,pos,after,g⟩ K S D B L:=Zp (ZgK  hg hd hf hx h)
theorem xD  {k:IntKind} {a b r:Int}   (hg:Zo ops S g=some true:=by exact rfl) (hd:Zv n dst=true:=by exact rfl) (hx:ev S x=some (.int k a):=by exact rfl) (hy:ev S y=some (.int k b):=by exact rfl) (hr:k.wrap (a+b)=r:=by first | exact Zb4 (by first | omega | (simp;done) | (simp;omega)) (by first | omega | (simp;done) | (simp;omega)) | exact rfl) (h:K (Zbt S dst (.int k r)) D B L):opW P n ops i ⟨dst,.binOp .add t x y u,ty,pos,after,g⟩ K S D B L:=Zp (Zgt  hg hd hx hy hr h)
theorem xU  {k:IntKind} {a b r:Int}   (hg:Zo ops S g=some true:=by exact rfl) (hd:Zv n dst=true:=by exact rfl) (hx:ev S x=some (.int k a):=by exact rfl) (hy:ev S y=some (.int k b):=by exact rfl) (hr:k.wrap (a - b)=r:=by first | exact Zb4 (by first | omega | (simp;done) | (simp;omega)) (by first | omega | (simp;done) | (simp;omega)) | exact rfl) (h:K (Zbt S dst (.int k r)) D B L):opW P n ops i ⟨dst,.binOp .sub t x y u,ty,pos,after,g⟩ K S D B L:=Zp (Zif  hg hd hx hy hr h)
theorem ZJ  {k:IntKind} {a b:Int}   (hg:Zo ops S g=some true:=by exact rfl) (hd:Zv n dst=true:=by exact rfl) (hx:ev S x=some (.int k a):=by exact rfl) (hy:ev S y=some (.int k b):=by exact rfl) (h:K (Zbt S dst (.bool (decide (a<b)))) D B L):opW P n ops i ⟨dst,.binOp .lss t x y u,ty,pos,after,g⟩ K S D B L:=Zp (Ztt  hg hd hx hy h)
theorem Zb3  {k:IntKind} {a b:Int}   (hg:Zo ops S g=some true:=by exact rfl) (hd:Zv n dst=true:=by exact rfl) (hx:ev S x=some (.int k a):=by exact rfl) (hy:ev S y=some (.int k b):=by exact rfl) (h:K (Zbt S dst (.bool (decide (a≤b)))) D B L):opW P n ops i ⟨dst,.binOp .leq t x y u,ty,pos,after,g⟩ K S D B L:=Zp (Ztu  hg hd hx hy h)
theorem ZcL  {k:IntKind} {a b:Int}   (hg:Zo ops S g=some true:=by exact rfl) (hd:Zv n dst=true:=by exact rfl) (hx:ev S x=some (.int k a):=by exact rfl) (hy:ev S y=some (.int k b):=by exact rfl) (h:K (Zbt S dst (.bool (decide (b<a)))) D B L):opW P n ops i ⟨dst,.binOp .gtr t x y u,ty,pos,after,g⟩ K S D B L:=Zp (Zty  hg hd hx hy h)
theorem Zd6  {k:IntKind} {a b:Int}   (hg:Zo ops S g=some true:=by exact rfl) (hd:Zv n dst=true:=by exact rfl) (hx:ev S x=some (.int k a):=by exact rfl) (hy:ev S y=some (.int k b):=by exact rfl) (h:K (Zbt S dst (.bool (decide (b≤a)))) D B L):opW P n ops i ⟨dst,.binOp .geq t x y u,ty,pos,after,g⟩ K S D B L:=Zp (Ztz  hg hd hx hy h)
theorem Zlr  {k:IntKind} {a b:Int}   (hg:Zo ops S g=some true:=by exact rfl) (hd:Zv n dst=true:=by exact rfl) (hx:ev S x=some (.int k a):=by exact rfl) (hy:ev S y=some (.int k b):=by exact rfl) (h:K (Zbt S dst (.bool (decide (a=b)))) D B L):opW P n ops i ⟨dst,.binOp .eql t x y u,ty,pos,after,g⟩ K S D B L:=Zp (Zrw  hg hd hx hy h)
theorem ZaN  {k:IntKind} {a b:Int}   (hg:Zo ops S g=some true:=by exact rfl) (hd:Zv n dst=true:=by exact rfl) (hx:ev S x=some (.int k a):=by exact rfl) (hy:ev S y=some (.int k b):=by exact rfl) (h:K (Zbt S dst (.bool (decide (a≠b)))) D B L):opW P n ops i ⟨dst,.binOp .neq t x y u,ty,pos,after,g⟩ K S D B L:=Zp (Zrq  hg hd hx hy h)
theorem Zdp  {a b:List UInt8}   (hg:Zo ops S g=some true:=by exact rfl) (hd:Zv n dst=true:=by exact rfl) (hx:ev S x=some (str a):=by exact rfl) (hy:ev S y=some (str b):=by exact rfl) (h:K (Zbt S dst (.bool (decide (a=b)))) D B L):opW P n ops i ⟨dst,.binOp .eql t x y u,ty,pos,after,g⟩ K S D B L:=Zp (Zrv  hg hd hx hy h)
theorem ZeM  {a b:List UInt8}   (hg:Zo ops S g=some true:=by exact rfl) (hd:Zv n dst=true:=by exact rfl) (hx:ev S x=some (str a):=by exact rfl) (hy:ev S y=some (str b):=by exact rfl) (h:K (Zbt S dst (.bool (decide (a≠b)))) D B L):opW P n ops i ⟨dst,.binOp .neq t x y u,ty,pos,after,g⟩ K S D B L:=Zp (Zrp  hg hd hx hy h)
theorem Zrl  {a b:List UInt8}   (hg:Zo ops S g=some true:=by exact rfl) (hd:Zv n dst=true:=by exact rfl) (hx:ev S x=some (str a):=by exact rfl) (hy:ev S y=some (str b):=by exact rfl) (h:K (Zbt S dst (.bool (Op.bytesLess a b))) D B L):opW P n ops i ⟨dst,.binOp .lss t x y u,ty,pos,after,g⟩ K S D B L:=Zp (Zts  hg hd hx hy h)
theorem xV  {x:Operand} {t:TypeId} {e:TypeId} {p:Option Addr} {len:Nat} {cap:Nat}  (hu:P.underlying t=some (.slice e)) (hg:Zo ops S g=some true:=by exact rfl) (hd:Zv n dst=true:=by exact rfl) (hx:ev S x=some (.slice p len cap):=by exact rfl) (h:K (Zbt S dst (.int .i64 len)) D B L):opW P n ops i ⟨dst,.call ⟨.builtin .len,#[x],#[t]⟩,ty,pos,after,g⟩ K S D B L:=Zp (Ztv  hg hd hu hx h)
theorem xVs  {x:Operand} {t:TypeId} {l:List UInt8}  (hu:P.underlying t=some .string) (hg:Zo ops S g=some true:=by exact rfl) (hd:Zv n dst=true:=by exact rfl) (hx:ev S x=some (str l):=by exact rfl) (h:K (Zbt S dst (.int .i64 l.length)) D B L):opW P n ops i ⟨dst,.call ⟨.builtin .len,#[x],#[t]⟩,ty,pos,after,g⟩ K S D B L:=Zp (Zlu  hg hd hu hx h)
theorem xNc  {x:Operand} {a:Addr}   (hg:Zo ops S g=some true:=by exact rfl) (hd:Zv n dst=true:=by exact rfl) (hx:ev S x=some (.pointer (some a)):=by exact rfl) (h:K (Zbt S dst (.pointer (some a))) D B L):opW P n ops i ⟨dst,.nilCheck x,ty,pos,after,g⟩ K S D B L:=Zp (ZhJ  hg hd hx h)
theorem x1  {t:TypeId} {x:Operand} {a:Addr} {v:Value} {l:List Value} {T:TypeId} {fr:Nat × Nat} {r:Cells}  (hl:lk P t=some none) (j:Nat) (hg:Zo ops S g=some true:=by exact rfl) (hd:Zv n dst=true:=by exact rfl) (hx:ev S x=some (ptr a):=by exact rfl) (hj:L[j]? = some ((a.block,.cells l.toArray T fr) :: r):=by exact rfl) (hs:a.spot=none:=by exact rfl) (hv:l[a.off]? = some v:=by exact rfl) (h:K (Zbt S dst v) D B L):opW P n ops i ⟨dst,.load t x,ty,pos,after,g⟩ K S D B L:=Zp (Zr  hg hd hl hx (atL j hj hs hv) h)
theorem xL  {t:TypeId} {x:Operand} {a:Addr} {l:List Value} {T:TypeId} {fr:Nat × Nat} {r:Cells}  (vs:List Value) (hl:lk P t=some (some vs.length)) (j:Nat) (hg:Zo ops S g=some true:=by exact rfl) (hd:Zv n dst=true:=by exact rfl) (hx:ev S x=some (ptr a):=by exact rfl) (hj:L[j]? = some ((a.block,.cells l.toArray T fr) :: r):=by exact rfl) (hs:a.spot=none:=by exact rfl) (hv:(l.drop a.off).take vs.length=vs:=by exact rfl) (h:K (Zbt S dst (.agg vs.toArray)) D B L):opW P n ops i ⟨dst,.load t x,ty,pos,after,g⟩ K S D B L:=Zp (Zaj  vs hg hd hl hx (Zb1 j hj hs hv) h)
theorem y1  {t:TypeId} {x:Operand} {a:Addr} {v:Value} {b o:Nat} {row:List Value}  (hl:lk P t=some none) (hc:Zaq B b o row) (off:Nat) (hg:Zo ops S g=some true:=by exact rfl) (hd:Zv n dst=true:=by exact rfl) (hx:ev S x=some (ptr a):=by exact rfl) (ha:a=⟨b,o+off,none⟩:=by exact rfl) (hv:row[off]? = some v:=by exact rfl) (h:K (Zbt S dst v) D B L):opW P n ops i ⟨dst,.load t x,ty,pos,after,g⟩ K S D B L:=Zp (Zr  hg hd hl hx (by subst ha;exact hc _ off _ hv) h)
theorem yL  {t:TypeId} {x:Operand} {a:Addr} {b o:Nat} {row:List Value}  (vs:List Value) (hl:lk P t=some (some vs.length)) (hc:Zaq B b o row) (off:Nat) (hg:Zo ops S g=some true:=by exact rfl) (hd:Zv n dst=true:=by exact rfl) (hx:ev S x=some (ptr a):=by exact rfl) (ha:a=⟨b,o+off,none⟩:=by exact rfl) (hv:(row.drop off).take vs.length=vs:=by exact rfl) (h:K (Zbt S dst (.agg vs.toArray)) D B L):opW P n ops i ⟨dst,.load t x,ty,pos,after,g⟩ K S D B L:=Zp (Zaj  vs hg hd hl hx (ZlI hc off ha hv) h)
theorem xS  {t:TypeId} {x:Operand} {y:Operand} {a:Addr} {v:Value} {l:List Value} {T:TypeId} {r:Cells}  (vs:List Value) (j:Nat) (l':List Value) (hsz:ZR P t=some vs.length) (hg:Zo ops S g=some true:=by exact rfl) (hd:Zv n dst=true:=by exact rfl) (hx:ev S x=some (ptr a):=by exact rfl) (hy:ev S y=some v:=by exact rfl) (hv:v.cells=vs.toArray:=by exact rfl) (ho:vs.all ZfS=true:=by exact rfl) (hj:L[j]? = some ((a.block,.cells l.toArray T (0,0)) :: r):=by exact rfl) (hs:a.spot=none:=by exact rfl) (hlen:Nat.ble (a.off+vs.length) l.length=true:=by exact rfl) (hl':Z6 l a.off vs=l':=by exact rfl) (h:K (Zbt S dst undef) D B (L.set j ((a.block,.cells l'.toArray T (0,0)) :: r))):opW P n ops i ⟨dst,.store t x y,ty,pos,after,g⟩ K S D B L:=Zp (Z4  vs j l' hg hd hsz hx hy hv ho hj hs hlen hl' h)
theorem xB  {t:TypeId} {z:Value} {pl:List (Nat × Nat)} {vs:List Value} (parts:List (Nat × Operand)) (zl l':List Value) (hpl:Zbh P t=some pl) (hz:Zak P t=some z) (hg:Zo ops S g=some true:=by exact rfl) (hd:Zv n dst=true:=by exact rfl) (hzl:z.cells.toList=zl:=by exact rfl) (ha:evs S (parts.map (·.2))=some vs:=by exact rfl) (hf:ZhE (fun i=>pl[i]?) zl ((parts.map (·.1)).zip vs)=some l':=by exact rfl) (h:K (Zbt S dst (.agg l'.toArray)) D B L):opW P n ops i ⟨dst,.build t parts.toArray,ty,pos,after,g⟩ K S D B L:=Zp (Zay (parts:=parts) zl l' hg hd hpl hz hzl ha hf h)
theorem xAl  {t:TypeId} {z:Value} (l:List Value) (hz:Zak P t=some z) (hg:Zo ops S g=some true:=by exact rfl) (hd:Zv n dst=true:=by exact rfl) (hl:z.cells=l.toArray:=by exact rfl) (h :∀b,K (Zbt S dst (ptr ⟨b,0,none⟩)) D B (L ++ [Zae b l t])):opW P n ops i ⟨dst,.alloc t,ty,pos,after,g⟩ K S D B L:=Zp (ZbC (l:=l) hg hd hz hl h)
theorem xBx  {t:TypeId} {x:Operand} {v:Value} (l:List Value)  (hg:Zo ops S g=some true:=by exact rfl) (hd:Zv n dst=true:=by exact rfl) (hx:ev S x=some v:=by exact rfl) (hl:v.cells=l.toArray:=by exact rfl) (h :∀b,K (Zbt S dst (ptr ⟨b,0,none⟩)) D B (L ++ [Zae b l t])):opW P n ops i ⟨dst,.box t x,ty,pos,after,g⟩ K S D B L:=Zp (ZtD (l:=l) hg hd hx hl h)
theorem xIx  {t:TypeId} {e:TypeId} {x:Operand} {y:Operand} {k:IntKind} {b:Nat} {o:Nat} {len:Nat} {cap:Nat} {sz:Nat} {ix:Int}  (hu:P.underlying t=some (.slice e)) (hsz:ZR P e=some sz) (hg:Zo ops S g=some true:=by exact rfl) (hd:Zv n dst=true:=by exact rfl) (hx:ev S x=some (.slice (some ⟨b,o,none⟩) len cap):=by exact rfl) (hy:ev S y=some (.int k ix):=by exact rfl) (h0:0≤ix:=by first | omega | (simp;done) | (simp;omega)) (h1:ix<len:=by first | omega | (simp;done) | (simp;omega)) (h:K (Zbt S dst (ptr ⟨b,o+ix.toNat*sz,none⟩)) D B L):opW P n ops i ⟨dst,.indexAddr t x y,ty,pos,after,g⟩ K S D B L:=Zp (Ztw  hg hd hu hsz hx hy h0 h1 h)
theorem xIp  {t:TypeId} {e:TypeId} {x:Operand} {y:Operand} {k:IntKind} {p:Option Addr} {b:Nat} {len:Nat} {cap:Nat} {sz:Nat} {ix:Int}  (hp:p=some ⟨b,0,none⟩) (hu:P.underlying t=some (.slice e)) (hsz:ZR P e=some sz) (hg:Zo ops S g=some true:=by exact rfl) (hd:Zv n dst=true:=by exact rfl) (hx:ev S x=some (.slice p len cap):=by exact rfl) (hy:ev S y=some (.int k ix):=by exact rfl) (h0:0≤ix:=by first | omega | (simp;done) | (simp;omega)) (h1:ix<len:=by first | omega | (simp;done) | (simp;omega)) (h:K (Zbt S dst (ptr ⟨b,ix.toNat*sz,none⟩)) D B L):opW P n ops i ⟨dst,.indexAddr t x y,ty,pos,after,g⟩ K S D B L:=Zp (Zmi  hp hg hd hu hsz hx hy h0 h1 h)
theorem xR  {f:FuncId} {xs:List Operand} {vs:List Value} {ats:Array TypeId} {v:Value}  (he:enters P f=true) (ha:evs S xs=some vs) (hc:Z9 P f vs B v) (hg:Zo ops S g=some true:=by exact rfl) (hd:Zv n dst=true:=by exact rfl) (h:K (Zbt S dst v) D B L):opW P n ops i ⟨dst,.call ⟨.value (.func f),xs.toArray,ats⟩,ty,pos,after,g⟩ K S D B L:=Zp (Zaf  hg hd he ha hc h)
theorem xBs  {t:TypeId} {e:TypeId} {len:Nat} {sz:Nat} {z:Value} {vs:List Value} (parts:List (Nat × Operand)) (l':List Value) (hu:P.underlying t=some (.slice e)) (hsz:ZR P e=some sz) (hz:Zak P e=some z) (hg:Zo ops S g=some true:=by exact rfl) (hd:Zv n dst=true:=by exact rfl) (hbig:Nat.ble (len*sz) 1024=true:=by exact rfl) (hidx:parts.map (·.1)=List.range len:=by exact rfl) (ha:evs S (parts.map (·.2))=some vs:=by exact rfl) (hall:vs.all (fun v=>Nat.beq v.cells.toList.length sz)=true:=by exact rfl) (hl':(vs.map fun v=>v.cells.toList).flatten=l':=by exact rfl) (h :∀b,K (Zbt S dst (.slice (some ⟨b,0,none⟩) len len)) D B (L ++ [Zae b l' e])):opW P n ops i ⟨dst,.buildSlice t len parts.toArray,ty,pos,after,g⟩ K S D B L:=Zp (ZL (parts:=parts) l' hg hd hu hsz hz hbig hidx ha hall hl' h)
end
section
variable {P:PJ} {n:Nat} {ops:Array Oper} {K:Zaa} {S:Env} {D:List Deferred} {B:Kn} {L:List Cells}
variable {dst:Option Tmp} {ty:TypeId} {pos:String} {after:Array Edge} {g:Option (Nat × Bool)} {t u:TypeId} {x y:Operand}
theorem aT {C:Cx P} {k':List Item} {I:Kn→List Cells→Prop} {ℓ:List Nat} (i:Nat) {o:Oper} {v:Value} (hi:ops[i]? = some o) (hq:quiet P n ops I i o v (sel (o.looksAt ops) S)) (hr:(ZaF ops ℓ).contains i=true:=by kernel_rfl) (hd:Zv n o.dst=true:=by exact rfl) (hp:ZhZ o=false:=by rfl) (h:Za8 C k' n ops I (i :: ℓ) K (Zbt S o.dst v) D B L):Za8 C k' n ops I ℓ K S D B L:=Zra i hi hr hd hq h hp
theorem r4 {α β γ δ:Type} {a:α} {b:β} {c:γ} {d:δ} : a=a∧b=b∧c=c∧d=d:=⟨rfl,rfl,rfl,rfl⟩
variable {C:Cx P} {k':List Item} {I:Kn→List Cells→Prop} {ℓ:List Nat}
theorem aM  {x:Operand} {v:Value} (i:Nat) (hii:ops[i]? = some ⟨dst,.move x,ty,pos,after,g⟩)  (hrr:(ZaF ops ℓ).contains i=true:=by kernel_rfl) (hdd:Zv n dst=true:=by exact rfl) (hg:Zo ops (sel ((⟨dst,.move x,ty,pos,after,g⟩:Oper).looksAt ops) S) g=some true:=by exact rfl) (hd:Zv n dst=true:=by exact rfl) (hx:ev (sel ((⟨dst,.move x,ty,pos,after,g⟩:Oper).looksAt ops) S) x=some v:=by exact rfl) (h:Za8 C k' n ops I (i :: ℓ) K (Zbt S dst v) D B L):Za8 C k' n ops I ℓ K S D B L:=Zai i hii hrr hdd (fun _ _ _=>Zrs hg hd hx ⟨rfl,rfl,rfl,rfl⟩) h
theorem aA  {x:Operand} {v:Value} (i:Nat) (hii:ops[i]? = some ⟨dst,.assign x,ty,pos,after,g⟩)  (hrr:(ZaF ops ℓ).contains i=true:=by kernel_rfl) (hdd:Zv n dst=true:=by exact rfl) (hg:Zo ops (sel ((⟨dst,.assign x,ty,pos,after,g⟩:Oper).looksAt ops) S) g=some true:=by exact rfl) (hd:Zv n dst=true:=by exact rfl) (hx:ev (sel ((⟨dst,.assign x,ty,pos,after,g⟩:Oper).looksAt ops) S) x=some v:=by exact rfl) (h:Za8 C k' n ops I (i :: ℓ) K (Zbt S dst v) D B L):Za8 C k' n ops I ℓ K S D B L:=Zai i hii hrr hdd (fun _ _ _=>Zlw hg hd hx ⟨rfl,rfl,rfl,rfl⟩) h
theorem aZ  {dst:Option Tmp} {op:Op} {t:TypeId} {pos:String} {after:Array Edge} {g:Option (Nat × Bool)} (i:Nat) (hii:ops[i]? = some ⟨dst,op,t,pos,after,g⟩)  (hrr:(ZaF ops ℓ).contains i=true:=by kernel_rfl) (hdd:Zv n dst=true:=by exact rfl) (hg:Zo ops (sel ((⟨dst,op,t,pos,after,g⟩:Oper).looksAt ops) S) g=some false:=by exact rfl) (hd:Zv n dst=true:=by exact rfl) (h:Za8 C k' n ops I (i :: ℓ) K (Zbt S dst undef) D B L):Za8 C k' n ops I ℓ K S D B L:=Zai i hii hrr hdd (fun _ _ _=>Zro hg hd ⟨rfl,rfl,rfl,rfl⟩) h
theorem aPT  {c:Operand} {a:Operand} {b:Operand} {v:Value} (i:Nat) (hii:ops[i]? = some ⟨dst,.pick c a b,ty,pos,after,g⟩)  (hrr:(ZaF ops ℓ).contains i=true:=by kernel_rfl) (hdd:Zv n dst=true:=by exact rfl) (hg:Zo ops (sel ((⟨dst,.pick c a b,ty,pos,after,g⟩:Oper).looksAt ops) S) g=some true:=by exact rfl) (hd:Zv n dst=true:=by exact rfl) (hc:ev (sel ((⟨dst,.pick c a b,ty,pos,after,g⟩:Oper).looksAt ops) S) c=some (.bool true):=by exact rfl) (hx:ev (sel ((⟨dst,.pick c a b,ty,pos,after,g⟩:Oper).looksAt ops) S) a=some v:=by exact rfl) (h:Za8 C k' n ops I (i :: ℓ) K (Zbt S dst v) D B L):Za8 C k' n ops I ℓ K S D B L:=Zai i hii hrr hdd (fun _ _ _=>Zns hg hd hc hx ⟨rfl,rfl,rfl,rfl⟩) h
theorem aPF  {c:Operand} {a:Operand} {b:Operand} {v:Value} (i:Nat) (hii:ops[i]? = some ⟨dst,.pick c a b,ty,pos,after,g⟩)  (hrr:(ZaF ops ℓ).contains i=true:=by kernel_rfl) (hdd:Zv n dst=true:=by exact rfl) (hg:Zo ops (sel ((⟨dst,.pick c a b,ty,pos,after,g⟩:Oper).looksAt ops) S) g=some true:=by exact rfl) (hd:Zv n dst=true:=by exact rfl) (hc:ev (sel ((⟨dst,.pick c a b,ty,pos,after,g⟩:Oper).looksAt ops) S) c=some (.bool false):=by exact rfl) (hx:ev (sel ((⟨dst,.pick c a b,ty,pos,after,g⟩:Oper).looksAt ops) S) b=some v:=by exact rfl) (h:Za8 C k' n ops I (i :: ℓ) K (Zbt S dst v) D B L):Za8 C k' n ops I ℓ K S D B L:=Zai i hii hrr hdd (fun _ _ _=>Znt hg hd hc hx ⟨rfl,rfl,rfl,rfl⟩) h
theorem aE  {x:Operand} {ix:Nat} {vs:List Value} {v:Value} (i:Nat) (hii:ops[i]? = some ⟨dst,.extract x ix,ty,pos,after,g⟩)  (hrr:(ZaF ops ℓ).contains i=true:=by kernel_rfl) (hdd:Zv n dst=true:=by exact rfl) (hg:Zo ops (sel ((⟨dst,.extract x ix,ty,pos,after,g⟩:Oper).looksAt ops) S) g=some true:=by exact rfl) (hd:Zv n dst=true:=by exact rfl) (hx:ev (sel ((⟨dst,.extract x ix,ty,pos,after,g⟩:Oper).looksAt ops) S) x=some (.tuple vs.toArray):=by exact rfl) (hi:vs[ix]? = some v:=by exact rfl) (h:Za8 C k' n ops I (i :: ℓ) K (Zbt S dst v) D B L):Za8 C k' n ops I ℓ K S D B L:=Zai i hii hrr hdd (fun _ _ _=>Zi4 hg hd hx hi ⟨rfl,rfl,rfl,rfl⟩) h
theorem aW  {s:TypeId} {x:Operand} {fi:Nat} {off:Nat} {a:Addr} (i:Nat) (hii:ops[i]? = some ⟨dst,.fieldAddr s x fi,ty,pos,after,g⟩) (hf:Zy P s fi=some off) (hrr:(ZaF ops ℓ).contains i=true:=by kernel_rfl) (hdd:Zv n dst=true:=by exact rfl) (hg:Zo ops (sel ((⟨dst,.fieldAddr s x fi,ty,pos,after,g⟩:Oper).looksAt ops) S) g=some true:=by exact rfl) (hd:Zv n dst=true:=by exact rfl) (hx:ev (sel ((⟨dst,.fieldAddr s x fi,ty,pos,after,g⟩:Oper).looksAt ops) S) x=some (ptr a):=by exact rfl) (h:Za8 C k' n ops I (i :: ℓ) K (Zbt S dst (ptr (a.add off))) D B L):Za8 C k' n ops I ℓ K S D B L:=Zai i hii hrr hdd (fun _ _ _=>ZgK hg hd hf hx ⟨rfl,rfl,rfl,rfl⟩) h
theorem aN  {x:Operand} {b:Bool} {t:TypeId} (i:Nat) (hii:ops[i]? = some ⟨dst,.unOp .not t x,ty,pos,after,g⟩)  (hrr:(ZaF ops ℓ).contains i=true:=by kernel_rfl) (hdd:Zv n dst=true:=by exact rfl) (hg:Zo ops (sel ((⟨dst,.unOp .not t x,ty,pos,after,g⟩:Oper).looksAt ops) S) g=some true:=by exact rfl) (hd:Zv n dst=true:=by exact rfl) (hx:ev (sel ((⟨dst,.unOp .not t x,ty,pos,after,g⟩:Oper).looksAt ops) S) x=some (.bool b):=by exact rfl) (h:Za8 C k' n ops I (i :: ℓ) K (Zbt S dst (.bool (!b))) D B L):Za8 C k' n ops I ℓ K S D B L:=Zai i hii hrr hdd (fun _ _ _=>Zto hg hd hx ⟨rfl,rfl,rfl,rfl⟩) h
theorem aNc  {x:Operand} {a:Addr} (i:Nat) (hii:ops[i]? = some ⟨dst,.nilCheck x,ty,pos,after,g⟩)  (hrr:(ZaF ops ℓ).contains i=true:=by kernel_rfl) (hdd:Zv n dst=true:=by exact rfl) (hg:Zo ops (sel ((⟨dst,.nilCheck x,ty,pos,after,g⟩:Oper).looksAt ops) S) g=some true:=by exact rfl) (hd:Zv n dst=true:=by exact rfl) (hx:ev (sel ((⟨dst,.nilCheck x,ty,pos,after,g⟩:Oper).looksAt ops) S) x=some (.pointer (some a)):=by exact rfl) (h:Za8 C k' n ops I (i :: ℓ) K (Zbt S dst (.pointer (some a))) D B L):Za8 C k' n ops I ℓ K S D B L:=Zai i hii hrr hdd (fun _ _ _=>ZhJ hg hd hx ⟨rfl,rfl,rfl,rfl⟩) h
theorem Zrg  {k:IntKind} {a b:Int} (i:Nat) (hii:ops[i]? = some ⟨dst,.binOp .lss t x y u,ty,pos,after,g⟩)  (hrr:(ZaF ops ℓ).contains i=true:=by kernel_rfl) (hdd:Zv n dst=true:=by exact rfl) (hg:Zo ops (sel ((⟨dst,.binOp .lss t x y u,ty,pos,after,g⟩:Oper).looksAt ops) S) g=some true:=by exact rfl) (hd:Zv n dst=true:=by exact rfl) (hx:ev (sel ((⟨dst,.binOp .lss t x y u,ty,pos,after,g⟩:Oper).looksAt ops) S) x=some (.int k a):=by exact rfl) (hy:ev (sel ((⟨dst,.binOp .lss t x y u,ty,pos,after,g⟩:Oper).looksAt ops) S) y=some (.int k b):=by exact rfl) (h:Za8 C k' n ops I (i :: ℓ) K (Zbt S dst (.bool (decide (a<b)))) D B L):Za8 C k' n ops I ℓ K S D B L:=Zai i hii hrr hdd (fun _ _ _=>Ztt hg hd hx hy ⟨rfl,rfl,rfl,rfl⟩) h
theorem Zrh  {k:IntKind} {a b:Int} (i:Nat) (hii:ops[i]? = some ⟨dst,.binOp .leq t x y u,ty,pos,after,g⟩)  (hrr:(ZaF ops ℓ).contains i=true:=by kernel_rfl) (hdd:Zv n dst=true:=by exact rfl) (hg:Zo ops (sel ((⟨dst,.binOp .leq t x y u,ty,pos,after,g⟩:Oper).looksAt ops) S) g=some true:=by exact rfl) (hd:Zv n dst=true:=by exact rfl) (hx:ev (sel ((⟨dst,.binOp .leq t x y u,ty,pos,after,g⟩:Oper).looksAt ops) S) x=some (.int k a):=by exact rfl) (hy:ev (sel ((⟨dst,.binOp .leq t x y u,ty,pos,after,g⟩:Oper).looksAt ops) S) y=some (.int k b):=by exact rfl) (h:Za8 C k' n ops I (i :: ℓ) K (Zbt S dst (.bool (decide (a≤b)))) D B L):Za8 C k' n ops I ℓ K S D B L:=Zai i hii hrr hdd (fun _ _ _=>Ztu hg hd hx hy ⟨rfl,rfl,rfl,rfl⟩) h
theorem Zne  {k:IntKind} {a b:Int} (i:Nat) (hii:ops[i]? = some ⟨dst,.binOp .gtr t x y u,ty,pos,after,g⟩)  (hrr:(ZaF ops ℓ).contains i=true:=by kernel_rfl) (hdd:Zv n dst=true:=by exact rfl) (hg:Zo ops (sel ((⟨dst,.binOp .gtr t x y u,ty,pos,after,g⟩:Oper).looksAt ops) S) g=some true:=by exact rfl) (hd:Zv n dst=true:=by exact rfl) (hx:ev (sel ((⟨dst,.binOp .gtr t x y u,ty,pos,after,g⟩:Oper).looksAt ops) S) x=some (.int k a):=by exact rfl) (hy:ev (sel ((⟨dst,.binOp .gtr t x y u,ty,pos,after,g⟩:Oper).looksAt ops) S) y=some (.int k b):=by exact rfl) (h:Za8 C k' n ops I (i :: ℓ) K (Zbt S dst (.bool (decide (b<a)))) D B L):Za8 C k' n ops I ℓ K S D B L:=Zai i hii hrr hdd (fun _ _ _=>Zty hg hd hx hy ⟨rfl,rfl,rfl,rfl⟩) h
theorem Zw6  {k:IntKind} {a b:Int} (i:Nat) (hii:ops[i]? = some ⟨dst,.binOp .geq t x y u,ty,pos,after,g⟩)  (hrr:(ZaF ops ℓ).contains i=true:=by kernel_rfl) (hdd:Zv n dst=true:=by exact rfl) (hg:Zo ops (sel ((⟨dst,.binOp .geq t x y u,ty,pos,after,g⟩:Oper).looksAt ops) S) g=some true:=by exact rfl) (hd:Zv n dst=true:=by exact rfl) (hx:ev (sel ((⟨dst,.binOp .geq t x y u,ty,pos,after,g⟩:Oper).looksAt ops) S) x=some (.int k a):=by exact rfl) (hy:ev (sel ((⟨dst,.binOp .geq t x y u,ty,pos,after,g⟩:Oper).looksAt ops) S) y=some (.int k b):=by exact rfl) (h:Za8 C k' n ops I (i :: ℓ) K (Zbt S dst (.bool (decide (b≤a)))) D B L):Za8 C k' n ops I ℓ K S D B L:=Zai i hii hrr hdd (fun _ _ _=>Ztz hg hd hx hy ⟨rfl,rfl,rfl,rfl⟩) h
theorem ZpC  {k:IntKind} {a b:Int} (i:Nat) (hii:ops[i]? = some ⟨dst,.binOp .eql t x y u,ty,pos,after,g⟩)  (hrr:(ZaF ops ℓ).contains i=true:=by kernel_rfl) (hdd:Zv n dst=true:=by exact rfl) (hg:Zo ops (sel ((⟨dst,.binOp .eql t x y u,ty,pos,after,g⟩:Oper).looksAt ops) S) g=some true:=by exact rfl) (hd:Zv n dst=true:=by exact rfl) (hx:ev (sel ((⟨dst,.binOp .eql t x y u,ty,pos,after,g⟩:Oper).looksAt ops) S) x=some (.int k a):=by exact rfl) (hy:ev (sel ((⟨dst,.binOp .eql t x y u,ty,pos,after,g⟩:Oper).looksAt ops) S) y=some (.int k b):=by exact rfl) (h:Za8 C k' n ops I (i :: ℓ) K (Zbt S dst (.bool (decide (a=b)))) D B L):Za8 C k' n ops I ℓ K S D B L:=Zai i hii hrr hdd (fun _ _ _=>Zrw hg hd hx hy ⟨rfl,rfl,rfl,rfl⟩) h
theorem ZuP  {k:IntKind} {a b:Int} (i:Nat) (hii:ops[i]? = some ⟨dst,.binOp .neq t x y u,ty,pos,after,g⟩)  (hrr:(ZaF ops ℓ).contains i=true:=by kernel_rfl) (hdd:Zv n dst=true:=by exact rfl) (hg:Zo ops (sel ((⟨dst,.binOp .neq t x y u,ty,pos,after,g⟩:Oper).looksAt ops) S) g=some true:=by exact rfl) (hd:Zv n dst=true:=by exact rfl) (hx:ev (sel ((⟨dst,.binOp .neq t x y u,ty,pos,after,g⟩:Oper).looksAt ops) S) x=some (.int k a):=by exact rfl) (hy:ev (sel ((⟨dst,.binOp .neq t x y u,ty,pos,after,g⟩:Oper).looksAt ops) S) y=some (.int k b):=by exact rfl) (h:Za8 C k' n ops I (i :: ℓ) K (Zbt S dst (.bool (decide (a≠b)))) D B L):Za8 C k' n ops I ℓ K S D B L:=Zai i hii hrr hdd (fun _ _ _=>Zrq hg hd hx hy ⟨rfl,rfl,rfl,rfl⟩) h
theorem ZpB  {a b:List UInt8} (i:Nat) (hii:ops[i]? = some ⟨dst,.binOp .eql t x y u,ty,pos,after,g⟩)  (hrr:(ZaF ops ℓ).contains i=true:=by kernel_rfl) (hdd:Zv n dst=true:=by exact rfl) (hg:Zo ops (sel ((⟨dst,.binOp .eql t x y u,ty,pos,after,g⟩:Oper).looksAt ops) S) g=some true:=by exact rfl) (hd:Zv n dst=true:=by exact rfl) (hx:ev (sel ((⟨dst,.binOp .eql t x y u,ty,pos,after,g⟩:Oper).looksAt ops) S) x=some (str a):=by exact rfl) (hy:ev (sel ((⟨dst,.binOp .eql t x y u,ty,pos,after,g⟩:Oper).looksAt ops) S) y=some (str b):=by exact rfl) (h:Za8 C k' n ops I (i :: ℓ) K (Zbt S dst (.bool (decide (a=b)))) D B L):Za8 C k' n ops I ℓ K S D B L:=Zai i hii hrr hdd (fun _ _ _=>Zrv hg hd hx hy ⟨rfl,rfl,rfl,rfl⟩) h
theorem ZeV  {a b:List UInt8} (i:Nat) (hii:ops[i]? = some ⟨dst,.binOp .neq t x y u,ty,pos,after,g⟩)  (hrr:(ZaF ops ℓ).contains i=true:=by kernel_rfl) (hdd:Zv n dst=true:=by exact rfl) (hg:Zo ops (sel ((⟨dst,.binOp .neq t x y u,ty,pos,after,g⟩:Oper).looksAt ops) S) g=some true:=by exact rfl) (hd:Zv n dst=true:=by exact rfl) (hx:ev (sel ((⟨dst,.binOp .neq t x y u,ty,pos,after,g⟩:Oper).looksAt ops) S) x=some (str a):=by exact rfl) (hy:ev (sel ((⟨dst,.binOp .neq t x y u,ty,pos,after,g⟩:Oper).looksAt ops) S) y=some (str b):=by exact rfl) (h:Za8 C k' n ops I (i :: ℓ) K (Zbt S dst (.bool (decide (a≠b)))) D B L):Za8 C k' n ops I ℓ K S D B L:=Zai i hii hrr hdd (fun _ _ _=>Zrp hg hd hx hy ⟨rfl,rfl,rfl,rfl⟩) h
theorem aD  {k:IntKind} {a b r:Int} (i:Nat) (hii:ops[i]? = some ⟨dst,.binOp .add t x y u,ty,pos,after,g⟩)  (hrr:(ZaF ops ℓ).contains i=true:=by kernel_rfl) (hdd:Zv n dst=true:=by exact rfl) (hg:Zo ops (sel ((⟨dst,.binOp .add t x y u,ty,pos,after,g⟩:Oper).looksAt ops) S) g=some true:=by exact rfl) (hd:Zv n dst=true:=by exact rfl) (hx:ev (sel ((⟨dst,.binOp .add t x y u,ty,pos,after,g⟩:Oper).looksAt ops) S) x=some (.int k a):=by exact rfl) (hy:ev (sel ((⟨dst,.binOp .add t x y u,ty,pos,after,g⟩:Oper).looksAt ops) S) y=some (.int k b):=by exact rfl) (hr:k.wrap (a+b)=r:=by first | exact Zb4 (by first | omega | (simp;done) | (simp;omega)) (by first | omega | (simp;done) | (simp;omega)) | exact rfl) (h:Za8 C k' n ops I (i :: ℓ) K (Zbt S dst (.int k r)) D B L):Za8 C k' n ops I ℓ K S D B L:=Zai i hii hrr hdd (fun _ _ _=>Zgt hg hd hx hy hr ⟨rfl,rfl,rfl,rfl⟩) h
theorem aU  {k:IntKind} {a b r:Int} (i:Nat) (hii:ops[i]? = some ⟨dst,.binOp .sub t x y u,ty,pos,after,g⟩)  (hrr:(ZaF ops ℓ).contains i=true:=by kernel_rfl) (hdd:Zv n dst=true:=by exact rfl) (hg:Zo ops (sel ((⟨dst,.binOp .sub t x y u,ty,pos,after,g⟩:Oper).looksAt ops) S) g=some true:=by exact rfl) (hd:Zv n dst=true:=by exact rfl) (hx:ev (sel ((⟨dst,.binOp .sub t x y u,ty,pos,after,g⟩:Oper).looksAt ops) S) x=some (.int k a):=by exact rfl) (hy:ev (sel ((⟨dst,.binOp .sub t x y u,ty,pos,after,g⟩:Oper).looksAt ops) S) y=some (.int k b):=by exact rfl) (hr:k.wrap (a - b)=r:=by first | exact Zb4 (by first | omega | (simp;done) | (simp;omega)) (by first | omega | (simp;done) | (simp;omega)) | exact rfl) (h:Za8 C k' n ops I (i :: ℓ) K (Zbt S dst (.int k r)) D B L):Za8 C k' n ops I ℓ K S D B L:=Zai i hii hrr hdd (fun _ _ _=>Zif hg hd hx hy hr ⟨rfl,rfl,rfl,rfl⟩) h
theorem aIx  {t:TypeId} {e:TypeId} {x:Operand} {y:Operand} {k:IntKind} {b:Nat} {o:Nat} {len:Nat} {cap:Nat} {sz:Nat} {ix:Int} (i:Nat) (hii:ops[i]? = some ⟨dst,.indexAddr t x y,ty,pos,after,g⟩) (hu:P.underlying t=some (.slice e)) (hsz:ZR P e=some sz) (hrr:(ZaF ops ℓ).contains i=true:=by kernel_rfl) (hdd:Zv n dst=true:=by exact rfl) (hg:Zo ops (sel ((⟨dst,.indexAddr t x y,ty,pos,after,g⟩:Oper).looksAt ops) S) g=some true:=by exact rfl) (hd:Zv n dst=true:=by exact rfl) (hx:ev (sel ((⟨dst,.indexAddr t x y,ty,pos,after,g⟩:Oper).looksAt ops) S) x=some (.slice (some ⟨b,o,none⟩) len cap):=by exact rfl) (hy:ev (sel ((⟨dst,.indexAddr t x y,ty,pos,after,g⟩:Oper).looksAt ops) S) y=some (.int k ix):=by exact rfl) (h0:0≤ix:=by first | omega | (simp;done) | (simp;omega)) (h1:ix<len:=by first | omega | (simp;done) | (simp;omega)) (h:Za8 C k' n ops I (i :: ℓ) K (Zbt S dst (ptr ⟨b,o+ix.toNat*sz,none⟩)) D B L):Za8 C k' n ops I ℓ K S D B L:=Zai i hii hrr hdd (fun _ _ _=>Ztw hg hd hu hsz hx hy h0 h1 ⟨rfl,rfl,rfl,rfl⟩) h
end
end Go.BL
namespace Go.BL
open Go
set_option linter.unusedVariables false
set_option linter.unusedSimpArgs false
def Za4 (c:UInt8):Bool:=(decide (97≤c.toNat) && decide (c.toNat≤122)) || (decide (48≤c.toNat) && decide (c.toNat≤57))
def Zam (l:List UInt8):Bool:=l.all Za4 && decide (1≤l.length) && decide (l.length≤8)
theorem Zrb {l:List UInt8} {k:Nat} {c:UInt8} (hc:l[k]? = some c) (h:Za4 c=false):l.all Za4=false:=by
  rw [Bool.eq_false_iff];intro ha
  have:=List.all_eq_true.1 ha c (List.mem_of_getElem? hc)
  rw [h] at this;cases this
theorem Zmc {l:List UInt8} {k:Nat} {c:UInt8} (hc:l[k]? = some c) (h:Za4 c=true) (ha:(l.take k).all Za4=true):(l.take (k+1)).all Za4=true:=by
  rw [List.take_add_one,hc];simp only [Option.toList_some,List.all_append,ha,List.all_cons,h,List.all_nil];rfl
def word (l:List UInt8) (i:Nat):List UInt8:=(l.drop i).takeWhile Za4
def Zc9 (w:List UInt8):Bool:=decide (1≤w.length) && decide (w.length≤8)
theorem ZnY {o:Option UInt8} {f:UInt8→Bool} (h:(match o with | some c=>f c | none=>false)=true) :∃c,o=some c∧f c=true:=by
  cases o with
  | none=>cases h
  | some c=>exact ⟨c,rfl,h⟩
theorem Zbu {α:Type} {l:List α} {k:Nat} {c:α} (h:l[k]? = some c):k<l.length:=(List.getElem?_eq_some_iff.1 h).1
theorem Zft {p:UInt8→Bool} :∀{m:List UInt8} {k:Nat},(m.take k).all p=true→(∀c,m[k]? = some c→p c=false)→m.takeWhile p=m.take k
  | [],k,_,_=>by simp
  | c :: m,0,_,h=>by simp [List.takeWhile,h c rfl]
  | c :: m,k+1,ha,h=>by
    simp only [List.take_succ_cons,List.all_cons,Bool.and_eq_true] at ha
    simp only [List.takeWhile,ha.1,List.take_succ_cons]
    rw [Zft ha.2 (fun c hc=>h c (by simpa using hc))]
theorem ZpL {l:List UInt8} {i k:Nat} (ha:((l.drop i).take k).all Za4=true) (h :∀c,l[i+k]? = some c→Za4 c=false):word l i=(l.drop i).take k:=
  Zft ha (fun c hc=>h c (by simpa using hc))
theorem ZeS {l:List UInt8} {i k:Nat} : (l.take (i+k)).drop i=(l.drop i).take k:=by
  rw [List.drop_take,Nat.add_sub_cancel_left]
theorem ZhM {a b c d:Value} (h:a=c) (h':b=d):Value.tuple #[a,b]=Value.tuple #[c,d]:=by rw [h,h']
def more:Nat→List UInt8→Nat→Bool × Nat
  | 0,_,i=>(true,i)
  | n+1,l,i=>if l[i]? = some 46 then (if Zc9 (word l (i+1))=true then more n l (i+1+(word l (i+1)).length) else (false,i+1+(word l (i+1)).length)) else (true,i)
def dom (l:List UInt8) (i:Nat):Bool × Nat:=if Zc9 (word l i)=true then more 2 l (i+(word l i).length) else (false,i+(word l i).length)
def Zhl (l:List UInt8) (i:Nat):List UInt8:=if (dom l i).1=true then (l.take (dom l i).2).drop i else []
def Zle (l:List UInt8) (i:Nat):Bool:=(dom l i).1 && decide ((dom l i).2 - i≤20)
theorem Zld {l:List UInt8} {i:Nat} (h:Zc9 (word l i)=false):dom l i=(false,i+(word l i).length):=by simp [dom,h]
theorem Zq1 {l:List UInt8} {i:Nat} (h:Zc9 (word l i)=true):dom l i=more 2 l (i+(word l i).length):=by simp [dom,h]
theorem ZgI {l:List UInt8} {i:Nat} (h:i≤l.length):i+(word l i).length≤l.length:=by
  have:=List.IsPrefix.length_le (List.takeWhile_prefix Za4 (l:=l.drop i))
  rw [List.length_drop] at this
  unfold word;omega
theorem ZgZ {l:List UInt8} {n j:Nat} (h : ¬ l[j]? = some 46):more n l j=(true,j):=by
  cases n with
  | zero=>rfl
  | succ n=>rw [more,if_neg h]
theorem Zqs {l:List UInt8} {n j:Nat} (hn:1≤n) (h:l[j]? = some 46) (hw:Zc9 (word l (j+1))=false):more n l j=(false,j+1+(word l (j+1)).length):=by
  cases n with
  | zero=>omega
  | succ n=>rw [more,if_pos h,if_neg (by simp [hw])]
theorem Zon {l:List UInt8} {n j:Nat} (hn:1≤n) (h:l[j]? = some 46) (hw:Zc9 (word l (j+1))=true):more n l j=more (n - 1) l (j+1+(word l (j+1)).length):=by
  cases n with
  | zero=>omega
  | succ n=>rw [more,if_pos h,if_pos hw];rfl
theorem ZdO {p:UInt8→Bool} :∀l:List UInt8,(l.takeWhile p).length=l.length↔l.all p=true
  | []=>by simp
  | c :: l=>by
    have h:=ZdO (p:=p) l
    cases hc:p c with
    | true=>simp [List.takeWhile,hc] at h ⊢;exact h
    | false=>simp [List.takeWhile,hc]
theorem ZcV {l:List UInt8} : Zam l=(Zc9 (word l 0) && decide ((word l 0).length=l.length)):=by
  have h:=ZdO (p:=Za4) l
  have e:word l 0=l.takeWhile Za4:=by simp [word]
  rw [Bool.eq_iff_iff]
  simp only [Zam,Zc9,e,Bool.and_eq_true,decide_eq_true_eq]
  constructor
  · rintro ⟨⟨h1,h2⟩,h3⟩
    have:=h.2 h1
    omega
  · rintro ⟨⟨h1,h2⟩,h3⟩
    exact ⟨⟨h.1 h3,by omega⟩,by omega⟩
theorem Zom {l:List UInt8} :∀(n j:Nat),j≤l.length→(more n l j).2≤l.length
  | 0,j,h=>h
  | n+1,j,h=>by
    rw [more]
    split
    · rename_i e
      have:=Zbu e
      have h2:=ZgI (l:=l) (i:=j+1) (by omega)
      split
      · exact Zom n _ h2
      · exact h2
    · exact h
theorem ZuC {l:List UInt8} {i:Nat} (h:i≤l.length):(dom l i).2≤l.length:=by
  unfold dom
  have h2:=ZgI h
  split
  · exact Zom 2 _ h2
  · exact h2
def glue (a:List UInt8):List (List UInt8)→List (List UInt8)
  | []=>[a]
  | p :: ps=>(a ++ p) :: ps
def cut (x:UInt8):List UInt8→List (List UInt8)
  | []=>[[]]
  | c :: r=>if c=x then [] :: cut x r else glue [c] (cut x r)
theorem Zma (x:UInt8) :∀l,cut x l≠[]
  | []=>by simp [cut]
  | c :: r=>by
    rw [cut]
    split
    · simp
    · cases cut x r <;> simp [glue]
theorem Zl1 {m:List (List UInt8)} (h:m≠[]):glue [] m=m:=by
  cases m with
  | nil=>exact absurd rfl h
  | cons p ps=>rfl
theorem ZoK (a b:List UInt8) (m:List (List UInt8)):glue a (glue b m)=glue (a ++ b) m:=by
  cases m <;> simp [glue]
structure CutSt where
  i:Nat
  f:Nat
  m:Nat
  ps:List (List UInt8)
  q:Option Addr
  cp:Nat
  s:Cells
theorem Zvh {a b:UInt8} (h:(a.toNat:Int)=b.toNat):a=b:=UInt8.toNat_inj.1 (by exact_mod_cast h)
theorem Zs9 {l:List UInt8} {x c:UInt8} {i:Nat} (h:l[i]? = some c) (e:c=x):cut x (l.drop i)=[] :: cut x (l.drop (i+1)):=by
  obtain ⟨hlt,he⟩:=List.getElem?_eq_some_iff.1 h
  rw [List.drop_eq_getElem_cons hlt,he,cut,if_pos e]
theorem Zq3 {l:List UInt8} {x c:UInt8} {i:Nat} (h:l[i]? = some c) (e:c≠x):cut x (l.drop i)=glue [c] (cut x (l.drop (i+1))):=by
  obtain ⟨hlt,he⟩:=List.getElem?_eq_some_iff.1 h
  rw [List.drop_eq_getElem_cons hlt,he,cut,if_neg e]
theorem Zvg {a b:UInt8} (h : ¬ (a.toNat:Int)=b.toNat):a≠b:=fun e=>h (by rw [e])
theorem ZnK {l:List UInt8} {c:UInt8} {i f:Nat} (h:l[i]? = some c) (hf:f≤i):(l.take i).drop f ++ [c]=(l.take (i+1)).drop f:=by
  have hlt:=Zbu h
  rw [List.take_add_one,h]
  simp only [Option.toList_some]
  rw [List.drop_append_of_le_length (by rw [List.length_take];omega)]
theorem ZqR (a:List UInt8) (m:List (List UInt8)):glue a ([] :: m)=a :: m:=by simp [glue]
def Zct (l:List UInt8):Bool:=(cut 46 l).all Zam && decide ((cut 46 l).length≤3) && decide (l.length≤20)
theorem ZqQ {a:List UInt8} {m:List (List UInt8)} {n:Nat} (h :∀p,p∈m→p.length≤n) :∀p,p∈glue a m→p.length≤a.length+n:=by
  cases m with
  | nil=>intro p hp;simp [glue] at hp;subst hp;omega
  | cons q qs=>
    intro p hp
    simp only [glue,List.mem_cons] at hp
    rcases hp with rfl | hp
    · rw [List.length_append];have:=h q (List.mem_cons_self ..);omega
    · have:=h p (List.mem_cons_of_mem _ hp);omega
theorem Zlf (x:UInt8) :∀(l p:List UInt8),p∈cut x l→p.length≤l.length
  | [],p,h=>by simp [cut] at h;subst h;simp
  | c :: r,p,h=>by
    rw [cut] at h
    split at h
    · rcases List.mem_cons.1 h with rfl | h
      · simp
      · have:=Zlf x r p h;simp;omega
    · have:=ZqQ (Zlf x r) p h;simp at this ⊢;omega
theorem Zkb {l:List (List UInt8)} {k:Nat} {c:List UInt8} (hc:l[k]? = some c) (h:Zam c=false):l.all Zam=false:=by
  rw [Bool.eq_false_iff];intro ha
  have:=List.all_eq_true.1 ha c (List.mem_of_getElem? hc)
  rw [h] at this;cases this
theorem Zhv {l:List (List UInt8)} {k:Nat} {c:List UInt8} (hc:l[k]? = some c) (h:Zam c=true) (ha:(l.take k).all Zam=true):(l.take (k+1)).all Zam=true:=by
  rw [List.take_add_one,hc];simp only [Option.toList_some,List.all_append,ha,List.all_cons,h,List.all_nil];rfl
theorem Zj3 (x:UInt8) :∀l:List UInt8,(cut x l).length≤l.length+1
  | []=>by simp [cut]
  | c :: r=>by
    have h:=Zj3 x r
    rw [cut]
    split
    · simp;omega
    · cases hq:cut x r with
      | nil=>exact absurd hq (Zma x r)
      | cons p ps=>rw [hq] at h;simp [glue] at h ⊢;omega
end Go.BL
namespace Go.BL
open Go
set_option linter.unusedVariables false
set_option linter.unusedSimpArgs false
theorem ZiS {x:UInt8} :∀{l:List UInt8},x ∉ l→cut x l=[l]
  | [],_=>rfl
  | c :: r,h=>by
    rw [cut,if_neg (fun e=>h (by rw [e];exact List.mem_cons_self ..)),ZiS (fun hm=>h (List.mem_cons_of_mem _ hm))]
    rfl
theorem Zhm {x:UInt8} {b:List UInt8} :∀{a:List UInt8},x ∉ a→cut x (a ++ x :: b)=a :: cut x b
  | [],_=>by simp [cut]
  | c :: r,h=>by
    rw [List.cons_append,cut,if_neg (fun e=>h (by rw [e];exact List.mem_cons_self ..)),Zhm (fun hm=>h (List.mem_cons_of_mem _ hm))]
    rfl
theorem Ze2 {x:UInt8} :∀{l:List UInt8},x∈l→∃a b,l=a ++ x :: b∧x ∉ a
  | c :: r,h=>by
    by_cases e:c=x
    · exact ⟨[],r,by simp [e],by simp⟩
    · have hr:x∈r:=(List.mem_cons.1 h).resolve_left (Ne.symm e)
      obtain ⟨a,b,h1,h2⟩:=Ze2 hr
      exact ⟨c :: a,b,by simp [h1],by simp [Ne.symm e,h2]⟩
theorem ZhG (l:List UInt8) (i j:Nat):word l (i+j)=word (l.drop i) j:=by
  unfold word;rw [List.drop_drop]
theorem ZhU (l:List UInt8) (i:Nat) :∀n j,more n l (i+j)=((more n (l.drop i) j).1,i+(more n (l.drop i) j).2)
  | 0,j=>rfl
  | n+1,j=>by
    simp only [more,List.getElem?_drop]
    rw [show i+j+1=i+(j+1) from by omega,ZhG]
    split
    · split
      · rw [show i+(j+1)+(word (l.drop i) (j+1)).length=i+(j+1+(word (l.drop i) (j+1)).length) from by omega,ZhU l i n]
      · simp only [Prod.mk.injEq,true_and];omega
    · rfl
theorem ZpM {l:List UInt8} (h:l.all Za4=true):word l 0=l:=by
  have:=(ZdO (p:=Za4) l).2 h
  have h2:=List.takeWhile_prefix Za4 (l:=l)
  simp only [word,List.drop_zero]
  exact List.IsPrefix.eq_of_length h2 this
theorem Zgi {a b:List UInt8} {x:UInt8} (hx:Za4 x=false) (h:a.all Za4=true):word (a ++ x :: b) 0=a:=by
  simp only [word,List.drop_zero]
  induction a with
  | nil=>simp [List.takeWhile,hx]
  | cons c a ih=>
    simp only [List.all_cons,Bool.and_eq_true] at h
    simp only [List.cons_append,List.takeWhile,h.1,ih h.2]
theorem Zgh {a:List UInt8} (b:List UInt8) (h:a.all Za4=false):(word (a ++ b) 0).length<a.length∧word (a ++ b) 0=word a 0:=by
  simp only [word,List.drop_zero]
  induction a with
  | nil=>simp at h
  | cons c a ih=>
    cases hc:Za4 c with
    | false=>simp [List.takeWhile,hc]
    | true=>
      have h':a.all Za4=false:=by simpa [hc] using h
      have:=ih h'
      simp only [List.cons_append,List.takeWhile,hc,List.length_cons]
      exact ⟨by omega,by rw [this.2]⟩
theorem ZsF {a:List UInt8} (b:List UInt8) {k:Nat} (h:k<a.length):(a ++ b)[k]? = a[k]?:=List.getElem?_append_left h
theorem Zha {x:UInt8} {a:List UInt8} (h:x ∉ a) (k:Nat):a[k]?≠some x:=fun e=>h (List.mem_of_getElem? e)
theorem Zoh :∀(n:Nat) (b:List UInt8),(Zc9 (word b 0)=true∧more n b (word b 0).length=(true,b.length))↔((cut 46 b).all Zam=true∧(cut 46 b).length≤n+1):=by
  intro n
  induction n with
  | zero=>
    intro b
    by_cases hd:(46:UInt8)∈b
    · obtain ⟨a,r,rfl,ha⟩:=Ze2 hd
      rw [Zhm ha]
      have hlen:(word (a ++ 46 :: r) 0).length≤a.length:=by
        cases hna:a.all Za4 with
        | true=>rw [Zgi (by decide) hna];exact Nat.le_refl _
        | false=>exact Nat.le_of_lt (Zgh _ hna).1
      constructor
      · rintro ⟨_,h2⟩
        simp only [more,Prod.mk.injEq,true_and] at h2
        rw [List.length_append,List.length_cons] at h2
        omega
      · rintro ⟨_,h2⟩
        have:=Zma 46 r
        simp only [List.length_cons] at h2
        exact absurd (List.eq_nil_of_length_eq_zero (by omega)) this
    · rw [ZiS hd]
      simp only [more,List.all_cons,List.all_nil,Bool.and_true,List.length_cons,List.length_nil,Nat.zero_add,Nat.le_refl,and_true,Prod.mk.injEq,true_and,ZcV,Bool.and_eq_true,decide_eq_true_eq]
  | succ n ih=>
    intro b
    by_cases hd:(46:UInt8)∈b
    · obtain ⟨a,r,rfl,ha⟩:=Ze2 hd
      rw [Zhm ha]
      cases hna:a.all Za4 with
      | true=>
        rw [Zgi (by decide) hna]
        have hg:(a ++ 46 :: r)[a.length]? = some 46:=by simp
        have hdr:(a ++ 46 :: r).drop (a.length+1)=r:=by rw [List.drop_append];simp
        have hw:word (a ++ 46 :: r) (a.length+1)=word r 0:=by
          have:=ZhG (a ++ 46 :: r) (a.length+1) 0
          rw [Nat.add_zero,hdr] at this;exact this
        have hm:more n (a ++ 46 :: r) (a.length+1+(word r 0).length)=((more n r (word r 0).length).1,a.length+1+(more n r (word r 0).length).2):=by
          rw [ZhU,hdr]
        simp only [more,hg,if_true,hw,hm,List.all_cons,Bool.and_eq_true,List.length_cons]
        have hna':Zam a=Zc9 a:=by rw [ZcV,ZpM hna];simp
        have hi:=ih r
        constructor
        · rintro ⟨h1,h2⟩
          split at h2
          · rename_i h3
            simp only [Prod.mk.injEq,List.length_append,List.length_cons] at h2
            have:=hi.1 ⟨h3,by ext1;exact h2.1;simp only [];omega⟩
            exact ⟨⟨by rw [hna'];exact h1,this.1⟩,by omega⟩
          · simp at h2
        · rintro ⟨⟨h1,h2⟩,h3⟩
          obtain ⟨h4,h5⟩:=hi.2 ⟨h2,by omega⟩
          refine ⟨by rw [← hna'];exact h1,?_⟩
          rw [if_pos h4,h5]
          simp;omega
      | false=>
        obtain ⟨h1,h2⟩:=Zgh (46 :: r) hna
        have hne:Zam a=false:=by simp [Zam,hna]
        constructor
        · rintro ⟨_,h3⟩
          rw [ZgZ (by rw [ZsF _ h1];exact Zha ha _)] at h3
          simp only [Prod.mk.injEq,true_and,List.length_append,List.length_cons] at h3
          omega
        · rintro ⟨h3,_⟩
          simp [hne] at h3
    · rw [ZiS hd]
      rw [ZgZ (Zha hd _)]
      simp only [List.all_cons,List.all_nil,Bool.and_true,List.length_cons,List.length_nil,Prod.mk.injEq,true_and,ZcV,Bool.and_eq_true,decide_eq_true_eq]
      constructor
      · rintro ⟨h1,h2⟩;exact ⟨⟨h1,h2⟩,by omega⟩
      · rintro ⟨⟨h1,h2⟩,_⟩;exact ⟨h1,h2⟩
theorem Zj0 (b:List UInt8):((dom b 0).1=true∧(dom b 0).2≤20∧(dom b 0).2=b.length)↔Zct b=true:=by
  have h:=Zoh 2 b
  simp only [Zct,Bool.and_eq_true,decide_eq_true_eq]
  constructor
  · rintro ⟨h1,h2,h3⟩
    cases hw:Zc9 (word b 0) with
    | false=>simp [dom,hw] at h1
    | true=>
      simp only [dom,hw,if_true,Nat.zero_add] at h1 h2 h3
      have:=h.1 ⟨hw,by ext1;exact h1;exact h3⟩
      exact ⟨⟨this.1,this.2⟩,by omega⟩
  · rintro ⟨⟨h1,h2⟩,h3⟩
    obtain ⟨h4,h5⟩:=h.2 ⟨h1,h2⟩
    simp only [dom,h4,if_true,Nat.zero_add,h5]
    exact ⟨trivial,h3,trivial⟩
end Go.BL
namespace Go.BL
open Go
set_option linter.unusedVariables false
set_option linter.unusedSimpArgs false
theorem Za7 {α:Type} {p:α→Prop} {l:List α} {k:Nat} {x:α} (hx:l[k]? = some x) (h :∀y,y∈l.take k→p y) (hp:p x) :∀y,y∈l.take (k+1)→p y:=by
  intro y hy
  rw [List.take_add_one,hx] at hy
  simp only [Option.toList_some,List.mem_append,List.mem_singleton] at hy
  rcases hy with hy | rfl
  · exact h y hy
  · exact hp
def ZdI (us:List DUser) (u:Str):Int:=match us.findIdx? (fun x=>decide (x.name=u)) with | some i=>i | none=>-1
theorem ZqD {us:List DUser} {u:Str} {k:Nat} {x:DUser} (hx:us[k]? = some x) (he:x.name=u) (h :∀y,y∈us.take k→y.name≠u):ZdI us u=k:=by
  have:us.findIdx? (fun x=>decide (x.name=u))=some k:=by
    rw [List.findIdx?_eq_some_iff_getElem]
    obtain ⟨hk,rfl⟩:=List.getElem?_eq_some_iff.1 hx
    refine ⟨hk,by simpa using he,fun j hj=>?_⟩
    have:=h us[j] (by rw [List.mem_take_iff_getElem];exact ⟨j,by omega,rfl⟩)
    simpa using this
  rw [ZdI,this]
theorem ZoB {us:List DUser} {u:Str} (h :∀y,y∈us→y.name≠u):ZdI us u = -1:=by
  have:us.findIdx? (fun x=>decide (x.name=u))=none:=by
    rw [List.findIdx?_eq_none_iff]
    intro x hx
    simpa using h x hx
  rw [ZdI,this]
theorem ZbJ {α:Type} {as bs:List α} {k:Nat} {x y:α} (hx:as[k]? = some x) (hy:bs[k]? = some y) (e:x=y) (h:as.take k=bs.take k):as.take (k+1)=bs.take (k+1):=by
  rw [List.take_add_one,List.take_add_one,hx,hy,e,h]
theorem Zgb {α:Type} {as bs:List α} {inst:Decidable (as=bs)} (h : ¬ (as.length:Int)=bs.length):false=decide (as=bs):=by
  symm;rw [decide_eq_false_iff_not];intro e;exact h (by rw [e])
theorem ZeE {α:Type} {as bs:List α} {inst:Decidable (as=bs)} {k:Nat} {x y:α} (hx:as[k]? = some x) (hy:bs[k]? = some y) (e : ¬ x=y):false=decide (as=bs):=by
  symm;rw [decide_eq_false_iff_not];intro h;rw [h,hy] at hx;exact e (Option.some.inj hx).symm
theorem eqT {α:Type} {as bs:List α} {inst:Decidable (as=bs)} {k:Nat} (hl:as.length=bs.length) (hk:k=as.length) (h:as.take k=bs.take k):true=decide (as=bs):=by
  symm;rw [decide_eq_true_eq]
  rw [List.take_of_length_le (by omega),List.take_of_length_le (by omega)] at h;exact h
theorem ZxG {α:Type} {as:List α} {x:α} {inst:Decidable (x∈as)} (h :∀y,y∈as→y≠x):false=decide (x∈as):=by
  symm;rw [decide_eq_false_iff_not];intro hx;exact h x hx rfl
theorem ZxF {α:Type} {as:List α} {x y:α} {inst:Decidable (x∈as)} {k:Nat} (hy:as[k]? = some y) (e:y=x):true=decide (x∈as):=by
  symm;rw [decide_eq_true_eq];subst e;exact List.mem_of_getElem? hy
theorem Zbf {α:Type} {p:α→Prop} {l:List α} {k:Nat} (hk : ¬ (k:Int)<l.length) (h :∀y,y∈l.take k→p y) :∀y,y∈l→p y:=by
  rwa [List.take_of_length_le (by omega)] at h
theorem ZiQ {α:Type} {l:List α} {k:Nat} {x:α} (h:l[k]? = some x):l.drop k=x :: l.drop (k+1):=by
  obtain ⟨hlt,he⟩:=List.getElem?_eq_some_iff.1 h
  rw [List.drop_eq_getElem_cons hlt,he]
theorem Zpg {α:Type} {l:List α} {k:Nat} (h : ¬ (k:Int)<l.length):l.drop k=[]:=List.drop_eq_nil_of_le (by omega)
def ZcU (l:List Str):Bool:=l.all Zam && decide l.Nodup && decide (l.length≤3)
def ZcD (x:DLetter):Bool:=Zam x.fr && ZcU x.to_ && decide (0<x.to_.length) && decide (x.text.length≤20)
def ZfF (x:DItem):Bool:=ZcD ⟨x.fr,x.left,x.text⟩
def Zdq:Int→List DItem→Option Int
  | last,[]=>some last
  | last,x :: r=>if (last+1≤x.id∧x.id≤99)∧ZfF x=true then Zdq x.id r else none
def ZaO (q:DQueue):Bool:=match Zdq 0 q.items with
  | some last=>decide (last+1≤q.next) && decide (q.next≤100) && decide (q.items.length≤6)
  | none=>false
theorem Zog {α:Type} {l:List α} {k:Nat} {x:α} (hx:l[k]? = some x) (h:(l.take k).Nodup) (hn : ¬ x∈l.take k):(l.take (k+1)).Nodup:=by
  rw [List.take_add_one,hx]
  simp only [Option.toList_some]
  rw [List.nodup_append]
  exact ⟨h,by simp,fun a ha b hb=>by rw [List.mem_singleton.1 hb];exact fun e=>hn (e ▸ ha)⟩
theorem Zso {α:Type} {l:List α} {k:Nat} {x:α} (hx:l[k]? = some x) (h:x∈l.take k) : ¬ l.Nodup:=by
  intro hn
  have e:l=l.take k ++ l.drop k:=(List.take_append_drop k l).symm
  rw [e,ZiQ hx,List.nodup_append] at hn
  exact hn.2.2 x h x (List.mem_cons_self ..) rfl
theorem Zgo {l:List Str} {k:Nat} {x:Str} (hx:l[k]? = some x) (h:Zam x=false):false=ZcU l:=by
  simp [ZcU,Zkb hx h]
theorem Zgn {l:List Str} {k:Nat} {x:Str} (hx:l[k]? = some x) (h:x∈l.take k):false=ZcU l:=by
  simp [ZcU,Zso hx h]
theorem ZgY {l:List Str} {k:Nat} (hk : ¬ (k:Int)<l.length) (ha:(l.take k).all Zam=true) (hn:(l.take k).Nodup):decide ((l.length:Int)≤3)=ZcU l:=by
  rw [List.take_of_length_le (by omega)] at ha hn
  rw [Bool.eq_iff_iff];simp only [ZcU,ha,decide_eq_true hn,Bool.true_and,decide_eq_true_eq];omega
def ZcX {α:Type} (p:α→Bool) (xs:List α):Int:=match xs.findIdx? p with | some i=>i | none=>-1
theorem ZgC {α:Type} {p:α→Bool} {xs:List α} {k:Nat} {x:α} (hx:xs[k]? = some x) (he:p x=true) (h :∀y,y∈xs.take k→p y=false):ZcX p xs=k:=by
  have:xs.findIdx? p=some k:=by
    rw [List.findIdx?_eq_some_iff_getElem]
    obtain ⟨hk,rfl⟩:=List.getElem?_eq_some_iff.1 hx
    refine ⟨hk,he,fun j hj=>?_⟩
    have:=h xs[j] (by rw [List.mem_take_iff_getElem];exact ⟨j,by omega,rfl⟩)
    simpa using this
  rw [ZcX,this]
theorem Zek {α:Type} {p:α→Bool} {xs:List α} (h :∀y,y∈xs→p y=false):ZcX p xs = -1:=by
  have:xs.findIdx? p=none:=by
    rw [List.findIdx?_eq_none_iff]
    intro x hx
    simpa using h x hx
  rw [ZcX,this]
theorem ZqF {α:Type} {p:α→Bool} {xs:List α} : (0≤ZcX p xs)↔∃x,x∈xs∧p x=true:=by
  cases h:xs.findIdx? p with
  | none=>
    rw [List.findIdx?_eq_none_iff] at h
    simp only [ZcX,List.findIdx?_eq_none_iff.2 h]
    refine ⟨fun e=>absurd e (by omega),fun ⟨x,hx,hp⟩=>?_⟩
    rw [h x hx] at hp;cases hp
  | some i=>
    simp only [ZcX,h]
    rw [List.findIdx?_eq_some_iff_getElem] at h
    obtain ⟨hi,hp,_⟩:=h
    exact ⟨fun _=>⟨_,List.getElem_mem hi,hp⟩,fun _=>by omega⟩
def ZvC (xs:List Str) (v:Str):Int:=ZcX (fun x=>decide (x=v)) xs
theorem ZqE {xs:List Str} {v:Str} : (0≤ZvC xs v)↔v∈xs:=by
  rw [ZvC,ZqF];simp
theorem ZlL {q:DQueue} (h:Zdq 0 q.items=none):false=ZaO q:=by simp [ZaO,h]
theorem ZlK {q:DQueue} {last:Int} (h:Zdq 0 q.items=some last):(decide (last+1≤q.next) && decide (q.next≤100) && decide (q.items.length≤6))=ZaO q:=by simp [ZaO,h]
theorem ZnZ {q:DQueue} {k:Nat} {last:Int} {x:DItem} (hs:Zdq 0 q.items=Zdq last (q.items.drop k)) (hx:q.items[k]? = some x):Zdq 0 q.items=if (last+1≤x.id∧x.id≤99)∧ZfF x=true then Zdq x.id (q.items.drop (k+1)) else none:=by
  rw [hs,ZiQ hx,Zdq]
theorem Zeg (x:DLetter):ZcD x=(Zam x.fr && (decide (1≤x.to_.length) && ZcU x.to_) && decide ((x.text.length:Int)≤20)):=by
  rw [Bool.eq_iff_iff];simp only [ZcD,Bool.and_eq_true,decide_eq_true_eq]
  constructor
  · rintro ⟨⟨⟨a,b⟩,c⟩,d⟩;exact ⟨⟨a,by omega,b⟩,by omega⟩
  · rintro ⟨⟨a,c,b⟩,d⟩;exact ⟨⟨⟨a,b⟩,by omega⟩,by omega⟩
theorem Zdm.mono {B B':Kn} {q:Option Addr} {m:Nat} (h:Zdm B q m) (hle:B.le B'):Zdm B' q m:=fun j hj=>by
  obtain ⟨a,c,h1,h2,h3⟩:=h j hj
  exact ⟨a,c,h1,h2,h3.mono hle⟩
structure Gh (α:Type) where
  k:Nat
  p:Nat
  l:Cells
  a:Option Addr
  c:Nat
  xs:List α
theorem Zbr {α:Type} {l:List α} {k:Nat} {x:α} (hx:l[k]? = some x):l.take (k+1)=l.take k ++ [x]:=by
  rw [List.take_add_one,hx];rfl
theorem Zn0 :∀{xs:List DItem} {l r:Int},Zdq l xs=some r→l≤r
  | [],l,r,h=>by simp only [Zdq,Option.some.injEq] at h;omega
  | x :: xs,l,r,h=>by
    rw [Zdq] at h
    split at h
    · rename_i e;have:=Zn0 h;omega
    · cases h
theorem Zeb {q:DQueue} (h:ZaO q=true):1≤q.next∧q.next≤100∧q.items.length≤6:=by
  unfold ZaO at h
  split at h
  · rename_i last e
    have:=Zn0 e
    simp only [Bool.and_eq_true,decide_eq_true_eq] at h
    omega
  · cases h
structure Gh2 (α β:Type) where
  k:Nat
  p:Nat
  l:Cells
  a:Option Addr
  c:Nat
  xs:List α
  e:β
structure GQ where
  k:Nat
  p:Nat
  l:Cells
  a:Option Addr
  c:Nat
  q:DQueue
structure GM where
  b:Nat
  p:Nat
  l:Cells
  a:Option Addr
  c:Nat
  q:DQueue
  f:Bool
theorem Zpf {α:Type} {xs:List α} {j:Nat} {y:α} (h:xs[j]? = some y):xs.drop j=y :: xs.drop (j+1):=by
  obtain ⟨hj,rfl⟩:=List.getElem?_eq_some_iff.1 h
  exact List.drop_eq_getElem_cons hj
structure QOf where
  p:Option Addr
  ys:List DItem
  xs:List DItem
  l:Cells
  q:Option Addr
  c:Nat
  cells:Cells
theorem ZU.slice0 {α:Type} {B:Kn} {l:Cells} {p:Option Addr} {c:Nat} {T:TypeId} {w sz:Nat} {R:Rel α} {xs:List α} (h:ZU B l p c T w R xs):(if c=0 then p else p.map (fun a=>a.add (0*sz)))=p:=by
  obtain ⟨rows,_,_,_,⟨rfl,_,rfl,_⟩ | ⟨b,arr,rfl,_,_,_,_⟩⟩:=h
  · rfl
  · split
    · rfl
    · rw [Nat.zero_mul];simp [Addr.add_off]
theorem Zf1 {q:DQueue} (h : ¬ (q.items.length≤6∧1≤q.next∧q.next≤100)):false=ZaO q:=by
  symm;rw [Bool.eq_false_iff];intro hq
  have:=Zeb hq
  omega
end Go.BL
namespace Go.BL
open Go
set_option linter.unusedVariables false
set_option linter.unusedSimpArgs false
def hat (xs:List Int) (k:Nat):Int:=xs.getD k 0
def swp (xs:List Int) (i j:Nat):List Int:=(xs.set i (hat xs j)).set j (hat xs i)
def Zc7 (xs:List Int):Prop:=∀k,0<k→k<xs.length→hat xs ((k - 1) / 2)≤hat xs k
def Zfo (xs:List Int) (j:Nat):Prop:=(∀k,0<k→k<xs.length→k≠j→hat xs ((k - 1) / 2)≤hat xs k)∧(∀k,0<k→k<xs.length→(k - 1) / 2=j→0<j→hat xs ((j - 1) / 2)≤hat xs k)
theorem ZsD {xs:List Int} {k:Nat} {a:Int} (h:xs[k]? = some a):hat xs k=a:=by simp [hat,List.getD,h]
theorem ZaG {xs:List Int} {k:Nat} (h:k<xs.length):xs[k]? = some (hat xs k):=by simp [hat,List.getD,List.getElem?_eq_getElem h]
theorem ZcR (xs:List Int) (i j:Nat):(swp xs i j).length=xs.length:=by simp [swp]
theorem Zel {xs:List Int} {i j:Nat} (hi:i<xs.length) (hj:j<xs.length) (k:Nat):hat (swp xs i j) k=if k=j then hat xs i else if k=i then hat xs j else hat xs k:=by
  simp only [hat,swp,List.getD,List.getElem?_set]
  by_cases h1:k=j
  · subst h1;simp [hj]
  · have h1' : ¬j=k:=fun h=>h1 h.symm
    by_cases h2:k=i
    · subst h2;simp [hi,h1,h1']
    · have h2' : ¬i=k:=fun h=>h2 h.symm
      simp [h1,h1',h2,h2']
theorem Zfu {xs:List Int} {i j:Nat} (hi:i<xs.length) (hj:j<xs.length):(swp xs i j).Perm xs:=by
  rw [List.perm_iff_count]
  intro a
  unfold swp
  rw [List.count_set (by simpa using hj),List.count_set hi]
  have e1:(xs.set i (hat xs j))[j]'(by simpa using hj)=hat xs j:=by
    rw [List.getElem_set];split
    · rfl
    · simp [hat,List.getD,List.getElem?_eq_getElem hj]
  have e2:xs[i]=hat xs i:=by simp [hat,List.getD,List.getElem?_eq_getElem hi]
  rw [e1,e2]
  have hp :∀v,(v == a)=true→v∈xs→0<List.count a xs:=fun v hv hm=>by
    rw [beq_iff_eq] at hv;subst hv;exact List.count_pos_iff.2 hm
  have hm1:hat xs i∈xs:=by rw [← e2];exact List.getElem_mem _
  by_cases h1:(hat xs i == a)=true <;> by_cases h2:(hat xs j == a)=true <;> simp [h1,h2] <;> (try have:=hp _ h1 hm1;omega)
theorem Zr0 {xs:List Int} (h:Zfo xs 0):Zc7 xs:=fun k h0 hk=>h.1 k h0 hk (by omega)
theorem Zr2 {xs:List Int} {j:Nat} (h:Zfo xs j) (hj:hat xs ((j - 1) / 2)≤hat xs j):Zc7 xs:=fun k h0 hk=>by
  by_cases e:k=j
  · subst e;exact hj
  · exact h.1 k h0 hk e
theorem Zr1 {xs:List Int} {j:Nat} (h0:0<j) (hj:j<xs.length) (h:Zfo xs j) (hlt:hat xs j<hat xs ((j - 1) / 2)):Zfo (swp xs ((j - 1) / 2) j) ((j - 1) / 2):=by
  have hi:(j - 1) / 2<xs.length:=by omega
  have H:=fun k=>Zel hi hj k
  generalize hii:(j - 1) / 2=i at *
  refine ⟨fun k hk0 hk hne=>?_,fun k hk0 hk hpar hi0=>?_⟩
  · rw [ZcR] at hk
    rw [H,H]
    by_cases e1:k=j
    · subst e1
      rw [hii];rw [if_neg (by omega),if_pos rfl,if_pos rfl];omega
    · rw [if_neg e1,if_neg hne]
      by_cases e2:(k - 1) / 2=j
      · rw [if_pos e2];have:=h.2 k hk0 hk e2 h0;rw [hii] at this;exact this
      · rw [if_neg e2]
        by_cases e3:(k - 1) / 2=i
        · rw [if_pos e3];have:=h.1 k hk0 hk e1;rw [e3] at this;omega
        · rw [if_neg e3];exact h.1 k hk0 hk e1
  · rw [ZcR] at hk
    rw [H,H]
    have hpi:(i - 1) / 2≠i:=by omega
    have hpj:(i - 1) / 2≠j:=by omega
    rw [if_neg hpj,if_neg hpi]
    have hii2:=h.1 i hi0 hi (by omega)
    by_cases e1:k=j
    · rw [if_pos e1];exact hii2
    · rw [if_neg e1,if_neg (by omega)]
      have:=h.1 k hk0 hk e1;rw [hpar] at this;omega
theorem ZqI {xs:List Int} (h:Zc7 xs) :∀k,k<xs.length→hat xs 0≤hat xs k:=fun k=>by
  induction k using Nat.strongRecOn with
  | ind k ih=>
    intro hk
    by_cases h0:k=0
    · subst h0;exact Int.le_refl _
    · have h1:=ih ((k - 1) / 2) (by omega) (by omega)
      have h2:=h k (by omega) hk
      omega
def Zrk (xs:List Int) (n:Nat):Prop:=∀k,0<k→k<n→hat xs ((k - 1) / 2)≤hat xs k
def Zer (xs:List Int) (n i:Nat):Prop:=(∀k,0<k→k<n→(k - 1) / 2≠i→hat xs ((k - 1) / 2)≤hat xs k)∧(∀k,0<k→k<n→(k - 1) / 2=i→0<i→hat xs ((i - 1) / 2)≤hat xs k)
theorem Zph {xs:List Int} {n i:Nat} (h:Zer xs n i) (hl:n≤2*i+1):Zrk xs n:=fun k h0 hk=>h.1 k h0 hk (by omega)
theorem Zhk {xs:List Int} {n i:Nat} (h:Zer xs n i) (hc :∀k,0<k→k<n→(k - 1) / 2=i→hat xs i≤hat xs k):Zrk xs n:=fun k h0 hk=>by
  by_cases e:(k - 1) / 2=i
  · rw [e];exact hc k h0 hk e
  · exact h.1 k h0 hk e
theorem Zhj {xs:List Int} {n i j:Nat} (hn:n≤xs.length) (hj0:0<j) (hj:j<n) (hpj:(j - 1) / 2=i) (h:Zer xs n i) (hmin :∀k,0<k→k<n→(k - 1) / 2=i→hat xs j≤hat xs k) (hlt:hat xs j<hat xs i):Zer (swp xs i j) n j:=by
  have hi:i<xs.length:=by omega
  have hij:i≠j:=by omega
  have H:=fun k=>Zel hi (show j<xs.length by omega) k
  refine ⟨fun k hk0 hk hne=>?_,fun k hk0 hk hpar _=>?_⟩
  · rw [H,H,if_neg hne]
    by_cases e1:k=j
    · subst e1;rw [if_pos hpj,if_pos rfl];omega
    · rw [if_neg e1]
      by_cases e2:(k - 1) / 2=i
      · rw [if_pos e2,if_neg (by omega)];exact hmin k hk0 hk e2
      · rw [if_neg e2]
        by_cases e3:k=i
        · rw [if_pos e3];subst e3;exact h.2 j hj0 hj hpj hk0
        · rw [if_neg e3];exact h.1 k hk0 hk e2
  · rw [H,H,hpj,if_neg hij,if_pos rfl,if_neg (by omega),if_neg (by omega)]
    have:=h.1 k hk0 hk (by omega)
    rwa [hpar] at this
theorem Zvi (k:Nat):Int.tdiv ((k:Int) - 1) 2=(((k - 1) / 2:Nat):Int):=by
  cases k with
  | zero=>rfl
  | succ k=>rw [show ((k+1:Nat):Int) - 1=(k:Int) from by omega,Int.tdiv_eq_ediv_of_nonneg (by omega)];simp
theorem ZoJ {xs:List Int} {z:Int} {k:Nat} (h:k<xs.length):hat (xs ++ [z]) k=hat xs k:=by
  simp [hat,List.getD,List.getElem?_append_left h]
theorem Zqc {xs:List Int} {z:Int} (h:Zc7 xs):Zfo (xs ++ [z]) xs.length:=by
  refine ⟨fun k h0 hk hne=>?_,fun k h0 hk hp _=>?_⟩
  · rw [List.length_append,List.length_singleton] at hk
    rw [ZoJ (by omega),ZoJ (by omega)]
    exact h k h0 (by omega)
  · rw [List.length_append,List.length_singleton] at hk
    omega
theorem Zse {xs:List Int} (h:Zc7 xs) (h0:0<xs.length):Zer (swp xs 0 (xs.length - 1)) (xs.length - 1) 0:=by
  refine ⟨fun k hk0 hk hne=>?_,fun k hk0 hk hpar hh=>absurd hh (by omega)⟩
  rw [Zel h0 (by omega),Zel h0 (by omega),if_neg (by omega),if_neg (by omega),if_neg (by omega),if_neg (by omega)]
  exact h k hk0 (by omega)
theorem Zp4 {xs:List Int} (h0:0<xs.length):hat (swp xs 0 (xs.length - 1)) (xs.length - 1)=hat xs 0:=by rw [Zel h0 (by omega),if_pos rfl]
theorem Zl0 {xs:List Int} {n k:Nat} (h:k<n):hat (xs.take n) k=hat xs k:=by simp [hat,List.getD,List.getElem?_take,h]
theorem ZmV {ys:List Int} {n:Nat} (h:Zrk ys n) (hn:n≤ys.length):Zc7 (ys.take n):=fun k h0 hk=>by
  rw [List.length_take] at hk
  rw [Zl0 (by omega),Zl0 (by omega)]
  exact h k h0 (by omega)
theorem Zqf {xs ys:List Int} (h0:0<ys.length) (hp:ys.Perm xs) {z:Int} (hz:hat ys (ys.length - 1)=z):(z :: ys.take (ys.length - 1)).Perm xs:=by
  refine List.Perm.trans ?_ hp
  have e:ys=ys.take (ys.length - 1) ++ [z]:=by
    have h1:=Zbr (ZaG (xs:=ys) (k:=ys.length - 1) (by omega))
    rw [show ys.length - 1+1=ys.length from by omega,List.take_length] at h1
    rw [hz] at h1;exact h1
  have h2:(z :: ys.take (ys.length - 1)).Perm (ys.take (ys.length - 1) ++ [z]):=(List.perm_append_singleton z _).symm
  rwa [← e] at h2
theorem ZqH:Zc7 []:=fun k h0 hk=>by simp at hk
def asc:Int→Int→List Int→Bool
  | _,_,[]=>true
  | b,l,x :: r=>decide (b<x) && decide (x≤l) && asc x l r
theorem Zpy :∀{r:List Int} {b l z:Int},asc b l r=true→z∈r→b<z
  | [],_,_,_,_,hz=>by cases hz
  | x :: r,b,l,z,h,hz=>by
    simp only [asc,Bool.and_eq_true,decide_eq_true_eq] at h
    rcases List.mem_cons.1 hz with rfl | hz
    · exact h.1.1
    · have:=Zpy h.2 hz;omega
theorem ZsC {xs:List Int} {k:Nat} (h:k<xs.length):hat xs k∈xs:=List.mem_of_getElem? (ZaG h)
theorem Zq9 {b l x:Int} {r ys:List Int} (hp:ys.Perm (x :: r)) (hh:Zc7 ys) (hne:hat ys 0≠x):false=asc b l (x :: r):=by
  symm;rw [Bool.eq_false_iff]
  intro h
  have h0:0<ys.length:=by rw [hp.length_eq];simp
  have hm:=hp.mem_iff.1 (ZsC h0)
  simp only [asc,Bool.and_eq_true,decide_eq_true_eq] at h
  rcases List.mem_cons.1 hm with e | hm
  · exact hne e
  · have h1:=Zpy h.2 hm
    obtain ⟨k,hk⟩:=List.mem_iff_getElem?.1 (hp.mem_iff.2 (List.mem_cons_self (a:=x) (l:=r)))
    have h2:=ZqI hh k (List.getElem?_eq_some_iff.1 hk).1
    rw [ZsD hk] at h2
    omega
theorem Zq8 {b l x:Int} {r:List Int} (h:x≤b):false=asc b l (x :: r):=by simp [asc,show ¬ b<x from by omega]
theorem Zq7 {b l x:Int} {r:List Int} (h:l<x):false=asc b l (x :: r):=by simp [asc,show ¬ x≤l from by omega]
theorem ZuI {b l x:Int} {r:List Int} (h : ¬ x≤b) (h2 : ¬ l<x):asc b l (x :: r)=asc x l r:=by simp [asc,show b<x from by omega,show x≤l from by omega]
theorem ZlF :∀{xs:List DItem} {b:Int} {l:Int},l≤99→(match Zdq b xs with | some r=>decide (r≤l) | none=>false)=(decide (b≤l) && xs.all ZfF && asc b l (xs.map (·.id)))
  | [],b,l,_=>by simp [Zdq,asc]
  | x :: xs,b,l,hl=>by
    have ih:=ZlF (xs:=xs) (b:=x.id) hl
    rw [Zdq,List.map_cons,List.all_cons,asc]
    by_cases h1:b+1≤x.id
    · by_cases h2:ZfF x=true
      · by_cases h3:x.id≤99
        · rw [if_pos ⟨⟨h1,h3⟩,h2⟩,ih,h2]
          by_cases h4:x.id≤l
          · simp [h4,show b≤l from by omega,show b<x.id from by omega]
          · simp [h4]
        · rw [if_neg (fun h=>h3 h.1.2)]
          simp [show ¬ x.id≤l from by omega]
      · rw [if_neg (fun h=>h2 h.2)]
        simp [h2]
    · rw [if_neg (fun h=>h1 h.1.1)]
      simp [show ¬ b<x.id from by omega]
theorem ZgT (q:DQueue):ZaO q=(decide (q.items.length≤6) && decide (1≤q.next) && decide (q.next≤100) && q.items.all ZfF && asc 0 (q.next - 1) (q.items.map (·.id))):=by
  by_cases h:q.next≤100
  · have:=ZlF (xs:=q.items) (b:=0) (l:=q.next - 1) (by omega)
    unfold ZaO
    cases hs:Zdq 0 q.items with
    | none=>
      rw [hs] at this
      simp only at this
      rw [Bool.eq_iff_iff]
      simp only [Bool.and_eq_true,decide_eq_true_eq,Bool.false_eq_true,false_iff]
      rintro ⟨⟨⟨⟨_,h1⟩,_⟩,h2⟩,h3⟩
      rw [h2,h3] at this
      simp at this;omega
    | some r=>
      rw [hs] at this
      simp only at this
      rw [Bool.eq_iff_iff] at this ⊢
      simp only [Bool.and_eq_true,decide_eq_true_eq] at this ⊢
      constructor
      · rintro ⟨⟨h1,h2⟩,h3⟩
        obtain ⟨⟨a,b⟩,c⟩:=this.1 (by omega)
        exact ⟨⟨⟨⟨h3,by omega⟩,h⟩,b⟩,c⟩
      · rintro ⟨⟨⟨⟨h1,h2⟩,h3⟩,h4⟩,h5⟩
        have:=this.2 ⟨⟨by omega,h4⟩,h5⟩
        omega
  · unfold ZaO
    cases Zdq 0 q.items <;> simp [h]
theorem ZuL {α:Type} {p:α→Bool} {l:List α} {k:Nat} {x:α} (hx:l[k]? = some x) (h:p x=false):l.all p=false:=by
  rw [Bool.eq_false_iff];intro hp
  rw [List.all_eq_true] at hp
  have:=hp x (List.mem_of_getElem? hx)
  rw [h] at this;cases this
theorem ZuK {α:Type} {p:α→Bool} {l:List α} {k:Nat} {x:α} (hx:l[k]? = some x) (h:p x=true) (ha:(l.take k).all p=true):(l.take (k+1)).all p=true:=by
  rw [Zbr hx,List.all_append,ha];simp [h]
theorem Zkz {q:DQueue} {k:Nat} {x:DItem} (hx:q.items[k]? = some x) (h:ZfF x=false):false=ZaO q:=by
  rw [ZgT,ZuL hx h];simp
theorem Zky {q:DQueue} {k:Nat} (hk : ¬ (k:Int)<q.items.length) (ha:(q.items.take k).all ZfF=true) (h6:q.items.length≤6) (h1:1≤q.next) (h2:q.next≤100):asc 0 (q.next - 1) (q.items.map (·.id))=ZaO q:=by
  rw [List.take_of_length_le (by omega)] at ha
  rw [ZgT,ha];simp [h6,h1,h2]
structure QLf where
  p:Option Addr
  ys:List DItem
  xs:List DItem
  cells:Cells
structure QN where
  k:Nat
  a:Option Addr
  c:Nat
end Go.BL
namespace Go.BL
open Go
set_option linter.unusedVariables false
set_option linter.unusedSimpArgs false
def Zcw (m:DMail):Bool:=(decide (1≤m.uid) && decide (m.uid≤99)) && (decide (0≤m.flags) && decide (m.flags≤31)) && decide (m.text.length≤20)
def scn {α β:Type} (p:β→α→Bool) (nx:β→α→β) (b0:β) (xs:List α):Bool × β:=xs.foldl (fun s x=>(s.1 && p s.2 x,nx s.2 x)) (true,b0)
theorem Ze5 {α β:Type} {p:β→α→Bool} {nx:β→α→β} {b0:β} {xs:List α} : scn p nx b0 (xs.take 0)=(true,b0):=by simp [scn]
theorem ZlC {α β:Type} {p:β→α→Bool} {nx:β→α→β} {b0:β} {xs:List α} {k:Nat} {x:α} (hx:xs[k]? = some x):scn p nx b0 (xs.take (k+1))=((scn p nx b0 (xs.take k)).1 && p (scn p nx b0 (xs.take k)).2 x,nx (scn p nx b0 (xs.take k)).2 x):=by
  have:xs.take (k+1)=xs.take k ++ [x]:=by rw [List.take_add_one,hx];rfl
  rw [this,scn,List.foldl_append];rfl
theorem Zck {α β:Type} {p:β→α→Bool} {nx:β→α→β} :∀(xs:List α) (b:β),(xs.foldl (fun (s:Bool × β) x=>(s.1 && p s.2 x,nx s.2 x)) (false,b)).1=false
  | [],_=>rfl
  | x :: xs,b=>by simp only [List.foldl_cons,Bool.false_and];exact Zck xs _
theorem Zr9 {α β:Type} {p:β→α→Bool} {nx:β→α→β} {b0:β} {xs:List α} {k:Nat} (h:(scn p nx b0 (xs.take k)).1=false):(scn p nx b0 xs).1=false:=by
  have e:xs=xs.take k ++ xs.drop k:=(List.take_append_drop k xs).symm
  have:scn p nx b0 xs=(xs.drop k).foldl (fun s x=>(s.1 && p s.2 x,nx s.2 x)) (scn p nx b0 (xs.take k)):=by
    conv=>lhs;rw [e,scn,List.foldl_append]
    rfl
  rw [this]
  rcases hs:scn p nx b0 (xs.take k) with ⟨b,c⟩
  rw [hs] at h
  simp only at h
  subst h
  exact Zck _ _
theorem Ze6 {α β:Type} {p:β→α→Bool} {nx:β→α→β} {b0:β} {xs:List α} {k:Nat} {x:α} (hx:xs[k]? = some x) (h:p (scn p nx b0 (xs.take k)).2 x=false):(scn p nx b0 xs).1=false:=
  Zr9 (k:=k+1) (by rw [ZlC hx,h,Bool.and_false])
theorem Zcj {α β:Type} {p:β→α→Bool} {nx:β→α→β} {b0 b:β} {xs:List α} {k:Nat} {x:α} (hx:xs[k]? = some x) (hs:scn p nx b0 (xs.take k)=(true,b)) (h:p b x=true):scn p nx b0 (xs.take (k+1))=(true,nx b x):=by
  rw [ZlC hx,hs];simp [h]
theorem ZdT {α β:Type} {p:β→α→Bool} {nx:β→α→β} {b0 b:β} {xs:List α} {k:Nat} (hs:scn p nx b0 (xs.take k)=(true,b)) (hk:xs.length≤k):scn p nx b0 xs=(true,b):=by
  rwa [List.take_of_length_le hk] at hs
def ZdV (b:Int) (m:DMail):Bool:=Zcw m && decide (b<m.uid)
def ZcC (ms:List DMail):Bool × Int:=scn ZdV (fun _ m=>m.uid) 0 ms
def ZdF (b:DBox):Bool:=(ZcC b.mail).1 && (decide ((ZcC b.mail).2+1≤b.next) && decide (b.next≤100)) && decide (b.mail.length≤10)
def Zbm (ms:List DMail):Nat:=(ms.map (·.text.length)).sum
theorem ZgR {ms:List DMail} {k:Nat} {x:DMail} (hx:ms[k]? = some x):Zbm (ms.take (k+1))=Zbm (ms.take k)+x.text.length:=by
  have:ms.take (k+1)=ms.take k ++ [x]:=by rw [List.take_add_one,hx];rfl
  simp [Zbm,this]
theorem ZfN {b:DBox} (h:(ZcC b.mail).1=false):ZdF b=false:=by simp [ZdF,h]
theorem ZfM {b:DBox} {l:Int} (h:ZcC b.mail=(true,l)):ZdF b=((decide (l+1≤b.next) && decide (b.next≤100)) && decide (b.mail.length≤10)):=by simp [ZdF,h]
theorem ZhW {m:DMail} (h:Zcw m=true):0≤m.uid∧m.uid≤99:=by
  simp only [Zcw,Bool.and_eq_true,decide_eq_true_eq] at h;omega
theorem ZhN {ms:List DMail} {k n:Nat} (h:n=Zbm (ms.take k)) (hk:ms.length≤k):n=Zbm ms:=by rwa [List.take_of_length_le hk] at h
def Zdk (b:DBox):Int:=if ZdF b then (Zbm b.mail:Int) else -1
def anyone:Str:=[97,110,121,111,110,101]
def Zcv (u:DUser):Bool:=Zam u.name && decide (u.name≠anyone) && Zam u.pass && (decide (0≤u.quota) && decide (u.quota≤200))
theorem Zbi :∀(a b:Str),Op.bytesLess a b = !(Op.bytesLess b a || decide (b=a))
  | [],[]=>by simp [Op.bytesLess]
  | [],_ :: _=>by simp [Op.bytesLess]
  | _ :: _,[]=>by simp [Op.bytesLess]
  | a :: x,b :: y=>by
    have ih:=Zbi x y
    simp only [Op.bytesLess,ih]
    rcases UInt8.lt_or_lt_of_ne (a:=a) (b:=b) with h
    by_cases e:a=b
    · subst e
      have : ¬ a<a:=UInt8.lt_irrefl a
      simp [this,ih]
    · rcases h e with h | h
      · have h2 : ¬ b<a:=UInt8.lt_asymm h
        simp [h,h2,e,Ne.symm e]
      · have h2 : ¬ a<b:=UInt8.lt_asymm h
        simp [h,h2,e]
def Zd7 (b:Str) (u:DUser):Bool:=Zcv u && Op.bytesLess b u.name
def ZdN (us:List DUser):Bool × Str:=scn Zd7 (fun _ u=>u.name) [] us
def Zat (us:List DUser):Bool:=(ZdN us).1 && (decide (1≤us.length) && decide (us.length≤4))
theorem Ze1 {us:List DUser} (h:(ZdN us).1=false):Zat us=false:=by simp [Zat,h]
theorem ZgM {us:List DUser} {b:Str} (h:ZdN us=(true,b)):Zat us=(decide (1≤us.length) && decide (us.length≤4)):=by simp [Zat,h]
def Zof:DUser:=⟨[],[],0⟩
def Zfj (t:DUser→Bool) (us:List DUser):DUser × Bool:=match us.find? t with | some x=>(x,true) | none=>(Zof,false)
theorem ZjX {α:Type} {t:α→Bool} {xs:List α} (h :∀y,y∈xs→t y=false):xs.find? t=none:=List.find?_eq_none.2 fun y hy=>by simp [h y hy]
theorem ZqT {α:Type} {t:α→Bool} {xs:List α} {k:Nat} {x:α} (hx:xs[k]? = some x) (ht:t x=true) (h :∀y,y∈xs.take k→t y=false):xs.find? t=some x:=by
  have hlt:=(List.getElem?_eq_some_iff.1 hx).1
  have e:xs=xs.take k ++ (x :: xs.drop (k+1)):=by
    rw [← (List.getElem?_eq_some_iff.1 hx).2,← List.drop_eq_getElem_cons hlt,List.take_append_drop]
  rw [e,List.find?_append,ZjX h];simp [ht]
theorem Zo2 {t:DUser→Bool} {us:List DUser} {k:Nat} {x:DUser} (hx:us[k]? = some x) (ht:t x=true) (h :∀y,y∈us.take k→t y=false):Zfj t us=(x,true):=by simp [Zfj,ZqT hx ht h]
theorem Zm1 {t:DUser→Bool} {us:List DUser} (h :∀y,y∈us→t y=false):Zfj t us=(Zof,false):=by simp [Zfj,ZjX h]
theorem Zin {B:Kn} {b:Nat} {T:TypeId} {vs:List Value} (h :∀p,p∈Zae b vs T→B.mem p.1=some p.2):Zaq B b 0 vs:=fun L j u hu=>
  ⟨rfl,vs.toArray,T,(0,0),.inl (h (b,.cells vs.toArray T) (List.mem_singleton.2 rfl)),by simpa using hu⟩
def ZaB (us:List DUser) (n:Str):DUser × Bool:=if Zat us then Zfj (fun y=>decide (y.name=n)) us else (Zof,false)
def inF (o n:Str) (f:DFolder):Bool:=decide (f.owner=o) && decide (f.name=n)
def ZcE (us:List DUser) (x:DItem):Bool:=(ZaB us x.fr).2 && x.left.all fun n=>(ZaB us n).2
theorem Zdg {α:Type} {p:α→Bool} {xs:List α} {k:Nat} {x:α} (hx:xs[k]? = some x) (h:p x=false):xs.all p=false:=by
  rw [List.all_eq_false];exact ⟨x,List.mem_of_getElem? hx,by simp [h]⟩
theorem ZeG {α:Type} {p:α→Bool} {xs:List α} (h :∀y,y∈xs→p y=true):xs.all p=true:=List.all_eq_true.2 h
def ZfD (a b:DFolder):Bool:=Op.bytesLess a.owner b.owner || (decide (a.owner=b.owner) && Op.bytesLess a.name b.name)
theorem Zdd (a:Str):Op.bytesLess a a=false:=by
  have:=Zbi a a
  cases h:Op.bytesLess a a with
  | false=>rfl
  | true=>rw [h] at this;simp at this
end Go.BL
namespace Go.BL
open Go
set_option linter.unusedVariables false
set_option linter.unusedSimpArgs false
inductive Prev {α β:Type} (f:α→β) (z:β) (xs:List α):Nat→β→Prop
  | zero:Prev f z xs 0 z
  | succ {k:Nat} {x:α} : xs[k]? = some x→Prev f z xs (k+1) (f x)
theorem Prev.at {α β:Type} {f:α→β} {z:β} {xs:List α} {k:Nat} {b:β} {y:α} (h:Prev f z xs k b) (hy:xs[((k:Int) - 1).toNat]? = some y) (hk:0<(k:Int)):b=f y:=by
  cases h with
  | zero=>omega
  | succ hx=>
    rename_i k x
    rw [show (((k+1:Nat):Int) - 1).toNat=k from by omega,hx] at hy
    cases hy;rfl
theorem Prev.at0 {α β:Type} {f:α→β} {z:β} {xs:List α} {k:Nat} {b:β} (h:Prev f z xs k b) (hk:(k:Int)≤0):b=z:=by
  cases h with
  | zero=>rfl
  | succ hx=>omega
theorem Zil {α β:Type} {p:β→α→Bool} {nx:β→α→β} {b0 b:β} {xs:List α} {k:Nat} {x:α} (hx:xs[k]? = some x) (hs:scn p nx b0 (xs.take k)=(true,b)) (h:p b x=false):(scn p nx b0 xs).1=false:=
  Ze6 hx (by rw [congrArg Prod.snd hs];exact h)
theorem ZcO {us:List DUser} {k:Nat} {x:DUser} {nm:Str} (hx:us[k]? = some x) (hs:ZdN (us.take k)=(true,nm)) (h:Zd7 nm x=false):Zat us=false:=
  Ze1 (Zil hx hs h)
theorem ZlR {s:Str} (h:0<s.length):Op.bytesLess [] s=true:=by
  cases s with
  | nil=>cases h
  | cons a s=>rfl
theorem ZhT {s:Str} (h:Zam s=true):0<s.length:=by
  cases s with
  | nil=>simp [Zam] at h
  | cons a s=>simp
def ZbN (b:Str) (g:DGrant):Bool:=Zam g.user && (decide (1≤g.rights) && decide (g.rights≤63)) && Op.bytesLess b g.user
def Zco (gs:List DGrant):Bool × Str:=scn ZbN (fun _ g=>g.user) [] gs
def Zc8 (gs:List DGrant):Bool:=(Zco gs).1 && decide (gs.length≤4)
theorem Zc4 {gs:List DGrant} {k:Nat} {x:DGrant} {nm:Str} (hx:gs[k]? = some x) (hs:Zco (gs.take k)=(true,nm)) (h:ZbN nm x=false):Zc8 gs=false:=by
  rw [Zc8,show (Zco gs).1=false from Zil hx hs h,Bool.false_and]
theorem Zkc {gs:List DGrant} {b:Str} (h:Zco gs=(true,b)):Zc8 gs=decide (gs.length≤4):=by rw [Zc8,h,Bool.true_and]
def DFolder.box (f:DFolder):DBox:=⟨f.next,f.mail⟩
def inbox:Str:=[105,110,98,111,120]
def Z1 (us:List DUser) (f:DFolder):Bool:=decide (0≤ZdI us f.owner) && Zam f.name && Zc8 f.grants && ZdF f.box
def Zbc (us:List DUser) (b:Option DFolder) (f:DFolder):Bool:=Z1 us f && (match b with | none=>true | some y=>ZfD y f)
def ZcJ (us:List DUser) (fs:List DFolder):Bool × Option DFolder:=scn (Zbc us) (fun _ f=>some f) none fs
def ZbX (us:List DUser) (fs:List DFolder):Bool:=(ZcJ us fs).1 && decide (fs.length≤8)
theorem ZbW {us:List DUser} {fs:List DFolder} {k:Nat} {x:DFolder} {b:Option DFolder} (hx:fs[k]? = some x) (hs:ZcJ us (fs.take k)=(true,b)) (h:Zbc us b x=false):ZbX us fs=false:=by
  rw [ZbX,show (ZcJ us fs).1=false from Zil hx hs h,Bool.false_and]
theorem ZiM {us:List DUser} {fs:List DFolder} {b:Option DFolder} (h:ZcJ us fs=(true,b)):ZbX us fs=decide (fs.length≤8):=by rw [ZbX,h,Bool.true_and]
def Zcq (fs:List DFolder) (u:Str):Nat:=(fs.map fun f=>if f.owner=u then Zbm f.mail else 0).sum
theorem ZhL {fs:List DFolder} {u:Str} {k:Nat} {x:DFolder} (hx:fs[k]? = some x):Zcq (fs.take (k+1)) u=Zcq (fs.take k) u+if x.owner=u then Zbm x.mail else 0:=by
  have:fs.take (k+1)=fs.take k ++ [x]:=by rw [List.take_add_one,hx];rfl
  simp [Zcq,this]
theorem ZnD {fs:List DFolder} {u:Str} {k n:Nat} (h:n=Zcq (fs.take k) u) (hk:fs.length≤k):n=Zcq fs u:=by rwa [List.take_of_length_le hk] at h
def ZjK (us:List DUser) (ns:List Str):Bool:=ns.all fun n=>decide (0≤ZdI us n)
def Za5 (fs:List DFolder) (u:DUser):Bool:=decide (0≤ZcX (inF u.name inbox) fs) && decide ((Zcq fs u.name:Int)≤u.quota)
def ZaK (us:List DUser) (x:DItem):Bool:=decide (0≤ZdI us x.fr) && ZjK us x.left
def Z7 (h:DHost):Bool:=Zct h.domain && Zat h.users && ZaO h.queue && ZbX h.users h.folders && h.users.all (Za5 h.folders) && h.queue.items.all (ZaK h.users)
theorem Zal {B:Kn} {q:Option Addr} {cp:Nat} {ms:List DMail} (h:SlK B q cp 3 ZZ ms):Zbm ms≤4000000000000:=by
  have h1 :∀m,m∈ms→m.text.length≤2000000:=fun m hm=>by
    obtain ⟨i,hi⟩:=List.mem_iff_getElem?.1 hm
    obtain ⟨b,o,row,_,h2,_⟩:=h.rows i m hi
    exact h2.2
  have h2 :∀l:List DMail,(∀m,m∈l→m.text.length≤2000000)→Zbm l≤l.length*2000000:=by
    intro l
    induction l with
    | nil=>intro _;simp [Zbm]
    | cons m l ih=>
      intro hl
      have:=ih fun y hy=>hl y (List.mem_cons_of_mem _ hy)
      have:=hl m (List.mem_cons_self ..)
      simp only [Zbm,List.map_cons,List.sum_cons,List.length_cons] at *
      omega
  have:=h2 ms h1
  have:=h.len
  omega
theorem Zg5 {h:DHost} {k:Nat} {u:DUser} (hu:h.users[k]? = some u) (hf:Za5 h.folders u=false):Z7 h=false:=by
  rw [Z7,Zdg hu hf,Bool.and_false,Bool.false_and]
theorem Zg6 {h:DHost} {k:Nat} {y:DItem} (hy:h.queue.items[k]? = some y) (hf:ZaK h.users y=false):Z7 h=false:=by
  rw [Z7,Zdg hy hf,Bool.and_false]
theorem ZmQ {h:DHost} (h1:Zct h.domain=true) (h2:Zat h.users=true) (h3:ZaO h.queue=true) (h4:ZbX h.users h.folders=true) (h5:h.users.all (Za5 h.folders)=true) (h6:h.queue.items.all (ZaK h.users)=true):Z7 h=true:=by
  rw [Z7,h1,h2,h3,h4,h5,h6];rfl
theorem Zjc {fs:List DFolder} {u:DUser} (h:ZcX (inF u.name inbox) fs<0):Za5 fs u=false:=by
  rw [Za5,decide_eq_false (by omega),Bool.false_and]
theorem Zjb {fs:List DFolder} {u:DUser} (h:u.quota<Zcq fs u.name):Za5 fs u=false:=by
  rw [Za5,decide_eq_false (p:=(Zcq fs u.name:Int)≤u.quota) (by omega),Bool.and_false]
theorem Zja {fs:List DFolder} {u:DUser} (h:0≤ZcX (inF u.name inbox) fs) (h':(Zcq fs u.name:Int)≤u.quota):Za5 fs u=true:=by
  rw [Za5,decide_eq_true h,decide_eq_true h'];rfl
theorem ZiE {us:List DUser} {x:DItem} (h:ZdI us x.fr<0):ZaK us x=false:=by rw [ZaK,decide_eq_false (by omega),Bool.false_and]
theorem ZiD {us:List DUser} {x:DItem} (h:ZjK us x.left=false):ZaK us x=false:=by rw [ZaK,h,Bool.and_false]
theorem ZiC {us:List DUser} {x:DItem} (h:0≤ZdI us x.fr) (h':ZjK us x.left=true):ZaK us x=true:=by rw [ZaK,decide_eq_true h,h'];rfl
theorem Zex :∀{a b c:Str},Op.bytesLess a b=true→Op.bytesLess b c=true→Op.bytesLess a c=true
  | [],[],_,h,_=>by simp [Op.bytesLess] at h
  | _ :: _,[],_,h,_=>by simp [Op.bytesLess] at h
  | _,_ :: _,[],_,h=>by simp [Op.bytesLess] at h
  | [],_ :: _,_ :: _,_,_=>by simp [Op.bytesLess]
  | a :: x,b :: y,c :: z,h,h'=>by
    simp only [Op.bytesLess,Bool.or_eq_true,decide_eq_true_eq,Bool.and_eq_true,beq_iff_eq] at h h' ⊢
    rcases h with h | ⟨rfl,h⟩
    · rcases h' with h' | ⟨rfl,h'⟩
      · exact .inl (UInt8.lt_trans h h')
      · exact .inl h
    · rcases h' with h' | ⟨rfl,h'⟩
      · exact .inl h'
      · exact .inr ⟨rfl,Zex h h'⟩
def Zei (gs:List DGrant):List (Str × Int):=gs.map fun g=>(g.user,g.rights)
theorem Zgq :∀(xs:List DGrant) (b0 b:Str),xs.foldl (fun s x=>(s.1 && ZbN s.2 x,x.user)) (true,b0)=(true,b)→(∀y,y∈xs→y.user=b∨Op.bytesLess y.user b=true)∧(b=b0∨Op.bytesLess b0 b=true)
  | [],b0,b,h=>by
    cases h;exact ⟨by simp,.inl rfl⟩
  | x :: xs,b0,b,h=>by
    simp only [List.foldl_cons,Bool.true_and] at h
    cases hp:ZbN b0 x with
    | false=>
      rw [hp] at h
      have:=Zck (p:=ZbN) (nx:=fun _ g=>g.user) xs x.user
      rw [h] at this;cases this
    | true=>
      rw [hp] at h
      obtain ⟨h1,h2⟩:=Zgq xs x.user b h
      have hl:Op.bytesLess b0 x.user=true:=by
        simp only [ZbN,Bool.and_eq_true] at hp;exact hp.2
      refine ⟨fun y hy=>?_,.inr ?_⟩
      · rcases List.mem_cons.1 hy with rfl | hy
        · rcases h2 with h2 | h2
          · exact .inl h2.symm
          · exact .inr h2
        · exact h1 y hy
      · rcases h2 with rfl | h2
        · exact hl
        · exact Zex hl h2
theorem Zqr {kvs:List (Str × Int)} {k:Str} {v:Int} (h:k ∉ kvs.map (·.1)):mput kvs k v=kvs ++ [(k,v)]:=by
  induction kvs with
  | nil=>rfl
  | cons p r ih=>
    simp only [List.map_cons,List.mem_cons,not_or] at h
    simp only [mput,if_neg h.1,ih h.2,List.cons_append]
theorem Zsv {gs:List DGrant} {k:Nat} {m:DGrant} {nm:Str} (hm:gs[k]? = some m) (hs:Zco (gs.take k)=(true,nm)) (hl:Op.bytesLess nm m.user=true):mput (Zei (gs.take k)) m.user m.rights=Zei (gs.take (k+1)):=by
  have h1:=(Zgq _ _ _ hs).1
  rw [Zqr]
  · rw [Zei,Zei,List.take_add_one,hm];simp
  · intro hc
    simp only [Zei,List.map_map,List.mem_map,Function.comp] at hc
    obtain ⟨y,hy,e⟩:=hc
    rcases h1 y hy with h | h
    · rw [← e,h,Zdd] at hl;cases hl
    · rw [e] at h
      have:=Zex hl h
      rw [Zdd] at this;cases this
def Zln (gs:List DGrant) (B:Kn):Value→Kn→List Cells→Prop:=fun v B' Ls=>∃m l,v = .tuple #[.map m,.bool (Zc8 gs)]∧Ls=[l]∧B'=B∧(Zc8 gs=true→∃b,m=some b∧Ztf l b (Zei gs))
theorem Zhi {P:PJ} {S:Env} {B:Kn} {L:List Cells} {rs:List ResultVar} {gs:List DGrant} (e:Exit) (he:e = .ret∨e = .normal) (vs:List Value) (hr:Zdc P S B L rs vs) (h:Zc8 gs=false) (hv:ZcT vs = .tuple #[.map none,.bool false]:=by rfl):Zhr P rs (Zln gs B) e S [] B L:=
  ZxI e he vs hr ⟨none,[],by rw [hv,h],rfl,rfl,fun hc=>by rw [h] at hc;cases hc⟩
theorem Zs0 {P:PJ} {S:Env} {B:Kn} {L:List Cells} {rs:List ResultVar} {gs:List DGrant} (e:Exit) (he:e = .ret∨e = .normal) (vs:List Value) {b:Nat} {l:Cells} {r:List Cells} (hp:ZaC L [0]=some ([l],r)) (hr:Zdc P S B L rs vs) (h:Zc8 gs=true) (hm:Ztf l b (Zei gs)) (hv:ZcT vs = .tuple #[.map (some b),.bool true]:=by rfl):Zhr P rs (Zln gs B) e S [] B L:=
  Zbe e he vs [0] hp hr ⟨some b,l,by rw [hv,h],rfl,rfl,fun _=>⟨b,rfl,hm⟩⟩
def ZuD (f:DFolder) (ow nm:Str):Int:=if Lib.compareBytes f.owner ow≠0 then Lib.compareBytes f.owner ow else Lib.compareBytes f.name nm
theorem Zj4 (f g:DFolder):0≤ZuD f g.owner g.name↔ZfD f g=false:=by
  have h1:=Zlh f.owner g.owner
  have h2:=Zlh f.name g.name
  unfold ZuD ZfD
  by_cases e:f.owner=g.owner
  · have e0:=h1.2.2 e
    have e1:Op.bytesLess f.owner g.owner=false:=by rw [e];exact Zdd _
    rw [if_neg (fun h=>h e0),e1,decide_eq_true e,Bool.true_and,Bool.false_or,Bool.eq_false_iff,ne_eq,← h2.1];omega
  · have e0:Lib.compareBytes f.owner g.owner≠0:=fun h=>e (h1.2.1 h)
    rw [if_pos e0,decide_eq_false e,Bool.false_and,Bool.or_false,Bool.eq_false_iff,ne_eq,← h1.1];omega
def ZeI (fs:List DFolder) (u:Str):Int:=(fs.map fun f=>if f.owner=u then Zdk ⟨f.next,f.mail⟩ else 0).sum
theorem ZhK {fs:List DFolder} {u:Str} {k:Nat} {x:DFolder} (hx:fs[k]? = some x):ZeI (fs.take (k+1)) u=ZeI (fs.take k) u+if x.owner=u then Zdk ⟨x.next,x.mail⟩ else 0:=by
  have:fs.take (k+1)=fs.take k ++ [x]:=by rw [List.take_add_one,hx];rfl
  simp [ZeI,this]
theorem ZnC {fs:List DFolder} {u:Str} {k:Nat} {n:Int} (h:n=ZeI (fs.take k) u) (hk:fs.length≤k):n=ZeI fs u:=by rwa [List.take_of_length_le hk] at h
theorem ZlU :∀(xs:List DMail) (b0 b:Int),xs.foldl (fun s x=>(s.1 && ZdV s.2 x,x.uid)) (true,b0)=(true,b)→∀y,y∈xs→Zcw y=true
  | [],_,_,_,_,h=>by cases h
  | x :: xs,b0,b,h,y,hy=>by
    simp only [List.foldl_cons,Bool.true_and] at h
    cases hp:ZdV b0 x with
    | false=>
      rw [hp] at h
      have:=Zck (p:=ZdV) (nx:=fun _ m=>m.uid) xs x.uid
      rw [h] at this;cases this
    | true=>
      rw [hp] at h
      rcases List.mem_cons.1 hy with rfl | hy
      · simp only [ZdV,Bool.and_eq_true] at hp;exact hp.1
      · exact ZlU xs x.uid b h y hy
theorem Zhq {b:DBox} (h:ZdF b=true):(∀y,y∈b.mail→Zcw y=true)∧b.mail.length≤10:=by
  simp only [ZdF,Bool.and_eq_true,decide_eq_true_eq] at h
  exact ⟨ZlU b.mail 0 (ZcC b.mail).2 (Prod.ext h.1.1 rfl),h.2⟩
theorem Ze3 :∀l:List DMail,(∀m,m∈l→Zcw m=true)→Zbm l≤l.length*20
  | [],_=>by simp [Zbm]
  | m :: l,h=>by
    have h1:=Ze3 l fun y hy=>h y (List.mem_cons_of_mem _ hy)
    have h2:=h m (List.mem_cons_self ..)
    simp only [Zcw,Bool.and_eq_true,decide_eq_true_eq] at h2
    simp only [Zbm,List.map_cons,List.sum_cons,List.length_cons] at *
    omega
theorem Zib (b:DBox) : -1≤Zdk b∧Zdk b≤200:=by
  unfold Zdk
  split
  · rename_i h
    obtain ⟨h1,h2⟩:=Zhq h
    have:=Ze3 _ h1
    omega
  · omega
theorem ZpS (fs:List DFolder) (u:Str) : -1*fs.length≤ZeI fs u∧ZeI fs u≤fs.length*200:=by
  induction fs with
  | nil=>simp [ZeI]
  | cons f fs ih=>
    have:=Zib ⟨f.next,f.mail⟩
    simp only [ZeI,List.map_cons,List.sum_cons,List.length_cons] at *
    split <;> omega
def ZbA (x:DHost) (u:Str) (more:Int):Bool:=!(ZaB x.users u).2 || decide ((ZaB x.users u).1.quota<ZeI x.folders u+more)
def Zci (x:DHost) (w:DUser):Bool:=decide (0≤ZcX (inF w.name inbox) x.folders) && !ZbA x w.name 0
theorem Zjf {x:DHost} {w:DUser} (h:ZcX (inF w.name inbox) x.folders<0):Zci x w=false:=by rw [Zci,decide_eq_false (by omega),Bool.false_and]
theorem Zje {x:DHost} {w:DUser} (h:ZbA x w.name 0=true):Zci x w=false:=by rw [Zci,h];simp
theorem Zjd {x:DHost} {w:DUser} (h:0≤ZcX (inF w.name inbox) x.folders) (h':ZbA x w.name 0=false):Zci x w=true:=by rw [Zci,h',decide_eq_true h];rfl
def ZgN (x:DHost):Bool:=x.users.all (Zci x)
def Zlo:Rel Bool:=fun _ row x=>row=[.bool x]
theorem Zlo.mono:Mono Zlo:=fun _ _ _ h=>h
theorem Zlo.one {B:Kn} :∀row y,Zlo B row y→row.all ZfS=true∧row.length=1:=by rintro _ y rfl;exact ⟨rfl,rfl⟩
def ZaD (us:List DUser) (f:DFolder):Bool:=(ZaB us f.owner).2 && Zam f.name && Zc8 f.grants && ZdF f.box
theorem Zgz (C i:Nat):(some (ptr (Addr.add ⟨C,0,none⟩ ((i:Int).toNat*1))):Option Value)=some (ptr ⟨C,i,none⟩):=by
  rw [Addr.add_off _ _ rfl];simp
def ZpH (x:DHost) (i:Nat):Value:=.bool (match x.folders[i]? with | some m=>ZaD x.users m | none=>false)
theorem Zly {x:DHost} {i:Nat} {m:DFolder} (h:x.folders[i]? = some m):ZpH x i = .bool (ZaD x.users m):=by simp [ZpH,h]
theorem ZnA {B:Kn} {x:DHost} {C:Nat} {T:TypeId} (hm :∀p,p∈[(C,Obj.cells ((List.range x.folders.length).map (ZpH x)).toArray T (0,0))]→B.mem p.1=some p.2) (hl:x.folders.length≤2000000):SlK B (some ⟨C,0,none⟩) (x.folders.map (ZaD x.users)).length 1 Zlo (x.folders.map (ZaD x.users)):=by
  refine ⟨fun i y hy=>⟨C,0,[.bool y],rfl,rfl,fun j u hu=>?_⟩,by simp,by simpa using hl⟩
  have hj:j=0:=by
    cases j with
    | zero=>rfl
    | succ j=>simp at hu
  subst hj
  simp only [List.getElem?_cons_zero,Option.some.injEq] at hu
  subst hu
  rw [List.getElem?_map] at hy
  obtain ⟨m,hm',rfl⟩:=Option.map_eq_some_iff.1 hy
  have hi:i<x.folders.length:=(List.getElem?_eq_some_iff.1 hm').1
  refine ⟨rfl,_,T,(0,0),.inl (hm _ (List.mem_singleton.2 rfl)),?_⟩
  simp only [Nat.mul_one,Nat.zero_add,Nat.add_zero,List.getElem?_toArray,List.getElem?_map,List.getElem?_range hi,Option.map_some,Zly hm']
theorem ZiW {us:List DUser} {fs:List DFolder} : (!decide (0≤ZcX (fun y=>decide (false=y)) (fs.map (ZaD us))))=fs.all (ZaD us):=by
  by_cases h :∀f,f∈fs→ZaD us f=true
  · rw [List.all_eq_true.2 h,Zek (fun y hy=>by
      obtain ⟨f,hf,rfl⟩:=List.mem_map.1 hy
      simp [h f hf])]
    rfl
  · have h2:fs.all (ZaD us)=false:=by
      rw [Bool.eq_false_iff,ne_eq,List.all_eq_true];exact h
    rw [h2]
    have h3 :∃k,(fs.map (ZaD us)).findIdx? (fun y=>decide (false=y))=some k:=by
      cases hk:(fs.map (ZaD us)).findIdx? (fun y=>decide (false=y)) with
      | some k=>exact ⟨k,rfl⟩
      | none=>
        exfalso;apply h
        intro f hf
        have:=List.findIdx?_eq_none_iff.1 hk (ZaD us f) (List.mem_map_of_mem hf)
        cases hq:ZaD us f with
        | true=>rfl
        | false=>rw [hq] at this;simp at this
    obtain ⟨k,hk⟩:=h3
    have e:ZcX (fun y=>decide (false=y)) (fs.map (ZaD us))=(k:Int):=by unfold ZcX;rw [hk]
    rw [e];simp
def ZlN:List DFolder→Bool
  | []=>true
  | [_]=>true
  | a :: b :: r=>ZfD a b && ZlN (b :: r)
def ZcY (x:DHost):Bool:=Zct x.domain && Zat x.users && ZaO x.queue && decide (x.folders.length≤8) && ZlN x.folders && (x.folders.all (ZaD x.users) && ZgN x && x.queue.items.all (ZcE x.users))
def Zri (fs:List DFolder) (k:Nat):Prop:=∀i a b,i<k→fs[i]? = some a→fs[i+1]? = some b→ZfD a b=true
theorem ZmB {fs:List DFolder} : Zri fs 0:=fun i a b h=>by omega
theorem ZmC {fs:List DFolder} {k:Nat} {x y:DFolder} (h:Zri fs k) (hx:fs[k]? = some x) (hy:fs[k+1]? = some y) (hl:ZfD x y=true):Zri fs (k+1):=fun i a b hi ha hb=>by
  rcases Nat.lt_or_ge i k with h' | h'
  · exact h i a b h' ha hb
  · obtain rfl:i=k:=by omega
    rw [hx] at ha;rw [hy] at hb
    cases ha;cases hb;exact hl
theorem Ziq :∀(fs:List DFolder),ZlN fs=true↔∀i a b,fs[i]? = some a→fs[i+1]? = some b→ZfD a b=true
  | []=>by simp [ZlN]
  | [_]=>by simp [ZlN]
  | x :: y :: r=>by
    rw [ZlN,Bool.and_eq_true,Ziq (y :: r)]
    constructor
    · rintro ⟨h1,h2⟩ i a b ha hb
      cases i with
      | zero=>simp at ha hb;rw [← ha,← hb];exact h1
      | succ i=>exact h2 i a b (by simpa using ha) (by simpa using hb)
    · intro h
      exact ⟨h 0 x y rfl rfl,fun i a b ha hb=>h (i+1) a b (by simpa using ha) (by simpa using hb)⟩
theorem Zqj {fs:List DFolder} {k:Nat} {x y:DFolder} (hx:fs[k]? = some x) (hy:fs[k+1]? = some y) (hl:ZfD x y=false):ZlN fs=false:=by
  rw [Bool.eq_false_iff,ne_eq,Ziq]
  intro h
  have:=h k x y hx hy
  rw [hl] at this;cases this
theorem Zqi {fs:List DFolder} (h :∀i a b,i<fs.length - 1→fs[i]? = some a→fs[i+1]? = some b→ZfD a b=true):ZlN fs=true:=
  (Ziq fs).2 fun i a b ha hb=>h i a b (by have:=(List.getElem?_eq_some_iff.1 hb).1;omega) ha hb
theorem Ze7 {α:Type} {p:Str→α→Bool} {f:α→Str} (hp :∀b x,p b x=true→Op.bytesLess b (f x)=true) :∀(xs:List α) (b0 b:Str),xs.foldl (fun s x=>(s.1 && p s.2 x,f x)) (true,b0)=(true,b)→(∀y,y∈xs→Op.bytesLess b0 (f y)=true)∧xs.Pairwise (fun x y=>Op.bytesLess (f x) (f y)=true)
  | [],_,_,_=>⟨by simp,.nil⟩
  | x :: xs,b0,b,h=>by
    simp only [List.foldl_cons,Bool.true_and] at h
    cases hq:p b0 x with
    | false=>
      rw [hq] at h
      have:=Zck (p:=p) (nx:=fun _ g=>f g) xs (f x)
      rw [h] at this;cases this
    | true=>
      rw [hq] at h
      obtain ⟨h1,h2⟩:=Ze7 hp xs (f x) b h
      refine ⟨fun y hy=>?_,.cons h1 h2⟩
      rcases List.mem_cons.1 hy with rfl | hy
      · exact hp _ _ hq
      · exact Zex (hp _ _ hq) (h1 y hy)
theorem ZeO {us:List DUser} (h:Zat us=true):us.Pairwise fun x y=>Op.bytesLess x.name y.name=true:=by
  simp only [Zat,Bool.and_eq_true] at h
  exact (Ze7 (p:=Zd7) (f:=fun u=>u.name) (fun b x hq=>by simp only [Zd7,Bool.and_eq_true] at hq;exact hq.2) us [] (ZdN us).2 (Prod.ext h.1 rfl)).2
theorem ZaT {us:List DUser} {u:Str} : 0≤ZdI us u↔∃x,x∈us∧x.name=u:=by
  unfold ZdI
  cases h:us.findIdx? (fun x=>decide (x.name=u)) with
  | none=>
    have:=List.findIdx?_eq_none_iff.1 h
    simp only [decide_eq_false_iff_not] at this
    exact ⟨fun hc=>absurd hc (by simp only [];omega),fun ⟨x,hx,e⟩=>absurd e (this x hx)⟩
  | some i=>
    rw [List.findIdx?_eq_some_iff_getElem] at h
    obtain ⟨hi,h1,_⟩:=h
    exact ⟨fun _=>⟨us[i],List.getElem_mem hi,by simpa using h1⟩,fun _=>by simp only [];omega⟩
theorem Zo1 {us:List DUser} {t:DUser→Bool} : (Zfj t us).2=true↔∃x,x∈us∧t x=true:=by
  unfold Zfj
  cases h:us.find? t with
  | none=>simp only [Bool.false_eq_true,false_iff];rintro ⟨x,hx,e⟩;have:=List.find?_eq_none.1 h x hx;exact this e
  | some x=>simp only [true_iff];exact ⟨x,List.mem_of_find?_eq_some h,List.find?_some h⟩
theorem Zda {us:List DUser} (h:Zat us=true) (n:Str):(ZaB us n).2=decide (0≤ZdI us n):=by
  rw [ZaB,if_pos h,Bool.eq_iff_iff,Zo1,decide_eq_true_eq,ZaT];simp
theorem Zfi :∀{us:List DUser},us.Pairwise (fun x y=>Op.bytesLess x.name y.name=true)→∀w,w∈us→us.find? (fun y=>decide (y.name=w.name))=some w
  | [],_,w,h=>by cases h
  | x :: us,hp,w,h=>by
    cases hp with
    | cons h1 h2=>
      rw [List.find?_cons]
      rcases List.mem_cons.1 h with rfl | h
      · simp
      · have hne:x.name≠w.name:=fun e=>by
          have:=h1 w h
          rw [e,Zdd] at this;cases this
        simp only [hne,decide_false]
        exact Zfi h2 w h
theorem Zfs {us:List DUser} (h:Zat us=true) {w:DUser} (hw:w∈us):ZaB us w.name=(w,true):=by
  rw [ZaB,if_pos h,Zfj,Zfi (ZeO h) w hw]
theorem Zm0 {us:List DUser} (h:Zat us=true) (f:DFolder):ZaD us f=Z1 us f:=by
  rw [ZaD,Z1,Zda h]
theorem Zd4 {us:List DUser} :∀(fs:List DFolder) (b0:Option DFolder),(fs.foldl (fun s x=>(s.1 && Zbc us s.2 x,some x)) (true,b0)).1=(fs.all (Z1 us) && ZlN ((match b0 with | none=>[] | some y=>[y]) ++ fs))
  | [],none=>rfl
  | [],some y=>rfl
  | x :: fs,b0=>by
    simp only [List.foldl_cons,Bool.true_and]
    have hstep:(fs.foldl (fun (s:Bool × Option DFolder) x=>(s.1 && Zbc us s.2 x,some x)) (Zbc us b0 x,some x)).1=(Zbc us b0 x && (fs.all (Z1 us) && ZlN (x :: fs))):=by
      cases hq:Zbc us b0 x with
      | false=>rw [Bool.false_and];exact Zck (p:=Zbc us) (nx:=fun _ f=>some f) fs (some x)
      | true=>rw [Bool.true_and];exact Zd4 fs (some x)
    rw [hstep]
    cases b0 with
    | none=>
      simp only [Zbc,Bool.and_true,List.all_cons,List.nil_append]
      cases Z1 us x <;> simp
    | some y=>
      simp only [Zbc,List.all_cons,List.cons_append,List.nil_append,ZlN]
      cases Z1 us x <;> cases ZfD y x <;> simp
theorem ZcZ {us:List DUser} {fs:List DFolder} : ZbX us fs=(fs.all (Z1 us) && ZlN fs && decide (fs.length≤8)):=by
  rw [ZbX,show (ZcJ us fs).1=_ from Zd4 fs none];rfl
theorem Zih {us:List DUser} {u:Str} :∀{fs:List DFolder},fs.all (Z1 us)=true→ZeI fs u=(Zcq fs u:Int)
  | [],_=>rfl
  | f :: fs,h=>by
    simp only [List.all_cons,Bool.and_eq_true] at h
    have ih:=Zih (u:=u) h.2
    have hb:ZdF ⟨f.next,f.mail⟩=true:=by
      have:=h.1;simp only [Z1,Bool.and_eq_true] at this;exact this.2
    simp only [ZeI,Zcq,List.map_cons,List.sum_cons] at ih ⊢
    rw [ih]
    by_cases he:f.owner=u
    · simp [he,Zdk,hb]
    · simp [he]
theorem Zkm {x:DHost} (hu:Zat x.users=true) (hf:x.folders.all (Z1 x.users)=true) {w:DUser} (hw:w∈x.users):Zci x w=Za5 x.folders w:=by
  rw [Zci,Za5,ZbA,Zfs hu hw,Zih hf]
  simp only [Bool.not_true,Bool.false_or,Int.add_zero]
  congr 1
  rw [Bool.eq_iff_iff];simp
theorem ZkV {us:List DUser} (h:Zat us=true) (y:DItem):ZcE us y=ZaK us y:=by
  rw [ZcE,ZaK,Zda h,ZjK]
  simp only [Zda h]
theorem Zpz {α:Type} {p q:α→Bool} {xs:List α} (h :∀x,x∈xs→p x=q x):xs.all p=xs.all q:=by
  rw [Bool.eq_iff_iff,List.all_eq_true,List.all_eq_true]
  exact ⟨fun a x hx=>h x hx ▸ a x hx,fun a x hx=>(h x hx).symm ▸ a x hx⟩
theorem ZmR (x:DHost):ZcY x=Z7 x:=by
  cases hu:Zat x.users with
  | false=>simp [ZcY,Z7,hu]
  | true=>
    have e1:x.folders.all (ZaD x.users)=x.folders.all (Z1 x.users):=Zpz fun f _=>Zm0 hu f
    have e2:x.queue.items.all (ZcE x.users)=x.queue.items.all (ZaK x.users):=Zpz fun y _=>ZkV hu y
    rw [ZcY,Z7,hu,e1,e2,ZcZ]
    cases hf:x.folders.all (Z1 x.users) with
    | false=>simp
    | true=>
      have e3:ZgN x=x.users.all (Za5 x.folders):=Zpz fun w hw=>Zkm hu hf hw
      rw [e3]
      cases Zct x.domain <;> cases ZaO x.queue <;> cases ZlN x.folders <;> cases decide (x.folders.length≤8) <;> simp
end Go.BL
namespace Go.BL
open Go
set_option linter.unusedVariables false
set_option linter.unusedSimpArgs false
theorem Zde {x:DHost} (h:Z7 x=true):Zat x.users=true:=by
  simp only [Z7,Bool.and_eq_true] at h;exact h.1.1.1.1.2
theorem ZhC {x:DHost} (h:Z7 x=true):x.folders.all (Z1 x.users)=true:=by
  simp only [Z7,Bool.and_eq_true,ZcZ] at h;exact h.1.1.2.1.1
theorem Zk2 {x:DHost} (h:Z7 x=true) (n:Str):(ZaB x.users n).2=decide (0≤ZdI x.users n):=Zda (Zde h) n
theorem ZjO {x:DHost} (h:Z7 x=true) (u:Str):ZeI x.folders u=Zcq x.folders u:=Zih (ZhC h)
theorem ZqS {us:List DUser} {n:Str} (h:0≤ZdI us n) {x:DUser} (hx:us[(ZdI us n).toNat]? = some x):Zfj (fun y=>decide (y.name=n)) us=(x,true):=by
  unfold ZdI at h hx
  cases hf:us.findIdx? (fun x=>decide (x.name=n)) with
  | none=>rw [hf] at h;simp at h
  | some i=>
    rw [hf] at hx
    simp only [Int.toNat_natCast] at hx
    rw [List.findIdx?_eq_some_iff_getElem] at hf
    obtain ⟨hi,h1,h2⟩:=hf
    rw [List.getElem?_eq_getElem hi] at hx
    cases hx
    have:us.find? (fun y=>decide (y.name=n))=some us[i]:=by
      rw [List.find?_eq_some_iff_getElem]
      exact ⟨h1,i,hi,rfl,fun j hj=>by simpa using h2 j hj⟩
    rw [Zfj,this]
structure DSess where
  user:Str
  owner:Str
  name:Str
deriving DecidableEq
theorem ZoC (us:List DUser) (n:Str):ZdI us n<us.length∧ZdI us n ≥ -1:=by
  unfold ZdI
  cases hf:us.findIdx? (fun x=>decide (x.name=n)) with
  | none=>simp only [];omega
  | some i=>
    rw [List.findIdx?_eq_some_iff_getElem] at hf
    obtain ⟨hi,_⟩:=hf
    simp only [];omega
end Go.BL
namespace Go.BL
open Go
set_option linter.unusedVariables false
set_option linter.unusedSimpArgs false
def ZfC:DHost:=⟨[],[],[],⟨0,[]⟩⟩
theorem Zkv {α β:Type} {p:β→α→Bool} {nx:β→α→β} :∀(xs:List α) (b:β),(xs.foldl (fun (s:Bool × β) x=>(s.1 && p s.2 x,nx s.2 x)) (true,b)).1=true→∀x,x∈xs→∃b',p b' x=true
  | [],_,_,x,hx=>by cases hx
  | x :: xs,b,h,y,hy=>by
    simp only [List.foldl_cons,Bool.true_and] at h
    cases hq:p b x with
    | false=>
      rw [hq] at h
      have:=Zck (p:=p) (nx:=nx) xs (nx b x)
      rw [this] at h;cases h
    | true=>
      rw [hq] at h
      rcases List.mem_cons.1 hy with rfl | hy
      · exact ⟨b,hq⟩
      · exact Zkv xs _ h y hy
theorem Zi8 {us:List DUser} (h:Zat us=true) {u:DUser} (hu:u∈us):Zcv u=true:=by
  simp only [Zat,Bool.and_eq_true] at h
  obtain ⟨b,hb⟩:=Zkv (p:=Zd7) (nx:=fun _ u=>u.name) us [] h.1 u hu
  simp only [Zd7,Bool.and_eq_true] at hb;exact hb.1
theorem ZiG {α:Type} (p:α→Bool) (xs:List α):ZcX p xs<xs.length∧ZcX p xs ≥ -1:=by
  unfold ZcX
  cases hf:xs.findIdx? p with
  | none=>simp only [];omega
  | some i=>
    rw [List.findIdx?_eq_some_iff_getElem] at hf
    obtain ⟨hi,_⟩:=hf
    simp only [];omega
end Go.BL
namespace Go.BL
open Go
set_option linter.unusedVariables false
set_option linter.unusedSimpArgs false
def dig (k:Nat):Str:=[UInt8.ofNat (IntKind.u8.wrap (48+((k % 10:Nat):Int))).toNat]
def digs (k:Nat):Str:=if h:k=0 then [] else digs (k / 10) ++ dig k
termination_by k
decreasing_by omega
theorem Zj1:digs 0=[]:=by unfold digs;rfl
theorem Zl8 {k:Nat} (h:0<k):digs k=digs (k / 10) ++ dig k:=by
  conv=>lhs;unfold digs
  rw [dif_neg (by omega)]
theorem ZiR :∀(n k:Nat),k<10 ^ n→(digs k).length≤n
  | n,0,_=>by rw [Zj1];simp
  | 0,k+1,h=>by simp at h
  | n+1,k+1,h=>by
    rw [Zl8 (by omega),List.length_append]
    have h1:(k+1) / 10<10 ^ n:=by rw [Nat.pow_succ] at h;omega
    have:=ZiR n _ h1
    simp only [dig,List.length_cons,List.length_nil];omega
def ZQ (k:Nat):Str:=if k=0 then [109,48] else 109 :: digs k
theorem ZbT {k:Nat} (h:k≤1000000000000000):(ZQ k).length≤20:=by
  unfold ZQ
  split
  · simp
  · have:=ZiR 16 k (by omega)
    simp only [List.length_cons];omega
theorem Zpi {k0 k:Nat} {t:Str} (h:digs k0=digs k ++ t) (hk:0<k):digs k0=digs (k / 10) ++ (dig k ++ t):=by
  rw [h,Zl8 hk,List.append_assoc]
theorem Zs6 {k0 k:Nat} {t:Str} (h0:k0≤1000000000000000) (h:digs k0=digs k ++ t):t.length≤16:=by
  have h1:=ZiR 16 k0 (by omega)
  rw [h,List.length_append] at h1;omega
theorem ZbS {α:Type} {ys:List α} {i:Nat} {c:α} (h:i<ys.length):(ys.set i c).take (i+1)=ys.take i ++ [c]:=by
  rw [List.take_add_one,List.getElem?_set_self h,List.take_set_of_le (Nat.le_refl _)];rfl
def ZbH (k n:Nat):List DMail:=(List.range n).map fun i=>⟨((k+3*i:Nat):Int),((k+3*i+1:Nat):Int),ZQ (k+3*i+1+1)⟩
theorem Zaz (k n:Nat):(ZbH k n).length=n:=by simp [ZbH]
theorem Zjx {ys:List DMail} {i k:Nat} {z1 z2 z3:DMail} (ht:ys.take i=ZbH k i) (h1:ys[i]? = some z1) (h2:(ys.set i ⟨((k+3*i:Nat):Int),z1.flags,z1.text⟩)[i]? = some z2)
    (h3:((ys.set i ⟨((k+3*i:Nat):Int),z1.flags,z1.text⟩).set i ⟨z2.uid,((k+3*i+1:Nat):Int),z2.text⟩)[i]? = some z3) :
    (((ys.set i ⟨((k+3*i:Nat):Int),z1.flags,z1.text⟩).set i ⟨z2.uid,((k+3*i+1:Nat):Int),z2.text⟩).set i ⟨z3.uid,z3.flags,ZQ (k+3*i+1+1)⟩).take (i+1)=ZbH k (i+1):=by
  have hl:=(List.getElem?_eq_some_iff.1 h1).1
  rw [List.getElem?_set_self hl] at h2;cases h2
  rw [List.set_set,List.getElem?_set_self hl] at h3;cases h3
  rw [List.set_set,List.set_set,ZbS hl,ht,ZbH,ZbH,List.range_succ,List.map_append];rfl
def Zaw (k n:Nat):List DGrant:=(List.range n).map fun i=>⟨ZQ (k+2*i),((k+2*i+1:Nat):Int)⟩
theorem Zao (k n:Nat):(Zaw k n).length=n:=by simp [Zaw]
theorem Ziu {ys:List DGrant} {i k:Nat} {z1 z2:DGrant} (ht:ys.take i=Zaw k i) (h1:ys[i]? = some z1) (h2:(ys.set i ⟨ZQ (k+2*i),z1.rights⟩)[i]? = some z2) :
    ((ys.set i ⟨ZQ (k+2*i),z1.rights⟩).set i ⟨z2.user,((k+2*i+1:Nat):Int)⟩).take (i+1)=Zaw k (i+1):=by
  have hl:=(List.getElem?_eq_some_iff.1 h1).1
  rw [List.getElem?_set_self hl] at h2;cases h2
  rw [List.set_set,ZbS hl,ht,Zaw,Zaw,List.range_succ,List.map_append];rfl
def Zca (k n:Nat):List DUser:=(List.range n).map fun i=>⟨ZQ (k+3*i),ZQ (k+3*i+1),((k+3*i+1+1:Nat):Int)⟩
theorem Za9 (k n:Nat):(Zca k n).length=n:=by simp [Zca]
theorem Zjw {ys:List DUser} {i k:Nat} {z1 z2 z3:DUser} (ht:ys.take i=Zca k i) (h1:ys[i]? = some z1) (h2:(ys.set i ⟨ZQ (k+3*i),z1.pass,z1.quota⟩)[i]? = some z2)
    (h3:((ys.set i ⟨ZQ (k+3*i),z1.pass,z1.quota⟩).set i ⟨z2.name,ZQ (k+3*i+1),z2.quota⟩)[i]? = some z3) :
    (((ys.set i ⟨ZQ (k+3*i),z1.pass,z1.quota⟩).set i ⟨z2.name,ZQ (k+3*i+1),z2.quota⟩).set i ⟨z3.name,z3.pass,((k+3*i+1+1:Nat):Int)⟩).take (i+1)=Zca k (i+1):=by
  have hl:=(List.getElem?_eq_some_iff.1 h1).1
  rw [List.getElem?_set_self hl] at h2;cases h2
  rw [List.set_set,List.getElem?_set_self hl] at h3;cases h3
  rw [List.set_set,List.set_set,ZbS hl,ht,Zca,Zca,List.range_succ,List.map_append];rfl
def ZcW (k n:Nat):List Str:=(List.range n).map fun i=>ZQ (k+1*i)
theorem Za2 (k n:Nat):(ZcW k n).length=n:=by simp [ZcW]
theorem ZkE {ys:List Str} {i k:Nat} {z1:Str} (ht:ys.take i=ZcW k i) (h1:ys[i]? = some z1):(ys.set i (ZQ (k+1*i))).take (i+1)=ZcW k (i+1):=by
  have hl:=(List.getElem?_eq_some_iff.1 h1).1
  rw [ZbS hl,ht,ZcW,ZcW,List.range_succ,List.map_append];rfl
theorem ZlS {α:Type} {ys zs:List α} {i:Nat} (h:ys.take i=zs) (hi:ys.length≤i):ys=zs:=by rwa [List.take_of_length_le hi] at h
end Go.BL
namespace Go.BL
open Go
set_option linter.unusedVariables false
set_option linter.unusedSimpArgs false
def Zb2 (k:Nat):Int:=([1,2,4,8,16,32]:List Int).getD k 0
theorem Zpw {k:Nat} (h:k<6):(k=0∧Zb2 k=1)∨(k=1∧Zb2 k=2)∨(k=2∧Zb2 k=4)∨(k=3∧Zb2 k=8)∨(k=4∧Zb2 k=16)∨(k=5∧Zb2 k=32):=by
  have:k=0∨k=1∨k=2∨k=3∨k=4∨k=5:=by omega
  rcases this with rfl | rfl | rfl | rfl | rfl | rfl <;> simp [Zb2]
theorem Zpv {k:Nat} (h:k<6):0<Zb2 k∧Zb2 k≤32:=by rcases Zpw h with h | h | h | h | h | h <;> omega
theorem ZgG {α:Type} {p:α→Bool} {xs:List α} {k:Nat} {x:α} (hx:xs[k]? = some x):(xs.take (k+1)).any p=((xs.take k).any p || p x):=by
  rw [Zbr hx,List.any_append];simp
theorem Ztd {α:Type} {p:α→Bool} {xs:List α} {k:Nat} {b:Bool} (h:b=(xs.take k).any p) (hk:xs.length≤k):b=xs.any p:=by rwa [List.take_of_length_le hk] at h
def onB (u:Str) (b:Int) (g:DGrant):Bool:=(decide (g.user=u) || decide (g.user=anyone)) && decide (Int.tmod (Int.tdiv g.rights b) 2=1)
def ZeT (gs:List DGrant) (u:Str):Nat→Int
  | 0=>0
  | k+1=>if gs.any (onB u (Zb2 k))=true then ZeT gs u k+Zb2 k else ZeT gs u k
theorem Zhs (gs:List DGrant) (u:Str) :∀k,k≤6→0≤ZeT gs u k∧ZeT gs u k≤100*k
  | 0,_=>by simp [ZeT]
  | k+1,h=>by
    have:=Zhs gs u k (by omega)
    have:=Zpv (k:=k) (by omega)
    simp only [ZeT]
    split <;> omega
def Za6 (gs:List DGrant) (u:Str):Int:=ZeT gs u 6
def Zmb (f:DFolder) (u:Str) (r:Int):Bool:=decide (u=f.owner) || decide (Int.tmod (Int.tdiv (Za6 f.grants u) r) 2=1)
def Zpp (us:List DUser) (fs:List DFolder) (u:Str) (k:Int) (r:Int):Int:=
  if ZdI us u<0∨k<0 then 1 else match fs[k.toNat]? with
    | none=>1
    | some f=>if Zmb f u 1=false then 1 else if Zmb f u r=false then 2 else 0
theorem ZiU {us:List DUser} {fs:List DFolder} {u:Str} {k r:Int} (h:ZdI us u<0∨k<0):Zpp us fs u k r=1:=by rw [Zpp,if_pos h]
theorem Zpo {us:List DUser} {fs:List DFolder} {u:Str} {k r:Int} {f:DFolder} (h : ¬ (ZdI us u<0∨k<0)) (hf:fs[k.toNat]? = some f):Zpp us fs u k r=if Zmb f u 1=false then 1 else if Zmb f u r=false then 2 else 0:=by
  rw [Zpp,if_neg h,hf]
theorem Zpn {us:List DUser} {fs:List DFolder} {u:Str} {k r:Int} (h:Zpp us fs u k r=0):0≤ZdI us u∧0≤k∧∃f,fs[k.toNat]? = some f∧Zmb f u 1=true∧Zmb f u r=true:=by
  unfold Zpp at h
  split at h
  · cases h
  · split at h
    · cases h
    · rename_i f hf
      split at h
      · cases h
      · split at h
        · cases h
        · rename_i h1 h2 h3
          exact ⟨by omega,by omega,f,hf,by simpa using h2,by simpa using h3⟩
def ZeL (b:DBox) (fl:Int) (t:Str):DBox × Bool:=if 10≤b.mail.length∨99<b.next then (b,false) else (⟨b.next+1,b.mail ++ [⟨b.next,fl,t⟩]⟩,true)
theorem ZfP {b:DBox} {fl:Int} {t:Str} (h:10≤b.mail.length∨99<b.next):ZeL b fl t=(b,false):=by rw [ZeL,if_pos h]
theorem ZpA {b:DBox} {fl:Int} {t:Str} (h : ¬ (10≤b.mail.length∨99<b.next)):ZeL b fl t=(⟨b.next+1,b.mail ++ [⟨b.next,fl,t⟩]⟩,true):=by rw [ZeL,if_neg h]
def DFolder.withBox (f:DFolder) (b:DBox):DFolder:=⟨f.owner,f.name,f.grants,b.next,b.mail⟩
def DHost.withFolders (x:DHost) (fs:List DFolder):DHost:=⟨x.domain,x.users,fs,x.queue⟩
def Zdi (us:List DUser) (n:Str):Int:=match us[(ZdI us n).toNat]? with | some w=>w.quota | none=>0
def ZaY (x:DHost) (k:Nat) (fl:Int) (t:Str):DHost × Int:=
  match x.folders[k]? with
  | none=>(x,0)
  | some f=>if Zdi x.users f.owner<(Zcq x.folders f.owner:Int)+t.length then (x,3)
    else if (ZeL f.box fl t).2=true then (x.withFolders (x.folders.set k (f.withBox (ZeL f.box fl t).1)),0) else (x,4)
theorem ZgU {x:DHost} {k:Nat} {fl:Int} {t:Str} {f:DFolder} (hf:x.folders[k]? = some f) (h:Zdi x.users f.owner<(Zcq x.folders f.owner:Int)+t.length):ZaY x k fl t=(x,3):=by simp only [ZaY,hf,if_pos h]
theorem ZhR {x:DHost} {k:Nat} {fl:Int} {t:Str} {f:DFolder} (hf:x.folders[k]? = some f) (h : ¬ Zdi x.users f.owner<(Zcq x.folders f.owner:Int)+t.length) (h2:(ZeL f.box fl t).2=false):ZaY x k fl t=(x,4):=by simp only [ZaY,hf,if_neg h,h2];rfl
theorem ZhS {x:DHost} {k:Nat} {fl:Int} {t:Str} {f:DFolder} (hf:x.folders[k]? = some f) (h : ¬ Zdi x.users f.owner<(Zcq x.folders f.owner:Int)+t.length) (h2:(ZeL f.box fl t).2=true):ZaY x k fl t=(x.withFolders (x.folders.set k (f.withBox (ZeL f.box fl t).1)),0):=by simp only [ZaY,hf,if_neg h,h2,if_true]
def Zcd (n:Int):Bool:=decide (0≤n) && decide (n≤31)
def ZdJ (x:DHost) (by_ o n:Str) (fl:Int) (t:Str):DHost × Int:=
  if ¬ (Z7 x=true∧Zcd fl=true∧t.length≤20) then (ZfC,5)
  else if Zpp x.users x.folders by_ (ZcX (inF o n) x.folders) 8≠0 then (x,Zpp x.users x.folders by_ (ZcX (inF o n) x.folders) 8)
  else ZaY x (ZcX (inF o n) x.folders).toNat fl t
structure DEvent where
  kind:Int
  by_:Str
  owner:Str
  name:Str
  to_:Str
  text:Str
  a:Int
  b:Int
deriving DecidableEq
end Go.BL
namespace Go.BL
open Go
set_option linter.unusedVariables false
set_option linter.unusedSimpArgs false
theorem Zcb {x:DHost} : Z7 x=true↔(Zct x.domain=true∧Zat x.users=true∧ZaO x.queue=true)∧((∀f,f∈x.folders→Z1 x.users f=true)∧ZlN x.folders=true∧x.folders.length≤8)∧(∀u,u∈x.users→Za5 x.folders u=true)∧(∀y,y∈x.queue.items→ZaK x.users y=true):=by
  simp only [Z7,ZcZ,Bool.and_eq_true,decide_eq_true_eq,List.all_eq_true]
  constructor
  · rintro ⟨⟨⟨⟨⟨h1,h2⟩,h3⟩,⟨h4,h5⟩,h6⟩,h7⟩,h8⟩
    exact ⟨⟨h1,h2,h3⟩,⟨h4,h5,h6⟩,h7,h8⟩
  · rintro ⟨⟨h1,h2,h3⟩,⟨h4,h5,h6⟩,h7,h8⟩
    exact ⟨⟨⟨⟨⟨h1,h2⟩,h3⟩,⟨h4,h5⟩,h6⟩,h7⟩,h8⟩
theorem ZsE {α:Type} {fs:List α} {k i:Nat} {y g:α} (h:(fs.set k y)[i]? = some g):(i=k∧g=y∧k<fs.length)∨(i≠k∧fs[i]? = some g):=by
  have hi:=(List.getElem?_eq_some_iff.1 h).1
  rw [List.length_set] at hi
  rw [List.getElem?_set] at h
  split at h
  · rename_i e
    subst e
    simp [hi] at h
    exact .inl ⟨rfl,h.symm,hi⟩
  · rename_i e
    exact .inr ⟨fun e'=>e e'.symm,h⟩
theorem Zmy {us:List DUser} (h:Zat us=true) {w:DUser} (hw:w∈us):Zdi us w.name=w.quota:=by
  have h0:0≤ZdI us w.name:=ZaT.2 ⟨w,hw,rfl⟩
  have h1:=ZoC us w.name
  obtain ⟨v,hv⟩ :∃v,us[(ZdI us w.name).toNat]? = some v:=⟨_,List.getElem?_eq_getElem (by omega)⟩
  have h2:=ZqS h0 hv
  rw [Zfj,Zfi (ZeO h) w hw] at h2
  cases h2
  simp only [Zdi,hv]
theorem ZgA {us:List DUser} {f:DFolder} (h:Z1 us f=true) :∃w,w∈us∧w.name=f.owner:=by
  simp only [Z1,Bool.and_eq_true,decide_eq_true_eq] at h
  exact ZaT.1 h.1.1.1
theorem Zm7 {b:DBox} (h:ZdF b=true) :∃l,ZcC b.mail=(true,l)∧l+1≤b.next∧b.next≤100∧b.mail.length≤10:=by
  simp only [ZdF,Bool.and_eq_true,decide_eq_true_eq] at h
  exact ⟨(ZcC b.mail).2,Prod.ext h.1.1 rfl,h.1.2.1,h.1.2.2,h.2⟩
theorem ZlE :∀(xs:List DMail) (b0 b:Int),xs.foldl (fun (s:Bool × Int) x=>(s.1 && ZdV s.2 x,x.uid)) (true,b0)=(true,b)→b0≤b
  | [],b0,b,h=>by cases h;omega
  | x :: xs,b0,b,h=>by
    simp only [List.foldl_cons,Bool.true_and] at h
    cases hp:ZdV b0 x with
    | false=>
      rw [hp] at h
      have:=Zck (p:=ZdV) (nx:=fun _ m=>m.uid) xs x.uid
      rw [h] at this;cases this
    | true=>
      rw [hp] at h
      have:=ZlE xs x.uid b h
      simp only [ZdV,Bool.and_eq_true,decide_eq_true_eq] at hp
      omega
theorem Zem {x:DHost} {k:Nat} {f:DFolder} (h:Z7 x=true) (hf:x.folders[k]? = some f):Z1 x.users f=true:=(Zcb.1 h).2.1.1 f (List.mem_of_getElem? hf)
theorem Zf8 {us:List DUser} {f:DFolder} (h:Z1 us f=true):ZdF f.box=true:=by simp only [Z1,Bool.and_eq_true] at h;exact h.2
theorem Zev {x:DHost} {k:Nat} {fl:Int} {t:Str} : (ZaY x k fl t).1.users=x.users∧(ZaY x k fl t).1.queue=x.queue∧(ZaY x k fl t).1.domain=x.domain∧(ZaY x k fl t).1.folders.length=x.folders.length:=by
  unfold ZaY
  split
  · exact ⟨rfl,rfl,rfl,rfl⟩
  · split
    · exact ⟨rfl,rfl,rfl,rfl⟩
    · split
      · exact ⟨rfl,rfl,rfl,by simp [DHost.withFolders]⟩
      · exact ⟨rfl,rfl,rfl,rfl⟩
theorem ZlY {x:DHost} (h:Z7 x=true):ZaO x.queue=true:=(Zcb.1 h).1.2.2
def Like (ms ms':List DMail):Prop:=ms'.length=ms.length∧∀(i:Nat) (a b:DMail),ms[i]? = some a→ms'[i]? = some b→b.uid=a.uid∧b.text=a.text∧(b.flags=a.flags∨(0≤b.flags∧b.flags≤31))
theorem Like.refl (ms:List DMail):Like ms ms:=⟨rfl,fun i a b h1 h2=>by rw [h1] at h2;cases h2;exact ⟨rfl,rfl,.inl rfl⟩⟩
theorem Like.set {ms acc:List DMail} {k:Nat} {a:DMail} {fl:Int} (h:Like ms acc) (ha:acc[k]? = some a) (hf:0≤fl∧fl≤31):Like ms (acc.set k ⟨a.uid,fl,a.text⟩):=by
  refine ⟨by rw [List.length_set];exact h.1,fun i c d hc hd=>?_⟩
  rcases ZsE hd with ⟨rfl,rfl,_⟩ | ⟨_,hd⟩
  · have:=h.2 _ _ _ hc ha
    exact ⟨this.1,this.2.1,.inr hf⟩
  · exact h.2 _ _ _ hc hd
end Go.BL
namespace Go.BL
open Go
set_option linter.unusedVariables false
set_option linter.unusedSimpArgs false
theorem Zqe {k:Nat} {e:Int} (h:([1,2,4,8,16,32]:List Int)[k]? = some e):e=Zb2 k:=by rw [Zb2,List.getD_eq_getElem?_getD,h];rfl
theorem Zn5 {a b:Int} (h0:0≤a) (h1:a≤1000000) (hb:0<b):IntKind.i64.wrap (Int.tdiv a b)=Int.tdiv a b:=
  Zb4 (Int.le_trans (by decide) (Int.tdiv_nonneg h0 (by omega))) (Int.le_trans (Int.tdiv_le_self _ h0) (by omega))
theorem Zeq {gs:List DGrant} (h:Zc8 gs=true) :∀y,y∈gs→0≤y.rights∧y.rights≤63:=by
  intro y hy
  simp only [Zc8,Bool.and_eq_true] at h
  obtain ⟨b,hb⟩:=Zkv (p:=ZbN) (nx:=fun _ g=>g.user) gs [] h.1 y hy
  simp only [ZbN,Bool.and_eq_true,decide_eq_true_eq] at hb;omega
def Zi0 (fs:List DFolder):Prop:=∀f,f∈fs→∀y,y∈f.grants→0≤y.rights∧y.rights≤63
theorem ZiH {x:DHost} (h:Z7 x=true):Zi0 x.folders:=fun f hf=>by
  have:=(Zcb.1 h).2.1.1 f hf
  simp only [Z1,Bool.and_eq_true] at this
  exact Zeq this.1.2
theorem Zkw (gs:List DGrant) (u:Str):0≤Za6 gs u∧Za6 gs u≤600:=Zhs gs u 6 (Nat.le_refl _)
theorem ZnB :∀{fs:List DFolder} (us:List DUser) (u:Str),(∀f,f∈fs→Z1 us f=true)→Zcq fs u≤fs.length*200
  | [],_,_,_=>by simp [Zcq]
  | f :: fs,us,u,h=>by
    have ih:=ZnB us u fun g hg=>h g (List.mem_cons_of_mem _ hg)
    obtain ⟨h1,h2⟩:=Zhq (Zf8 (h f (List.mem_cons_self ..)))
    have h3:Zbm f.mail≤f.mail.length*20:=Ze3 _ h1
    have h4:f.mail.length≤10:=h2
    simp only [Zcq,List.map_cons,List.sum_cons,List.length_cons] at ih ⊢
    split <;> omega
theorem Zk1 {x:DHost} (h:Z7 x=true) (u:Str):Zcq x.folders u≤1600:=by
  obtain ⟨_,⟨h4,_,h6⟩,_⟩:=Zcb.1 h
  have:=ZnB x.users u h4
  omega
theorem ZeF {b:DBox} (h:ZdF b=true):1≤b.next∧b.next≤100∧b.mail.length≤10:=by
  obtain ⟨l,hs,h1,h2,h3⟩:=Zm7 h
  have:=ZlE b.mail 0 l hs
  omega
structure GHC where
  q1:Option Addr
  c1:Nat
  q3:Option Addr
  c3:Nat
  b:Nat
structure GEx where
  k:Nat
  m:Gh DMail
  n:Gh Int
structure GCp where
  k:Nat
  x:DHost
  c:Int
  q1:Option Addr
  c1:Nat
  q2:Option Addr
  c2:Nat
  q3:Option Addr
  c3:Nat
theorem ZiX (b:DBox) (fl:Int) (t:Str):(ZeL b fl t).1.mail.length≤b.mail.length+1:=by
  unfold ZeL;split <;> simp
structure GHo where
  k:Nat
  p:Nat
  x:DHost
  q1:Option Addr
  c1:Nat
  q2:Option Addr
  c2:Nat
  q3:Option Addr
  c3:Nat
structure GBo where
  k:Nat
  p:Nat
  l:Cells
  a:Option Addr
  c:Nat
  x:DBox
structure GAc where
  k:Nat
  p:Nat
  l:Cells
  a:Option Addr
  c:Nat
  xs:List DGrant
end Go.BL
namespace Go.BL
open Go
set_option linter.unusedVariables false
set_option linter.unusedSimpArgs false
def ZiZ (gs:List DGrant) (o u:Str):Int:=
  if ¬ (Zc8 gs=true∧Zam o=true∧Zam u=true) then -1 else if u=o then 63 else orI ((mget (Zei gs) u).getD 0) ((mget (Zei gs) anyone).getD 0)
theorem ZiY {gs:List DGrant} {o u:Str} (h : ¬ (Zc8 gs=true∧Zam o=true∧Zam u=true)):ZiZ gs o u = -1:=by rw [ZiZ,if_pos h]
theorem Zre {gs:List DGrant} {o u:Str} (h1:Zc8 gs=true) (h2:Zam o=true) (h3:Zam u=true):ZiZ gs o u=if u=o then 63 else orI ((mget (Zei gs) u).getD 0) ((mget (Zei gs) anyone).getD 0):=by rw [ZiZ,if_neg (fun h=>h ⟨h1,h2,h3⟩)]
def Zoq (us:List DUser) (f:DFolder) (u:Str) (r:Int):Bool:=(ZaB us u).2 && (decide (0≤ZiZ f.grants f.owner u) && !decide (ZuJ (ZiZ f.grants f.owner u) r=0))
theorem Znd {gs:List DGrant} (h:Zc8 gs=true):gs.Pairwise fun x y=>Op.bytesLess x.user y.user=true:=by
  simp only [Zc8,Bool.and_eq_true] at h
  exact (Ze7 (p:=ZbN) (f:=fun u=>u.user) (fun b x hq=>by simp only [ZbN,Bool.and_eq_true] at hq;exact hq.2) gs [] (Zco gs).2 (Prod.ext h.1 rfl)).2
def Zht (r b:Int):Bool:=decide (Int.tmod (Int.tdiv r b) 2=1)
theorem Ziv (u:Str) (b:Int) (h0:Zht 0 b=false) :∀{gs:List DGrant},gs.Pairwise (fun x y=>Op.bytesLess x.user y.user=true)→(gs.any fun g=>decide (g.user=u) && Zht g.rights b)=Zht ((mget (Zei gs) u).getD 0) b
  | [],_=>by simp [Zei,mget,h0]
  | g :: gs,hp=>by
    obtain ⟨h1,h2⟩:=List.pairwise_cons.1 hp
    have ih:=Ziv u b h0 h2
    simp only [Zei,List.map_cons,mget,List.any_cons] at ih ⊢
    by_cases hu:u=g.user
    · subst hu
      have hn:(gs.any fun x=>decide (x.user=g.user) && Zht x.rights b)=false:=by
        rw [List.any_eq_false]
        intro x hx hc
        simp only [Bool.and_eq_true,decide_eq_true_eq] at hc
        have:=h1 x hx
        rw [hc.1,Zdd] at this;cases this
      simp [hn]
    · rw [if_neg hu,decide_eq_false (Ne.symm hu),← ih];simp
theorem ZkH (u:Str) :∀{gs:List DGrant},(∀y,y∈gs→0≤y.rights∧y.rights≤63)→0≤(mget (Zei gs) u).getD 0∧(mget (Zei gs) u).getD 0≤63
  | [],_=>by simp [Zei,mget]
  | g :: gs,h=>by
    have ih:=ZkH u (gs:=gs) fun y hy=>h y (List.mem_cons_of_mem _ hy)
    simp only [Zei,List.map_cons,mget] at ih ⊢
    by_cases hu:u=g.user
    · rw [if_pos hu];exact h g (List.mem_cons_self ..)
    · rw [if_neg hu];exact ih
theorem ZtZ :∀a,a<64→∀b,b<64→0≤orI (a:Nat) (b:Nat)∧orI (a:Nat) (b:Nat)≤63∧(∀k,k<6→(!decide (ZuJ (orI (a:Nat) (b:Nat)) (Zb2 k)=0))=(Zht (a:Nat) (Zb2 k) || Zht (b:Nat) (Zb2 k)))∧(!decide (Int.tmod (orI (a:Nat) (b:Nat)) 2=0))=(Zht (a:Nat) 1 || Zht (b:Nat) 1)∧(!decide (Int.tmod (Int.tdiv (orI (a:Nat) (b:Nat)) 2) 2=0))=(Zht (a:Nat) 2 || Zht (b:Nat) 2):=by
  decide +kernel
theorem Zsh :∀k,k<6→(!decide (ZuJ 63 (Zb2 k)=0))=true:=by decide +kernel
def Zxz (b0 b1 b2 b3 b4 b5:Bool):Int:=
  let s0:Int:=if b0=true then 0+Zb2 0 else 0
  let s1:=if b1=true then s0+Zb2 1 else s0
  let s2:=if b2=true then s1+Zb2 2 else s1
  let s3:=if b3=true then s2+Zb2 3 else s2
  let s4:=if b4=true then s3+Zb2 4 else s3
  if b5=true then s4+Zb2 5 else s4
theorem Zq6 :∀b0 b1 b2 b3 b4 b5:Bool,∀k,k<6→Zht (Zxz b0 b1 b2 b3 b4 b5) (Zb2 k)=[b0,b1,b2,b3,b4,b5].getD k false:=by decide +kernel
theorem Zmw {gs:List DGrant} {u:Str} {k:Nat} (hk:k<6):Zht (Za6 gs u) (Zb2 k)=gs.any (onB u (Zb2 k)):=by
  have e:Za6 gs u=Zxz (gs.any (onB u (Zb2 0))) (gs.any (onB u (Zb2 1))) (gs.any (onB u (Zb2 2))) (gs.any (onB u (Zb2 3))) (gs.any (onB u (Zb2 4))) (gs.any (onB u (Zb2 5))):=rfl
  rw [e,Zq6 _ _ _ _ _ _ k hk]
  have:k=0∨k=1∨k=2∨k=3∨k=4∨k=5:=by omega
  rcases this with rfl | rfl | rfl | rfl | rfl | rfl <;> rfl
theorem Zsn {gs:List DGrant} {u:Str} {b:Int} : gs.any (onB u b)=((gs.any fun g=>decide (g.user=u) && Zht g.rights b) || (gs.any fun g=>decide (g.user=anyone) && Zht g.rights b)):=by
  induction gs with
  | nil=>rfl
  | cons g gs ih=>
    simp only [List.any_cons,ih,onB,Zht]
    cases decide (g.user=u) <;> cases decide (g.user=anyone) <;> cases decide (Int.tmod (Int.tdiv g.rights b) 2=1) <;> simp
theorem Zlq {k:Nat} (hk:k<6):Zht 0 (Zb2 k)=false:=by
  have:k=0∨k=1∨k=2∨k=3∨k=4∨k=5:=by omega
  rcases this with rfl | rfl | rfl | rfl | rfl | rfl <;> rfl
theorem Zn2 {gs:List DGrant} {u:Str} (h:Zc8 gs=true) {k:Nat} (hk:k<6):(!decide (ZuJ (orI ((mget (Zei gs) u).getD 0) ((mget (Zei gs) anyone).getD 0)) (Zb2 k)=0))=Zht (Za6 gs u) (Zb2 k)∧0≤orI ((mget (Zei gs) u).getD 0) ((mget (Zei gs) anyone).getD 0)∧orI ((mget (Zei gs) u).getD 0) ((mget (Zei gs) anyone).getD 0)≤63∧(!decide (Int.tmod (orI ((mget (Zei gs) u).getD 0) ((mget (Zei gs) anyone).getD 0)) 2=0))=Zht (Za6 gs u) 1∧(!decide (Int.tmod (Int.tdiv (orI ((mget (Zei gs) u).getD 0) ((mget (Zei gs) anyone).getD 0)) 2) 2=0))=Zht (Za6 gs u) 2:=by
  obtain ⟨a0,a1⟩:=ZkH u (Zeq h)
  obtain ⟨b0,b1⟩:=ZkH anyone (Zeq h)
  have hs:=Znd h
  have e1 :∀k,k<6→Zht (Za6 gs u) (Zb2 k)=(Zht ((mget (Zei gs) u).getD 0) (Zb2 k) || Zht ((mget (Zei gs) anyone).getD 0) (Zb2 k)):=fun k hk=>by
    rw [Zmw hk,Zsn,Ziv u _ (Zlq hk) hs,Ziv anyone _ (Zlq hk) hs]
  generalize (mget (Zei gs) u).getD 0=a at *
  generalize (mget (Zei gs) anyone).getD 0=b at *
  obtain ⟨n,rfl⟩:=Int.eq_ofNat_of_zero_le a0
  obtain ⟨m,rfl⟩:=Int.eq_ofNat_of_zero_le b0
  obtain ⟨t1,t2,t3,t4,t5⟩:=ZtZ n (by omega) m (by omega)
  have h0:=e1 0 (by omega)
  exact ⟨by rw [t3 k hk,e1 k hk],t1,t2,by rw [t4];exact h0.symm,by rw [t5];exact (e1 1 (by omega)).symm⟩
theorem ZgP {x:DHost} {u:Str} (h:Z7 x=true) (hu:0≤ZdI x.users u):Zam u=true:=by
  obtain ⟨w,hw,rfl⟩:=ZaT.1 hu
  have:=Zi8 (Zde h) hw
  simp only [Zcv,Bool.and_eq_true] at this
  exact this.1.1.1
theorem Zrd {x:DHost} {f:DFolder} {u:Str} (h:Z7 x=true) (hf:f∈x.folders) (hu:0≤ZdI x.users u):ZiZ f.grants f.owner u=if u=f.owner then 63 else orI ((mget (Zei f.grants) u).getD 0) ((mget (Zei f.grants) anyone).getD 0):=by
  have hi:=(Zcb.1 h).2.1.1 f hf
  simp only [Z1,Bool.and_eq_true,decide_eq_true_eq] at hi
  rw [ZiZ,if_neg (fun hc=>hc ⟨hi.1.2,ZgP h hi.1.1.1,ZgP h hu⟩)]
theorem ZuN {x:DHost} {f:DFolder} (h:Z7 x=true) (hf:f∈x.folders):Zc8 f.grants=true:=by
  have hi:=(Zcb.1 h).2.1.1 f hf
  simp only [Z1,Bool.and_eq_true] at hi
  exact hi.1.2
theorem Zop {x:DHost} {f:DFolder} {u:Str} {k:Nat} (h:Z7 x=true) (hf:f∈x.folders) (hk:k<6):Zoq x.users f u (Zb2 k)=(decide (0≤ZdI x.users u) && Zmb f u (Zb2 k)):=by
  rw [Zoq,Zk2 h]
  by_cases hu:0≤ZdI x.users u
  · rw [Zrd h hf hu,Zmb]
    obtain ⟨r1,r2,r3,r4,r5⟩:=Zn2 (gs:=f.grants) (u:=u) (ZuN h hf) hk
    by_cases ho:u=f.owner
    · rw [if_pos ho,decide_eq_true ho,Zsh k hk];simp
    · rw [if_neg ho,decide_eq_false ho,r1,decide_eq_true r2];simp [Zht]
  · simp [hu]
theorem Zoa {x:DHost} {f:DFolder} (h:Z7 x=true) (hf:f∈x.folders):f.owner.length≤2000000:=by
  have hi:=(Zcb.1 h).2.1.1 f hf
  simp only [Z1,Bool.and_eq_true,decide_eq_true_eq] at hi
  have h8:=ZgP h hi.1.1.1
  simp only [Zam,Bool.and_eq_true,decide_eq_true_eq] at h8
  omega
end Go.BL
namespace Go.BL
open Go
set_option linter.unusedVariables false
set_option linter.unusedSimpArgs false
def Zbp (f:DFolder):Nat:=3+2*f.grants.length+3*f.mail.length
def mkF (k:Nat) (f:DFolder):DFolder:=⟨ZQ k,ZQ (k+1),Zaw (k+1+1) f.grants.length,((k+1+1+2*f.grants.length:Nat):Int),ZbH (k+1+1+2*f.grants.length+1) f.mail.length⟩
def ZbP (x:DItem):Nat:=3+x.left.length
def mkI (k:Nat) (x:DItem):DItem:=⟨((k:Nat):Int),ZQ (k+1),ZQ (k+1+1),ZcW (k+1+1+1) x.left.length⟩
def kL {α:Type} (st:α→Nat) (k:Nat) (xs:List α):Nat:=k+(xs.map st).sum
def mkL {α:Type} (st:α→Nat) (mk:Nat→α→α):Nat→List α→List α
  | _,[]=>[]
  | k,x :: xs=>mk k x :: mkL st mk (k+st x) xs
theorem ZlW {α:Type} {st:α→Nat} {k:Nat} : kL st k []=k:=by simp [kL]
theorem ZiB {α:Type} {st:α→Nat} {k:Nat} {x:α} {xs:List α} : kL st k (x :: xs)=kL st (k+st x) xs:=by simp [kL];omega
theorem Zg1 {α:Type} {st:α→Nat} {k i:Nat} {xs:List α} {x:α} (hx:xs[i]? = some x):kL st k (xs.take (i+1))=kL st k (xs.take i)+st x:=by
  rw [Zbr hx,kL,kL,List.map_append,List.sum_append];simp;omega
theorem Zuf {α:Type} {st:α→Nat} {c:Nat} :∀{xs:List α} (k:Nat),(∀x,x∈xs→st x≤c)→kL st k xs≤k+xs.length*c
  | [],k,_=>by simp [kL]
  | x :: xs,k,h=>by
    have h1:=Zuf (st:=st) (c:=c) (xs:=xs) (k+st x) fun y hy=>h y (List.mem_cons_of_mem _ hy)
    have h2:=h x (List.mem_cons_self ..)
    rw [ZiB,List.length_cons,Nat.succ_mul];omega
theorem ZlT {α:Type} {st:α→Nat} {mk:Nat→α→α} {x:α} :∀{xs:List α} (k:Nat),mkL st mk k (xs ++ [x])=mkL st mk k xs ++ [mk (kL st k xs) x]
  | [],k=>by simp [mkL,kL]
  | y :: xs,k=>by
    rw [List.cons_append,mkL,ZlT (xs:=xs) (k+st y),mkL,ZiB,List.cons_append]
theorem ZdU {α:Type} {st:α→Nat} {mk:Nat→α→α} :∀{xs:List α} (k:Nat),(mkL st mk k xs).length=xs.length
  | [],k=>rfl
  | y :: xs,k=>by rw [mkL,List.length_cons,ZdU (k+st y),List.length_cons]
theorem Zqt {α:Type} {st:α→Nat} {mk:Nat→α→α} {xs ys:List α} {i k:Nat} {x:α} (ht:ys.take i=mkL st mk k (xs.take i)) (hx:xs[i]? = some x) (hl:ys.length=xs.length):(ys.set i (mk (kL st k (xs.take i)) x)).take (i+1)=mkL st mk k (xs.take (i+1)):=by
  have hi:=(List.getElem?_eq_some_iff.1 hx).1
  rw [ZbS (by omega),Zbr hx,ZlT,ht]
theorem Zoo {α:Type} {st:α→Nat} {mk:Nat→α→α} {xs ys:List α} {i k:Nat} (ht:ys.take i=mkL st mk k (xs.take i)) (hl:ys.length=xs.length) (hi:xs.length≤i):ys=mkL st mk k xs:=by
  rwa [List.take_of_length_le (by omega),List.take_of_length_le hi] at ht
theorem ZkG {α:Type} {st:α→Nat} {mk:Nat→α→α} :∀{xs:List α} {i:Nat} {x:α} (k:Nat),xs[i]? = some x→(mkL st mk k xs)[i]? = some (mk (kL st k (xs.take i)) x)
  | [],i,x,k,h=>by simp at h
  | y :: xs,0,x,k,h=>by
    simp only [List.getElem?_cons_zero,Option.some.injEq] at h
    subst h;simp [mkL,kL]
  | y :: xs,i+1,x,k,h=>by
    rw [mkL,List.getElem?_cons_succ,ZkG (k+st y) (by simpa using h),List.take_succ_cons,ZiB]
theorem Zl5 {α:Type} {xs ys:List α} {i:Nat} {z:α} (hd:ys.drop i=xs.drop i):(ys.set i z).drop (i+1)=xs.drop (i+1):=by
  rw [List.drop_set_of_lt (by omega),← List.drop_drop,← List.drop_drop,hd]
theorem Zl6 {α:Type} {xs ys:List α} {i:Nat} (hd:ys.drop i=xs.drop i):ys[i]? = xs[i]?:=by
  have:=congrArg (fun l=>l[0]?) hd
  simpa using this
theorem ZkF {k n g:Nat} (h:g<n):(ZbH k n)[g]? = some ⟨((k+3*g:Nat):Int),((k+3*g+1:Nat):Int),ZQ (k+3*g+1+1)⟩:=by simp [ZbH,h]
theorem Zjz {k n g:Nat} (h:g<n):(Zaw k n)[g]? = some ⟨ZQ (k+2*g),((k+2*g+1:Nat):Int)⟩:=by simp [Zaw,h]
theorem ZkD {k n g:Nat} (h:g<n):(Zca k n)[g]? = some ⟨ZQ (k+3*g),ZQ (k+3*g+1),((k+3*g+1+1:Nat):Int)⟩:=by simp [Zca,h]
theorem ZmG {k n g:Nat} (h:g<n):(ZcW k n)[g]? = some (ZQ (k+1*g)):=by simp [ZcW,h]
theorem ZdS {α:Type} {xs:List α} {k:Nat} {x z:α} (h:xs[k]? = some x):(xs.set k z)[k]? = some z:=List.getElem?_set_self (List.getElem?_eq_some_iff.1 h).1
theorem ZqA {α:Type} {st:α→Nat} {k i:Nat} {xs:List α} {x:α} (hx:xs[i]? = some x):kL st k (xs.take i)+st x≤kL st k xs:=by
  have e:xs=xs.take (i+1) ++ xs.drop (i+1):=(List.take_append_drop _ _).symm
  have h1:=Zg1 (st:=st) (k:=k) hx
  have h2:kL st k xs=kL st k (xs.take (i+1))+((xs.drop (i+1)).map st).sum:=by
    conv=>lhs;rw [e]
    simp only [kL,List.map_append,List.sum_append];omega
  omega
theorem ZlX {α:Type} {st:α→Nat} {k i:Nat} {xs:List α} (h:xs.length≤i):kL st k (xs.take i)=kL st k xs:=by rw [List.take_of_length_le h]
theorem Zqz {α:Type} {st:α→Nat} {k:Nat} {xs:List α} : k≤kL st k xs:=by simp [kL]
theorem Zlz {α:Type} {xs ys:List α} {i:Nat} {z:α} (h:ys.length=xs.length):(ys.set i z).length=xs.length:=by rw [List.length_set,h]
theorem Zue {α:Type} {st sz:α→Nat} {xs:List α} (k:Nat) (h :∀x,x∈xs→st x≤3+3*sz x):kL st k xs≤k+3*(xs.length+(xs.map sz).sum):=by
  induction xs generalizing k with
  | nil=>simp [kL]
  | cons x xs ih=>
    rw [ZiB]
    have h1:=ih (k+st x) fun y hy=>h y (List.mem_cons_of_mem _ hy)
    have h2:=h x (List.mem_cons_self ..)
    simp only [List.length_cons,List.map_cons,List.sum_cons];omega
theorem Zjy {α:Type} {st:α→Nat} {mk:Nat→α→α} {xs ys:List α} {i k m:Nat} {x:α} (ht:ys.take i=mkL st mk k (xs.take i)) (hx:xs[i]? = some x) (hl:ys.length=xs.length) (hs:m=kL st k (xs.take i)):(ys.set i (mk m x)).take (i+1)=mkL st mk k (xs.take (i+1)):=by
  subst hs;exact Zqt ht hx hl
end Go.BL
namespace Go.BL
open Go
set_option linter.unusedVariables false
set_option linter.unusedSimpArgs false
theorem ZvB {k:Nat} {fs:List DFolder} : kL Zbp k fs≤k+3*szL Zas fs:=Zue k fun x _=>by simp only [Zbp,Zas,szL];omega
theorem Zsy {k:Nat} {xs:List DItem} : kL ZbP k xs≤k+3*szL Zbl xs:=Zue k fun x _=>by simp only [ZbP,Zbl,ZeP,szL];omega
def kH (k:Nat) (x:DHost):Nat:=kL ZbP (kL Zbp (k+3*x.users.length) x.folders) x.queue.items
theorem Zug {x:DHost} (h:ZcQ x≤1048576):kH 1 x≤10000000:=by
  have h1:=@Zsy (kL Zbp (1+3*x.users.length) x.folders) x.queue.items
  have h2:=@ZvB (1+3*x.users.length) x.folders
  unfold ZcQ at h
  have h3:x.users.length≤szL ZcP x.users:=by simp only [szL];omega
  unfold kH;omega
end Go.BL
namespace Go.BL
open Go
set_option linter.unusedVariables false
set_option linter.unusedSimpArgs false
def Zhn (us:List DUser) (fs:List DFolder) (u o n:Str) (r:Int):Nat:=
  if ZcX (inF o n) fs<0 then 1 else match fs[(ZcX (inF o n) fs).toNat]? with
    | none=>1
    | some f=>if Zoq us f u 1=false then 1 else if Zoq us f u r=false then 2 else 0
theorem Zpl {us:List DUser} {fs:List DFolder} {u o n:Str} {r:Int} (h:ZcX (inF o n) fs<0):Zhn us fs u o n r=1:=by rw [Zhn,if_pos h]
theorem ZiT {us:List DUser} {fs:List DFolder} {u o n:Str} {r:Int} {f:DFolder} (h : ¬ ZcX (inF o n) fs<0) (hf:fs[(ZcX (inF o n) fs).toNat]? = some f):Zhn us fs u o n r=if Zoq us f u 1=false then 1 else if Zoq us f u r=false then 2 else 0:=by
  rw [Zhn,if_neg h,hf]
theorem Zpm (us:List DUser) (fs:List DFolder) (u o n:Str) (r:Int):Zhn us fs u o n r<3:=by
  unfold Zhn
  split
  · omega
  · split
    · omega
    · split
      · omega
      · split <;> omega
theorem Zta {x:DHost} {u o n:Str} {k:Nat} (h:Z7 x=true) (hk:k<6):((Zhn x.users x.folders u o n (Zb2 k):Nat):Int)=Zpp x.users x.folders u (ZcX (inF o n) x.folders) (Zb2 k):=by
  by_cases h0:ZcX (inF o n) x.folders<0
  · rw [Zpl h0,ZiU (.inr h0)];rfl
  · have hl:=ZiG (inF o n) x.folders
    obtain ⟨f,hf⟩:=ZsG (xs:=x.folders) (i:=ZcX (inF o n) x.folders) (by omega) (by omega)
    have hm:=List.mem_of_getElem? hf
    rw [ZiT h0 hf]
    have e1:Zoq x.users f u 1=(decide (0≤ZdI x.users u) && Zmb f u 1):=Zop (k:=0) h hm (by omega)
    rw [e1,Zop h hm hk]
    by_cases hu:ZdI x.users u<0
    · rw [ZiU (.inl hu),decide_eq_false (by omega)];rfl
    · rw [Zpo (by omega) hf,decide_eq_true (by omega)]
      cases Zmb f u 1 <;> cases Zmb f u (Zb2 k) <;> rfl
end Go.BL
namespace Go.BL
open Go
set_option linter.unusedVariables false
set_option linter.unusedSimpArgs false
end Go.BL
namespace Go.BL
open Go
set_option linter.unusedVariables false
set_option linter.unusedSimpArgs false
end Go.BL
namespace Go.BL
open Go
set_option linter.unusedVariables false
set_option linter.unusedSimpArgs false
end Go.BL
namespace Go.BL
open Go
set_option linter.unusedVariables false
set_option linter.unusedSimpArgs false
end Go.BL
namespace Go.BL
open Go
set_option linter.unusedVariables false
set_option linter.unusedSimpArgs false
theorem Zz.perm {P:PJ} {f:FuncId} {args:List Value} {B:Kn} {Ls Ls':List Cells} {Post:Value→Kn→List Cells→Prop} (hp:Ls.flatten.Perm Ls'.flatten) (h:Zz P f args B Ls' Post):Zz P f args B Ls Post:=fun X kind c cs F hk hA=>by
  refine X.drop (r:=Ls'.flatten ++ F) (gl:=[]) ?_ (h X kind c cs F hk hA)
  rw [List.append_nil];exact hp.append_right F
theorem Zhw.ptr {Tn:TypeId} {v0:Value} {bl:Nat} {x:DMail} {rest:Cells} {pre:List DMail} (h:Zhw Tn v0 bl x rest pre) :∃p,v0 = .pointer p:=by
  obtain ⟨s0,h1,_⟩:=h (.pointer none) [] [] ⟨rfl,rfl⟩
  exact h1.ptr
theorem MLst.one {TL Tn:TypeId} {b bn:Nat} {m:DMail} {s:Cells} (hm:m.text.length≤2000000) (hp:s.Perm (Zae b [Go.BL.ptr ⟨bn,0,none⟩,Go.BL.ptr ⟨bn,0,none⟩,.int .i64 1] TL ++ Zae bn (Zgu m (.pointer none)) Tn)):MLst TL Tn b [m] s:=
  .inr ⟨_,bn,m,[],hp.trans (by simp),Zhw.init hm⟩
theorem MLst.add {TL Tn:TypeId} {b bl bn:Nat} {v0:Value} {x m:DMail} {rest s:Cells} {xs:List DMail} {k:Int} (h:Zhw Tn v0 bl x rest xs) (hm:m.text.length≤2000000) (hk:k=xs.length+1)
    (hp:s.Perm (Zae b [v0,Go.BL.ptr ⟨bn,0,none⟩,.int .i64 k] TL ++ (Zae bn (Zgu m (.pointer none)) Tn ++ (rest ++ Zae bl (Zgu x (Go.BL.ptr ⟨bn,0,none⟩)) Tn)))):MLst TL Tn b (xs ++ [m]) s:=by
  refine .inr ⟨v0,bn,m,rest ++ Zae bl (Zgu x (Go.BL.ptr ⟨bn,0,none⟩)) Tn,hp.trans ?_,h.step hm⟩
  rw [hk,List.length_append]
  simp
theorem Zxl {P:PJ} {S:Env} {B:Kn} {L:List Cells} {rs:List ResultVar} {Post:Value→Kn→List Cells→Prop} (e:Exit) (he:e = .ret∨e = .normal) (vs:List Value) (js:List Nat) {ss r:List Cells} (hp:ZaC L js=some (ss,r)) (hr:Zdc P S B L rs vs) (hq:Post (ZcT vs) B [ss.flatten]):Zhr P rs Post e S [] B L:=
  ⟨he,rfl,vs,[ss.flatten],hr,⟨r.flatten,by simpa using Zag js L ss r hp⟩,hq⟩
structure MOf where
  p:Option Addr
  ys:List DMail
  xs:List DMail
  l:Cells
  q:Option Addr
  c:Nat
  cells:Cells
end Go.BL
namespace Go.BL
open Go
set_option linter.unusedVariables false
set_option linter.unusedSimpArgs false
theorem ZtT {α:Type} {xs:List α} {k:Nat} {x:α} (h:xs[k]? = some x):xs.set k x=xs:=by
  apply List.ext_getElem?
  intro i
  rw [List.getElem?_set]
  split
  · rename_i e;subst e
    split
    · rw [h]
    · rename_i hl;rw [List.getElem?_eq_none (by omega)] at h;cases h
  · rfl
theorem Zd1 {x:DHost} {u:Str} {more:Int} (h:Z7 x=true) (hu:0≤ZdI x.users u):ZbA x u more=decide (Zdi x.users u<(Zcq x.folders u:Int)+more):=by
  obtain ⟨w,hw,rfl⟩:=ZaT.1 hu
  rw [ZbA,Zfs (Zde h) hw,Zmy (Zde h) hw,ZjO h]
  rfl
def Zmz (x:DHost) (k:Nat) (fl:Int) (t:Str):Nat:=
  match x.folders[k]? with
  | none=>0
  | some f=>if Zdi x.users f.owner<(Zcq x.folders f.owner:Int)+t.length then 3 else if (ZeL f.box fl t).2=true then 0 else 4
theorem Zio (x:DHost) (k:Nat) (fl:Int) (t:Str):((Zmz x k fl t:Nat):Int)=(ZaY x k fl t).2:=by
  cases h:x.folders[k]? with
  | none=>simp only [Zmz,ZaY,h];rfl
  | some f=>
    simp only [Zmz,ZaY,h]
    split
    · rfl
    · split <;> rfl
theorem Zsd (x:DHost) (k:Nat) (fl:Int) (t:Str):Zmz x k fl t<5:=by
  unfold Zmz
  split
  · omega
  · split
    · omega
    · split <;> omega
theorem Zn7 {x:DHost} {k:Nat} {fl:Int} {t:Str} {f:DFolder} (hok:Z7 x=true) (hf:x.folders[k]? = some f) (h:ZbA x f.owner t.length=true):Zmz x k fl t=3∧ZaY x k fl t=(x,3):=by
  have ho:0≤ZdI x.users f.owner:=ZaT.2 (ZgA (Zem hok hf))
  rw [Zd1 hok ho,decide_eq_true_eq] at h
  have e:=ZgU (fl:=fl) hf h
  have e2:=Zio x k fl t
  rw [e] at e2
  exact ⟨by have:((Zmz x k fl t:Nat):Int)=3:=e2;omega,e⟩
theorem Zqa {x:DHost} {k:Nat} {fl:Int} {t:Str} {f:DFolder} (hok:Z7 x=true) (hf:x.folders[k]? = some f) (h:ZbA x f.owner t.length=false) (h2:(ZeL f.box fl t).2=false):Zmz x k fl t=4∧ZaY x k fl t=(x,4):=by
  have ho:0≤ZdI x.users f.owner:=ZaT.2 (ZgA (Zem hok hf))
  rw [Zd1 hok ho,decide_eq_false_iff_not] at h
  have e:=ZhR hf h h2
  have e2:=Zio x k fl t
  rw [e] at e2
  exact ⟨by have:((Zmz x k fl t:Nat):Int)=4:=e2;omega,e⟩
theorem Zqb {x:DHost} {k:Nat} {fl:Int} {t:Str} {f:DFolder} (hok:Z7 x=true) (hf:x.folders[k]? = some f) (h:ZbA x f.owner t.length=false) (h2:(ZeL f.box fl t).2=true):Zmz x k fl t=0∧ZaY x k fl t=(x.withFolders (x.folders.set k (f.withBox (ZeL f.box fl t).1)),0):=by
  have ho:0≤ZdI x.users f.owner:=ZaT.2 (ZgA (Zem hok hf))
  rw [Zd1 hok ho,decide_eq_false_iff_not] at h
  have e:=ZhS hf h h2
  have e2:=Zio x k fl t
  rw [e] at e2
  exact ⟨by have:((Zmz x k fl t:Nat):Int)=0:=e2;omega,e⟩
theorem ZxC {B:Kn} {L:List Cells} {b o:Nat} {row vs:List Value} {a:Addr} (hc :∀(m:Nat) (u:Value),row[m]? = some u→ZaH B L.flatten ⟨b,o+m,none⟩ u) (off:Nat) (ha:a=⟨b,o+off,none⟩) (hv:(row.drop off).take vs.length=vs):ZpE B L a vs:=by
  intro i v hi
  subst ha
  rw [Addr.add_off _ _ rfl]
  have hlt:i<vs.length:=(List.getElem?_eq_some_iff.1 hi).1
  have:row[off+i]? = some v:=by
    have e:=congrArg (fun l=>l[i]?) hv
    simp only [List.getElem?_take,if_pos hlt,List.getElem?_drop] at e
    rw [e,hi]
  have:=hc _ v this
  rwa [show o+(off+i)=o+off+i from by omega] at this
theorem ZaM.cellA {α:Type} {l:Cells} {p:Option Addr} {c:Nat} {T:TypeId} {w:Nat} {R:ZfQ α} {xs:List α} (h:ZaM l p c T w R xs) {i:Nat} {x:α} (hx:xs[i]? = some x) :
∃b row li lr,p=some ⟨b,0,none⟩∧R row x li∧row.length=w∧l.Perm (li ++ lr)∧(∀(B:Kn) (L:List Cells) (j:Nat),L[j]? = some l→∀(m:Nat) (u:Value),row[m]? = some u→ZaH B L.flatten ⟨b,i*w+m,none⟩ u)∧(∀(B:Kn) (L:List Cells) (j:Nat),L[j]? = some lr→∀(m:Nat) (u:Value),row[m]? = some u→ZaH B L.flatten ⟨b,i*w+m,none⟩ u)∧∀x' li',R row x' li'→ZaM (li' ++ lr) p c T w R (xs.set i x'):=by
  obtain ⟨b,arr,row,li,lr,e1,e2,e3,e4,e5,e6⟩:=h.open1 hx
  refine ⟨b,row,li,Zae b arr T ++ lr,e1,e2,e3,e4,fun B L j hj m u hm=>⟨rfl,arr.toArray,T,(0,0),.inr ?_,by simpa using e5 m u hm⟩,fun B L j hj m u hm=>⟨rfl,arr.toArray,T,(0,0),.inr ?_,by simpa using e5 m u hm⟩,e6⟩
  · exact List.mem_flatten.2 ⟨l,List.mem_of_getElem? hj,e4.mem_iff.2 (List.mem_append_right _ (List.mem_append_left _ (List.mem_singleton.2 rfl)))⟩
  · exact List.mem_flatten.2 ⟨_,List.mem_of_getElem? hj,List.mem_append_left _ (List.mem_singleton.2 rfl)⟩
def Zhz (x:DHost) (u o n:Str) (fl:Int) (t:Str):Nat:=if Zhn x.users x.folders u o n 8=0 then Zmz x (ZcX (inF o n) x.folders).toNat fl t else Zhn x.users x.folders u o n 8
def Ze8 (x:DHost) (u o n:Str) (fl:Int) (t:Str):DHost:=if Zhn x.users x.folders u o n 8=0 then (ZaY x (ZcX (inF o n) x.folders).toNat fl t).1 else x
theorem ZlM (x:DHost) (u o n:Str) (fl:Int) (t:Str):Zhz x u o n fl t<5:=by
  unfold Zhz
  split
  · exact Zsd _ _ _ _
  · have:=Zpm x.users x.folders u o n 8;omega
theorem Zq4 {x:DHost} {u o n:Str} {r:Int} (h:Zhn x.users x.folders u o n r=0):0≤ZcX (inF o n) x.folders:=by
  unfold Zhn at h
  split at h
  · cases h
  · omega
theorem ZoE {x:DHost} {u o n:Str} {fl:Int} {t:Str} {ar:Bool} (h:ar=true↔Zcd fl=true∧t.length≤20):((if ar=true∧Z7 x=true then (Ze8 x u o n fl t,(Zhz x u o n fl t:Int)) else (ZfC,5)):DHost × Int)=ZdJ x u o n fl t:=by
  unfold ZdJ
  by_cases hh:Z7 x=true∧Zcd fl=true∧t.length≤20
  · rw [if_pos ⟨h.2 hh.2,hh.1⟩,if_neg (fun k=>k hh)]
    have hce:((Zhn x.users x.folders u o n 8:Nat):Int)=Zpp x.users x.folders u (ZcX (inF o n) x.folders) 8:=Zta (k:=3) hh.1 (by omega)
    by_cases h0:Zhn x.users x.folders u o n 8=0
    · rw [if_neg (by omega),Ze8,Zhz,if_pos h0,if_pos h0,Zio]
    · rw [if_pos (by omega),Ze8,Zhz,if_neg h0,if_neg h0,hce]
  · rw [if_neg (fun k=>hh ⟨k.2,h.1 k.1⟩),if_pos hh]
theorem Zsx {x:DHost} {u o n:Str} {fl:Int} {t:Str} (h:ZcQ x≤1048576):kH 1 (ZdJ x u o n fl t).1≤700000000000000∧(ZdJ x u o n fl t).1.users.length≤2000000∧(ZdJ x u o n fl t).1.folders.length≤2000000∧(ZdJ x u o n fl t).1.queue.items.length≤2000000:=by
  have hs:=ZkZ h
  have a1:=(Zau hs.2.1).1
  have a2:=(Zau hs.2.2.1).1
  have a3:=(Zau hs.2.2.2).1
  have hk:=Zug h
  have hx:kH 1 x≤700000000000000∧x.users.length≤2000000∧x.folders.length≤2000000∧x.queue.items.length≤2000000:=⟨by omega,by omega,by omega,by omega⟩
  unfold ZdJ
  split
  · refine ⟨?_,?_,?_,?_⟩ <;> simp [ZfC,kH,kL]
  · split
    · exact hx
    · unfold ZaY
      split
      · exact hx
      · rename_i f hf
        split
        · exact hx
        · split
          · refine ⟨?_,hx.2.1,by show (x.folders.set _ _).length≤_;rw [List.length_set];exact hx.2.2.1,hx.2.2.2⟩
            have h2:=Zuf (st:=Zbp) (c:=10000000) (xs:=x.folders.set (ZcX (inF o n) x.folders).toNat (f.withBox (ZeL f.box fl t).1)) (1+3*x.users.length) fun g hg=>by
              have hb :∀f',f'∈x.folders→f'.grants.length≤1048576∧f'.mail.length≤1048576:=fun f' hf'=>by
                have:=(Zau hs.2.2.1).2 f' hf'
                exact ⟨(Zau (Zhc this).1).1,(Zau (Zhc this).2).1⟩
              rcases List.mem_or_eq_of_mem_set hg with hg | rfl
              · have:=hb g hg;simp only [Zbp];omega
              · have h3:=hb f (List.mem_of_getElem? hf)
                have h4:=ZiX f.box fl t
                have h5:(ZeL f.box fl t).1.mail.length≤f.mail.length+1:=h4
                show 3+2*f.grants.length+3*(ZeL f.box fl t).1.mail.length≤_
                omega
            rw [List.length_set] at h2
            have h6:x.folders.length*10000000≤1048576*10000000:=Nat.mul_le_mul_right _ a2
            have h7:kL ZbP 1 x.queue.items≤1+3*szL Zbl x.queue.items:=Zsy
            show kL ZbP (kL Zbp (1+3*x.users.length) (x.folders.set _ _)) x.queue.items≤_
            have h8:=@Zsy (kL Zbp (1+3*x.users.length) (x.folders.set (ZcX (inF o n) x.folders).toNat (f.withBox (ZeL f.box fl t).1))) x.queue.items
            have h9:=hs.2.2.2
            omega
          · exact hx
end Go.BL
namespace Go.BL
section
variable {P:PJ} {n:Nat} {ops:Array Oper} {i:Nat} {K:Zaa} {S:Env} {D:List Deferred} {B:Kn} {L:List Cells}
variable {dst:Option Tmp} {ty:TypeId} {pos:String} {after:Array Edge} {g:Option (Nat × Bool)}
end
end Go.BL
