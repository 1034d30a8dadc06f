/-
  THE WALK'S LOGIC: owned cells and known cells, goroutines started and awaited, calls, loops, data, and plain laws on lists: no program in sight.
-/
import Derived.Test.YtpdpnilbhlojbaaB0
set_option linter.unusedVariables false
set_option linter.unusedSimpArgs false
set_option linter.unusedSectionVars false
namespace Go.BL
open Go.Conc (G)
set_option linter.unusedVariables false
def ZiN (Tg Tm:TypeId):ZdH DFolder:=fun row x ins=>∃q c q' c' i1 i2,row=[str x.owner,str x.name,.slice q x.grants.length c,.int .i64 x.next,.slice q' x.mail.length c']∧ins=i1 ++ i2∧Zaa Kn.none i1 q c Tg 2 ZcD x.grants∧Zaa Kn.none i2 q' c' Tm 3 Zev x.mail∧
  x.owner.length≤2000000∧x.name.length≤2000000∧x.grants.length≤2000000∧x.mail.length≤2000000
theorem ZiN.known {Tg Tm:TypeId} {B:Kn} {row:List Value} {x:DFolder} {ins:Cells} (h:ZiN Tg Tm row x ins) (hm :∀q,q∈ins→B.mem q.1=some q.2):Zer B row x:=by
  obtain ⟨q,c,q',c',i1,i2,h1,rfl,h2,h3,h4,h5,h6,h7⟩:=h
  exact ⟨q,c,q',c',h1,⟨h2.rowsF ZcD.any fun p hp=>hm p (List.mem_append.2 (.inl hp)),h2.cap,h6⟩,⟨h3.rowsF Zev.any fun p hp=>hm p (List.mem_append.2 (.inr hp)),h3.cap,h7⟩,h4,h5⟩
theorem All3.set {α:Type} {R:ZdH α} {rows:List (List Value)} {xs:List α} {s:Cells} (h:All3 R rows xs s) {row:List Value} {z:α} {ins:Cells} (hz:R row z ins) :∀k,k<xs.length→∃s' gl,All3 R (rows.set k row) (xs.set k z) s'∧(s ++ ins).Perm (s' ++ gl):=by
  induction h with
  | nil=>intro k hk;simp at hk
  | @cons row0 x ins0 rest rows xs h1 h2 ih=>
    intro k hk
    cases k with
    | zero=>
      refine ⟨ins ++ rest,ins0,.cons hz h2,?_⟩
      exact Ze0 fun f g h0 ha hc=>by simp only [ha];omega
    | succ k=>
      obtain ⟨s',gl,h3,h4⟩:=ih k (by simpa using hk)
      refine ⟨ins0 ++ s',gl,.cons h1 h3,?_⟩
      rw [List.append_assoc,List.append_assoc]
      exact List.Perm.append_left _ h4
theorem All3.zeros {α:Type} {R:ZdH α} {row:List Value} {d:α} (h:R row d []) :∀m,All3 R (List.replicate m row) (List.replicate m d) []
  | 0=>.nil
  | m+1=>by rw [List.replicate_succ,List.replicate_succ];exact All3.cons (ins:=[]) h (All3.zeros h m)
theorem Zbp.zeros {α:Type} {b:Nat} {T:TypeId} {R:ZdH α} {zs:List Value} {d:α} {m c w:Nat} (hw:zs.length=w) (hR:R zs d []) (hmc:m≤c):Zbp (Z0 b (zrow zs c) T) (some ⟨b,0,Option.none⟩) c T w R (List.replicate m d):=by
  refine ⟨List.replicate m zs,_,[],All3.zeros hR m,fun r hr=>by rw [(List.mem_replicate.1 hr).2];exact hw,by rw [List.append_nil],?_,.inr ⟨b,_,rfl,by rw [Zbc,hw],?_,rfl,by rw [List.length_replicate];exact hmc⟩⟩
  · rw [List.length_replicate]
    exact (Zbc (z:=zs) (c:=m)).trans (by rw [hw])
  · rw [List.length_replicate]
    have e:zrow zs c=zrow zs m ++ zrow zs (c - m):=by
      simp only [zrow,← List.flatten_append,List.replicate_append_replicate]
      rw [show m+(c - m)=c from by omega]
    rw [e,List.take_append_of_le_length (by rw [Zbc,hw];exact Nat.le_refl _),List.take_of_length_le (by rw [Zbc,hw];exact Nat.le_refl _)]
    rfl
theorem Zbp.ptr {α:Type} {l:Cells} {p:Option Addr} {c:Nat} {T:TypeId} {w:Nat} {R:ZdH α} {xs:List α} (h:Zbp l p c T w R xs) (hx:0<xs.length) :∃b,p=some ⟨b,0,Option.none⟩:=by
  obtain ⟨rows,blk,ins,_,_,_,_,⟨_,h0,_,_⟩ | ⟨b,arr,rfl,_⟩⟩:=h
  · omega
  · exact ⟨b,rfl⟩
theorem Zdn :∀{l vs:List Value},l.length=vs.length→ZM l 0 vs=vs
  | l,[],h=>by rw [ZaA];exact List.eq_nil_of_length_eq_zero h
  | [],v :: vs,h=>by simp at h
  | x :: l,v :: vs,h=>by
    have:=Zdn (l:=l) (vs:=vs) (by simpa using h)
    simp [ZM,this]
section
variable {P:PJ} {n:Nat} {ops:Array Oper} {i:Nat} {K:Zao} {S:Env} {D:List Deferred} {B:Kn} {L:List Cells} {Q:Exit→ZW}
variable {dst:Option Tmp} {ty:TypeId} {pos:String} {after:Array Edge} {g:Option (Nat × Bool)}
theorem Zh5 {o:Oper} {L':List Cells} {K':Zao} (hp:L.flatten.Perm L'.flatten) (h:opX P n ops i o K' S D B L') (hk :∀v D' B' L₁,B.le B'→K' v D' B' L₁→∃L₂ gl,L₁.flatten.Perm (L₂.flatten ++ gl)∧K v D' B' L₂):opX P n ops i o K S D B L:=⟨h.1,fun C todo k T ho hn hT hA=>
  C.X.perm (hp.append_right _) (h.2 C todo k T ho hn hT fun v D' B' L₁ hle hK=>by
    obtain ⟨L₂,gl,hp2,hK2⟩:=hk v D' B' L₁ hle hK
    refine C.X.drop (r:=L₂.flatten ++ C.F) (gl:=gl) ((hp2.append_right _).trans ?_) (hA v D' B' L₂ hle hK2)
    rw [List.append_assoc,List.append_assoc]
    exact List.Perm.append_left _ List.perm_append_comm)⟩
theorem ZlE {α:Type} {R:ZdH α} {xs:List α} (z:α) {t T:TypeId} {x y:Operand} {v:Value} {row:List Value} {sz k c b:Nat} {l:Cells} {p:Option Addr} {inss r:List Cells} (j:Nat) (ks:List Nat) (hpk:ZaG L (j :: ks)=some (l :: inss,r)) (hnd:ZdB (j :: ks)=true) (hv:Zbp l p c T sz R xs) (hp:p=some ⟨b,0,Option.none⟩) (hk:k<xs.length) (hg:Zf ops S g=some true) (hd:Zo n dst=true) (hsz:ZT P t=some sz)
    (hx:ev S x=some (ptr ⟨b,k*sz,Option.none⟩)) (hy:ev S y=some v) (hvc:v.cells=row.toArray) (ho:row.all ZcJ=true) (hrl:row.length=sz) (ins0:Cells) (hi0:inss.flatten=ins0) (hr:R row z ins0)
    (h :∀l',Zbp l' p c T sz R (xs.set k z)→K undef D B (ZbL r (j :: ks) (l' :: inss.map fun _=>[]))):opX P n ops i ⟨dst,.store t x y,ty,pos,after,g⟩ K S D B L:=by
  subst hp
  subst hi0
  obtain ⟨rows,blk,ins,h1,h2,h3,hl1,⟨hc,_⟩ | ⟨b',arr,e,ha,ht,rfl,hmc⟩⟩:=hv
  · cases hc
  · cases e
    have hpp:=Zad (j :: ks) L (l :: inss) r hpk
    have hb1:k*sz+row.length≤arr.length:=by
      have:(k+1)*sz≤c*sz:=Nat.mul_le_mul_right sz (by omega)
      rw [Nat.succ_mul] at this;omega
    obtain ⟨s',gl,a1,a2⟩:=h1.set hr k hk
    refine Zh5 (L':=[Z0 b arr T ++ ins,inss.flatten ++ r.flatten]) (K':=fun u D' B' L₁=>u=undef∧D'=D∧B'=B∧L₁=[Z0 b (ZM arr (k*sz) row) T ++ ins,inss.flatten ++ r.flatten]) ?_ ?_ ?_
    · refine hpp.trans ?_
      simp only [List.flatten_cons,List.flatten_nil,List.append_nil,List.append_assoc]
      refine (h3.append_right _).trans ?_
      rw [List.append_assoc]
    · exact ZV row 0 (ZM arr (k*sz) row) hg hd (by rw [hrl];exact hsz) hx hy hvc ho (T:=T) (r:=ins) rfl rfl (by rw [Nat.ble_eq];exact hb1) rfl ⟨rfl,rfl,rfl,rfl⟩
    · rintro u D' B' L₁ hle ⟨rfl,rfl,rfl,rfl⟩
      have hlen:k<rows.length:=by rw [h1.len];exact hk
      have hnew:Zbp (Z0 b (ZM arr (k*sz) row) T ++ s') (some ⟨b,0,Option.none⟩) c T sz R (xs.set k z):=by
        refine ⟨rows.set k row,_,s',a1,fun r' hr'=>?_,.refl _,?_,.inr ⟨b,_,rfl,by rw [ZH];exact ha,?_,rfl,by rw [List.length_set];exact hmc⟩⟩
        · rcases List.mem_or_eq_of_mem_set hr' with hr' | rfl
          · exact h2 r' hr'
          · exact hrl
        · rw [Zbf (w:=sz),List.length_set,List.length_set,h1.len]
          intro r' hr'
          rcases List.mem_or_eq_of_mem_set hr' with hr' | rfl
          · exact h2 r' hr'
          · exact hrl
        · rw [List.length_set]
          have hr1:rows[k]? = some rows[k]:=List.getElem?_eq_getElem hlen
          have hrow0:rows[k].length=sz:=h2 _ (List.getElem_mem hlen)
          have e:=ZbJ (us:=row) (off:=0) h2 hr1 (by omega)
          rw [Zdn (by rw [hrow0,hrl]),Nat.add_zero] at e
          have hb2:k*sz+row.length≤xs.length*sz:=by
            have:(k+1)*sz≤xs.length*sz:=Nat.mul_le_mul_right sz hk
            rw [Nat.succ_mul] at this;omega
          have hb3:xs.length*sz≤arr.length:=by rw [ha];exact Nat.mul_le_mul_right sz hmc
          rw [ZbW _ _ _ _ hb2 hb3,ht,e]
      refine ⟨_,gl,?_,h _ hnew⟩
      have hq:=Zbs ((Z0 b (ZM arr (k*sz) row) T ++ s') :: inss.map fun _=>[]) r (j :: ks) (Zbu hnd) (fun jj hj=>Zbt (j :: ks) L (l :: inss) r hpk jj (.inr hj))
      have hnil:((inss.map fun _=>([]:Cells))).flatten=[]:=by
        clear hpk hpp hq hr h
        induction inss with
        | nil=>rfl
        | cons a as ih=>simp
      rw [List.flatten_cons,hnil,List.append_nil] at hq
      simp only [List.flatten_cons,List.flatten_nil,List.append_nil]
      refine List.Perm.trans ?_ (hq.append_right gl)
      have e1:(Z0 b (ZM arr (k*sz) row) T ++ ins ++ (inss.flatten ++ r.flatten)).Perm (Z0 b (ZM arr (k*sz) row) T ++ ((ins ++ inss.flatten) ++ r.flatten)):=by simp only [List.append_assoc];exact .refl _
      have e2:(Z0 b (ZM arr (k*sz) row) T ++ ((ins ++ inss.flatten) ++ r.flatten)).Perm (Z0 b (ZM arr (k*sz) row) T ++ ((s' ++ gl) ++ r.flatten)):=List.Perm.append_left _ (a2.append_right _)
      refine (e1.trans e2).trans ?_
      exact Ze0 fun f g h0 ha hc=>by simp only [ha];omega
end
section
variable {P:PJ} {n:Nat} {ops:Array Oper} {i:Nat} {K:Zao} {S:Env} {D:List Deferred} {B BV:Kn} {L:List Cells}
variable {dst:Option Tmp} {ty:TypeId} {pos:String} {after:Array Edge} {g:Option (Nat × Bool)}
theorem ZlD {α:Type} {R:Rel α} {xs:List α} (z:α) {t T:TypeId} {x y:Operand} {v:Value} {row:List Value} {l:Cells} {p:Option Addr} {c sz k b:Nat} (j:Nat) (hj:L[j]? = some l) (hv:Zaa BV l p c T sz R xs) (hp:p=some ⟨b,0,none⟩) (hk:k<xs.length) (hg:Zf ops S g=some true) (hd:Zo n dst=true) (hsz:ZT P t=some sz)
    (hx:ev S x=some (ptr ⟨b,k*sz,none⟩)) (hy:ev S y=some v) (hvc:v.cells=row.toArray) (ho:row.all ZcJ=true) (hrl:row.length=sz) (hr:R BV row z)
    (h :∀l',Zaa BV l' p c T sz R (xs.set k z)→K undef D B (L.set j l')):opX P n ops i ⟨dst,.store t x y,ty,pos,after,g⟩ K S D B L:=by
  obtain ⟨rows,h1,h2,h3,⟨rfl,_,_,_⟩ | ⟨b',arr,rfl,ha,ht,rfl,hmc⟩⟩:=hv
  · cases hp
  · cases hp
    have hlen:k<rows.length:=by rw [h1.len];exact hk
    have hr1:rows[k]? = some rows[k]:=List.getElem?_eq_getElem hlen
    have hrow0:rows[k].length=sz:=h2 _ (List.getElem_mem hlen)
    have hb1:k*sz+row.length≤xs.length*sz:=by
      have:(k+1)*sz≤xs.length*sz:=Nat.mul_le_mul_right sz hk
      rw [Nat.succ_mul] at this;omega
    have hb2:xs.length*sz≤arr.length:=by rw [ha];exact Nat.mul_le_mul_right sz hmc
    refine ZV row j (ZM arr (k*sz) row) hg hd (by rw [hrl];exact hsz) hx hy hvc ho (r:=[]) hj rfl (by rw [Nat.ble_eq];show k*sz+row.length≤arr.length;omega) rfl (h _ ?_)
    have e:=ZbJ (us:=row) (off:=0) h2 hr1 (by omega)
    rw [Zdn (by rw [hrow0,hrl]),Nat.add_zero] at e
    refine ⟨rows.set k row,h1.set hr k,fun r hr'=>?_,?_,.inr ⟨b,_,rfl,by rw [ZH];exact ha,?_,rfl,by rw [List.length_set];exact hmc⟩⟩
    · rcases List.mem_or_eq_of_mem_set hr' with hr' | rfl
      · exact h2 r hr'
      · exact hrl
    · rw [← e,ZH,List.length_set];exact h3
    · rw [List.length_set,ZbW _ _ _ _ hb1 hb2,ht,e]
end
theorem Zaa.ptr {α:Type} {B:Kn} {l:Cells} {p:Option Addr} {c:Nat} {T:TypeId} {w:Nat} {R:Rel α} {xs:List α} (h:Zaa B l p c T w R xs) (hx:0<xs.length) :∃b,p=some ⟨b,0,none⟩:=by
  obtain ⟨rows,_,_,_,⟨_,h0,_,_⟩ | ⟨b,arr,rfl,_⟩⟩:=h
  · omega
  · exact ⟨b,rfl⟩
def fill {α:Type} (xs:List α) (d:α) (k:Nat):List α:=xs.take k ++ List.replicate (xs.length - k) d
theorem ZgP {α:Type} {xs:List α} {d:α} {k:Nat} (h:k≤xs.length):(fill xs d k).length=xs.length:=by
  rw [fill,List.length_append,List.length_take,List.length_replicate];omega
theorem ZfJ {α:Type} {xs:List α} {d:α} : fill xs d 0=List.replicate xs.length d:=by simp [fill]
theorem ZgQ {α:Type} {xs:List α} {d:α} {k:Nat} (h:xs.length≤k):fill xs d k=xs:=by
  rw [fill,List.take_of_length_le h,show xs.length - k=0 from by omega];simp
theorem ZfK {α:Type} {xs:List α} {d z:α} {k:Nat} (hz:xs[k]? = some z):(fill xs d k).set k z=fill xs d (k+1):=by
  have hk:=(List.getElem?_eq_some_iff.1 hz).1
  have e1:(xs.take k).length=k:=by rw [List.length_take];omega
  rw [fill,fill,List.set_append_right _ _ (by omega),e1,Nat.sub_self,List.take_add_one,hz,show xs.length - k=(xs.length - (k+1))+1 from by omega,List.replicate_succ]
  simp
theorem Zx.borrowL {P:PJ} {f:FuncId} {args:List Value} {B:Kn} {ls Ls:List Cells} {Post:Value→Kn→List Cells→Prop}
    (h:(∀p,p∈ls.flatten→(B.add ls.flatten).mem p.1=some p.2)→Zx P f args (B.add ls.flatten) Ls Post) :
    Zx P f args B (ls ++ Ls) (fun v B' Ls'=>∃B₂ Ls₂,Ls'=ls ++ Ls₂∧B'=B₂.minus ls.flatten∧(B.add ls.flatten).le B₂∧(∀p,p∈ls.flatten→(B.add ls.flatten).mem p.1=some p.2)∧(B.add ls.flatten).minus ls.flatten=B∧Post v B₂ Ls₂):=fun X kind c cs F hk hA=>by
  have key:=Zx.borrow (l:=ls.flatten) (Ls:=Ls) h X kind c cs F hk fun v B' Ls' hle ⟨B₂,Ls₂,h1,h2,h3,h4,h5,h6⟩=>by
    have:=hA v B' (ls ++ Ls₂) hle ⟨B₂,Ls₂,rfl,h2,h3,h4,h5,h6⟩
    subst h1
    rw [List.flatten_cons]
    rwa [List.flatten_append] at this
  rw [List.flatten_cons] at key
  rwa [List.flatten_append]
section
variable {P:PJ} {C:Cx P} {k:List Item} {n:Nat} {ops:Array Oper} {i:Nat} {S:Env} {D:List Deferred} {B BV:Kn} {L:List Cells} {Q:Exit→ZW}
variable {α:Type} {xs:List α} {l:Cells} {p:Option Addr} {cp:Nat} {T:TypeId} {w:Nat}
theorem Zmy {R:Rel α} {B':Kn} (hv:Zaa BV l p cp T w R xs) (hA:Zhv R) (hl:xs.length≤2000000) (hm :∀q,q∈l→B'.mem q.1=some q.2):SlK B' p cp w R xs:=⟨hv.rowsF hA hm,hv.cap,hl⟩
theorem Za3 {R:Rel α} {I:Kn→List Cells→Prop} {ℓ:List Nat} {K:ZW} (j:Nat) (hj:L[j]? = some l) (hv:Zaa BV l p cp T w R xs) (hA:Zhv R) (hl:xs.length≤2000000) (hI' :∀B',B.le B'→I B' (L.set j []))
    (h :∀B',B.le B'→SlK B' p cp w R xs→ZaU C k n ops I ℓ K S D B' (L.set j [])):ZaU C k n ops I ℓ K S D B L:=fun T ex pend π a1 a2 a3 a4 a5 a6 a7 a8 a9 hI hA'=>by
  obtain ⟨r,h1,h2⟩:=ZP C.F [] hj
  exact C.X.publish rfl h1 fun B' hle hm=>C.X.perm (by simpa using h2.symm) (h B' hle (Zmy hv hA hl hm) T ex pend π a1 a2 a3 a4 a5 a6 a7 a8 a9 (hI' B' hle) fun S' D' B'' L' T' hle' hq=>hA' S' D' B'' L' T' (hle.trans hle') hq)
theorem ZjW {R:ZdH α} {R':Rel α} {o:Oper} {K:ZW} (j:Nat) (hj:L[j]? = some l) (hv:Zbp l p cp T w R xs) (hR :∀{B:Kn} {row:List Value} {x:α} {ins:Cells},R row x ins→(∀q,q∈ins→B.mem q.1=some q.2)→R' B row x) (hM:Mono R') (hl:xs.length≤2000000)
    (h :∀B',B.le B'→SlK B' p cp w R' xs→opW P n ops i o K S D B' (L.set j [])):opW P n ops i o K S D B L:=fun C todo k T ho hn hT hA'=>by
  obtain ⟨r,h1,h2⟩:=ZP C.F [] hj
  exact C.X.publish rfl h1 fun B' hle hm=>C.X.perm (by simpa using h2.symm) (h B' hle (hv.known (fun _ _ _ a b=>hR a b) hM hm hl) C todo k T ho hn hT fun S' D' B'' L' T' hle' hq=>hA' S' D' B'' L' T' (hle.trans hle') hq)
theorem Zbv {R:ZdH α} {R':Rel α} {I:Kn→List Cells→Prop} {ℓ:List Nat} {K:ZW} (j:Nat) (hj:L[j]? = some l) (hv:Zbp l p cp T w R xs) (hR :∀{B:Kn} {row:List Value} {x:α} {ins:Cells},R row x ins→(∀q,q∈ins→B.mem q.1=some q.2)→R' B row x) (hM:Mono R') (hl:xs.length≤2000000) (hI' :∀B',B.le B'→I B' (L.set j []))
    (h :∀B',B.le B'→SlK B' p cp w R' xs→ZaU C k n ops I ℓ K S D B' (L.set j [])):ZaU C k n ops I ℓ K S D B L:=fun T ex pend π a1 a2 a3 a4 a5 a6 a7 a8 a9 hI hA'=>by
  obtain ⟨r,h1,h2⟩:=ZP C.F [] hj
  exact C.X.publish rfl h1 fun B' hle hm=>C.X.perm (by simpa using h2.symm) (h B' hle (hv.known (fun _ _ _ a b=>hR a b) hM hm hl) T ex pend π a1 a2 a3 a4 a5 a6 a7 a8 a9 (hI' B' hle) fun S' D' B'' L' T' hle' hq=>hA' S' D' B'' L' T' (hle.trans hle') hq)
end
end Go.BL
namespace Go.BL
open Go.ChangeShapes Go.WideShapes Go.ChangeAt Go.RowKit
set_option linter.unusedVariables false
theorem ZfC {α β:Type} {f:α→Option β} :∀{xs:List α} {ys:List β},xs.mapM f=some ys→ys.length=xs.length∧∀(i:Nat) (x:α),xs[i]? = some x→f x=ys[i]?
  | [],ys,h=>by
    simp only [List.mapM_nil,Option.pure_def,Option.some.injEq] at h
    subst h;simp
  | x :: xs,ys,h=>by
    simp only [List.mapM_cons,Option.bind_eq_bind,Option.pure_def,Option.bind_eq_some_iff,Option.some.injEq] at h
    obtain ⟨y,hy,zs,hz,rfl⟩:=h
    obtain ⟨h1,h2⟩:=ZfC hz
    refine ⟨by simp [h1],fun i z hi=>?_⟩
    cases i with
    | zero=>simp only [List.getElem?_cons_zero,Option.some.injEq] at hi;subst hi;simpa using hy
    | succ i=>simpa using h2 i z (by simpa using hi)
theorem ZiG {w:World} {a:Addr} {n:Nat} {cs:List Value} (h:w.cells? 0 a n=some cs):cs.length=n∧∀i,i<n→w.cell? (a.add i)=cs[i]?:=by
  unfold World.cells? at h
  rw [if_pos (Nat.zero_le _)] at h
  obtain ⟨h1,h2⟩:=ZfC h
  exact ⟨by simpa using h1,fun i hi=>h2 i i (by simp [hi])⟩
section
variable {H:Type} (enc:TypeId × Value→H) (P:Program) (W:World)
def ZbP (t:TypeId) (p:List Value→Prop):Prop:=∀(fuel:Nat) (cs:List Value) (d:DataW H) (ps:List MemPlace),DataW.trod enc P W 0 (fun _=>true) true fuel t cs=some (d,ps)→(∀m,m∈d.weights P t→m≤reachBytes)→p cs
def ZbE {α:Type} (t:TypeId) (R:Rel α):Prop:=ZbP enc P W t fun cs=>∃x,R (ZaT W) cs x
def ZcB {α:Type} (w:Nat) (R:Rel α):Rel (List α):=fun B row xs=>∃q cp,row=[.slice q xs.length cp]∧SlB B q cp w R xs
def Parts:List (List Value→Prop)→List Value→Prop
  | [],cs=>cs=[]
  | p :: ps,cs=>∃a b,cs=a ++ b∧p a∧Parts ps b
def Zcn (P:Program):List Field→Nat→Nat→Bool
  | [],off,n=>off == n
  | f :: fs,off,n=>f.offset == off && Zcn P fs (off+P.cellsOf f.type) n
end
section
variable {H:Type} {enc:TypeId × Value→H} {P:Program} {W:World}
theorem ZbP.mono {t:TypeId} {p p':List Value→Prop} (h:ZbP enc P W t p) (hp :∀cs,p cs→p' cs):ZbP enc P W t p':=fun fuel cs d ps ht hw=>hp cs (h fuel cs d ps ht hw)
theorem Zfy {t:TypeId} (ht:P.underlying t=some (.int .i64)):ZbE enc P W t Zb2:=fun fuel cs d ps h _=>by
  cases fuel with
  | zero=>simp [DataW.trod] at h
  | succ n=>
    unfold DataW.trod at h
    rw [ht] at h
    split at h <;> simp_all
    rename_i he
    subst he
    exact ⟨_,rfl⟩
theorem Zfx {t:TypeId} (ht:P.underlying t=some .string):ZbE enc P W t ZdM:=fun fuel cs d ps h hw=>by
  cases fuel with
  | zero=>simp [DataW.trod] at h
  | succ n=>
    unfold DataW.trod at h
    rw [ht] at h
    split at h <;> simp_all
    rename_i s
    obtain ⟨_,rfl,_⟩:=h
    have h1:=hw s.data.toList.length (by simp [DataW.weights])
    refine ⟨s.data.toList,rfl,?_⟩
    unfold reachBytes at h1
    omega
theorem Zi9 {fs:List Field} {ps:List (List Value→Prop)} {n off:Nat} (hf:Zcn P fs off n=true) {cs:List Value} (hl:cs.length=n) (hlen:fs.length=ps.length)
    (h :∀(i:Nat) (f:Field) (p:List Value→Prop),fs[i]? = some f→ps[i]? = some p→p ((cs.drop f.offset).take (P.cellsOf f.type))):Parts ps (cs.drop off):=by
  induction fs generalizing ps off with
  | nil=>
    simp only [Zcn,beq_iff_eq] at hf
    cases ps with
    | nil=>show cs.drop off=[];rw [List.drop_eq_nil_iff];omega
    | cons p ps=>simp at hlen
  | cons f fs ih=>
    simp only [Zcn,Bool.and_eq_true,beq_iff_eq] at hf
    cases ps with
    | nil=>simp at hlen
    | cons p ps=>
      refine ⟨(cs.drop off).take (P.cellsOf f.type),(cs.drop off).drop (P.cellsOf f.type),(List.take_append_drop _ _).symm,?_,?_⟩
      · have:=h 0 f p rfl rfl
        rwa [hf.1] at this
      · rw [List.drop_drop]
        exact ih hf.2 (by simpa using hlen) fun i f' p' h1 h2=>h (i+1) f' p' (by simpa using h1) (by simpa using h2)
theorem Zbq :∀{ts:List TypeId} {ds:List (DataW H)} {i:Nat} {t:TypeId} {d:DataW H},ts[i]? = some t→ds[i]? = some d→∀m,m∈d.weights P t→m∈DataW.weightsEach P ts ds
  | t :: ts,d :: ds,0,t',d',h1,h2,m,hm=>by
    simp only [List.getElem?_cons_zero,Option.some.injEq] at h1 h2
    subst h1;subst h2
    simp only [DataW.weightsEach,List.mem_append];exact .inl hm
  | t :: ts,d :: ds,i+1,t',d',h1,h2,m,hm=>by
    simp only [DataW.weightsEach,List.mem_append];exact .inr (Zbq (by simpa using h1) (by simpa using h2) m hm)
  | [],_,_,_,_,h1,_,_,_=>by simp at h1
  | _ :: _,[],_,_,_,_,h2,_,_=>by simp at h2
theorem Zcx {e:TypeId} :∀{ds:List (DataW H)} {i:Nat} {d:DataW H},ds[i]? = some d→∀m,m∈d.weights P e→m∈DataW.weightsAll P e ds
  | d :: ds,0,d',h2,m,hm=>by
    simp only [List.getElem?_cons_zero,Option.some.injEq] at h2
    subst h2
    simp only [DataW.weightsAll,List.mem_append];exact .inl hm
  | d :: ds,i+1,d',h2,m,hm=>by
    simp only [DataW.weightsAll,List.mem_append];exact .inr (Zcx (by simpa using h2) m hm)
  | [],_,_,h2,_,_=>by simp at h2
theorem Zfw {t:TypeId} {fs:Array Field} (ht:P.underlying t=some (.struct fs)) (ps:List (List Value→Prop)) (hf:Zcn P fs.toList 0 (P.cellsOf t)=true) (hlen:fs.toList.length=ps.length)
    (h :∀(i:Nat) (f:Field) (p:List Value→Prop),fs.toList[i]? = some f→ps[i]? = some p→ZbP enc P W f.type p):ZbP enc P W t (Parts ps):=fun fuel cs d pl htr hw=>by
  obtain ⟨xs,n,rfl,hx,hl,hxl,hel⟩:=DataW.trod_struct ht htr
  simp only [Prod.mk.injEq] at hx
  obtain ⟨rfl,_⟩:=hx
  have:=Zi9 (ps:=ps) hf hl hlen fun i f p h1 h2=>by
    have h3:=hel i f (by simpa using h1)
    have hi:i<xs.length:=by
      have:=(List.getElem?_eq_some_iff.1 h1).1
      simp only [Array.length_toList] at this
      omega
    rw [List.getElem?_eq_getElem hi] at h3
    rcases hxi:xs[i] with ⟨d,pl'⟩
    refine h i f p h1 h2 n _ d pl' (by rw [h3,hxi]) fun m hm=>hw m ?_
    simp only [DataW.weights,ht]
    exact Zbq (i:=i) (t:=f.type) (d:=d) (by simp [h1]) (by simp [List.getElem?_eq_getElem hi,hxi]) m hm
  simpa using this
theorem ZbY {α:Type} {t e:TypeId} {w:Nat} {R:Rel α} (ht:P.underlying t=some (.slice e)) (hc:P.cellsOf e=w) (hb:0<P.bytesOf e) (hw0:0<w) (h:ZbE enc P W e R):ZbE enc P W t (ZcB w R):=fun fuel cs d pl htr hw=>by
  rcases DataW.trod_slice ht htr with ⟨rfl,_⟩ | ⟨a,len,cap,elems,rest,n,rfl,rfl,hx,_,hl,hm,hlen,hel,_,_⟩
  · exact ⟨[],none,0,rfl,⟨fun i x hi=>by simp at hi,Nat.le_refl _,Nat.zero_le _⟩⟩
  · simp only [Prod.mk.injEq] at hx
    obtain ⟨rfl,_⟩:=hx
    have hlen2:len≤140737488355328:=by
      have:=hw ((elems.length+rest.length)*P.bytesOf e) (by simp [DataW.weights,ht])
      have h2:elems.length+rest.length≤(elems.length+rest.length)*P.bytesOf e:=Nat.le_mul_of_pos_right _ hb
      unfold reachBytes at this
      omega
    have each :∀i,i<len→∃x row,R (ZaT W) row x∧row.length=w∧∀j,j<w→W.cell? ((a.add (i*w)).add j)=row[j]?:=fun i hi=>by
      have h1:=hel i hi
      have hi':i<elems.length:=by omega
      rw [List.getElem?_eq_getElem hi'] at h1
      obtain ⟨row,hr1,hr2⟩:=Option.bind_eq_some_iff.1 h1
      rw [hc] at hr1
      obtain ⟨hr3,hr4⟩:=ZiG hr1
      rcases hxi:elems[i] with ⟨d,pl'⟩
      obtain ⟨x,hx⟩:=h n row d pl' (by rw [hr2,hxi]) fun m hm=>hw m (by
        simp only [DataW.weights,ht,List.mem_cons,List.mem_append]
        exact .inr (.inl (Zcx (i:=i) (d:=d) (by simp [List.getElem?_eq_getElem hi',hxi]) m hm)))
      exact ⟨x,row,hx,hr3,hr4⟩
    have hsp:0<len→a.spot=none:=fun h0=>by
      obtain ⟨x,row,_,hr,hj⟩:=each 0 h0
      have h1:=hj 0 hw0
      rw [List.getElem?_eq_getElem (by omega)] at h1
      have:=(ZfN h1).1
      simpa [Addr.add] using this
    refine ⟨(List.range len).attach.map fun i=>(each i.1 (List.mem_range.1 i.2)).choose,some a,cap,by simp,⟨fun i x hi=>?_,by simpa using hl,by simpa using hlen2⟩⟩
    have hi':i<len:=by
      have:=(List.getElem?_eq_some_iff.1 hi).1
      simpa using this
    have hxx:x=(each i hi').choose:=by
      simp [hi'] at hi
      exact hi.symm
    obtain ⟨row,hr1,hr2,hr3⟩:=(each i hi').choose_spec
    have hs:=hsp (by omega)
    refine ⟨a.block,a.off,row,?_,by rw [hxx];exact hr1,fun j u hj=>?_⟩
    · obtain ⟨b,o,s⟩:=a;simp only at hs;subst hs;rfl
    · have hjw:j<w:=by rw [← hr2];exact (List.getElem?_eq_some_iff.1 hj).1
      have h4:=hr3 j hjw
      rw [hj] at h4
      have:=ZfN h4
      have ea:(a.add (i*w)).add j=⟨a.block,a.off+i*w+j,none⟩:=by
        rw [Addr.add_off _ _ (by rw [Addr.add_off _ _ hs]),Addr.add_off _ _ hs]
      rwa [ea] at this
def ZjC (enc:TypeId × Value→H) (P:Program) (W:World):List Field→List (List Value→Prop)→Prop
  | [],[]=>True
  | f :: fs,p :: ps=>ZbP enc P W f.type p∧ZjC enc P W fs ps
  | _,_=>False
theorem Zfz :∀{fs:List Field} {ps:List (List Value→Prop)},ZjC enc P W fs ps→fs.length=ps.length
  | [],[],_=>rfl
  | _ :: _,_ :: _,h=>by simp only [List.length_cons,Zfz h.2]
  | [],_ :: _,h=>h.elim
  | _ :: _,[],h=>h.elim
theorem ZfA :∀{fs:List Field} {ps:List (List Value→Prop)},ZjC enc P W fs ps→∀(i:Nat) (f:Field) (p:List Value→Prop),fs[i]? = some f→ps[i]? = some p→ZbP enc P W f.type p
  | _ :: _,_ :: _,h,0,f,p,h1,h2=>by
    simp only [List.getElem?_cons_zero,Option.some.injEq] at h1 h2
    subst h1;subst h2;exact h.1
  | _ :: _,_ :: _,h,i+1,f,p,h1,h2=>ZfA h.2 i f p (by simpa using h1) (by simpa using h2)
  | [],_,_,i,f,p,h1,h2=>by simp at h1
  | _ :: _,[],h,_,_,_,_,_=>h.elim
theorem Zca {t:TypeId} {fs:Array Field} (ht:P.underlying t=some (.struct fs)) (ps:List (List Value→Prop)) (hf:Zcn P fs.toList 0 (P.cellsOf t)=true) (h:ZjC enc P W fs.toList ps):ZbP enc P W t (Parts ps):=
  Zfw ht ps hf (Zfz h) (ZfA h)
theorem ZdK {t:TypeId} {v:Value} {d:DataW H} {ps:List MemPlace} {p:List Value→Prop} (h:DataW.Trod enc P W 0 (fun _=>true) true t v d ps) (ho:ZbP enc P W t p) (hw :∀m,m∈d.weights P t→m≤reachBytes):p v.cells.toList:=by
  obtain ⟨n,hn⟩:=h;exact ho n _ _ _ hn hw
theorem weigh {ts:List TypeId} {ds:List (DataW H)} (h:(DataW.weightsEach P ts ds).all (·≤reachBytes)=true) {i:Nat} {t:TypeId} {d:DataW H} (h1:ts[i]? = some t) (h2:ds[i]? = some d) :∀m,m∈d.weights P t→m≤reachBytes:=fun m hm=>by
  have:=List.all_eq_true.1 h m (Zbq h1 h2 m hm)
  simpa using this
end
end Go.BL
namespace Go.BL
section
variable {P:PJ} {n:Nat} {ops:Array Oper} {i:Nat} {K:Zao} {S:Env} {D:List Deferred} {B:Kn} {L:List Cells}
variable {dst:Option Tmp} {ty:TypeId} {pos:String} {after:Array Edge} {g:Option (Nat × Bool)}
theorem Zhm {P:Program} {B:Kn} {L:Cells} {q:Addr} {cp:Nat} {b:Int} (hs:Za5 B L (some q) [.int .u8 b]) {Q:Value→Kn→Cells→Prop} (h:Q (str [UInt8.ofNat b.toNat]) B L):hb P (Conv.bytesToString (.slice (some q) 1 cp)) Q B L:=by
  simp only [Conv.bytesToString,Zj,loadCells]
  refine ZaN [.int .u8 b] 0 #[] (fun j v hj=>by simpa using hs j v hj) ?_
  have e:Q (Value.string (ByteArray.empty.push (UInt8.ofNat b.toNat))) B L:=h
  simpa [Zl,Zj] using e
theorem ZhE {s d e:TypeId} {x:Operand} {q:Addr} {cp:Nat} {b:Int} (hg:Zf ops S g=some true) (hd:Zo n dst=true) (hs:P.underlying s=some (.slice e)) (hd':P.underlying d=some .string) (he:P.underlying e=some (.int .u8))
    (hx:ev S x=some (.slice (some q) 1 cp)) (hc:Za5 B L.flatten (some q) [.int .u8 b]) (h:K (str [UInt8.ofNat b.toNat]) D B L):opX P n ops i ⟨dst,.convert s d x,ty,pos,after,g⟩ K S D B L:=
  ZA hg hd (fun ρ hρ Q F q'=>by
    simp only [execOp,convert,hρ x _ hx,Zj,Zk hs,Zk hd',Zk he]
    exact Zhm hc.app q') h
end
end Go.BL
namespace Go.BL
set_option linter.unusedVariables false
theorem All3.at {α:Type} {R:ZdH α} {rows:List (List Value)} {xs:List α} {s:Cells} (h:All3 R rows xs s) :∀{i:Nat} {x:α},xs[i]? = some x→∃row li lr,rows[i]? = some row∧R row x li∧s.Perm (li ++ lr)∧∀x' li',R row x' li'→∃s',All3 R rows (xs.set i x') s'∧s'.Perm (li' ++ lr):=by
  induction h with
  | nil=>intro i x hx;simp at hx
  | @cons row0 x0 ins0 rest rows xs h1 h2 ih=>
    intro i x hx
    cases i with
    | zero=>
      simp only [List.getElem?_cons_zero,Option.some.injEq] at hx
      subst hx
      exact ⟨row0,ins0,rest,rfl,h1,.refl _,fun x' li' hr=>⟨li' ++ rest,.cons hr h2,.refl _⟩⟩
    | succ i=>
      obtain ⟨row,li,lr,e1,e2,e3,e4⟩:=ih (by simpa using hx)
      refine ⟨row,li,ins0 ++ lr,by simpa using e1,e2,?_,fun x' li' hr=>?_⟩
      · exact (List.Perm.append_left ins0 e3).trans (by rw [← List.append_assoc,← List.append_assoc];exact List.Perm.append_right lr List.perm_append_comm)
      · obtain ⟨s',f1,f2⟩:=e4 x' li' hr
        exact ⟨ins0 ++ s',.cons h1 f1,(List.Perm.append_left ins0 f2).trans (by rw [← List.append_assoc,← List.append_assoc];exact List.Perm.append_right lr List.perm_append_comm)⟩
theorem Zbp.open1 {α:Type} {l:Cells} {p:Option Addr} {c:Nat} {T:TypeId} {w:Nat} {R:ZdH α} {xs:List α} (h:Zbp l p c T w R xs) {i:Nat} {x:α} (hx:xs[i]? = some x) :
∃b arr row li lr,p=some ⟨b,0,none⟩∧R row x li∧row.length=w∧l.Perm (li ++ (Z0 b arr T ++ lr))∧(∀(j:Nat) (u:Value),row[j]? = some u→arr[i*w+j]? = some u)∧
∀x' li',R row x' li'→Zbp (li' ++ (Z0 b arr T ++ lr)) p c T w R (xs.set i x'):=by
  obtain ⟨rows,blk,ins,h1,h2,h3,hvl⟩:=h
  have hlt:=(List.getElem?_eq_some_iff.1 hx).1
  obtain ⟨hl0,⟨_,h0,_,_⟩ | ⟨b,arr,rfl,ha,ht,rfl,hm⟩⟩:=hvl
  · omega
  · obtain ⟨row,li,lr,e1,e2,e3,e4⟩:=h1.at hx
    refine ⟨b,arr,row,li,lr,rfl,e2,h2 row (List.mem_of_getElem? e1),?_,fun j u hj=>?_,fun x' li' hr=>?_⟩
    · refine h3.trans ((List.Perm.append_left _ e3).trans ?_)
      rw [← List.append_assoc,← List.append_assoc];exact List.Perm.append_right lr List.perm_append_comm
    · have hu:=ZcR h2 e1 hj
      rw [← ht,List.getElem?_take] at hu
      split at hu
      · exact hu
      · cases hu
    · obtain ⟨s',f1,f2⟩:=e4 x' li' hr
      refine ⟨rows,Z0 b arr T,s',f1,h2,?_,by rw [List.length_set];exact hl0,.inr ⟨b,arr,rfl,ha,by rw [List.length_set];exact ht,rfl,by rw [List.length_set];exact hm⟩⟩
      refine List.Perm.trans ?_ (List.Perm.append_left _ f2.symm)
      rw [← List.append_assoc,← List.append_assoc];exact List.Perm.append_right lr List.perm_append_comm
section
variable {P:PJ} {n:Nat} {Q:Exit→ZW} {S:Env} {D:List Deferred} {B:Kn} {L:List Cells} {c:Code}
theorem ZkV {L':List Cells} (hp:L.flatten.Perm L'.flatten) (h:wpS P n c Q S D B L'):wpS P n c Q S D B L:=fun C k T hn hT hA=>by
  refine C.X.drop (r:=L'.flatten ++ C.F) (gl:=[]) ?_ (h C k T hn hT hA)
  rw [List.append_nil];exact hp.append_right C.F
theorem Zke {a b:Cells} (j m:Nat) (hj:L[j]? = some a) (hm:L[m]? = some b) (hne:j≠m) (h:wpS P n c Q S D B ((L.set j (b ++ a)).set m [])):wpS P n c Q S D B L:=by
  refine ZkV ?_ h
  obtain ⟨r,h1,h2⟩:=ZP [] (b ++ a) hj
  have hm':(L.set j (b ++ a))[m]? = some b:=by rw [List.getElem?_set_ne hne];exact hm
  obtain ⟨r2,h3,h4⟩:=ZP [] [] hm'
  rw [List.append_nil] at h1 h2 h3 h4
  rw [List.nil_append] at h4
  have h5:(b ++ (a ++ r)).Perm (b ++ r2):=by rw [← List.append_assoc];exact h2.symm.trans h3
  exact h1.trans (((List.perm_append_left_iff b).1 h5).trans h4.symm)
end
end Go.BL
namespace Go.BL
set_option linter.unusedVariables false
theorem All3.row {α:Type} {R:ZdH α} {rows:List (List Value)} {xs:List α} {s:Cells} (h:All3 R rows xs s) {z x:α} (f:List Value→List Value) (hf :∀row li,R row x li→R (f row) z li) :∀{k:Nat},xs[k]? = some x→∃row,rows[k]? = some row∧All3 R (rows.set k (f row)) (xs.set k z) s:=by
  induction h with
  | nil=>intro k hx;simp at hx
  | @cons row0 x0 ins0 rest rows xs h1 h2 ih=>
    intro k hx
    cases k with
    | zero=>
      simp only [List.getElem?_cons_zero,Option.some.injEq] at hx
      subst hx
      exact ⟨row0,rfl,.cons (hf _ _ h1) h2⟩
    | succ k=>
      obtain ⟨row,e1,e2⟩:=ih (k:=k) (by simpa using hx)
      exact ⟨row,by simpa using e1,.cons h1 e2⟩
theorem Zbp.cell {α:Type} {l:Cells} {p:Option Addr} {c:Nat} {T:TypeId} {w:Nat} {R:ZdH α} {xs:List α} (h:Zbp l p c T w R xs) {i:Nat} {x:α} (hx:xs[i]? = some x) {B:Kn} {L:List Cells} (j:Nat) (hj:L[j]? = some l) :
∃b row li lr,p=some ⟨b,0,none⟩∧R row x li∧row.length=w∧l.Perm (li ++ lr)∧(∀(m:Nat) (u:Value),row[m]? = some u→Zap B L.flatten ⟨b,i*w+m,none⟩ u)∧∀x' li',R row x' li'→Zbp (li' ++ lr) p c T w R (xs.set i x'):=by
  obtain ⟨b,arr,row,li,lr,e1,e2,e3,e4,e5,e6⟩:=h.open1 hx
  refine ⟨b,row,li,Z0 b arr T ++ lr,e1,e2,e3,e4,fun m u hm=>⟨rfl,arr.toArray,T,(0,0),.inr ?_,by simpa using e5 m u hm⟩,e6⟩
  obtain ⟨r,h1,h2⟩:=ZP [] [] hj
  rw [List.append_nil] at h1
  rw [h1.mem_iff]
  refine List.mem_append_left _ (e4.mem_iff.2 (List.mem_append_right _ (List.mem_append_left _ ?_)))
  exact List.mem_singleton.2 rfl
section
variable {P:PJ} {n:Nat} {ops:Array Oper} {i:Nat} {K:Zao} {S:Env} {D:List Deferred} {B:Kn} {L:List Cells}
variable {dst:Option Tmp} {ty:TypeId} {pos:String} {after:Array Edge} {g:Option (Nat × Bool)}
theorem Zhy {α:Type} {R:ZdH α} {xs:List α} {x0:α} (z:α) {t T:TypeId} {x y:Operand} {v:Value} {us:List Value} {sz k c b:Nat} (off:Nat) {l:Cells} {p:Option Addr} (j:Nat) (hj:L[j]? = some l) (hv:Zbp l p c T sz R xs) (hp:p=some ⟨b,0,Option.none⟩) (hx0:xs[k]? = some x0) (hg:Zf ops S g=some true) (hd:Zo n dst=true) (hsz:ZT P t=some us.length)
    (hx:ev S x=some (ptr ⟨b,k*sz+off,Option.none⟩)) (hy:ev S y=some v) (hvc:v.cells=us.toArray) (ho:us.all ZcJ=true) (hoff:off+us.length≤sz) (hr :∀row li,R row x0 li→R (ZM row off us) z li)
    (h :∀l',Zbp l' p c T sz R (xs.set k z)→K undef D B (L.set j l')):opX P n ops i ⟨dst,.store t x y,ty,pos,after,g⟩ K S D B L:=by
  subst hp
  obtain ⟨rows,blk,ins,h1,h2,h3,hl1,⟨hc,_⟩ | ⟨b',arr,e,ha,ht,rfl,hmc⟩⟩:=hv
  · cases hc
  · cases e
    have hk:=(List.getElem?_eq_some_iff.1 hx0).1
    obtain ⟨row,hrow,a1⟩:=h1.row (fun row=>ZM row off us) hr hx0
    have hw:row.length=sz:=h2 row (List.mem_of_getElem? hrow)
    have hsz1:(k+1)*sz≤xs.length*sz:=Nat.mul_le_mul_right sz hk
    have hcs:xs.length*sz≤c*sz:=Nat.mul_le_mul_right sz hmc
    rw [Nat.succ_mul] at hsz1
    have hb1:k*sz+off+us.length≤arr.length:=by omega
    refine Zh5 (L':=L.set j (Z0 b arr T ++ ins)) (K':=fun u D' B' L₁=>u=undef∧D'=D∧B'=B∧L₁=(L.set j (Z0 b arr T ++ ins)).set j (Z0 b (ZM arr (k*sz+off) us) T ++ ins)) ?_ ?_ ?_
    · obtain ⟨r,e1,e2⟩:=ZP [] (Z0 b arr T ++ ins) hj
      rw [List.append_nil] at e1 e2
      exact e1.trans ((h3.append_right r).trans e2.symm)
    · have hj':(L.set j (Z0 b arr T ++ ins))[j]? = some (Z0 b arr T ++ ins):=by
        rw [List.getElem?_set_self (List.getElem?_eq_some_iff.1 hj).1]
      exact ZV us j (ZM arr (k*sz+off) us) hg hd hsz hx hy hvc ho (T:=T) (r:=ins) hj' rfl (by rw [Nat.ble_eq];exact hb1) rfl ⟨rfl,rfl,rfl,rfl⟩
    · rintro u D' B' L₁ hle ⟨rfl,rfl,rfl,rfl⟩
      have hnew:Zbp (Z0 b (ZM arr (k*sz+off) us) T ++ ins) (some ⟨b,0,Option.none⟩) c T sz R (xs.set k z):=by
        have hsl:(ZM row off us).length=sz:=by rw [ZH];exact hw
        have hwide:wide sz (rows.set k (ZM row off us)):=fun r' hr'=>by
          rcases List.mem_or_eq_of_mem_set hr' with hr' | rfl
          · exact h2 r' hr'
          · exact hsl
        refine ⟨rows.set k (ZM row off us),_,ins,a1,hwide,.refl _,?_,.inr ⟨b,_,rfl,by rw [ZH];exact ha,?_,rfl,by rw [List.length_set];exact hmc⟩⟩
        · rw [Zbf hwide,List.length_set,List.length_set,h1.len]
        · rw [List.length_set]
          have e:=ZbJ (us:=us) (off:=off) h2 hrow hoff
          rw [ZbW _ _ _ _ (by omega) (by omega),ht,e]
      refine ⟨L.set j (Z0 b (ZM arr (k*sz+off) us) T ++ ins),[],?_,h _ hnew⟩
      rw [List.set_set,List.append_nil]
end
end Go.BL
namespace Go.BL
open Go.Conc (G)
set_option linter.unusedVariables false
section
variable {P:PJ} {n:Nat} {ops:Array Oper} {i:Nat} {K:Zao} {S:Env} {D:List Deferred} {B:Kn} {L:List Cells}
variable {dst:Option Tmp} {ty:TypeId} {pos:String} {after:Array Edge} {g:Option (Nat × Bool)}
theorem Z8.borrowL {f:FuncId} {args:List Value} {ls:List Cells} {v:Value} (h:(∀p,p∈ls.flatten→(B.add ls.flatten).mem p.1=some p.2)→Z8 P f args (B.add ls.flatten) v):Zx P f args B ls (fun v' B' Ls=>v'=v∧B'=B∧Ls=ls):=by
  have:=(Zx.borrowL (P:=P) (Ls:=[]) h).mono (Post':=fun v' B' Ls=>v'=v∧B'=B∧Ls=ls) fun v' B' Ls' _ ⟨B₂,Ls₂,a1,a2,_,_,a3,a4,a5,a6⟩=>by subst a5;subst a6;exact ⟨a4,a2.trans a3,by rw [a1,List.append_nil]⟩
  rwa [List.append_nil] at this
theorem ZJ {f:FuncId} {xs:List Operand} {vs:List Value} {ats:Array TypeId} {v:Value} {ls r:List Cells} (js:List Nat) (hp:ZaG L js=some (ls,r)) (hput:ZbL r js ls=L) (hn:ZdB js=true) (hg:Zf ops S g=some true) (hd:Zo n dst=true) (he:enters P f=true) (ha:evs S xs=some vs)
    (hc:Zx P f vs B ls (fun v' B' Ls=>v'=v∧B'=B∧Ls=ls)) (h:K v D B L):opX P n ops i ⟨dst,.call ⟨.value (.func f),xs.toArray,ats⟩,ty,pos,after,g⟩ K S D B L:=
  ZX js hp hn hg hd he ha hc fun v' B' Ls' hle ⟨h1,h2,h3⟩=>by subst h1;subst h2;subst h3;rw [hput];exact h
end
theorem Zx.borrowK {P:PJ} {B:Kn} {f:FuncId} {args:List Value} {Ls:List Cells} {Post:Value→Kn→List Cells→Prop} (k:Nat)
    (h:(∀p,p∈(Ls.take k).flatten→(B.add (Ls.take k).flatten).mem p.1=some p.2)→Zx P f args (B.add (Ls.take k).flatten) (Ls.drop k) Post) :
    Zx P f args B Ls (fun v B' Ls'=>∃B₂ Ls₂,Ls'=Ls.take k ++ Ls₂∧B'=B₂.minus (Ls.take k).flatten∧(B.add (Ls.take k).flatten).le B₂∧(∀p,p∈(Ls.take k).flatten→(B.add (Ls.take k).flatten).mem p.1=some p.2)∧(B.add (Ls.take k).flatten).minus (Ls.take k).flatten=B∧Post v B₂ Ls₂):=by
  have:=Zx.borrowL (P:=P) (ls:=Ls.take k) (Ls:=Ls.drop k) h
  rwa [List.take_append_drop] at this
theorem Zif {B:Kn} {ls:List Cells} {l:Cells} (hm :∀p,p∈ls.flatten→B.mem p.1=some p.2) (k:Nat) (hk:ls[k]? = some l) :∀q,q∈l→B.mem q.1=some q.2:=fun q hq=>hm q (List.mem_flatten.2 ⟨l,List.mem_of_getElem? hk,hq⟩)
theorem Zaa.lendK {α:Type} {B BV:Kn} {l:Cells} {ls:List Cells} {p:Option Addr} {c:Nat} {T:TypeId} {w:Nat} {R:Rel α} {xs:List α} (h:Zaa BV l p c T w R xs) (hR:Zhv R) (k:Nat) (hk:ls[k]? = some l) (hm :∀q,q∈ls.flatten→(B.add ls.flatten).mem q.1=some q.2) (hl:xs.length≤2000000):SlK (B.add ls.flatten) p c w R xs:=⟨h.rowsF hR (Zif hm k hk),h.cap,hl⟩
theorem Zbp.lendK {α:Type} {B:Kn} {l:Cells} {ls:List Cells} {p:Option Addr} {c:Nat} {T:TypeId} {w:Nat} {R:ZdH α} {R':Rel α} {xs:List α} (h:Zbp l p c T w R xs) (hR :∀{B:Kn} {row:List Value} {x:α} {ins:Cells},R row x ins→(∀q,q∈ins→B.mem q.1=some q.2)→R' B row x) (hM:Mono R') (k:Nat) (hk:ls[k]? = some l) (hm :∀q,q∈ls.flatten→(B.add ls.flatten).mem q.1=some q.2) (hl:xs.length≤2000000):SlK (B.add ls.flatten) p c w R' xs:=h.known (fun _ _ _ a b=>hR a b) hM (Zif hm k hk) hl
theorem Zlf {l a lr:Cells} (h:l.Perm (a ++ lr)):l.Perm (lr ++ ([a]:List Cells).flatten):=by
  simpa using h.trans List.perm_append_comm
end Go.BL
namespace Go.BL
open Go.Conc (G)
set_option linter.unusedVariables false
structure ErrsB (tE:TypeId) (gs:List Nat) (B:Kn) (a:Nat→Addr):Prop where
  row :∀k,k<4→Zb1 B (gs.getD k 0) 0 [.iface tE (.pointer (some (a k)))]
  cell :∀k,k<4→∃cs T,B.mem (a k).block=some (.cells cs T (0,0))
  ne :∀i j,i<4→j<4→i≠j→a i≠a j
theorem ErrsB.mono {tE:TypeId} {gs:List Nat} {B B':Kn} {a:Nat→Addr} (h:ErrsB tE gs B a) (hle:B.le B'):ErrsB tE gs B' a:=
  ⟨fun k hk=>(h.row k hk).mono hle,fun k hk=>let ⟨cs,T,e⟩:=h.cell k hk;⟨cs,T,hle _ _ e⟩,h.ne⟩
theorem ErrsB.perm {tE:TypeId} {gs:List Nat} {B:Kn} {a:Nat→Addr} (h:ErrsB tE gs B a) (p0 p1 p2 p3:Nat) (hp:(p0<4∧p1<4∧p2<4∧p3<4)∧p0≠p1∧p0≠p2∧p0≠p3∧p1≠p2∧p1≠p3∧p2≠p3) :
    ErrsB tE [gs.getD p0 0,gs.getD p1 0,gs.getD p2 0,gs.getD p3 0] B (fun k=>a (if k=0 then p0 else if k=1 then p1 else if k=2 then p2 else p3)):=by
  obtain ⟨⟨h0,h1,h2,h3⟩,e⟩:=hp
  refine ⟨fun k hk=>?_,fun k hk=>?_,fun i j hi hj hne=>?_⟩
  · match k,hk with
    | 0,_=>exact h.row p0 h0
    | 1,_=>exact h.row p1 h1
    | 2,_=>exact h.row p2 h2
    | 3,_=>exact h.row p3 h3
  · match k,hk with
    | 0,_=>exact h.cell p0 h0
    | 1,_=>exact h.cell p1 h1
    | 2,_=>exact h.cell p2 h2
    | 3,_=>exact h.cell p3 h3
  · refine h.ne _ _ ?_ ?_ ?_
    · split
      · omega
      · split
        · omega
        · split <;> omega
    · split
      · omega
      · split
        · omega
        · split <;> omega
    · intro he
      match i,j,hi,hj with
      | 0,0,_,_=>exact hne rfl
      | 0,1,_,_=>exact e.1 he
      | 0,2,_,_=>exact e.2.1 he
      | 0,3,_,_=>exact e.2.2.1 he
      | 1,0,_,_=>exact e.1 he.symm
      | 1,1,_,_=>exact hne rfl
      | 1,2,_,_=>exact e.2.2.2.1 he
      | 1,3,_,_=>exact e.2.2.2.2.1 he
      | 2,0,_,_=>exact e.2.1 he.symm
      | 2,1,_,_=>exact e.2.2.2.1 he.symm
      | 2,2,_,_=>exact hne rfl
      | 2,3,_,_=>exact e.2.2.2.2.2 he
      | 3,0,_,_=>exact e.2.2.1 he.symm
      | 3,1,_,_=>exact e.2.2.2.2.1 he.symm
      | 3,2,_,_=>exact e.2.2.2.2.2 he.symm
      | 3,3,_,_=>exact hne rfl
section
variable {P:Program}
end
section
variable {P:PJ} {n:Nat} {ops:Array Oper} {i:Nat} {K:Zao} {S:Env} {D:List Deferred} {B:Kn} {L:List Cells}
variable {dst:Option Tmp} {ty:TypeId} {pos:String} {after:Array Edge} {g:Option (Nat × Bool)}
end
end Go.BL
namespace Go.BL
open Go.ChangeShapes Go.WideShapes Go.ChangeAt Go.RowKit Go.Conc
set_option linter.unusedVariables false
section
variable {H:Type} {enc:TypeId × Value→H} {P:Program}
end
end Go.BL
namespace Go.BL
open Go.Conc (G)
set_option linter.unusedVariables false
section
variable {P:PJ} {n:Nat} {ops:Array Oper} {i:Nat} {K:Zao} {S:Env} {D:List Deferred} {B:Kn} {L:List Cells}
variable {dst:Option Tmp} {ty:TypeId} {pos:String} {after:Array Edge} {g:Option (Nat × Bool)}
theorem All3.turn {α:Type} {R:ZdH α} {rows:List (List Value)} {xs:List α} {s:Cells} (h:All3 R rows xs s) {z x:α} {ex:Cells} (f:List Value→List Value) (hf :∀row li,R row x li→∃li' gl,R (f row) z li'∧(li ++ ex).Perm (li' ++ gl)) :∀{k:Nat},xs[k]? = some x→∃row s' gl,rows[k]? = some row∧All3 R (rows.set k (f row)) (xs.set k z) s'∧(s ++ ex).Perm (s' ++ gl):=by
  induction h with
  | nil=>intro k hx;simp at hx
  | @cons row0 x0 ins0 rest rows xs h1 h2 ih=>
    intro k hx
    cases k with
    | zero=>
      simp only [List.getElem?_cons_zero,Option.some.injEq] at hx
      subst hx
      obtain ⟨li',gl,e1,e2⟩:=hf _ _ h1
      refine ⟨row0,li' ++ rest,gl,rfl,.cons e1 h2,?_⟩
      have e3:(ins0 ++ rest ++ ex).Perm ((ins0 ++ ex) ++ rest):=by
        rw [List.append_assoc,List.append_assoc];exact List.Perm.append_left _ List.perm_append_comm
      refine e3.trans ((e2.append_right rest).trans ?_)
      rw [List.append_assoc,List.append_assoc];exact List.Perm.append_left _ List.perm_append_comm
    | succ k=>
      obtain ⟨row,s',gl,e1,e2,e3⟩:=ih (k:=k) (by simpa using hx)
      refine ⟨row,ins0 ++ s',gl,by simpa using e1,.cons h1 e2,?_⟩
      rw [List.append_assoc,List.append_assoc]
      exact List.Perm.append_left ins0 e3
end
theorem Zaa.lendR {α:Type} {B:Kn} {l:Cells} {ls:List Cells} {p:Option Addr} {c:Nat} {T:TypeId} {w:Nat} {R:Rel α} {xs:List α} (h:Zaa B l p c T w R xs) (hR:Mono R) (k:Nat) (hk:ls[k]? = some l) (hm :∀q,q∈ls.flatten→(B.add ls.flatten).mem q.1=some q.2) (hl:xs.length≤2000000):SlK (B.add ls.flatten) p c w R xs:=⟨h.rows hR (Kn.le_add B _) (Zif hm k hk),h.cap,hl⟩
end Go.BL
namespace Go.BL
open Go.Conc (G)
set_option linter.unusedVariables false
@[reducible] def Zf8 (x:DMail) (v:Value):List Value:=[.int .i64 x.uid,.int .i64 x.flags,str x.text,v]
def Zew (Tn:TypeId):Value→List DMail→Cells→Prop
  | v,[],s=>v = .pointer none∧s=[]
  | v,x :: xs,s=>∃b nx rest,v=ptr ⟨b,0,none⟩∧s.Perm (Z0 b (Zf8 x nx) Tn ++ rest)∧x.text.length≤2000000∧Zew Tn nx xs rest
theorem Zew.ptr {Tn:TypeId} {v:Value} {xs:List DMail} {s:Cells} (h:Zew Tn v xs s) :∃p,v = .pointer p:=by
  cases xs with
  | nil=>exact ⟨none,h.1⟩
  | cons x xs=>obtain ⟨b,nx,rest,rfl,_⟩:=h;exact ⟨_,rfl⟩
theorem Zew.more {Tn:TypeId} {p:Option Addr} {xs:List DMail} {s:Cells} (h:Zew Tn (.pointer p) xs s) (hp:p.isNone=false) :∃y ys b np rest,p=some ⟨b,0,none⟩∧xs=y :: ys∧s.Perm (Z0 b (Zf8 y (.pointer np)) Tn ++ [rest].flatten)∧y.text.length≤2000000∧Zew Tn (.pointer np) ys rest:=by
  cases xs with
  | nil=>obtain ⟨h1,_⟩:=h;cases h1;cases hp
  | cons x xs=>
    obtain ⟨b,nx,rest,h1,h2,h3,h4⟩:=h
    obtain ⟨np,rfl⟩:=h4.ptr
    cases h1
    exact ⟨x,xs,b,np,rest,rfl,rfl,by simpa using h2,h3,h4⟩
theorem Zew.done {Tn:TypeId} {p:Option Addr} {xs:List DMail} {s:Cells} (h:Zew Tn (.pointer p) xs s) (hp:p.isNone=true):xs=[]:=by
  cases xs with
  | nil=>rfl
  | cons x xs=>obtain ⟨b,nx,rest,h1,_⟩:=h;cases h1;cases hp
def Zhu (Tn:TypeId) (v0:Value) (bl:Nat) (x:DMail) (rest:Cells) (pre:List DMail):Prop:=
∀v xs s,Zew Tn v xs s→∃s0,Zew Tn v0 (pre ++ xs) s0∧(Z0 bl (Zf8 x v) Tn ++ (rest ++ s)).Perm s0
theorem Zhu.init {Tn:TypeId} {b:Nat} {x:DMail} (hx:x.text.length≤2000000):Zhu Tn (Go.BL.ptr ⟨b,0,none⟩) b x [] [x]:=fun v xs s h=>
  ⟨Z0 b (Zf8 x v) Tn ++ s,⟨b,v,s,rfl,.refl _,hx,h⟩,by simp⟩
theorem Zhu.step {Tn:TypeId} {v0:Value} {bl b:Nat} {x y:DMail} {rest:Cells} {pre:List DMail} (h:Zhu Tn v0 bl x rest pre) (hy:y.text.length≤2000000) :
    Zhu Tn v0 b y (rest ++ Z0 bl (Zf8 x (Go.BL.ptr ⟨b,0,none⟩)) Tn) (pre ++ [y]):=fun v xs s hs=>by
  obtain ⟨s0,h1,h2⟩:=h (Go.BL.ptr ⟨b,0,none⟩) (y :: xs) (Z0 b (Zf8 y v) Tn ++ s) ⟨b,v,s,rfl,.refl _,hy,hs⟩
  refine ⟨s0,by simpa using h1,?_⟩
  refine List.Perm.trans ?_ h2
  exact Ze0 fun f g h0 ha hc=>by simp only [ha];omega
def MLst (TL Tn:TypeId) (b:Nat) (xs:List DMail) (s:Cells):Prop:=
  (xs=[]∧s.Perm (Z0 b [.pointer none,.pointer none,.int .i64 0] TL))∨
∃v0 bl x rest,s.Perm (Z0 b [v0,ptr ⟨bl,0,none⟩,.int .i64 xs.length] TL ++ [Z0 bl (Zf8 x (.pointer none)) Tn,rest].flatten)∧Zhu Tn v0 bl x rest xs
theorem MLst.nil {TL Tn:TypeId} {b:Nat} : MLst TL Tn b [] (Z0 b [.pointer none,.pointer none,.int .i64 0] TL):=.inl ⟨rfl,.refl _⟩
end Go.BL
namespace Go.BL
section
variable {P:PJ} {n:Nat} {ops:Array Oper} {i:Nat} {K:Zao} {S:Env} {D:List Deferred} {B:Kn} {L:List Cells}
variable {dst:Option Tmp} {ty:TypeId} {pos:String} {after:Array Edge} {g:Option (Nat × Bool)}
end
end Go.BL
namespace Go.BL
section
variable {P:PJ} {n:Nat} {ops:Array Oper} {i:Nat} {K:Zao} {S:Env} {D:List Deferred} {B:Kn} {L:List Cells}
variable {dst:Option Tmp} {ty:TypeId} {pos:String} {after:Array Edge} {g:Option (Nat × Bool)}
variable {α:Type} {R:Rel α} {xs:List α}
theorem Za5.own {B:Kn} {L:List Cells} {l:Cells} {p:Option Addr} {m c sz:Nat} {T:TypeId} {vs:List Value} (h:ZeS l p m c T sz vs) (j:Nat) (hj:L[j]? = some l):Za5 B L.flatten p vs:=by
  obtain ⟨h1,⟨rfl,rfl,rfl,rfl⟩ | ⟨b,arr,rfl,h2,h3,rfl,h4⟩⟩:=h
  · exact List.eq_nil_of_length_eq_zero (by simpa using h1)
  · intro k v hk
    have hv':arr[k]? = some v:=by
      rw [← h3,List.getElem?_take] at hk
      split at hk
      · exact hk
      · cases hk
    exact Za5.box (B:=B) j hj k v hv'
end
end Go.BL
namespace Go.BL
theorem ZF {P:PJ} {n:Nat} {Q:Exit→ZW} {S:Env} {D:List Deferred} {B:Kn} {L:List Cells} {c:Code} (L':List Cells) (hl:L=L') (h:wpS P n c Q S D B L'):wpS P n c Q S D B L:=by subst hl;exact h
theorem sQ:(∀(p:Prop) [Decidable p],(decide p=true)=p)∧(∀(p:Prop) [Decidable p],(decide p=false) = ¬p)∧(∀b:Bool,((!b)=true)=(b=false))∧(∀b:Bool,((!b)=false)=(b=true))∧(∀(p:Prop) [Decidable p],(decide (¬p)) = !decide p)∧(∀(p:Prop) [Decidable p],(¬¬p)=p)∧(∀a b:Int,(¬a<b)=(b≤a))∧(∀a b:Int,(¬a≤b)=(b<a)):=
  ⟨fun p _=>by simp,fun p _=>by simp,by simp,by simp,fun p _=>by simp,fun p _=>by simp,by simp,by simp⟩
end Go.BL
namespace Go.BL
section
variable {P:PJ} {n:Nat} {ops:Array Oper} {i:Nat} {K:Zao} {S:Env} {D:List Deferred} {B:Kn} {L:List Cells}
variable {dst:Option Tmp} {ty:TypeId} {pos:String} {after:Array Edge} {g:Option (Nat × Bool)}
section
variable {t u:TypeId} {x y:Operand} {a b r:Int}
end
end
end Go.BL
namespace Go.BL
theorem om {p:Prop} (h:p:=by first | omega | (simp;done) | (simp;omega)):p:=h
theorem om2 {p:Prop} (h:p:=by first | assumption | omega | (simp;done) | (simp;omega)):p:=h
theorem oz {p:Prop} (h:p:=by omega):p:=h
theorem kr {p:Prop} (h:p:=by kernel_rfl):p:=h
theorem so {p:Prop} (h:p:=by simp only [];omega):p:=h
theorem so2 {p:Prop} (h:p:=by first | omega | (simp only [];omega)):p:=h
theorem oa {p:Prop} (h:p:=by first | assumption | omega):p:=h
theorem oy {p:Prop} (h:p:=by assumption):p:=h
theorem om3 {p:Prop} (h:p:=by first | omega | decide | (simp;done) | (simp;omega)):p:=h
theorem t1 {α0:Sort _} {a0:α0} : a0=a0∧True:=⟨rfl,trivial⟩
theorem t2 {α0 α1:Sort _} {a0:α0} {a1:α1} : a0=a0∧a1=a1∧True:=⟨rfl,rfl,trivial⟩
theorem t3 {α0 α1 α2:Sort _} {a0:α0} {a1:α1} {a2:α2} : a0=a0∧a1=a1∧a2=a2∧True:=⟨rfl,rfl,rfl,trivial⟩
theorem t4 {α0 α1 α2 α3:Sort _} {a0:α0} {a1:α1} {a2:α2} {a3:α3} : a0=a0∧a1=a1∧a2=a2∧a3=a3∧True:=⟨rfl,rfl,rfl,rfl,trivial⟩
theorem t5 {α0 α1 α2 α3 α4:Sort _} {a0:α0} {a1:α1} {a2:α2} {a3:α3} {a4:α4} : a0=a0∧a1=a1∧a2=a2∧a3=a3∧a4=a4∧True:=⟨rfl,rfl,rfl,rfl,rfl,trivial⟩
theorem t6 {α0 α1 α2 α3 α4 α5:Sort _} {a0:α0} {a1:α1} {a2:α2} {a3:α3} {a4:α4} {a5:α5} : a0=a0∧a1=a1∧a2=a2∧a3=a3∧a4=a4∧a5=a5∧True:=⟨rfl,rfl,rfl,rfl,rfl,rfl,trivial⟩
theorem t7 {α0 α1 α2 α3 α4 α5 α6:Sort _} {a0:α0} {a1:α1} {a2:α2} {a3:α3} {a4:α4} {a5:α5} {a6:α6} : a0=a0∧a1=a1∧a2=a2∧a3=a3∧a4=a4∧a5=a5∧a6=a6∧True:=⟨rfl,rfl,rfl,rfl,rfl,rfl,rfl,trivial⟩
theorem t10 {α0 α1 α2 α3 α4 α5 α6 α7 α8 α9:Sort _} {a0:α0} {a1:α1} {a2:α2} {a3:α3} {a4:α4} {a5:α5} {a6:α6} {a7:α7} {a8:α8} {a9:α9} : a0=a0∧a1=a1∧a2=a2∧a3=a3∧a4=a4∧a5=a5∧a6=a6∧a7=a7∧a8=a8∧a9=a9∧True:=⟨rfl,rfl,rfl,rfl,rfl,rfl,rfl,rfl,rfl,rfl,trivial⟩
theorem t11 {α0 α1 α2 α3 α4 α5 α6 α7 α8 α9 α10:Sort _} {a0:α0} {a1:α1} {a2:α2} {a3:α3} {a4:α4} {a5:α5} {a6:α6} {a7:α7} {a8:α8} {a9:α9} {a10:α10} : a0=a0∧a1=a1∧a2=a2∧a3=a3∧a4=a4∧a5=a5∧a6=a6∧a7=a7∧a8=a8∧a9=a9∧a10=a10∧True:=⟨rfl,rfl,rfl,rfl,rfl,rfl,rfl,rfl,rfl,rfl,rfl,trivial⟩
section
variable {P:PJ} {n:Nat} {ops:Array Oper} {i:Nat} {K:ZW} {S:Env} {D:List Deferred} {B:Kn} {L:List Cells}
variable {dst:Option Tmp} {ty:TypeId} {pos:String} {after:Array Edge} {g:Option (Nat × Bool)} {t u:TypeId} {x y:Operand}
theorem xM {x:Operand} {v:Value} (hg:Zf ops S g=some true:=by exact rfl) (hd:Zo n dst=true:=by exact rfl) (hx:ev S x=some v:=by exact rfl) (h:K (ZaY S dst v) D B L):opW P n ops i ⟨dst,.move x,ty,pos,after,g⟩ K S D B L:=Zh (ZjN hg hd hx h)
theorem xA {x:Operand} {v:Value} (hg:Zf ops S g=some true:=by exact rfl) (hd:Zo n dst=true:=by exact rfl) (hx:ev S x=some v:=by exact rfl) (h:K (ZaY S dst v) D B L):opW P n ops i ⟨dst,.assign x,ty,pos,after,g⟩ K S D B L:=Zh (Zgs hg hd hx h)
theorem xP  {dst:Option Tmp} {op:Op} {t:TypeId} {pos:String} {after:Array Edge} {g:Option (Nat × Bool)}   (hg:Zf ops S g=some false:=by exact rfl) (hd:Zo n dst=true:=by exact rfl) (h:K (ZaY S dst undef) D B L):opW P n ops i ⟨dst,op,t,pos,after,g⟩ K S D B L:=Zh (ZjL  hg hd h)
theorem xT  {c:Operand} {a:Operand} {b:Operand} {v:Value}   (hg:Zf ops S g=some true:=by exact rfl) (hd:Zo n dst=true:=by exact rfl) (hc:ev S c=some (.bool true):=by exact rfl) (hx:ev S a=some v:=by exact rfl) (h:K (ZaY S dst v) D B L):opW P n ops i ⟨dst,.pick c a b,ty,pos,after,g⟩ K S D B L:=Zh (ZhB  hg hd hc hx h)
theorem xF  {c:Operand} {a:Operand} {b:Operand} {v:Value}   (hg:Zf ops S g=some true:=by exact rfl) (hd:Zo n dst=true:=by exact rfl) (hc:ev S c=some (.bool false):=by exact rfl) (hx:ev S b=some v:=by exact rfl) (h:K (ZaY S dst v) D B L):opW P n ops i ⟨dst,.pick c a b,ty,pos,after,g⟩ K S D B L:=Zh (ZhC  hg hd hc hx h)
theorem xE  {x:Operand} {ix:Nat} {vs:List Value} {v:Value}   (hg:Zf ops S g=some true:=by exact rfl) (hd:Zo n dst=true:=by exact rfl) (hx:ev S x=some (.tuple vs.toArray):=by exact rfl) (hi:vs[ix]? = some v:=by exact rfl) (h:K (ZaY S dst v) D B L):opW P n ops i ⟨dst,.extract x ix,ty,pos,after,g⟩ K S D B L:=Zh (Zfl  hg hd hx hi h)
theorem xN  {x:Operand} {b:Bool} {t:TypeId}   (hg:Zf ops S g=some true:=by exact rfl) (hd:Zo n dst=true:=by exact rfl) (hx:ev S x=some (.bool b):=by exact rfl) (h:K (ZaY S dst (.bool (!b))) D B L):opW P n ops i ⟨dst,.unOp .not t x,ty,pos,after,g⟩ K S D B L:=Zh (ZkW  hg hd hx h)
theorem xW  {s:TypeId} {x:Operand} {fi:Nat} {off:Nat} {a:Addr}  (hf:ZU P s fi=some off) (hg:Zf ops S g=some true:=by exact rfl) (hd:Zo n dst=true:=by exact rfl) (hx:ev S x=some (ptr a):=by exact rfl) (h:K (ZaY S dst (ptr (a.add off))) D B L):opW P n ops i ⟨dst,.fieldAddr s x fi,ty,pos,after,g⟩ K S D B L:=Zh (ZdT  hg hd hf hx h)
theorem xD  {k:IntKind} {a b r:Int}   (hg:Zf ops S g=some true:=by exact rfl) (hd:Zo n dst=true:=by exact rfl) (hx:ev S x=some (.int k a):=by exact rfl) (hy:ev S y=some (.int k b):=by exact rfl) (hr:k.wrap (a+b)=r:=by first | exact Zcs (by first | omega | (simp;done) | (simp;omega)) (by first | omega | (simp;done) | (simp;omega)) | exact rfl) (h:K (ZaY S dst (.int k r)) D B L):opW P n ops i ⟨dst,.binOp .add t x y u,ty,pos,after,g⟩ K S D B L:=Zh (ZhF  hg hd hx hy hr h)
theorem xU  {k:IntKind} {a b r:Int}   (hg:Zf ops S g=some true:=by exact rfl) (hd:Zo n dst=true:=by exact rfl) (hx:ev S x=some (.int k a):=by exact rfl) (hy:ev S y=some (.int k b):=by exact rfl) (hr:k.wrap (a - b)=r:=by first | exact Zcs (by first | omega | (simp;done) | (simp;omega)) (by first | omega | (simp;done) | (simp;omega)) | exact rfl) (h:K (ZaY S dst (.int k r)) D B L):opW P n ops i ⟨dst,.binOp .sub t x y u,ty,pos,after,g⟩ K S D B L:=Zh (Zg0  hg hd hx hy hr h)
theorem ZO  {k:IntKind} {a b:Int}   (hg:Zf ops S g=some true:=by exact rfl) (hd:Zo n dst=true:=by exact rfl) (hx:ev S x=some (.int k a):=by exact rfl) (hy:ev S y=some (.int k b):=by exact rfl) (h:K (ZaY S dst (.bool (decide (a<b)))) D B L):opW P n ops i ⟨dst,.binOp .lss t x y u,ty,pos,after,g⟩ K S D B L:=Zh (ZkY  hg hd hx hy h)
theorem Zdl  {k:IntKind} {a b:Int}   (hg:Zf ops S g=some true:=by exact rfl) (hd:Zo n dst=true:=by exact rfl) (hx:ev S x=some (.int k a):=by exact rfl) (hy:ev S y=some (.int k b):=by exact rfl) (h:K (ZaY S dst (.bool (decide (a≤b)))) D B L):opW P n ops i ⟨dst,.binOp .leq t x y u,ty,pos,after,g⟩ K S D B L:=Zh (ZkZ  hg hd hx hy h)
theorem Zcr  {k:IntKind} {a b:Int}   (hg:Zf ops S g=some true:=by exact rfl) (hd:Zo n dst=true:=by exact rfl) (hx:ev S x=some (.int k a):=by exact rfl) (hy:ev S y=some (.int k b):=by exact rfl) (h:K (ZaY S dst (.bool (decide (b<a)))) D B L):opW P n ops i ⟨dst,.binOp .gtr t x y u,ty,pos,after,g⟩ K S D B L:=Zh (ZlK  hg hd hx hy h)
theorem ZdN  {k:IntKind} {a b:Int}   (hg:Zf ops S g=some true:=by exact rfl) (hd:Zo n dst=true:=by exact rfl) (hx:ev S x=some (.int k a):=by exact rfl) (hy:ev S y=some (.int k b):=by exact rfl) (h:K (ZaY S dst (.bool (decide (b≤a)))) D B L):opW P n ops i ⟨dst,.binOp .geq t x y u,ty,pos,after,g⟩ K S D B L:=Zh (Zk2  hg hd hx hy h)
theorem Zfi  {k:IntKind} {a b:Int}   (hg:Zf ops S g=some true:=by exact rfl) (hd:Zo n dst=true:=by exact rfl) (hx:ev S x=some (.int k a):=by exact rfl) (hy:ev S y=some (.int k b):=by exact rfl) (h:K (ZaY S dst (.bool (decide (a=b)))) D B L):opW P n ops i ⟨dst,.binOp .eql t x y u,ty,pos,after,g⟩ K S D B L:=Zh (ZjQ  hg hd hx hy h)
theorem Zaj  {k:IntKind} {a b:Int}   (hg:Zf ops S g=some true:=by exact rfl) (hd:Zo n dst=true:=by exact rfl) (hx:ev S x=some (.int k a):=by exact rfl) (hy:ev S y=some (.int k b):=by exact rfl) (h:K (ZaY S dst (.bool (decide (a≠b)))) D B L):opW P n ops i ⟨dst,.binOp .neq t x y u,ty,pos,after,g⟩ K S D B L:=Zh (ZkX  hg hd hx hy h)
theorem ZjI  {a b:List UInt8}   (hg:Zf ops S g=some true:=by exact rfl) (hd:Zo n dst=true:=by exact rfl) (hx:ev S x=some (str a):=by exact rfl) (hy:ev S y=some (str b):=by exact rfl) (h:K (ZaY S dst (.bool (decide (a=b)))) D B L):opW P n ops i ⟨dst,.binOp .eql t x y u,ty,pos,after,g⟩ K S D B L:=Zh (Zk3  hg hd hx hy h)
theorem Zdt  {a b:List UInt8}   (hg:Zf ops S g=some true:=by exact rfl) (hd:Zo n dst=true:=by exact rfl) (hx:ev S x=some (str a):=by exact rfl) (hy:ev S y=some (str b):=by exact rfl) (h:K (ZaY S dst (.bool (decide (a≠b)))) D B L):opW P n ops i ⟨dst,.binOp .neq t x y u,ty,pos,after,g⟩ K S D B L:=Zh (ZjM  hg hd hx hy h)
theorem xV  {x:Operand} {t:TypeId} {e:TypeId} {p:Option Addr} {len:Nat} {cap:Nat}  (hu:P.underlying t=some (.slice e)) (hg:Zf ops S g=some true:=by exact rfl) (hd:Zo n dst=true:=by exact rfl) (hx:ev S x=some (.slice p len cap):=by exact rfl) (h:K (ZaY S dst (.int .i64 len)) D B L):opW P n ops i ⟨dst,.call ⟨.builtin .len,#[x],#[t]⟩,ty,pos,after,g⟩ K S D B L:=Zh (Zk0  hg hd hu hx h)
theorem xVs  {x:Operand} {t:TypeId} {l:List UInt8}  (hu:P.underlying t=some .string) (hg:Zf ops S g=some true:=by exact rfl) (hd:Zo n dst=true:=by exact rfl) (hx:ev S x=some (str l):=by exact rfl) (h:K (ZaY S dst (.int .i64 l.length)) D B L):opW P n ops i ⟨dst,.call ⟨.builtin .len,#[x],#[t]⟩,ty,pos,after,g⟩ K S D B L:=Zh (ZjP  hg hd hu hx h)
theorem xNc  {x:Operand} {a:Addr}   (hg:Zf ops S g=some true:=by exact rfl) (hd:Zo n dst=true:=by exact rfl) (hx:ev S x=some (.pointer (some a)):=by exact rfl) (h:K (ZaY S dst (.pointer (some a))) D B L):opW P n ops i ⟨dst,.nilCheck x,ty,pos,after,g⟩ K S D B L:=Zh (Zex  hg hd hx h)
theorem x1  {t:TypeId} {x:Operand} {a:Addr} {v:Value} {l:List Value} {T:TypeId} {fr:Nat × Nat} {r:Cells}  (hl:lk P t=some none) (j:Nat) (hg:Zf ops S g=some true:=by exact rfl) (hd:Zo n dst=true:=by exact rfl) (hx:ev S x=some (ptr a):=by exact rfl) (hj:L[j]? = some ((a.block,.cells l.toArray T fr) :: r):=by exact rfl) (hs:a.spot=none:=by exact rfl) (hv:l[a.off]? = some v:=by exact rfl) (h:K (ZaY S dst v) D B L):opW P n ops i ⟨dst,.load t x,ty,pos,after,g⟩ K S D B L:=Zh (ZG  hg hd hl hx (atL j hj hs hv) h)
theorem xL  {t:TypeId} {x:Operand} {a:Addr} {l:List Value} {T:TypeId} {fr:Nat × Nat} {r:Cells}  (vs:List Value) (hl:lk P t=some (some vs.length)) (j:Nat) (hg:Zf ops S g=some true:=by exact rfl) (hd:Zo n dst=true:=by exact rfl) (hx:ev S x=some (ptr a):=by exact rfl) (hj:L[j]? = some ((a.block,.cells l.toArray T fr) :: r):=by exact rfl) (hs:a.spot=none:=by exact rfl) (hv:(l.drop a.off).take vs.length=vs:=by exact rfl) (h:K (ZaY S dst (.agg vs.toArray)) D B L):opW P n ops i ⟨dst,.load t x,ty,pos,after,g⟩ K S D B L:=Zh (ZN  vs hg hd hl hx (Za4 j hj hs hv) h)
theorem y1  {t:TypeId} {x:Operand} {a:Addr} {v:Value} {b o:Nat} {row:List Value}  (hl:lk P t=some none) (hc:Zb1 B b o row) (off:Nat) (hg:Zf ops S g=some true:=by exact rfl) (hd:Zo n dst=true:=by exact rfl) (hx:ev S x=some (ptr a):=by exact rfl) (ha:a=⟨b,o+off,none⟩:=by exact rfl) (hv:row[off]? = some v:=by exact rfl) (h:K (ZaY S dst v) D B L):opW P n ops i ⟨dst,.load t x,ty,pos,after,g⟩ K S D B L:=Zh (ZG  hg hd hl hx (by subst ha;exact hc _ off _ hv) h)
theorem yL  {t:TypeId} {x:Operand} {a:Addr} {b o:Nat} {row:List Value}  (vs:List Value) (hl:lk P t=some (some vs.length)) (hc:Zb1 B b o row) (off:Nat) (hg:Zf ops S g=some true:=by exact rfl) (hd:Zo n dst=true:=by exact rfl) (hx:ev S x=some (ptr a):=by exact rfl) (ha:a=⟨b,o+off,none⟩:=by exact rfl) (hv:(row.drop off).take vs.length=vs:=by exact rfl) (h:K (ZaY S dst (.agg vs.toArray)) D B L):opW P n ops i ⟨dst,.load t x,ty,pos,after,g⟩ K S D B L:=Zh (ZN  vs hg hd hl hx (ZlS hc off ha hv) h)
theorem xS  {t:TypeId} {x:Operand} {y:Operand} {a:Addr} {v:Value} {l:List Value} {T:TypeId} {r:Cells}  (vs:List Value) (j:Nat) (l':List Value) (hsz:ZT P t=some vs.length) (hg:Zf ops S g=some true:=by exact rfl) (hd:Zo n dst=true:=by exact rfl) (hx:ev S x=some (ptr a):=by exact rfl) (hy:ev S y=some v:=by exact rfl) (hv:v.cells=vs.toArray:=by exact rfl) (ho:vs.all ZcJ=true:=by exact rfl) (hj:L[j]? = some ((a.block,.cells l.toArray T (0,0)) :: r):=by exact rfl) (hs:a.spot=none:=by exact rfl) (hlen:Nat.ble (a.off+vs.length) l.length=true:=by exact rfl) (hl':ZM l a.off vs=l':=by exact rfl) (h:K (ZaY S dst undef) D B (L.set j ((a.block,.cells l'.toArray T (0,0)) :: r))):opW P n ops i ⟨dst,.store t x y,ty,pos,after,g⟩ K S D B L:=Zh (ZV  vs j l' hg hd hsz hx hy hv ho hj hs hlen hl' h)
theorem xB  {t:TypeId} {z:Value} {pl:List (Nat × Nat)} {vs:List Value} (parts:List (Nat × Operand)) (zl l':List Value) (hpl:ZbA P t=some pl) (hz:ZaL P t=some z) (hg:Zf ops S g=some true:=by exact rfl) (hd:Zo n dst=true:=by exact rfl) (hzl:z.cells.toList=zl:=by exact rfl) (ha:evs S (parts.map (·.2))=some vs:=by exact rfl) (hf:Zeu (fun i=>pl[i]?) zl ((parts.map (·.1)).zip vs)=some l':=by exact rfl) (h:K (ZaY S dst (.agg l'.toArray)) D B L):opW P n ops i ⟨dst,.build t parts.toArray,ty,pos,after,g⟩ K S D B L:=Zh (ZfX (parts:=parts) zl l' hg hd hpl hz hzl ha hf h)
theorem xAl  {t:TypeId} {z:Value} (l:List Value) (hz:ZaL P t=some z) (hg:Zf ops S g=some true:=by exact rfl) (hd:Zo n dst=true:=by exact rfl) (hl:z.cells=l.toArray:=by exact rfl) (h :∀b,K (ZaY S dst (ptr ⟨b,0,none⟩)) D B (L ++ [Z0 b l t])):opW P n ops i ⟨dst,.alloc t,ty,pos,after,g⟩ K S D B L:=Zh (Zaq (l:=l) hg hd hz hl h)
theorem xBx  {t:TypeId} {x:Operand} {v:Value} (l:List Value)  (hg:Zf ops S g=some true:=by exact rfl) (hd:Zo n dst=true:=by exact rfl) (hx:ev S x=some v:=by exact rfl) (hl:v.cells=l.toArray:=by exact rfl) (h :∀b,K (ZaY S dst (ptr ⟨b,0,none⟩)) D B (L ++ [Z0 b l t])):opW P n ops i ⟨dst,.box t x,ty,pos,after,g⟩ K S D B L:=Zh (Zk6 (l:=l) hg hd hx hl h)
theorem xIx  {t:TypeId} {e:TypeId} {x:Operand} {y:Operand} {k:IntKind} {b:Nat} {o:Nat} {len:Nat} {cap:Nat} {sz:Nat} {ix:Int}  (hu:P.underlying t=some (.slice e)) (hsz:ZT P e=some sz) (hg:Zf ops S g=some true:=by exact rfl) (hd:Zo n dst=true:=by exact rfl) (hx:ev S x=some (.slice (some ⟨b,o,none⟩) len cap):=by exact rfl) (hy:ev S y=some (.int k ix):=by exact rfl) (h0:0≤ix:=by first | omega | (simp;done) | (simp;omega)) (h1:ix<len:=by first | omega | (simp;done) | (simp;omega)) (h:K (ZaY S dst (ptr ⟨b,o+ix.toNat*sz,none⟩)) D B L):opW P n ops i ⟨dst,.indexAddr t x y,ty,pos,after,g⟩ K S D B L:=Zh (Zk1  hg hd hu hsz hx hy h0 h1 h)
theorem xIp  {t:TypeId} {e:TypeId} {x:Operand} {y:Operand} {k:IntKind} {p:Option Addr} {b:Nat} {len:Nat} {cap:Nat} {sz:Nat} {ix:Int}  (hp:p=some ⟨b,0,none⟩) (hu:P.underlying t=some (.slice e)) (hsz:ZT P e=some sz) (hg:Zf ops S g=some true:=by exact rfl) (hd:Zo n dst=true:=by exact rfl) (hx:ev S x=some (.slice p len cap):=by exact rfl) (hy:ev S y=some (.int k ix):=by exact rfl) (h0:0≤ix:=by first | omega | (simp;done) | (simp;omega)) (h1:ix<len:=by first | omega | (simp;done) | (simp;omega)) (h:K (ZaY S dst (ptr ⟨b,ix.toNat*sz,none⟩)) D B L):opW P n ops i ⟨dst,.indexAddr t x y,ty,pos,after,g⟩ K S D B L:=Zh (ZhD  hp hg hd hu hsz hx hy h0 h1 h)
theorem xR  {f:FuncId} {xs:List Operand} {vs:List Value} {ats:Array TypeId} {v:Value}  (he:enters P f=true) (ha:evs S xs=some vs) (hc:Z8 P f vs B v) (hg:Zf ops S g=some true:=by exact rfl) (hd:Zo n dst=true:=by exact rfl) (h:K (ZaY S dst v) D B L):opW P n ops i ⟨dst,.call ⟨.value (.func f),xs.toArray,ats⟩,ty,pos,after,g⟩ K S D B L:=Zh (Zdu  hg hd he ha hc h)
theorem xBs  {t:TypeId} {e:TypeId} {len:Nat} {sz:Nat} {z:Value} {vs:List Value} (parts:List (Nat × Operand)) (l':List Value) (hu:P.underlying t=some (.slice e)) (hsz:ZT P e=some sz) (hz:ZaL P e=some z) (hg:Zf ops S g=some true:=by exact rfl) (hd:Zo n dst=true:=by exact rfl) (hbig:Nat.ble (len*sz) 1024=true:=by exact rfl) (hidx:parts.map (·.1)=List.range len:=by exact rfl) (ha:evs S (parts.map (·.2))=some vs:=by exact rfl) (hall:vs.all (fun v=>Nat.beq v.cells.toList.length sz)=true:=by exact rfl) (hl':(vs.map fun v=>v.cells.toList).flatten=l':=by exact rfl) (h :∀b,K (ZaY S dst (.slice (some ⟨b,0,none⟩) len len)) D B (L ++ [Z0 b l' e])):opW P n ops i ⟨dst,.buildSlice t len parts.toArray,ty,pos,after,g⟩ K S D B L:=Zh (ZaP (parts:=parts) l' hg hd hu hsz hz hbig hidx ha hall hl' h)
end
section
variable {P:PJ} {n:Nat} {ops:Array Oper} {K:ZW} {S:Env} {D:List Deferred} {B:Kn} {L:List Cells}
variable {dst:Option Tmp} {ty:TypeId} {pos:String} {after:Array Edge} {g:Option (Nat × Bool)} {t u:TypeId} {x y:Operand}
theorem aT {C:Cx P} {k':List Item} {I:Kn→List Cells→Prop} {ℓ:List Nat} (i:Nat) {o:Oper} {v:Value} (hi:ops[i]? = some o) (hq:quiet P n ops I i o v (sel (o.looksAt ops) S)) (hr:(Zay ops ℓ).contains i=true:=by kernel_rfl) (hd:Zo n o.dst=true:=by exact rfl) (hp:ZeH o=false:=by rfl) (h:ZaU C k' n ops I (i :: ℓ) K (ZaY S o.dst v) D B L):ZaU C k' n ops I ℓ K S D B L:=Zjx i hi hr hd hq h hp
theorem r4 {α β γ δ:Type} {a:α} {b:β} {c:γ} {d:δ} : a=a∧b=b∧c=c∧d=d:=⟨rfl,rfl,rfl,rfl⟩
variable {C:Cx P} {k':List Item} {I:Kn→List Cells→Prop} {ℓ:List Nat}
theorem aM  {x:Operand} {v:Value} (i:Nat) (hii:ops[i]? = some ⟨dst,.move x,ty,pos,after,g⟩)  (hrr:(Zay ops ℓ).contains i=true:=by kernel_rfl) (hdd:Zo n dst=true:=by exact rfl) (hg:Zf ops (sel ((⟨dst,.move x,ty,pos,after,g⟩:Oper).looksAt ops) S) g=some true:=by exact rfl) (hd:Zo n dst=true:=by exact rfl) (hx:ev (sel ((⟨dst,.move x,ty,pos,after,g⟩:Oper).looksAt ops) S) x=some v:=by exact rfl) (h:ZaU C k' n ops I (i :: ℓ) K (ZaY S dst v) D B L):ZaU C k' n ops I ℓ K S D B L:=Zah i hii hrr hdd (fun _ _ _=>ZjN hg hd hx ⟨rfl,rfl,rfl,rfl⟩) h
theorem aA  {x:Operand} {v:Value} (i:Nat) (hii:ops[i]? = some ⟨dst,.assign x,ty,pos,after,g⟩)  (hrr:(Zay ops ℓ).contains i=true:=by kernel_rfl) (hdd:Zo n dst=true:=by exact rfl) (hg:Zf ops (sel ((⟨dst,.assign x,ty,pos,after,g⟩:Oper).looksAt ops) S) g=some true:=by exact rfl) (hd:Zo n dst=true:=by exact rfl) (hx:ev (sel ((⟨dst,.assign x,ty,pos,after,g⟩:Oper).looksAt ops) S) x=some v:=by exact rfl) (h:ZaU C k' n ops I (i :: ℓ) K (ZaY S dst v) D B L):ZaU C k' n ops I ℓ K S D B L:=Zah i hii hrr hdd (fun _ _ _=>Zgs hg hd hx ⟨rfl,rfl,rfl,rfl⟩) h
theorem aZ  {dst:Option Tmp} {op:Op} {t:TypeId} {pos:String} {after:Array Edge} {g:Option (Nat × Bool)} (i:Nat) (hii:ops[i]? = some ⟨dst,op,t,pos,after,g⟩)  (hrr:(Zay ops ℓ).contains i=true:=by kernel_rfl) (hdd:Zo n dst=true:=by exact rfl) (hg:Zf ops (sel ((⟨dst,op,t,pos,after,g⟩:Oper).looksAt ops) S) g=some false:=by exact rfl) (hd:Zo n dst=true:=by exact rfl) (h:ZaU C k' n ops I (i :: ℓ) K (ZaY S dst undef) D B L):ZaU C k' n ops I ℓ K S D B L:=Zah i hii hrr hdd (fun _ _ _=>ZjL hg hd ⟨rfl,rfl,rfl,rfl⟩) h
theorem aPT  {c:Operand} {a:Operand} {b:Operand} {v:Value} (i:Nat) (hii:ops[i]? = some ⟨dst,.pick c a b,ty,pos,after,g⟩)  (hrr:(Zay ops ℓ).contains i=true:=by kernel_rfl) (hdd:Zo n dst=true:=by exact rfl) (hg:Zf ops (sel ((⟨dst,.pick c a b,ty,pos,after,g⟩:Oper).looksAt ops) S) g=some true:=by exact rfl) (hd:Zo n dst=true:=by exact rfl) (hc:ev (sel ((⟨dst,.pick c a b,ty,pos,after,g⟩:Oper).looksAt ops) S) c=some (.bool true):=by exact rfl) (hx:ev (sel ((⟨dst,.pick c a b,ty,pos,after,g⟩:Oper).looksAt ops) S) a=some v:=by exact rfl) (h:ZaU C k' n ops I (i :: ℓ) K (ZaY S dst v) D B L):ZaU C k' n ops I ℓ K S D B L:=Zah i hii hrr hdd (fun _ _ _=>ZhB hg hd hc hx ⟨rfl,rfl,rfl,rfl⟩) h
theorem aPF  {c:Operand} {a:Operand} {b:Operand} {v:Value} (i:Nat) (hii:ops[i]? = some ⟨dst,.pick c a b,ty,pos,after,g⟩)  (hrr:(Zay ops ℓ).contains i=true:=by kernel_rfl) (hdd:Zo n dst=true:=by exact rfl) (hg:Zf ops (sel ((⟨dst,.pick c a b,ty,pos,after,g⟩:Oper).looksAt ops) S) g=some true:=by exact rfl) (hd:Zo n dst=true:=by exact rfl) (hc:ev (sel ((⟨dst,.pick c a b,ty,pos,after,g⟩:Oper).looksAt ops) S) c=some (.bool false):=by exact rfl) (hx:ev (sel ((⟨dst,.pick c a b,ty,pos,after,g⟩:Oper).looksAt ops) S) b=some v:=by exact rfl) (h:ZaU C k' n ops I (i :: ℓ) K (ZaY S dst v) D B L):ZaU C k' n ops I ℓ K S D B L:=Zah i hii hrr hdd (fun _ _ _=>ZhC hg hd hc hx ⟨rfl,rfl,rfl,rfl⟩) h
theorem aE  {x:Operand} {ix:Nat} {vs:List Value} {v:Value} (i:Nat) (hii:ops[i]? = some ⟨dst,.extract x ix,ty,pos,after,g⟩)  (hrr:(Zay ops ℓ).contains i=true:=by kernel_rfl) (hdd:Zo n dst=true:=by exact rfl) (hg:Zf ops (sel ((⟨dst,.extract x ix,ty,pos,after,g⟩:Oper).looksAt ops) S) g=some true:=by exact rfl) (hd:Zo n dst=true:=by exact rfl) (hx:ev (sel ((⟨dst,.extract x ix,ty,pos,after,g⟩:Oper).looksAt ops) S) x=some (.tuple vs.toArray):=by exact rfl) (hi:vs[ix]? = some v:=by exact rfl) (h:ZaU C k' n ops I (i :: ℓ) K (ZaY S dst v) D B L):ZaU C k' n ops I ℓ K S D B L:=Zah i hii hrr hdd (fun _ _ _=>Zfl hg hd hx hi ⟨rfl,rfl,rfl,rfl⟩) h
theorem aW  {s:TypeId} {x:Operand} {fi:Nat} {off:Nat} {a:Addr} (i:Nat) (hii:ops[i]? = some ⟨dst,.fieldAddr s x fi,ty,pos,after,g⟩) (hf:ZU P s fi=some off) (hrr:(Zay ops ℓ).contains i=true:=by kernel_rfl) (hdd:Zo n dst=true:=by exact rfl) (hg:Zf ops (sel ((⟨dst,.fieldAddr s x fi,ty,pos,after,g⟩:Oper).looksAt ops) S) g=some true:=by exact rfl) (hd:Zo n dst=true:=by exact rfl) (hx:ev (sel ((⟨dst,.fieldAddr s x fi,ty,pos,after,g⟩:Oper).looksAt ops) S) x=some (ptr a):=by exact rfl) (h:ZaU C k' n ops I (i :: ℓ) K (ZaY S dst (ptr (a.add off))) D B L):ZaU C k' n ops I ℓ K S D B L:=Zah i hii hrr hdd (fun _ _ _=>ZdT hg hd hf hx ⟨rfl,rfl,rfl,rfl⟩) h
theorem aN  {x:Operand} {b:Bool} {t:TypeId} (i:Nat) (hii:ops[i]? = some ⟨dst,.unOp .not t x,ty,pos,after,g⟩)  (hrr:(Zay ops ℓ).contains i=true:=by kernel_rfl) (hdd:Zo n dst=true:=by exact rfl) (hg:Zf ops (sel ((⟨dst,.unOp .not t x,ty,pos,after,g⟩:Oper).looksAt ops) S) g=some true:=by exact rfl) (hd:Zo n dst=true:=by exact rfl) (hx:ev (sel ((⟨dst,.unOp .not t x,ty,pos,after,g⟩:Oper).looksAt ops) S) x=some (.bool b):=by exact rfl) (h:ZaU C k' n ops I (i :: ℓ) K (ZaY S dst (.bool (!b))) D B L):ZaU C k' n ops I ℓ K S D B L:=Zah i hii hrr hdd (fun _ _ _=>ZkW hg hd hx ⟨rfl,rfl,rfl,rfl⟩) h
theorem aNc  {x:Operand} {a:Addr} (i:Nat) (hii:ops[i]? = some ⟨dst,.nilCheck x,ty,pos,after,g⟩)  (hrr:(Zay ops ℓ).contains i=true:=by kernel_rfl) (hdd:Zo n dst=true:=by exact rfl) (hg:Zf ops (sel ((⟨dst,.nilCheck x,ty,pos,after,g⟩:Oper).looksAt ops) S) g=some true:=by exact rfl) (hd:Zo n dst=true:=by exact rfl) (hx:ev (sel ((⟨dst,.nilCheck x,ty,pos,after,g⟩:Oper).looksAt ops) S) x=some (.pointer (some a)):=by exact rfl) (h:ZaU C k' n ops I (i :: ℓ) K (ZaY S dst (.pointer (some a))) D B L):ZaU C k' n ops I ℓ K S D B L:=Zah i hii hrr hdd (fun _ _ _=>Zex hg hd hx ⟨rfl,rfl,rfl,rfl⟩) h
theorem Zl8  {k:IntKind} {a b:Int} (i:Nat) (hii:ops[i]? = some ⟨dst,.binOp .lss t x y u,ty,pos,after,g⟩)  (hrr:(Zay ops ℓ).contains i=true:=by kernel_rfl) (hdd:Zo n dst=true:=by exact rfl) (hg:Zf ops (sel ((⟨dst,.binOp .lss t x y u,ty,pos,after,g⟩:Oper).looksAt ops) S) g=some true:=by exact rfl) (hd:Zo n dst=true:=by exact rfl) (hx:ev (sel ((⟨dst,.binOp .lss t x y u,ty,pos,after,g⟩:Oper).looksAt ops) S) x=some (.int k a):=by exact rfl) (hy:ev (sel ((⟨dst,.binOp .lss t x y u,ty,pos,after,g⟩:Oper).looksAt ops) S) y=some (.int k b):=by exact rfl) (h:ZaU C k' n ops I (i :: ℓ) K (ZaY S dst (.bool (decide (a<b)))) D B L):ZaU C k' n ops I ℓ K S D B L:=Zah i hii hrr hdd (fun _ _ _=>ZkY hg hd hx hy ⟨rfl,rfl,rfl,rfl⟩) h
theorem Zl9  {k:IntKind} {a b:Int} (i:Nat) (hii:ops[i]? = some ⟨dst,.binOp .leq t x y u,ty,pos,after,g⟩)  (hrr:(Zay ops ℓ).contains i=true:=by kernel_rfl) (hdd:Zo n dst=true:=by exact rfl) (hg:Zf ops (sel ((⟨dst,.binOp .leq t x y u,ty,pos,after,g⟩:Oper).looksAt ops) S) g=some true:=by exact rfl) (hd:Zo n dst=true:=by exact rfl) (hx:ev (sel ((⟨dst,.binOp .leq t x y u,ty,pos,after,g⟩:Oper).looksAt ops) S) x=some (.int k a):=by exact rfl) (hy:ev (sel ((⟨dst,.binOp .leq t x y u,ty,pos,after,g⟩:Oper).looksAt ops) S) y=some (.int k b):=by exact rfl) (h:ZaU C k' n ops I (i :: ℓ) K (ZaY S dst (.bool (decide (a≤b)))) D B L):ZaU C k' n ops I ℓ K S D B L:=Zah i hii hrr hdd (fun _ _ _=>ZkZ hg hd hx hy ⟨rfl,rfl,rfl,rfl⟩) h
theorem Zma  {k:IntKind} {a b:Int} (i:Nat) (hii:ops[i]? = some ⟨dst,.binOp .geq t x y u,ty,pos,after,g⟩)  (hrr:(Zay ops ℓ).contains i=true:=by kernel_rfl) (hdd:Zo n dst=true:=by exact rfl) (hg:Zf ops (sel ((⟨dst,.binOp .geq t x y u,ty,pos,after,g⟩:Oper).looksAt ops) S) g=some true:=by exact rfl) (hd:Zo n dst=true:=by exact rfl) (hx:ev (sel ((⟨dst,.binOp .geq t x y u,ty,pos,after,g⟩:Oper).looksAt ops) S) x=some (.int k a):=by exact rfl) (hy:ev (sel ((⟨dst,.binOp .geq t x y u,ty,pos,after,g⟩:Oper).looksAt ops) S) y=some (.int k b):=by exact rfl) (h:ZaU C k' n ops I (i :: ℓ) K (ZaY S dst (.bool (decide (b≤a)))) D B L):ZaU C k' n ops I ℓ K S D B L:=Zah i hii hrr hdd (fun _ _ _=>Zk2 hg hd hx hy ⟨rfl,rfl,rfl,rfl⟩) h
theorem Zlw  {k:IntKind} {a b:Int} (i:Nat) (hii:ops[i]? = some ⟨dst,.binOp .eql t x y u,ty,pos,after,g⟩)  (hrr:(Zay ops ℓ).contains i=true:=by kernel_rfl) (hdd:Zo n dst=true:=by exact rfl) (hg:Zf ops (sel ((⟨dst,.binOp .eql t x y u,ty,pos,after,g⟩:Oper).looksAt ops) S) g=some true:=by exact rfl) (hd:Zo n dst=true:=by exact rfl) (hx:ev (sel ((⟨dst,.binOp .eql t x y u,ty,pos,after,g⟩:Oper).looksAt ops) S) x=some (.int k a):=by exact rfl) (hy:ev (sel ((⟨dst,.binOp .eql t x y u,ty,pos,after,g⟩:Oper).looksAt ops) S) y=some (.int k b):=by exact rfl) (h:ZaU C k' n ops I (i :: ℓ) K (ZaY S dst (.bool (decide (a=b)))) D B L):ZaU C k' n ops I ℓ K S D B L:=Zah i hii hrr hdd (fun _ _ _=>ZjQ hg hd hx hy ⟨rfl,rfl,rfl,rfl⟩) h
theorem ZgW  {a b:List UInt8} (i:Nat) (hii:ops[i]? = some ⟨dst,.binOp .neq t x y u,ty,pos,after,g⟩)  (hrr:(Zay ops ℓ).contains i=true:=by kernel_rfl) (hdd:Zo n dst=true:=by exact rfl) (hg:Zf ops (sel ((⟨dst,.binOp .neq t x y u,ty,pos,after,g⟩:Oper).looksAt ops) S) g=some true:=by exact rfl) (hd:Zo n dst=true:=by exact rfl) (hx:ev (sel ((⟨dst,.binOp .neq t x y u,ty,pos,after,g⟩:Oper).looksAt ops) S) x=some (str a):=by exact rfl) (hy:ev (sel ((⟨dst,.binOp .neq t x y u,ty,pos,after,g⟩:Oper).looksAt ops) S) y=some (str b):=by exact rfl) (h:ZaU C k' n ops I (i :: ℓ) K (ZaY S dst (.bool (decide (a≠b)))) D B L):ZaU C k' n ops I ℓ K S D B L:=Zah i hii hrr hdd (fun _ _ _=>ZjM hg hd hx hy ⟨rfl,rfl,rfl,rfl⟩) h
theorem aIx  {t:TypeId} {e:TypeId} {x:Operand} {y:Operand} {k:IntKind} {b:Nat} {o:Nat} {len:Nat} {cap:Nat} {sz:Nat} {ix:Int} (i:Nat) (hii:ops[i]? = some ⟨dst,.indexAddr t x y,ty,pos,after,g⟩) (hu:P.underlying t=some (.slice e)) (hsz:ZT P e=some sz) (hrr:(Zay ops ℓ).contains i=true:=by kernel_rfl) (hdd:Zo n dst=true:=by exact rfl) (hg:Zf ops (sel ((⟨dst,.indexAddr t x y,ty,pos,after,g⟩:Oper).looksAt ops) S) g=some true:=by exact rfl) (hd:Zo n dst=true:=by exact rfl) (hx:ev (sel ((⟨dst,.indexAddr t x y,ty,pos,after,g⟩:Oper).looksAt ops) S) x=some (.slice (some ⟨b,o,none⟩) len cap):=by exact rfl) (hy:ev (sel ((⟨dst,.indexAddr t x y,ty,pos,after,g⟩:Oper).looksAt ops) S) y=some (.int k ix):=by exact rfl) (h0:0≤ix:=by first | omega | (simp;done) | (simp;omega)) (h1:ix<len:=by first | omega | (simp;done) | (simp;omega)) (h:ZaU C k' n ops I (i :: ℓ) K (ZaY S dst (ptr ⟨b,o+ix.toNat*sz,none⟩)) D B L):ZaU C k' n ops I ℓ K S D B L:=Zah i hii hrr hdd (fun _ _ _=>Zk1 hg hd hu hsz hx hy h0 h1 ⟨rfl,rfl,rfl,rfl⟩) h
end
end Go.BL
namespace Go.BL
open Go
set_option linter.unusedVariables false
set_option linter.unusedSimpArgs false
def Za8 (c:UInt8):Bool:=(decide (97≤c.toNat) && decide (c.toNat≤122)) || (decide (48≤c.toNat) && decide (c.toNat≤57))
def Za7 (l:List UInt8):Bool:=l.all Za8 && decide (1≤l.length) && decide (l.length≤8)
theorem Zjy {l:List UInt8} {k:Nat} {c:UInt8} (hc:l[k]? = some c) (h:Za8 c=false):l.all Za8=false:=by
  rw [Bool.eq_false_iff];intro ha
  have:=List.all_eq_true.1 ha c (List.mem_of_getElem? hc)
  rw [h] at this;cases this
theorem ZgU {l:List UInt8} {k:Nat} {c:UInt8} (hc:l[k]? = some c) (h:Za8 c=true) (ha:(l.take k).all Za8=true):(l.take (k+1)).all Za8=true:=by
  rw [List.take_add_one,hc];simp only [Option.toList_some,List.all_append,ha,List.all_cons,h,List.all_nil];rfl
def word (l:List UInt8) (i:Nat):List UInt8:=(l.drop i).takeWhile Za8
def ZdO (w:List UInt8):Bool:=decide (1≤w.length) && decide (w.length≤8)
theorem ZhT {o:Option UInt8} {f:UInt8→Bool} (h:(match o with | some c=>f c | none=>false)=true) :∃c,o=some c∧f c=true:=by
  cases o with
  | none=>cases h
  | some c=>exact ⟨c,rfl,h⟩
theorem ZaZ {α:Type} {l:List α} {k:Nat} {c:α} (h:l[k]? = some c):k<l.length:=(List.getElem?_eq_some_iff.1 h).1
theorem ZcT {p:UInt8→Bool} :∀{m:List UInt8} {k:Nat},(m.take k).all p=true→(∀c,m[k]? = some c→p c=false)→m.takeWhile p=m.take k
  | [],k,_,_=>by simp
  | c :: m,0,_,h=>by simp [List.takeWhile,h c rfl]
  | c :: m,k+1,ha,h=>by
    simp only [List.take_succ_cons,List.all_cons,Bool.and_eq_true] at ha
    simp only [List.takeWhile,ha.1,List.take_succ_cons]
    rw [ZcT ha.2 (fun c hc=>h c (by simpa using hc))]
theorem ZiR {l:List UInt8} {i k:Nat} (ha:((l.drop i).take k).all Za8=true) (h :∀c,l[i+k]? = some c→Za8 c=false):word l i=(l.drop i).take k:=
  ZcT ha (fun c hc=>h c (by simpa using hc))
theorem ZcA {l:List UInt8} {i k:Nat} : (l.take (i+k)).drop i=(l.drop i).take k:=by
  rw [List.drop_take,Nat.add_sub_cancel_left]
theorem ZjT {a b c d:Value} (h:a=c) (h':b=d):Value.tuple #[a,b]=Value.tuple #[c,d]:=by rw [h,h']
def more:Nat→List UInt8→Nat→Bool × Nat
  | 0,_,i=>(true,i)
  | n+1,l,i=>if l[i]? = some 46 then (if ZdO (word l (i+1))=true then more n l (i+1+(word l (i+1)).length) else (false,i+1+(word l (i+1)).length)) else (true,i)
def dom (l:List UInt8) (i:Nat):Bool × Nat:=if ZdO (word l i)=true then more 2 l (i+(word l i).length) else (false,i+(word l i).length)
theorem Zkb {l:List UInt8} {i:Nat} (h:i≤l.length):i+(word l i).length≤l.length:=by
  have:=List.IsPrefix.length_le (List.takeWhile_prefix Za8 (l:=l.drop i))
  rw [List.length_drop] at this
  unfold word;omega
theorem ZcS {p:UInt8→Bool} :∀l:List UInt8,(l.takeWhile p).length=l.length↔l.all p=true
  | []=>by simp
  | c :: l=>by
    have h:=ZcS (p:=p) l
    cases hc:p c with
    | true=>simp [List.takeWhile,hc] at h ⊢;exact h
    | false=>simp [List.takeWhile,hc]
theorem Zd7 {l:List UInt8} : Za7 l=(ZdO (word l 0) && decide ((word l 0).length=l.length)):=by
  have h:=ZcS (p:=Za8) l
  have e:word l 0=l.takeWhile Za8:=by simp [word]
  rw [Bool.eq_iff_iff]
  simp only [Za7,ZdO,e,Bool.and_eq_true,decide_eq_true_eq]
  constructor
  · rintro ⟨⟨h1,h2⟩,h3⟩
    have:=h.2 h1
    omega
  · rintro ⟨⟨h1,h2⟩,h3⟩
    exact ⟨⟨h.1 h3,by omega⟩,by omega⟩
def glue (a:List UInt8):List (List UInt8)→List (List UInt8)
  | []=>[a]
  | p :: ps=>(a ++ p) :: ps
def cut (x:UInt8):List UInt8→List (List UInt8)
  | []=>[[]]
  | c :: r=>if c=x then [] :: cut x r else glue [c] (cut x r)
structure CutSt where
  i:Nat
  f:Nat
  m:Nat
  ps:List (List UInt8)
  q:Option Addr
  cp:Nat
  s:Cells
theorem ZiJ {l:List (List UInt8)} {k:Nat} {c:List UInt8} (hc:l[k]? = some c) (h:Za7 c=false):l.all Za7=false:=by
  rw [Bool.eq_false_iff];intro ha
  have:=List.all_eq_true.1 ha c (List.mem_of_getElem? hc)
  rw [h] at this;cases this
theorem ZfR {l:List (List UInt8)} {k:Nat} {c:List UInt8} (hc:l[k]? = some c) (h:Za7 c=true) (ha:(l.take k).all Za7=true):(l.take (k+1)).all Za7=true:=by
  rw [List.take_add_one,hc];simp only [Option.toList_some,List.all_append,ha,List.all_cons,h,List.all_nil];rfl
end Go.BL
namespace Go.BL
open Go
set_option linter.unusedVariables false
set_option linter.unusedSimpArgs false
end Go.BL
namespace Go.BL
open Go
set_option linter.unusedVariables false
set_option linter.unusedSimpArgs false
theorem ZgV {α:Type} {p:α→Prop} {l:List α} {k:Nat} {x:α} (hx:l[k]? = some x) (h :∀y,y∈l.take k→p y) (hp:p x) :∀y,y∈l.take (k+1)→p y:=by
  intro y hy
  rw [List.take_add_one,hx] at hy
  simp only [Option.toList_some,List.mem_append,List.mem_singleton] at hy
  rcases hy with hy | rfl
  · exact h y hy
  · exact hp
theorem Zdw {α:Type} {as bs:List α} {k:Nat} {x y:α} (hx:as[k]? = some x) (hy:bs[k]? = some y) (e:x=y) (h:as.take k=bs.take k):as.take (k+1)=bs.take (k+1):=by
  rw [List.take_add_one,List.take_add_one,hx,hy,e,h]
theorem Zix {α:Type} {as bs:List α} {inst:Decidable (as=bs)} (h : ¬ (as.length:Int)=bs.length):false=decide (as=bs):=by
  symm;rw [decide_eq_false_iff_not];intro e;exact h (by rw [e])
theorem ZgR {α:Type} {as bs:List α} {inst:Decidable (as=bs)} {k:Nat} {x y:α} (hx:as[k]? = some x) (hy:bs[k]? = some y) (e : ¬ x=y):false=decide (as=bs):=by
  symm;rw [decide_eq_false_iff_not];intro h;rw [h,hy] at hx;exact e (Option.some.inj hx).symm
theorem eqT {α:Type} {as bs:List α} {inst:Decidable (as=bs)} {k:Nat} (hl:as.length=bs.length) (hk:k=as.length) (h:as.take k=bs.take k):true=decide (as=bs):=by
  symm;rw [decide_eq_true_eq]
  rw [List.take_of_length_le (by omega),List.take_of_length_le (by omega)] at h;exact h
theorem ZmC {α:Type} {as:List α} {x:α} {inst:Decidable (x∈as)} (h :∀y,y∈as→y≠x):false=decide (x∈as):=by
  symm;rw [decide_eq_false_iff_not];intro hx;exact h x hx rfl
theorem ZmB {α:Type} {as:List α} {x y:α} {inst:Decidable (x∈as)} {k:Nat} (hy:as[k]? = some y) (e:y=x):true=decide (x∈as):=by
  symm;rw [decide_eq_true_eq];subst e;exact List.mem_of_getElem? hy
theorem Zgv {α:Type} {p:α→Prop} {l:List α} {k:Nat} (hk : ¬ (k:Int)<l.length) (h :∀y,y∈l.take k→p y) :∀y,y∈l→p y:=by
  rwa [List.take_of_length_le (by omega)] at h
theorem Zfd {α:Type} {l:List α} {k:Nat} {x:α} (h:l[k]? = some x):l.drop k=x :: l.drop (k+1):=by
  obtain ⟨hlt,he⟩:=List.getElem?_eq_some_iff.1 h
  rw [List.drop_eq_getElem_cons hlt,he]
theorem ZiC {α:Type} {l:List α} {k:Nat} (h : ¬ (k:Int)<l.length):l.drop k=[]:=List.drop_eq_nil_of_le (by omega)
def Zbi (l:List Str):Bool:=l.all Za7 && decide l.Nodup && decide (l.length≤3)
def ZaE (x:DLetter):Bool:=Za7 x.fr && Zbi x.to_ && decide (0<x.to_.length) && decide (x.text.length≤20)
def ZbZ (x:DItem):Bool:=ZaE ⟨x.fr,x.left,x.text⟩
def ZbK:Int→List DItem→Option Int
  | last,[]=>some last
  | last,x :: r=>if (last+1≤x.id∧x.id≤99)∧ZbZ x=true then ZbK x.id r else none
def Z7 (q:DQueue):Bool:=match ZbK 0 q.items with
  | some last=>decide (last+1≤q.next) && decide (q.next≤100) && decide (q.items.length≤6)
  | none=>false
theorem Zh7 {α:Type} {l:List α} {k:Nat} {x:α} (hx:l[k]? = some x) (h:(l.take k).Nodup) (hn : ¬ x∈l.take k):(l.take (k+1)).Nodup:=by
  rw [List.take_add_one,hx]
  simp only [Option.toList_some]
  rw [List.nodup_append]
  exact ⟨h,by simp,fun a ha b hb=>by rw [List.mem_singleton.1 hb];exact fun e=>hn (e ▸ ha)⟩
theorem Zkz {α:Type} {l:List α} {k:Nat} {x:α} (hx:l[k]? = some x) (h:x∈l.take k) : ¬ l.Nodup:=by
  intro hn
  have e:l=l.take k ++ l.drop k:=(List.take_append_drop k l).symm
  rw [e,Zfd hx,List.nodup_append] at hn
  exact hn.2.2 x h x (List.mem_cons_self ..) rfl
theorem ZdD {l:List Str} {k:Nat} {x:Str} (hx:l[k]? = some x) (h:Za7 x=false):false=Zbi l:=by
  simp [Zbi,ZiJ hx h]
theorem ZdC {l:List Str} {k:Nat} {x:Str} (hx:l[k]? = some x) (h:x∈l.take k):false=Zbi l:=by
  simp [Zbi,Zkz hx h]
theorem Zd6 {l:List Str} {k:Nat} (hk : ¬ (k:Int)<l.length) (ha:(l.take k).all Za7=true) (hn:(l.take k).Nodup):decide ((l.length:Int)≤3)=Zbi l:=by
  rw [List.take_of_length_le (by omega)] at ha hn
  rw [Bool.eq_iff_iff];simp only [Zbi,ha,decide_eq_true hn,Bool.true_and,decide_eq_true_eq];omega
def Zjh {α:Type} (p:α→Bool) (xs:List α):Int:=match xs.findIdx? p with | some i=>i | none=>-1
theorem Zjg {α:Type} {p:α→Bool} {xs:List α} {k:Nat} {x:α} (hx:xs[k]? = some x) (he:p x=true) (h :∀y,y∈xs.take k→p y=false):Zjh p xs=k:=by
  have:xs.findIdx? p=some k:=by
    rw [List.findIdx?_eq_some_iff_getElem]
    obtain ⟨hk,rfl⟩:=List.getElem?_eq_some_iff.1 hx
    refine ⟨hk,he,fun j hj=>?_⟩
    have:=h xs[j] (by rw [List.mem_take_iff_getElem];exact ⟨j,by omega,rfl⟩)
    simpa using this
  rw [Zjh,this]
theorem Zik {α:Type} {p:α→Bool} {xs:List α} (h :∀y,y∈xs→p y=false):Zjh p xs = -1:=by
  have:xs.findIdx? p=none:=by
    rw [List.findIdx?_eq_none_iff]
    intro x hx
    simpa using h x hx
  rw [Zjh,this]
theorem Zjf {α:Type} {p:α→Bool} {xs:List α} : (0≤Zjh p xs)↔∃x,x∈xs∧p x=true:=by
  cases h:xs.findIdx? p with
  | none=>
    rw [List.findIdx?_eq_none_iff] at h
    simp only [Zjh,List.findIdx?_eq_none_iff.2 h]
    refine ⟨fun e=>absurd e (by omega),fun ⟨x,hx,hp⟩=>?_⟩
    rw [h x hx] at hp;cases hp
  | some i=>
    simp only [Zjh,h]
    rw [List.findIdx?_eq_some_iff_getElem] at h
    obtain ⟨hi,hp,_⟩:=h
    exact ⟨fun _=>⟨_,List.getElem_mem hi,hp⟩,fun _=>by omega⟩
def ZkP (xs:List Str) (v:Str):Int:=Zjh (fun x=>decide (x=v)) xs
theorem ZgL {xs:List Str} {v:Str} : (0≤ZkP xs v)↔v∈xs:=by
  rw [ZkP,Zjf];simp
theorem ZgD {q:DQueue} (h:ZbK 0 q.items=none):false=Z7 q:=by simp [Z7,h]
theorem ZgC {q:DQueue} {last:Int} (h:ZbK 0 q.items=some last):(decide (last+1≤q.next) && decide (q.next≤100) && decide (q.items.length≤6))=Z7 q:=by simp [Z7,h]
theorem ZhW {q:DQueue} {k:Nat} {last:Int} {x:DItem} (hs:ZbK 0 q.items=ZbK last (q.items.drop k)) (hx:q.items[k]? = some x):ZbK 0 q.items=if (last+1≤x.id∧x.id≤99)∧ZbZ x=true then ZbK x.id (q.items.drop (k+1)) else none:=by
  rw [hs,Zfd hx,ZbK]
theorem Zcb (x:DLetter):ZaE x=(Za7 x.fr && (decide (1≤x.to_.length) && Zbi x.to_) && decide ((x.text.length:Int)≤20)):=by
  rw [Bool.eq_iff_iff];simp only [ZaE,Bool.and_eq_true,decide_eq_true_eq]
  constructor
  · rintro ⟨⟨⟨a,b⟩,c⟩,d⟩;exact ⟨⟨a,by omega,b⟩,by omega⟩
  · rintro ⟨⟨a,c,b⟩,d⟩;exact ⟨⟨⟨a,b⟩,by omega⟩,by omega⟩
theorem ZbH.mono {B B':Kn} {q:Option Addr} {m:Nat} (h:ZbH B q m) (hle:B.le B'):ZbH B' q m:=fun j hj=>by
  obtain ⟨a,c,h1,h2,h3⟩:=h j hj
  exact ⟨a,c,h1,h2,h3.mono hle⟩
structure Gh (α:Type) where
  k:Nat
  p:Nat
  l:Cells
  a:Option Addr
  c:Nat
  xs:List α
theorem Zau {α:Type} {l:List α} {k:Nat} {x:α} (hx:l[k]? = some x):l.take (k+1)=l.take k ++ [x]:=by
  rw [List.take_add_one,hx];rfl
def Zai (q:DQueue) (x:DLetter):DQueue × Bool:=
  if Z7 q=true∧ZaE x=true then
    (if 6≤q.items.length∨99<q.next then (q,false) else (⟨q.next+1,q.items ++ [⟨q.next,x.fr,x.text,x.to_⟩]⟩,true))
  else (⟨0,[]⟩,false)
theorem ZfT {q:DQueue} {x:DLetter} (h:Z7 q=false):Zai q x=(⟨0,[]⟩,false):=by simp [Zai,h]
theorem ZfS {q:DQueue} {x:DLetter} (h:ZaE x=false):Zai q x=(⟨0,[]⟩,false):=by simp [Zai,h]
theorem Zdj {q:DQueue} {x:DLetter} (h:Z7 q=true) (h':ZaE x=true) (hf:6≤q.items.length∨99<q.next):Zai q x=(q,false):=by rw [Zai,if_pos ⟨h,h'⟩,if_pos hf]
theorem ZiK {q:DQueue} {x:DLetter} (h:Z7 q=true) (h':ZaE x=true) (h1 : ¬ 6≤q.items.length) (h2 : ¬ 99<q.next):Zai q x=(⟨q.next+1,q.items ++ [⟨q.next,x.fr,x.text,x.to_⟩]⟩,true):=by
  rw [Zai,if_pos ⟨h,h'⟩,if_neg (by omega)]
theorem ZhX :∀{xs:List DItem} {l r:Int},ZbK l xs=some r→l≤r
  | [],l,r,h=>by simp only [ZbK,Option.some.injEq] at h;omega
  | x :: xs,l,r,h=>by
    rw [ZbK] at h
    split at h
    · rename_i e;have:=ZhX h;omega
    · cases h
theorem Zbz {q:DQueue} (h:Z7 q=true):1≤q.next∧q.next≤100∧q.items.length≤6:=by
  unfold Z7 at h
  split at h
  · rename_i last e
    have:=ZhX e
    simp only [Bool.and_eq_true,decide_eq_true_eq] at h
    omega
  · cases h
structure Gh2 (α β:Type) where
  k:Nat
  p:Nat
  l:Cells
  a:Option Addr
  c:Nat
  xs:List α
  e:β
def without (xs:List Str) (u:Str):List Str:=xs.filter fun x=>decide (x≠u)
theorem Zfk {xs:List Str} {u:Str} {k:Nat} {x:Str} (hx:xs[k]? = some x) (h : ¬ x=u):without (xs.take (k+1)) u=without (xs.take k) u ++ [x]:=by
  rw [Zau hx,without,without,List.filter_append];simp [h]
theorem Zfj {xs:List Str} {u:Str} {k:Nat} {x:Str} (hx:xs[k]? = some x) (h:x=u):without (xs.take (k+1)) u=without (xs.take k) u:=by
  rw [Zau hx,without,without,List.filter_append];simp [h]
theorem ZfV (xs:List Str) (u:Str):(without xs u).length≤xs.length:=List.length_filter_le _ _
def ZaD (id:Int) (u:Str) (x:DItem):DItem:=if x.id=id∧u∈x.left then ⟨x.id,x.fr,x.text,without x.left u⟩ else x
def Zct (id:Int) (u:Str) (xs:List DItem):List DItem:=(xs.map (ZaD id u)).filter fun x=>decide (0<x.left.length)
def ZbS (id:Int) (u:Str) (s:Str × Bool) (x:DItem):Str × Bool:=if x.id=id∧u∈x.left then (x.text,true) else s
def ZcG (id:Int) (u:Str) (xs:List DItem):Str × Bool:=xs.foldl (ZbS id u) ([],false)
theorem Zb3 {id:Int} {u:Str} {x:DItem} (h:x.id=id) (h':u∈x.left):ZaD id u x=⟨x.id,x.fr,x.text,without x.left u⟩:=by rw [ZaD,if_pos ⟨h,h'⟩]
theorem Zdy {id:Int} {u:Str} {x:DItem} (h : ¬ x.id=id):ZaD id u x=x:=by rw [ZaD,if_neg (fun e=>h e.1)]
theorem Zdx {id:Int} {u:Str} {x:DItem} (h : ¬ u∈x.left):ZaD id u x=x:=by rw [ZaD,if_neg (fun e=>h e.2)]
theorem ZdX {id:Int} {u:Str} {xs:List DItem} {k:Nat} {x y:DItem} (hx:xs[k]? = some x) (e:ZaD id u x=y) (h:0<y.left.length):Zct id u (xs.take (k+1))=Zct id u (xs.take k) ++ [y]:=by
  rw [Zau hx,Zct,Zct,List.map_append,List.filter_append];simp [e,h]
theorem Zdm {id:Int} {u:Str} {xs:List DItem} {k:Nat} {x y:DItem} (hx:xs[k]? = some x) (e:ZaD id u x=y) (h : ¬ 0<y.left.length):Zct id u (xs.take (k+1))=Zct id u (xs.take k):=by
  rw [Zau hx,Zct,Zct,List.map_append,List.filter_append];simp [e,show y.left.length=0 by omega]
theorem Zfr {id:Int} {u:Str} {xs:List DItem} {k:Nat} {x:DItem} (hx:xs[k]? = some x) (h:x.id=id) (h':u∈x.left):ZcG id u (xs.take (k+1))=(x.text,true):=by
  rw [Zau hx,ZcG,List.foldl_append];simp [ZbS,h,h']
theorem Zfq {id:Int} {u:Str} {xs:List DItem} {k:Nat} {x:DItem} (hx:xs[k]? = some x) (h : ¬ x.id=id):ZcG id u (xs.take (k+1))=ZcG id u (xs.take k):=by
  rw [Zau hx,ZcG,List.foldl_append];simp [ZbS,h,ZcG]
theorem Zfp {id:Int} {u:Str} {xs:List DItem} {k:Nat} {x:DItem} (hx:xs[k]? = some x) (h : ¬ u∈x.left):ZcG id u (xs.take (k+1))=ZcG id u (xs.take k):=by
  rw [Zau hx,ZcG,List.foldl_append];simp [ZbS,h,ZcG]
theorem Zfn (id:Int) (u:Str) (xs:List DItem):(Zct id u xs).length≤xs.length:=by
  unfold Zct;exact Nat.le_trans (List.length_filter_le _ _) (by simp)
def ZcU (q:DQueue) (id:Int) (u:Str):DQueue × Str × Bool:=(⟨q.next,Zct id u q.items⟩,(ZcG id u q.items).1,(ZcG id u q.items).2)
def Zan (q:DQueue) (id:Int) (u:Str):DQueue × Str × Bool:=if Z7 q=true then ZcU q id u else (⟨0,[]⟩,[],false)
structure GQ where
  k:Nat
  p:Nat
  l:Cells
  a:Option Addr
  c:Nat
  q:DQueue
structure GM where
  b:Nat
  p:Nat
  l:Cells
  a:Option Addr
  c:Nat
  q:DQueue
  f:Bool
theorem ZjA (q:DQueue) (x:DLetter):(Zai q x).1.items.length≤q.items.length+1:=by
  unfold Zai
  split
  · split
    · exact Nat.le_succ _
    · simp
  · exact Nat.zero_le _
theorem Zh3 (q:DQueue) (id:Int) (u:Str):(Zan q id u).1.items.length≤q.items.length:=by
  unfold Zan
  split
  · exact Zfn _ _ _
  · exact Nat.zero_le _
theorem ZiB {α:Type} {xs:List α} {j:Nat} {y:α} (h:xs[j]? = some y):xs.drop j=y :: xs.drop (j+1):=by
  obtain ⟨hj,rfl⟩:=List.getElem?_eq_some_iff.1 h
  exact List.drop_eq_getElem_cons hj
structure QOf where
  p:Option Addr
  ys:List DItem
  xs:List DItem
  l:Cells
  q:Option Addr
  c:Nat
  cells:Cells
theorem Zaa.slice0 {α:Type} {B:Kn} {l:Cells} {p:Option Addr} {c:Nat} {T:TypeId} {w sz:Nat} {R:Rel α} {xs:List α} (h:Zaa B l p c T w R xs):(if c=0 then p else p.map (fun a=>a.add (0*sz)))=p:=by
  obtain ⟨rows,_,_,_,⟨rfl,_,rfl,_⟩ | ⟨b,arr,rfl,_,_,_,_⟩⟩:=h
  · rfl
  · split
    · rfl
    · rw [Nat.zero_mul];simp [Addr.add_off]
theorem Zdo {q:DQueue} (h : ¬ (q.items.length≤6∧1≤q.next∧q.next≤100)):false=Z7 q:=by
  symm;rw [Bool.eq_false_iff];intro hq
  have:=Zbz hq
  omega
end Go.BL
namespace Go.BL
open Go
set_option linter.unusedVariables false
set_option linter.unusedSimpArgs false
def hat (xs:List Int) (k:Nat):Int:=xs.getD k 0
def swp (xs:List Int) (i j:Nat):List Int:=(xs.set i (hat xs j)).set j (hat xs i)
def Zbx (xs:List Int):Prop:=∀k,0<k→k<xs.length→hat xs ((k - 1) / 2)≤hat xs k
def ZcQ (xs:List Int) (j:Nat):Prop:=(∀k,0<k→k<xs.length→k≠j→hat xs ((k - 1) / 2)≤hat xs k)∧(∀k,0<k→k<xs.length→(k - 1) / 2=j→0<j→hat xs ((j - 1) / 2)≤hat xs k)
theorem ZkI {xs:List Int} {k:Nat} {a:Int} (h:xs[k]? = some a):hat xs k=a:=by simp [hat,List.getD,h]
theorem Zag {xs:List Int} {k:Nat} (h:k<xs.length):xs[k]? = some (hat xs k):=by simp [hat,List.getD,List.getElem?_eq_getElem h]
theorem Zbr (xs:List Int) (i j:Nat):(swp xs i j).length=xs.length:=by simp [swp]
theorem Zcc {xs:List Int} {i j:Nat} (hi:i<xs.length) (hj:j<xs.length) (k:Nat):hat (swp xs i j) k=if k=j then hat xs i else if k=i then hat xs j else hat xs k:=by
  simp only [hat,swp,List.getD,List.getElem?_set]
  by_cases h1:k=j
  · subst h1;simp [hj]
  · have h1' : ¬j=k:=fun h=>h1 h.symm
    by_cases h2:k=i
    · subst h2;simp [hi,h1,h1']
    · have h2' : ¬i=k:=fun h=>h2 h.symm
      simp [h1,h1',h2,h2']
theorem ZcW {xs:List Int} {i j:Nat} (hi:i<xs.length) (hj:j<xs.length):(swp xs i j).Perm xs:=by
  rw [List.perm_iff_count]
  intro a
  unfold swp
  rw [List.count_set (by simpa using hj),List.count_set hi]
  have e1:(xs.set i (hat xs j))[j]'(by simpa using hj)=hat xs j:=by
    rw [List.getElem_set];split
    · rfl
    · simp [hat,List.getD,List.getElem?_eq_getElem hj]
  have e2:xs[i]=hat xs i:=by simp [hat,List.getD,List.getElem?_eq_getElem hi]
  rw [e1,e2]
  have hp :∀v,(v == a)=true→v∈xs→0<List.count a xs:=fun v hv hm=>by
    rw [beq_iff_eq] at hv;subst hv;exact List.count_pos_iff.2 hm
  have hm1:hat xs i∈xs:=by rw [← e2];exact List.getElem_mem _
  by_cases h1:(hat xs i == a)=true <;> by_cases h2:(hat xs j == a)=true <;> simp [h1,h2] <;> (try have:=hp _ h1 hm1;omega)
theorem Zkk {xs:List Int} (h:ZcQ xs 0):Zbx xs:=fun k h0 hk=>h.1 k h0 hk (by omega)
theorem Zkm {xs:List Int} {j:Nat} (h:ZcQ xs j) (hj:hat xs ((j - 1) / 2)≤hat xs j):Zbx xs:=fun k h0 hk=>by
  by_cases e:k=j
  · subst e;exact hj
  · exact h.1 k h0 hk e
theorem Zkl {xs:List Int} {j:Nat} (h0:0<j) (hj:j<xs.length) (h:ZcQ xs j) (hlt:hat xs j<hat xs ((j - 1) / 2)):ZcQ (swp xs ((j - 1) / 2) j) ((j - 1) / 2):=by
  have hi:(j - 1) / 2<xs.length:=by omega
  have H:=fun k=>Zcc hi hj k
  generalize hii:(j - 1) / 2=i at *
  refine ⟨fun k hk0 hk hne=>?_,fun k hk0 hk hpar hi0=>?_⟩
  · rw [Zbr] at hk
    rw [H,H]
    by_cases e1:k=j
    · subst e1
      rw [hii];rw [if_neg (by omega),if_pos rfl,if_pos rfl];omega
    · rw [if_neg e1,if_neg hne]
      by_cases e2:(k - 1) / 2=j
      · rw [if_pos e2];have:=h.2 k hk0 hk e2 h0;rw [hii] at this;exact this
      · rw [if_neg e2]
        by_cases e3:(k - 1) / 2=i
        · rw [if_pos e3];have:=h.1 k hk0 hk e1;rw [e3] at this;omega
        · rw [if_neg e3];exact h.1 k hk0 hk e1
  · rw [Zbr] at hk
    rw [H,H]
    have hpi:(i - 1) / 2≠i:=by omega
    have hpj:(i - 1) / 2≠j:=by omega
    rw [if_neg hpj,if_neg hpi]
    have hii2:=h.1 i hi0 hi (by omega)
    by_cases e1:k=j
    · rw [if_pos e1];exact hii2
    · rw [if_neg e1,if_neg (by omega)]
      have:=h.1 k hk0 hk e1;rw [hpar] at this;omega
theorem Zjk {xs:List Int} (h:Zbx xs) :∀k,k<xs.length→hat xs 0≤hat xs k:=fun k=>by
  induction k using Nat.strongRecOn with
  | ind k ih=>
    intro hk
    by_cases h0:k=0
    · subst h0;exact Int.le_refl _
    · have h1:=ih ((k - 1) / 2) (by omega) (by omega)
      have h2:=h k (by omega) hk
      omega
def ZjF (xs:List Int) (n:Nat):Prop:=∀k,0<k→k<n→hat xs ((k - 1) / 2)≤hat xs k
def Zcg (xs:List Int) (n i:Nat):Prop:=(∀k,0<k→k<n→(k - 1) / 2≠i→hat xs ((k - 1) / 2)≤hat xs k)∧(∀k,0<k→k<n→(k - 1) / 2=i→0<i→hat xs ((i - 1) / 2)≤hat xs k)
theorem ZiD {xs:List Int} {n i:Nat} (h:Zcg xs n i) (hl:n≤2*i+1):ZjF xs n:=fun k h0 hk=>h.1 k h0 hk (by omega)
theorem Zep {xs:List Int} {n i:Nat} (h:Zcg xs n i) (hc :∀k,0<k→k<n→(k - 1) / 2=i→hat xs i≤hat xs k):ZjF xs n:=fun k h0 hk=>by
  by_cases e:(k - 1) / 2=i
  · rw [e];exact hc k h0 hk e
  · exact h.1 k h0 hk e
theorem Zeo {xs:List Int} {n i j:Nat} (hn:n≤xs.length) (hj0:0<j) (hj:j<n) (hpj:(j - 1) / 2=i) (h:Zcg xs n i) (hmin :∀k,0<k→k<n→(k - 1) / 2=i→hat xs j≤hat xs k) (hlt:hat xs j<hat xs i):Zcg (swp xs i j) n j:=by
  have hi:i<xs.length:=by omega
  have hij:i≠j:=by omega
  have H:=fun k=>Zcc hi (show j<xs.length by omega) k
  refine ⟨fun k hk0 hk hne=>?_,fun k hk0 hk hpar _=>?_⟩
  · rw [H,H,if_neg hne]
    by_cases e1:k=j
    · subst e1;rw [if_pos hpj,if_pos rfl];omega
    · rw [if_neg e1]
      by_cases e2:(k - 1) / 2=i
      · rw [if_pos e2,if_neg (by omega)];exact hmin k hk0 hk e2
      · rw [if_neg e2]
        by_cases e3:k=i
        · rw [if_pos e3];subst e3;exact h.2 j hj0 hj hpj hk0
        · rw [if_neg e3];exact h.1 k hk0 hk e2
  · rw [H,H,hpj,if_neg hij,if_pos rfl,if_neg (by omega),if_neg (by omega)]
    have:=h.1 k hk0 hk (by omega)
    rwa [hpar] at this
theorem ZlL (k:Nat):Int.tdiv ((k:Int) - 1) 2=(((k - 1) / 2:Nat):Int):=by
  cases k with
  | zero=>rfl
  | succ k=>rw [show ((k+1:Nat):Int) - 1=(k:Int) from by omega,Int.tdiv_eq_ediv_of_nonneg (by omega)];simp
theorem Zip {xs:List Int} {z:Int} {k:Nat} (h:k<xs.length):hat (xs ++ [z]) k=hat xs k:=by
  simp [hat,List.getD,List.getElem?_append_left h]
theorem Zi5 {xs:List Int} {z:Int} (h:Zbx xs):ZcQ (xs ++ [z]) xs.length:=by
  refine ⟨fun k h0 hk hne=>?_,fun k h0 hk hp _=>?_⟩
  · rw [List.length_append,List.length_singleton] at hk
    rw [Zip (by omega),Zip (by omega)]
    exact h k h0 (by omega)
  · rw [List.length_append,List.length_singleton] at hk
    omega
theorem Zkx {xs:List Int} (h:Zbx xs) (h0:0<xs.length):Zcg (swp xs 0 (xs.length - 1)) (xs.length - 1) 0:=by
  refine ⟨fun k hk0 hk hne=>?_,fun k hk0 hk hpar hh=>absurd hh (by omega)⟩
  rw [Zcc h0 (by omega),Zcc h0 (by omega),if_neg (by omega),if_neg (by omega),if_neg (by omega),if_neg (by omega)]
  exact h k hk0 (by omega)
theorem Zi0 {xs:List Int} (h0:0<xs.length):hat (swp xs 0 (xs.length - 1)) (xs.length - 1)=hat xs 0:=by rw [Zcc h0 (by omega),if_pos rfl]
theorem ZgN {xs:List Int} {n k:Nat} (h:k<n):hat (xs.take n) k=hat xs k:=by simp [hat,List.getD,List.getElem?_take,h]
theorem Zhi {ys:List Int} {n:Nat} (h:ZjF ys n) (hn:n≤ys.length):Zbx (ys.take n):=fun k h0 hk=>by
  rw [List.length_take] at hk
  rw [ZgN (by omega),ZgN (by omega)]
  exact h k h0 (by omega)
theorem Zi7 {xs ys:List Int} (h0:0<ys.length) (hp:ys.Perm xs) {z:Int} (hz:hat ys (ys.length - 1)=z):(z :: ys.take (ys.length - 1)).Perm xs:=by
  refine List.Perm.trans ?_ hp
  have e:ys=ys.take (ys.length - 1) ++ [z]:=by
    have h1:=Zau (Zag (xs:=ys) (k:=ys.length - 1) (by omega))
    rw [show ys.length - 1+1=ys.length from by omega,List.take_length] at h1
    rw [hz] at h1;exact h1
  have h2:(z :: ys.take (ys.length - 1)).Perm (ys.take (ys.length - 1) ++ [z]):=(List.perm_append_singleton z _).symm
  rwa [← e] at h2
theorem Zjj:Zbx []:=fun k h0 hk=>by simp at hk
def asc:Int→Int→List Int→Bool
  | _,_,[]=>true
  | b,l,x :: r=>decide (b<x) && decide (x≤l) && asc x l r
theorem Zgj :∀{r:List Int} {b l z:Int},asc b l r=true→z∈r→b<z
  | [],_,_,_,_,hz=>by cases hz
  | x :: r,b,l,z,h,hz=>by
    simp only [asc,Bool.and_eq_true,decide_eq_true_eq] at h
    rcases List.mem_cons.1 hz with rfl | hz
    · exact h.1.1
    · have:=Zgj h.2 hz;omega
theorem ZkH {xs:List Int} {k:Nat} (h:k<xs.length):hat xs k∈xs:=List.mem_of_getElem? (Zag h)
theorem Zjw {b l x:Int} {r ys:List Int} (hp:ys.Perm (x :: r)) (hh:Zbx ys) (hne:hat ys 0≠x):false=asc b l (x :: r):=by
  symm;rw [Bool.eq_false_iff]
  intro h
  have h0:0<ys.length:=by rw [hp.length_eq];simp
  have hm:=hp.mem_iff.1 (ZkH h0)
  simp only [asc,Bool.and_eq_true,decide_eq_true_eq] at h
  rcases List.mem_cons.1 hm with e | hm
  · exact hne e
  · have h1:=Zgj h.2 hm
    obtain ⟨k,hk⟩:=List.mem_iff_getElem?.1 (hp.mem_iff.2 (List.mem_cons_self (a:=x) (l:=r)))
    have h2:=Zjk hh k (List.getElem?_eq_some_iff.1 hk).1
    rw [ZkI hk] at h2
    omega
theorem Zjv {b l x:Int} {r:List Int} (h:x≤b):false=asc b l (x :: r):=by simp [asc,show ¬ b<x from by omega]
theorem Zju {b l x:Int} {r:List Int} (h:l<x):false=asc b l (x :: r):=by simp [asc,show ¬ x≤l from by omega]
theorem Zlr {b l x:Int} {r:List Int} (h : ¬ x≤b) (h2 : ¬ l<x):asc b l (x :: r)=asc x l r:=by simp [asc,show b<x from by omega,show x≤l from by omega]
theorem Zgz :∀{xs:List DItem} {b:Int} {l:Int},l≤99→(match ZbK b xs with | some r=>decide (r≤l) | none=>false)=(decide (b≤l) && xs.all ZbZ && asc b l (xs.map (·.id)))
  | [],b,l,_=>by simp [ZbK,asc]
  | x :: xs,b,l,hl=>by
    have ih:=Zgz (xs:=xs) (b:=x.id) hl
    rw [ZbK,List.map_cons,List.all_cons,asc]
    by_cases h1:b+1≤x.id
    · by_cases h2:ZbZ x=true
      · by_cases h3:x.id≤99
        · rw [if_pos ⟨⟨h1,h3⟩,h2⟩,ih,h2]
          by_cases h4:x.id≤l
          · simp [h4,show b≤l from by omega,show b<x.id from by omega]
          · simp [h4]
        · rw [if_neg (fun h=>h3 h.1.2)]
          simp [show ¬ x.id≤l from by omega]
      · rw [if_neg (fun h=>h2 h.2)]
        simp [h2]
    · rw [if_neg (fun h=>h1 h.1.1)]
      simp [show ¬ b<x.id from by omega]
theorem ZbX (q:DQueue):Z7 q=(decide (q.items.length≤6) && decide (1≤q.next) && decide (q.next≤100) && q.items.all ZbZ && asc 0 (q.next - 1) (q.items.map (·.id))):=by
  by_cases h:q.next≤100
  · have:=Zgz (xs:=q.items) (b:=0) (l:=q.next - 1) (by omega)
    unfold Z7
    cases hs:ZbK 0 q.items with
    | none=>
      rw [hs] at this
      simp only at this
      rw [Bool.eq_iff_iff]
      simp only [Bool.and_eq_true,decide_eq_true_eq,Bool.false_eq_true,false_iff]
      rintro ⟨⟨⟨⟨_,h1⟩,_⟩,h2⟩,h3⟩
      rw [h2,h3] at this
      simp at this;omega
    | some r=>
      rw [hs] at this
      simp only at this
      rw [Bool.eq_iff_iff] at this ⊢
      simp only [Bool.and_eq_true,decide_eq_true_eq] at this ⊢
      constructor
      · rintro ⟨⟨h1,h2⟩,h3⟩
        obtain ⟨⟨a,b⟩,c⟩:=this.1 (by omega)
        exact ⟨⟨⟨⟨h3,by omega⟩,h⟩,b⟩,c⟩
      · rintro ⟨⟨⟨⟨h1,h2⟩,h3⟩,h4⟩,h5⟩
        have:=this.2 ⟨⟨by omega,h4⟩,h5⟩
        omega
  · unfold Z7
    cases ZbK 0 q.items <;> simp [h]
theorem Zlt {α:Type} {p:α→Bool} {l:List α} {k:Nat} {x:α} (hx:l[k]? = some x) (h:p x=false):l.all p=false:=by
  rw [Bool.eq_false_iff];intro hp
  rw [List.all_eq_true] at hp
  have:=hp x (List.mem_of_getElem? hx)
  rw [h] at this;cases this
theorem Zls {α:Type} {p:α→Bool} {l:List α} {k:Nat} {x:α} (hx:l[k]? = some x) (h:p x=true) (ha:(l.take k).all p=true):(l.take (k+1)).all p=true:=by
  rw [Zau hx,List.all_append,ha];simp [h]
theorem Zf5 {q:DQueue} {k:Nat} {x:DItem} (hx:q.items[k]? = some x) (h:ZbZ x=false):false=Z7 q:=by
  rw [ZbX,Zlt hx h];simp
theorem Zf4 {q:DQueue} {k:Nat} (hk : ¬ (k:Int)<q.items.length) (ha:(q.items.take k).all ZbZ=true) (h6:q.items.length≤6) (h1:1≤q.next) (h2:q.next≤100):asc 0 (q.next - 1) (q.items.map (·.id))=Z7 q:=by
  rw [List.take_of_length_le (by omega)] at ha
  rw [ZbX,ha];simp [h6,h1,h2]
structure QLf where
  p:Option Addr
  ys:List DItem
  xs:List DItem
  cells:Cells
theorem Zj8 :∀{ids:List Int} {b l:Int},asc b l ids=true→ids.Nodup
  | [],_,_,_=>by simp
  | x :: r,b,l,h=>by
    simp only [asc,Bool.and_eq_true,decide_eq_true_eq] at h
    rw [List.nodup_cons]
    exact ⟨fun hm=>by have:=Zgj h.2 hm;omega,Zj8 h.2⟩
theorem Zf3 {q:DQueue} (h:Z7 q=true):(q.items.map (·.id)).Nodup:=by
  rw [ZbX] at h
  simp only [Bool.and_eq_true] at h
  exact Zj8 h.2
theorem Zb7 {q:DQueue} (h:Z7 q=true) {x:DItem} (hx:x∈q.items):ZbZ x=true:=by
  rw [ZbX] at h
  simp only [Bool.and_eq_true] at h
  exact List.all_eq_true.1 h.1.2 x hx
theorem ZcK {x:DItem} (h:ZbZ x=true):0<x.left.length∧x.left.Nodup:=by
  simp only [ZbZ,ZaE,Zbi,Bool.and_eq_true,decide_eq_true_eq] at h
  exact ⟨h.1.2,h.1.1.2.1.2⟩
theorem Zfo {id:Int} {u:Str} {x:DItem} (h : ¬ (x.id=id∧u∈x.left)):ZaD id u x=x:=by rw [ZaD,if_neg h]
theorem ZcV {id:Int} {u:Str} :∀{xs:List DItem} {s:Str × Bool},(∀x,x∈xs→¬ (x.id=id∧u∈x.left))→xs.foldl (ZbS id u) s=s
  | [],_,_=>rfl
  | x :: xs,s,h=>by
    rw [List.foldl_cons,ZbS,if_neg (h x (List.mem_cons_self ..))]
    exact ZcV fun y hy=>h y (List.mem_cons_of_mem _ hy)
theorem ZdW {id:Int} {u:Str} {xs:List DItem} (h :∀x,x∈xs→¬ (x.id=id∧u∈x.left)) (hl :∀x,x∈xs→0<x.left.length):Zct id u xs=xs:=by
  have e:xs.map (ZaD id u)=xs:=by
    conv=>rhs;rw [← List.map_id xs]
    exact List.map_congr_left fun x hx=>Zfo (h x hx)
  rw [Zct,e]
  exact List.filter_eq_self.2 fun x hx=>by simpa using hl x hx
theorem Zgw {q:DQueue} {id:Int} {u:Str} (hq:Z7 q=true) (h :∀x,x∈q.items→¬ (x.id=id∧u∈x.left)):Zan q id u=(q,[],false):=by
  rw [Zan,if_pos hq,ZcU,ZdW h (fun x hx=>(ZcK (Zb7 hq hx)).1),ZcG,ZcV h]
theorem ZfE {q:DQueue} (hq:Z7 q=true) {pre ys:List DItem} {y:DItem} (hs:pre ++ y :: ys=q.items):(∀x,x∈pre→x.id≠y.id)∧∀x,x∈ys→x.id≠y.id:=by
  have h:=Zf3 hq
  rw [← hs,List.map_append,List.map_cons,List.nodup_append] at h
  obtain ⟨_,h2,h3⟩:=h
  rw [List.nodup_cons] at h2
  refine ⟨fun x hx=>h3 _ (List.mem_map.2 ⟨x,hx,rfl⟩) _ (List.mem_cons_self ..),fun x hx e=>h2.1 (List.mem_map.2 ⟨x,hx,e⟩)⟩
theorem Zg3 {q:DQueue} (hq:Z7 q=true) {pre ys:List DItem} {y:DItem} (hs:pre ++ y :: ys=q.items) {u:Str} (hu : ¬ u∈y.left):Zan q y.id u=(q,[],false):=by
  obtain ⟨h1,h2⟩:=ZfE hq hs
  refine Zgw hq fun x hx ⟨e1,e2⟩=>?_
  rw [← hs] at hx
  rcases List.mem_append.1 hx with hx | hx
  · exact h1 x hx e1
  · rcases List.mem_cons.1 hx with rfl | hx
    · exact hu e2
    · exact h2 x hx e1
theorem ZdV {q:DQueue} (hq:Z7 q=true) {pre ys:List DItem} {y:DItem} (hs:pre ++ y :: ys=q.items) {u:Str} (hu:u∈y.left) :
    Zan q y.id u=(⟨q.next,pre ++ (if 0<(without y.left u).length then ⟨y.id,y.fr,y.text,without y.left u⟩ :: ys else ys)⟩,y.text,true):=by
  obtain ⟨h1,h2⟩:=ZfE hq hs
  have hl :∀x,x∈q.items→0<x.left.length:=fun x hx=>(ZcK (Zb7 hq hx)).1
  have n1 :∀x,x∈pre→¬ (x.id=y.id∧u∈x.left):=fun x hx e=>h1 x hx e.1
  have n2 :∀x,x∈ys→¬ (x.id=y.id∧u∈x.left):=fun x hx e=>h2 x hx e.1
  have l1:=ZdW n1 (fun x hx=>hl x (by rw [← hs];exact List.mem_append_left _ hx))
  have l2:=ZdW n2 (fun x hx=>hl x (by rw [← hs];exact List.mem_append_right _ (List.mem_cons_of_mem _ hx)))
  rw [Zan,if_pos hq,ZcU,← hs]
  unfold Zct at l1 l2 ⊢
  unfold ZcG
  rw [List.foldl_append,ZcV n1,List.foldl_cons,ZcV n2,ZbS,if_pos ⟨rfl,hu⟩,List.map_append,List.map_cons,List.filter_append,l1,Zb3 rfl hu,List.filter_cons,l2]
  simp only [decide_eq_true_eq]
theorem ZdP :∀{xs:List Str} {u:Str} {i:Nat},xs.Nodup→xs[i]? = some u→without xs u=xs.take i ++ xs.drop (i+1)
  | [],_,_,_,h=>by simp at h
  | x :: xs,u,0,hn,h=>by
    simp only [List.getElem?_cons_zero,Option.some.injEq] at h;subst h
    rw [List.nodup_cons] at hn
    simp only [without,List.filter_cons,ne_eq,not_true_eq_false,decide_false,Bool.false_eq_true,if_false,List.take_zero,List.nil_append,Nat.zero_add,List.drop_succ_cons,List.drop_zero]
    refine List.filter_eq_self.2 fun y hy=>?_
    have hne:y≠x:=fun e=>hn.1 (e ▸ hy)
    simpa using hne
  | x :: xs,u,i+1,hn,h=>by
    rw [List.nodup_cons] at hn
    have h':xs[i]? = some u:=by simpa using h
    have hne:x≠u:=fun e=>hn.1 (e ▸ List.mem_of_getElem? h')
    have:=ZdP hn.2 h'
    unfold without at this ⊢
    simp only [List.filter_cons,ne_eq,hne,not_false_eq_true,decide_true,if_true,List.take_succ_cons,List.drop_succ_cons,List.cons_append]
    rw [← this]
theorem Zje {xs:List Str} {u:Str} (h:0≤ZkP xs u) :∃k:Nat,ZkP xs u=k∧xs[k]? = some u:=by
  unfold ZkP Zjh at h ⊢
  cases hf:xs.findIdx? (fun x=>decide (x=u)) with
  | none=>simp only [List.findIdx?_eq_none_iff.1 hf,hf] at h;omega
  | some i=>
    refine ⟨i,rfl,?_⟩
    rw [List.findIdx?_eq_some_iff_getElem] at hf
    obtain ⟨hi,hp,_⟩:=hf
    rw [List.getElem?_eq_getElem hi]
    simpa using hp
structure QN where
  k:Nat
  a:Option Addr
  c:Nat
end Go.BL
namespace Go.BL
open Go
set_option linter.unusedVariables false
set_option linter.unusedSimpArgs false
end Go.BL
namespace Go.BL
open Go
set_option linter.unusedVariables false
set_option linter.unusedSimpArgs false
inductive Prev {α β:Type} (f:α→β) (z:β) (xs:List α):Nat→β→Prop
  | zero:Prev f z xs 0 z
  | succ {k:Nat} {x:α} : xs[k]? = some x→Prev f z xs (k+1) (f x)
theorem Prev.at {α β:Type} {f:α→β} {z:β} {xs:List α} {k:Nat} {b:β} {y:α} (h:Prev f z xs k b) (hy:xs[((k:Int) - 1).toNat]? = some y) (hk:0<(k:Int)):b=f y:=by
  cases h with
  | zero=>omega
  | succ hx=>
    rename_i k x
    rw [show (((k+1:Nat):Int) - 1).toNat=k from by omega,hx] at hy
    cases hy;rfl
def DFolder.box (f:DFolder):DBox:=⟨f.next,f.mail⟩
def ZjG:Rel Bool:=fun _ row x=>row=[.bool x]
theorem ZjG.mono:Mono ZjG:=fun _ _ _ h=>h
theorem ZjG.one {B:Kn} :∀row y,ZjG B row y→row.all ZcJ=true∧row.length=1:=by rintro _ y rfl;exact ⟨rfl,rfl⟩
end Go.BL
namespace Go.BL
open Go
set_option linter.unusedVariables false
set_option linter.unusedSimpArgs false
structure DSess where
  user:Str
  owner:Str
  name:Str
deriving DecidableEq
end Go.BL
namespace Go.BL
open Go
set_option linter.unusedVariables false
set_option linter.unusedSimpArgs false
end Go.BL
namespace Go.BL
open Go
set_option linter.unusedVariables false
set_option linter.unusedSimpArgs false
def dig (k:Nat):Str:=[UInt8.ofNat (IntKind.u8.wrap (48+((k % 10:Nat):Int))).toNat]
def digs (k:Nat):Str:=if h:k=0 then [] else digs (k / 10) ++ dig k
termination_by k
decreasing_by omega
theorem ZfM:digs 0=[]:=by unfold digs;rfl
theorem ZgS {k:Nat} (h:0<k):digs k=digs (k / 10) ++ dig k:=by
  conv=>lhs;unfold digs
  rw [dif_neg (by omega)]
theorem Zfe :∀(n k:Nat),k<10 ^ n→(digs k).length≤n
  | n,0,_=>by rw [ZfM];simp
  | 0,k+1,h=>by simp at h
  | n+1,k+1,h=>by
    rw [ZgS (by omega),List.length_append]
    have h1:(k+1) / 10<10 ^ n:=by rw [Nat.pow_succ] at h;omega
    have:=Zfe n _ h1
    simp only [dig,List.length_cons,List.length_nil];omega
def ZaJ (k:Nat):Str:=if k=0 then [109,48] else 109 :: digs k
theorem Zd8 {k:Nat} (h:k≤1000000000000000):(ZaJ k).length≤20:=by
  unfold ZaJ
  split
  · simp
  · have:=Zfe 16 k (by omega)
    simp only [List.length_cons];omega
theorem ZiE {k0 k:Nat} {t:Str} (h:digs k0=digs k ++ t) (hk:0<k):digs k0=digs (k / 10) ++ (dig k ++ t):=by
  rw [h,ZgS hk,List.append_assoc]
theorem ZkM {k0 k:Nat} {t:Str} (h0:k0≤1000000000000000) (h:digs k0=digs k ++ t):t.length≤16:=by
  have h1:=Zfe 16 k0 (by omega)
  rw [h,List.length_append] at h1;omega
theorem ZcZ {α:Type} {ys:List α} {i:Nat} {c:α} (h:i<ys.length):(ys.set i c).take (i+1)=ys.take i ++ [c]:=by
  rw [List.take_add_one,List.getElem?_set_self h,List.take_set_of_le (Nat.le_refl _)];rfl
def Zia (k n:Nat):List DMail:=(List.range n).map fun i=>⟨((k+3*i:Nat):Int),((k+3*i+1:Nat):Int),ZaJ (k+3*i+1+1)⟩
theorem ZD (k n:Nat):(Zia k n).length=n:=by simp [Zia]
def ZgF (k n:Nat):List DGrant:=(List.range n).map fun i=>⟨ZaJ (k+2*i),((k+2*i+1:Nat):Int)⟩
theorem Zw (k n:Nat):(ZgF k n).length=n:=by simp [ZgF]
def Zh9 (k n:Nat):List DUser:=(List.range n).map fun i=>⟨ZaJ (k+3*i),ZaJ (k+3*i+1),((k+3*i+1+1:Nat):Int)⟩
theorem ZC (k n:Nat):(Zh9 k n).length=n:=by simp [Zh9]
def Zbk (k n:Nat):List Str:=(List.range n).map fun i=>ZaJ (k+1*i)
theorem ZB (k n:Nat):(Zbk k n).length=n:=by simp [Zbk]
theorem Zf9 {ys:List Str} {i k:Nat} {z1:Str} (ht:ys.take i=Zbk k i) (h1:ys[i]? = some z1):(ys.set i (ZaJ (k+1*i))).take (i+1)=Zbk k (i+1):=by
  have hl:=(List.getElem?_eq_some_iff.1 h1).1
  rw [ZcZ hl,ht,Zbk,Zbk,List.range_succ,List.map_append];rfl
theorem Zlj {α:Type} {ys zs:List α} {i:Nat} (h:ys.take i=zs) (hi:ys.length≤i):ys=zs:=by rwa [List.take_of_length_le hi] at h
end Go.BL
namespace Go.BL
open Go
set_option linter.unusedVariables false
set_option linter.unusedSimpArgs false
structure DEvent where
  kind:Int
  by_:Str
  owner:Str
  name:Str
  to_:Str
  text:Str
  a:Int
  b:Int
deriving DecidableEq
end Go.BL
namespace Go.BL
open Go
set_option linter.unusedVariables false
set_option linter.unusedSimpArgs false
theorem ZkJ {α:Type} {fs:List α} {k i:Nat} {y g:α} (h:(fs.set k y)[i]? = some g):(i=k∧g=y∧k<fs.length)∨(i≠k∧fs[i]? = some g):=by
  have hi:=(List.getElem?_eq_some_iff.1 h).1
  rw [List.length_set] at hi
  rw [List.getElem?_set] at h
  split at h
  · rename_i e
    subst e
    simp [hi] at h
    exact .inl ⟨rfl,h.symm,hi⟩
  · rename_i e
    exact .inr ⟨fun e'=>e e'.symm,h⟩
def Like (ms ms':List DMail):Prop:=ms'.length=ms.length∧∀(i:Nat) (a b:DMail),ms[i]? = some a→ms'[i]? = some b→b.uid=a.uid∧b.text=a.text∧(b.flags=a.flags∨(0≤b.flags∧b.flags≤31))
theorem Like.refl (ms:List DMail):Like ms ms:=⟨rfl,fun i a b h1 h2=>by rw [h1] at h2;cases h2;exact ⟨rfl,rfl,.inl rfl⟩⟩
theorem Like.set {ms acc:List DMail} {k:Nat} {a:DMail} {fl:Int} (h:Like ms acc) (ha:acc[k]? = some a) (hf:0≤fl∧fl≤31):Like ms (acc.set k ⟨a.uid,fl,a.text⟩):=by
  refine ⟨by rw [List.length_set];exact h.1,fun i c d hc hd=>?_⟩
  rcases ZkJ hd with ⟨rfl,rfl,_⟩ | ⟨_,hd⟩
  · have:=h.2 _ _ _ hc ha
    exact ⟨this.1,this.2.1,.inr hf⟩
  · exact h.2 _ _ _ hc hd
end Go.BL
namespace Go.BL
open Go
set_option linter.unusedVariables false
set_option linter.unusedSimpArgs false
structure GHC where
  q1:Option Addr
  c1:Nat
  q3:Option Addr
  c3:Nat
  b:Nat
structure GEx where
  k:Nat
  m:Gh DMail
  n:Gh Int
structure GCp where
  k:Nat
  x:DHost
  c:Int
  q1:Option Addr
  c1:Nat
  q2:Option Addr
  c2:Nat
  q3:Option Addr
  c3:Nat
structure GHo where
  k:Nat
  p:Nat
  x:DHost
  q1:Option Addr
  c1:Nat
  q2:Option Addr
  c2:Nat
  q3:Option Addr
  c3:Nat
structure GBo where
  k:Nat
  p:Nat
  l:Cells
  a:Option Addr
  c:Nat
  x:DBox
structure GAc where
  k:Nat
  p:Nat
  l:Cells
  a:Option Addr
  c:Nat
  xs:List DGrant
end Go.BL
namespace Go.BL
open Go
set_option linter.unusedVariables false
set_option linter.unusedSimpArgs false
end Go.BL
namespace Go.BL
open Go
set_option linter.unusedVariables false
set_option linter.unusedSimpArgs false
def ZaC (x:DItem):Nat:=3+x.left.length
def mkI (k:Nat) (x:DItem):DItem:=⟨((k:Nat):Int),ZaJ (k+1),ZaJ (k+1+1),Zbk (k+1+1+1) x.left.length⟩
def kL {α:Type} (st:α→Nat) (k:Nat) (xs:List α):Nat:=k+(xs.map st).sum
def mkL {α:Type} (st:α→Nat) (mk:Nat→α→α):Nat→List α→List α
  | _,[]=>[]
  | k,x :: xs=>mk k x :: mkL st mk (k+st x) xs
theorem ZjY {α:Type} {st:α→Nat} {k:Nat} : kL st k []=k:=by simp [kL]
theorem Ze6 {α:Type} {st:α→Nat} {k:Nat} {x:α} {xs:List α} : kL st k (x :: xs)=kL st (k+st x) xs:=by simp [kL];omega
theorem Zgc {α:Type} {st:α→Nat} {k i:Nat} {xs:List α} {x:α} (hx:xs[i]? = some x):kL st k (xs.take (i+1))=kL st k (xs.take i)+st x:=by
  rw [Zau hx,kL,kL,List.map_append,List.sum_append];simp;omega
theorem ZkE {α:Type} {st:α→Nat} {c:Nat} :∀{xs:List α} (k:Nat),(∀x,x∈xs→st x≤c)→kL st k xs≤k+xs.length*c
  | [],k,_=>by simp [kL]
  | x :: xs,k,h=>by
    have h1:=ZkE (st:=st) (c:=c) (xs:=xs) (k+st x) fun y hy=>h y (List.mem_cons_of_mem _ hy)
    have h2:=h x (List.mem_cons_self ..)
    rw [Ze6,List.length_cons,Nat.succ_mul];omega
theorem ZgE {α:Type} {st:α→Nat} {mk:Nat→α→α} {x:α} :∀{xs:List α} (k:Nat),mkL st mk k (xs ++ [x])=mkL st mk k xs ++ [mk (kL st k xs) x]
  | [],k=>by simp [mkL,kL]
  | y :: xs,k=>by
    rw [List.cons_append,mkL,ZgE (xs:=xs) (k+st y),mkL,Ze6,List.cons_append]
theorem Zab {α:Type} {st:α→Nat} {mk:Nat→α→α} :∀{xs:List α} (k:Nat),(mkL st mk k xs).length=xs.length
  | [],k=>rfl
  | y :: xs,k=>by rw [mkL,List.length_cons,Zab (k+st y),List.length_cons]
theorem Zjd {α:Type} {st:α→Nat} {mk:Nat→α→α} {xs ys:List α} {i k:Nat} {x:α} (ht:ys.take i=mkL st mk k (xs.take i)) (hx:xs[i]? = some x) (hl:ys.length=xs.length):(ys.set i (mk (kL st k (xs.take i)) x)).take (i+1)=mkL st mk k (xs.take (i+1)):=by
  have hi:=(List.getElem?_eq_some_iff.1 hx).1
  rw [ZcZ (by omega),Zau hx,ZgE,ht]
theorem ZkA {α:Type} {st:α→Nat} {mk:Nat→α→α} {xs ys:List α} {i k:Nat} (ht:ys.take i=mkL st mk k (xs.take i)) (hl:ys.length=xs.length) (hi:xs.length≤i):ys=mkL st mk k xs:=by
  rwa [List.take_of_length_le (by omega),List.take_of_length_le hi] at ht
theorem Zic {α:Type} {st:α→Nat} {mk:Nat→α→α} :∀{xs:List α} {i:Nat} {x:α} (k:Nat),xs[i]? = some x→(mkL st mk k xs)[i]? = some (mk (kL st k (xs.take i)) x)
  | [],i,x,k,h=>by simp at h
  | y :: xs,0,x,k,h=>by
    simp only [List.getElem?_cons_zero,Option.some.injEq] at h
    subst h;simp [mkL,kL]
  | y :: xs,i+1,x,k,h=>by
    rw [mkL,List.getElem?_cons_succ,Zic (k+st y) (by simpa using h),List.take_succ_cons,Ze6]
theorem Zjr {α:Type} {xs ys:List α} {i:Nat} {z:α} (hd:ys.drop i=xs.drop i):(ys.set i z).drop (i+1)=xs.drop (i+1):=by
  rw [List.drop_set_of_lt (by omega),← List.drop_drop,← List.drop_drop,hd]
theorem Zjs {α:Type} {xs ys:List α} {i:Nat} (hd:ys.drop i=xs.drop i):ys[i]? = xs[i]?:=by
  have:=congrArg (fun l=>l[0]?) hd
  simpa using this
theorem Zhc {k n g:Nat} (h:g<n):(Zbk k n)[g]? = some (ZaJ (k+1*g)):=by simp [Zbk,h]
theorem ZeY {α:Type} {xs:List α} {k:Nat} {x z:α} (h:xs[k]? = some x):(xs.set k z)[k]? = some z:=List.getElem?_set_self (List.getElem?_eq_some_iff.1 h).1
theorem Zlm {α:Type} {st:α→Nat} {k i:Nat} {xs:List α} {x:α} (hx:xs[i]? = some x):kL st k (xs.take i)+st x≤kL st k xs:=by
  have e:xs=xs.take (i+1) ++ xs.drop (i+1):=(List.take_append_drop _ _).symm
  have h1:=Zgc (st:=st) (k:=k) hx
  have h2:kL st k xs=kL st k (xs.take (i+1))+((xs.drop (i+1)).map st).sum:=by
    conv=>lhs;rw [e]
    simp only [kL,List.map_append,List.sum_append];omega
  omega
theorem ZjZ {α:Type} {st:α→Nat} {k i:Nat} {xs:List α} (h:xs.length≤i):kL st k (xs.take i)=kL st k xs:=by rw [List.take_of_length_le h]
theorem ZiX {α:Type} {xs ys:List α} {i:Nat} {z:α} (h:ys.length=xs.length):(ys.set i z).length=xs.length:=by rw [List.length_set,h]
theorem ZlW {α:Type} {st sz:α→Nat} {xs:List α} (k:Nat) (h :∀x,x∈xs→st x≤3+3*sz x):kL st k xs≤k+3*(xs.length+(xs.map sz).sum):=by
  induction xs generalizing k with
  | nil=>simp [kL]
  | cons x xs ih=>
    rw [Ze6]
    have h1:=ih (k+st x) fun y hy=>h y (List.mem_cons_of_mem _ hy)
    have h2:=h x (List.mem_cons_self ..)
    simp only [List.length_cons,List.map_cons,List.sum_cons];omega
theorem Zib {α:Type} {st:α→Nat} {mk:Nat→α→α} {xs ys:List α} {i k m:Nat} {x:α} (ht:ys.take i=mkL st mk k (xs.take i)) (hx:xs[i]? = some x) (hl:ys.length=xs.length) (hs:m=kL st k (xs.take i)):(ys.set i (mk m x)).take (i+1)=mkL st mk k (xs.take (i+1)):=by
  subst hs;exact Zjd ht hx hl
end Go.BL
namespace Go.BL
open Go
set_option linter.unusedVariables false
set_option linter.unusedSimpArgs false
theorem Zln {k:Nat} {xs:List DItem} : kL ZaC k xs≤k+3*szL Zaw xs:=ZlW k fun x _=>by simp only [ZaC,Zaw,ZaV,szL];omega
end Go.BL
namespace Go.BL
open Go
set_option linter.unusedVariables false
set_option linter.unusedSimpArgs false
end Go.BL
namespace Go.BL
open Go
set_option linter.unusedVariables false
set_option linter.unusedSimpArgs false
def ZaM (x:DLetter):Nat:=x.fr.length+ZaV x.to_+x.text.length
theorem Zg6 {id:Int} {u:Str} {x:DItem} : ZaC (ZaD id u x)≤ZaC x:=by
  unfold ZaD
  split
  · have:(without x.left u).length≤x.left.length:=by unfold without;exact List.length_filter_le ..
    simp only [ZaC];omega
  · exact Nat.le_refl _
theorem Zea {x:DQueue} {z:DItem} (h:szL Zaw x.items≤1048576) (hz:z∈x.items):ZaC z≤3+1048576:=by
  have:=(ZbF h).2 z hz
  unfold Zaw ZaV szL at this
  simp only [ZaC];omega
theorem Zf6 {x:DQueue} {id:Int} {u:Str} (h:szL Zaw x.items≤1048576):kL ZaC 1 (Zan x id u).1.items≤800000000000000∧(Zan x id u).1.items.length≤2000000:=by
  have h0:=(ZbF h).1
  have h1:(Zan x id u).1.items.length≤x.items.length:=Zh3 x id u
  have h2:=ZkE (st:=ZaC) (c:=3+1048576) (xs:=(Zan x id u).1.items) 1 fun y hy=>by
    unfold Zan at hy
    split at hy
    · simp only [ZcU,Zct,List.mem_filter,List.mem_map] at hy
      obtain ⟨⟨z,hz,rfl⟩,_⟩:=hy
      exact Nat.le_trans Zg6 (Zea h hz)
    · simp at hy
  have h3:(Zan x id u).1.items.length*(3+1048576)≤1048576*(3+1048576):=Nat.mul_le_mul_right _ (by omega)
  exact ⟨by omega,by omega⟩
theorem Zhq {x:DQueue} {z:DLetter} (h:szL Zaw x.items≤1048576) (hz:ZaM z≤1048576):kL ZaC 1 (Zai x z).1.items≤800000000000000∧(Zai x z).1.items.length≤2000000:=by
  have h0:=(ZbF h).1
  have h1:=ZjA x z
  have h2:=ZkE (st:=ZaC) (c:=3+1048576) (xs:=(Zai x z).1.items) 1 fun y hy=>by
    unfold Zai at hy
    split at hy
    · split at hy
      · exact Zea h hy
      · rcases List.mem_append.1 hy with hy | hy
        · exact Zea h hy
        · rw [List.mem_singleton.1 hy]
          unfold ZaM ZaV szL at hz
          simp only [ZaC];omega
    · simp at hy
  have h3:(Zai x z).1.items.length*(3+1048576)≤1048577*(3+1048576):=Nat.mul_le_mul_right _ (by omega)
  exact ⟨by omega,by omega⟩
end Go.BL
namespace Go.BL
section
variable {P:PJ} {n:Nat} {ops:Array Oper} {i:Nat} {K:ZW} {S:Env} {D:List Deferred} {B:Kn} {L:List Cells}
variable {dst:Option Tmp} {ty:TypeId} {pos:String} {after:Array Edge} {g:Option (Nat × Bool)}
end
end Go.BL
