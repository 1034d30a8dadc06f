/-
  THE WALK'S LOGIC: owned cells and known cells, goroutines started and awaited, calls, loops, data, and plain laws on lists: no program in sight.
-/
import Derived.Test.YtpdpnilbhlojbaaB0
set_option linter.unusedVariables false
set_option linter.unusedSimpArgs false
set_option linter.unusedSectionVars false
namespace Go.BL
theorem om {p:Prop} (h:p:=by first | omega | (simp;done) | (simp;omega)):p:=h
theorem om2 {p:Prop} (h:p:=by first | assumption | omega | (simp;done) | (simp;omega)):p:=h
theorem oz {p:Prop} (h:p:=by omega):p:=h
theorem kr {p:Prop} (h:p:=by kernel_rfl):p:=h
theorem so {p:Prop} (h:p:=by simp only [];omega):p:=h
theorem so2 {p:Prop} (h:p:=by first | omega | (simp only [];omega)):p:=h
theorem oa {p:Prop} (h:p:=by first | assumption | omega):p:=h
theorem oy {p:Prop} (h:p:=by assumption):p:=h
theorem om3 {p:Prop} (h:p:=by first | omega | decide | (simp;done) | (simp;omega)):p:=h
theorem t1 {α0:Sort _} {a0:α0} : a0=a0∧True:=⟨rfl,trivial⟩
theorem t2 {α0 α1:Sort _} {a0:α0} {a1:α1} : a0=a0∧a1=a1∧True:=⟨rfl,rfl,trivial⟩
theorem t3 {α0 α1 α2:Sort _} {a0:α0} {a1:α1} {a2:α2} : a0=a0∧a1=a1∧a2=a2∧True:=⟨rfl,rfl,rfl,trivial⟩
theorem t4 {α0 α1 α2 α3:Sort _} {a0:α0} {a1:α1} {a2:α2} {a3:α3} : a0=a0∧a1=a1∧a2=a2∧a3=a3∧True:=⟨rfl,rfl,rfl,rfl,trivial⟩
theorem t5 {α0 α1 α2 α3 α4:Sort _} {a0:α0} {a1:α1} {a2:α2} {a3:α3} {a4:α4} : a0=a0∧a1=a1∧a2=a2∧a3=a3∧a4=a4∧True:=⟨rfl,rfl,rfl,rfl,rfl,trivial⟩
theorem t6 {α0 α1 α2 α3 α4 α5:Sort _} {a0:α0} {a1:α1} {a2:α2} {a3:α3} {a4:α4} {a5:α5} : a0=a0∧a1=a1∧a2=a2∧a3=a3∧a4=a4∧a5=a5∧True:=⟨rfl,rfl,rfl,rfl,rfl,rfl,trivial⟩
theorem t7 {α0 α1 α2 α3 α4 α5 α6:Sort _} {a0:α0} {a1:α1} {a2:α2} {a3:α3} {a4:α4} {a5:α5} {a6:α6} : a0=a0∧a1=a1∧a2=a2∧a3=a3∧a4=a4∧a5=a5∧a6=a6∧True:=⟨rfl,rfl,rfl,rfl,rfl,rfl,rfl,trivial⟩
theorem t8 {α0 α1 α2 α3 α4 α5 α6 α7:Sort _} {a0:α0} {a1:α1} {a2:α2} {a3:α3} {a4:α4} {a5:α5} {a6:α6} {a7:α7} : a0=a0∧a1=a1∧a2=a2∧a3=a3∧a4=a4∧a5=a5∧a6=a6∧a7=a7∧True:=⟨rfl,rfl,rfl,rfl,rfl,rfl,rfl,rfl,trivial⟩
theorem t9 {α0 α1 α2 α3 α4 α5 α6 α7 α8:Sort _} {a0:α0} {a1:α1} {a2:α2} {a3:α3} {a4:α4} {a5:α5} {a6:α6} {a7:α7} {a8:α8} : a0=a0∧a1=a1∧a2=a2∧a3=a3∧a4=a4∧a5=a5∧a6=a6∧a7=a7∧a8=a8∧True:=⟨rfl,rfl,rfl,rfl,rfl,rfl,rfl,rfl,rfl,trivial⟩
section
variable {P:PJ} {n:Nat} {ops:Array Oper} {i:Nat} {K:ZR} {S:Env} {D:List Deferred} {B:Kn} {L:List Cells}
variable {dst:Option Tmp} {ty:TypeId} {pos:String} {after:Array Edge} {g:Option (Nat × Bool)} {t u:TypeId} {x y:Operand}
theorem xM {x:Operand} {v:Value} (hg:Zf ops S g=some true:=by exact rfl) (hd:Zn n dst=true:=by exact rfl) (hx:ev S x=some v:=by exact rfl) (h:K (Zaz S dst v) D B L):opW P n ops i ⟨dst,.move x,ty,pos,after,g⟩ K S D B L:=Zr (ZjE hg hd hx h)
theorem xA {x:Operand} {v:Value} (hg:Zf ops S g=some true:=by exact rfl) (hd:Zn n dst=true:=by exact rfl) (hx:ev S x=some v:=by exact rfl) (h:K (Zaz S dst v) D B L):opW P n ops i ⟨dst,.assign x,ty,pos,after,g⟩ K S D B L:=Zr (Zgs hg hd hx h)
theorem xP  {dst:Option Tmp} {op:Op} {t:TypeId} {pos:String} {after:Array Edge} {g:Option (Nat × Bool)}   (hg:Zf ops S g=some false:=by exact rfl) (hd:Zn n dst=true:=by exact rfl) (h:K (Zaz S dst undef) D B L):opW P n ops i ⟨dst,op,t,pos,after,g⟩ K S D B L:=Zr (ZjB  hg hd h)
theorem xT  {c:Operand} {a:Operand} {b:Operand} {v:Value}   (hg:Zf ops S g=some true:=by exact rfl) (hd:Zn n dst=true:=by exact rfl) (hc:ev S c=some (.bool true):=by exact rfl) (hx:ev S a=some v:=by exact rfl) (h:K (Zaz S dst v) D B L):opW P n ops i ⟨dst,.pick c a b,ty,pos,after,g⟩ K S D B L:=Zr (Zhw  hg hd hc hx h)
theorem xF  {c:Operand} {a:Operand} {b:Operand} {v:Value}   (hg:Zf ops S g=some true:=by exact rfl) (hd:Zn n dst=true:=by exact rfl) (hc:ev S c=some (.bool false):=by exact rfl) (hx:ev S b=some v:=by exact rfl) (h:K (Zaz S dst v) D B L):opW P n ops i ⟨dst,.pick c a b,ty,pos,after,g⟩ K S D B L:=Zr (Zhx  hg hd hc hx h)
theorem xE  {x:Operand} {ix:Nat} {vs:List Value} {v:Value}   (hg:Zf ops S g=some true:=by exact rfl) (hd:Zn n dst=true:=by exact rfl) (hx:ev S x=some (.tuple vs.toArray):=by exact rfl) (hi:vs[ix]? = some v:=by exact rfl) (h:K (Zaz S dst v) D B L):opW P n ops i ⟨dst,.extract x ix,ty,pos,after,g⟩ K S D B L:=Zr (Zhz  hg hd hx hi h)
theorem xN  {x:Operand} {b:Bool} {t:TypeId}   (hg:Zf ops S g=some true:=by exact rfl) (hd:Zn n dst=true:=by exact rfl) (hx:ev S x=some (.bool b):=by exact rfl) (h:K (Zaz S dst (.bool (!b))) D B L):opW P n ops i ⟨dst,.unOp .not t x,ty,pos,after,g⟩ K S D B L:=Zr (ZkI  hg hd hx h)
theorem xW  {s:TypeId} {x:Operand} {fi:Nat} {off:Nat} {a:Addr}  (hf:Zu P s fi=some off) (hg:Zf ops S g=some true:=by exact rfl) (hd:Zn n dst=true:=by exact rfl) (hx:ev S x=some (ptr a):=by exact rfl) (h:K (Zaz S dst (ptr (a.add off))) D B L):opW P n ops i ⟨dst,.fieldAddr s x fi,ty,pos,after,g⟩ K S D B L:=Zr (Zc7  hg hd hf hx h)
theorem xD  {k:IntKind} {a b r:Int}   (hg:Zf ops S g=some true:=by exact rfl) (hd:Zn n dst=true:=by exact rfl) (hx:ev S x=some (.int k a):=by exact rfl) (hy:ev S y=some (.int k b):=by exact rfl) (hr:k.wrap (a+b)=r:=by first | exact ZbC (by first | omega | (simp;done) | (simp;omega)) (by first | omega | (simp;done) | (simp;omega)) | exact rfl) (h:K (Zaz S dst (.int k r)) D B L):opW P n ops i ⟨dst,.binOp .add t x y u,ty,pos,after,g⟩ K S D B L:=Zr (Zes  hg hd hx hy hr h)
theorem xU  {k:IntKind} {a b r:Int}   (hg:Zf ops S g=some true:=by exact rfl) (hd:Zn n dst=true:=by exact rfl) (hx:ev S x=some (.int k a):=by exact rfl) (hy:ev S y=some (.int k b):=by exact rfl) (hr:k.wrap (a - b)=r:=by first | exact ZbC (by first | omega | (simp;done) | (simp;omega)) (by first | omega | (simp;done) | (simp;omega)) | exact rfl) (h:K (Zaz S dst (.int k r)) D B L):opW P n ops i ⟨dst,.binOp .sub t x y u,ty,pos,after,g⟩ K S D B L:=Zr (Zhv  hg hd hx hy hr h)
theorem ZN  {k:IntKind} {a b:Int}   (hg:Zf ops S g=some true:=by exact rfl) (hd:Zn n dst=true:=by exact rfl) (hx:ev S x=some (.int k a):=by exact rfl) (hy:ev S y=some (.int k b):=by exact rfl) (h:K (Zaz S dst (.bool (decide (a<b)))) D B L):opW P n ops i ⟨dst,.binOp .lss t x y u,ty,pos,after,g⟩ K S D B L:=Zr (ZkL  hg hd hx hy h)
theorem Zbl  {k:IntKind} {a b:Int}   (hg:Zf ops S g=some true:=by exact rfl) (hd:Zn n dst=true:=by exact rfl) (hx:ev S x=some (.int k a):=by exact rfl) (hy:ev S y=some (.int k b):=by exact rfl) (h:K (Zaz S dst (.bool (decide (a≤b)))) D B L):opW P n ops i ⟨dst,.binOp .leq t x y u,ty,pos,after,g⟩ K S D B L:=Zr (ZkN  hg hd hx hy h)
theorem ZiI  {k:IntKind} {a b:Int}   (hg:Zf ops S g=some true:=by exact rfl) (hd:Zn n dst=true:=by exact rfl) (hx:ev S x=some (.int k a):=by exact rfl) (hy:ev S y=some (.int k b):=by exact rfl) (h:K (Zaz S dst (.bool (decide (b<a)))) D B L):opW P n ops i ⟨dst,.binOp .gtr t x y u,ty,pos,after,g⟩ K S D B L:=Zr (ZkQ  hg hd hx hy h)
theorem ZeV  {k:IntKind} {a b:Int}   (hg:Zf ops S g=some true:=by exact rfl) (hd:Zn n dst=true:=by exact rfl) (hx:ev S x=some (.int k a):=by exact rfl) (hy:ev S y=some (.int k b):=by exact rfl) (h:K (Zaz S dst (.bool (decide (b≤a)))) D B L):opW P n ops i ⟨dst,.binOp .geq t x y u,ty,pos,after,g⟩ K S D B L:=Zr (ZkR  hg hd hx hy h)
theorem ZkH  {k:IntKind} {a b:Int}   (hg:Zf ops S g=some true:=by exact rfl) (hd:Zn n dst=true:=by exact rfl) (hx:ev S x=some (.int k a):=by exact rfl) (hy:ev S y=some (.int k b):=by exact rfl) (h:K (Zaz S dst (.bool (decide (a=b)))) D B L):opW P n ops i ⟨dst,.binOp .eql t x y u,ty,pos,after,g⟩ K S D B L:=Zr (ZjI  hg hd hx hy h)
theorem Zan  {k:IntKind} {a b:Int}   (hg:Zf ops S g=some true:=by exact rfl) (hd:Zn n dst=true:=by exact rfl) (hx:ev S x=some (.int k a):=by exact rfl) (hy:ev S y=some (.int k b):=by exact rfl) (h:K (Zaz S dst (.bool (decide (a≠b)))) D B L):opW P n ops i ⟨dst,.binOp .neq t x y u,ty,pos,after,g⟩ K S D B L:=Zr (ZjD  hg hd hx hy h)
theorem ZdW  {a b:List UInt8}   (hg:Zf ops S g=some true:=by exact rfl) (hd:Zn n dst=true:=by exact rfl) (hx:ev S x=some (str a):=by exact rfl) (hy:ev S y=some (str b):=by exact rfl) (h:K (Zaz S dst (.bool (decide (a=b)))) D B L):opW P n ops i ⟨dst,.binOp .eql t x y u,ty,pos,after,g⟩ K S D B L:=Zr (ZjH  hg hd hx hy h)
theorem ZbW  {a b:List UInt8}   (hg:Zf ops S g=some true:=by exact rfl) (hd:Zn n dst=true:=by exact rfl) (hx:ev S x=some (str a):=by exact rfl) (hy:ev S y=some (str b):=by exact rfl) (h:K (Zaz S dst (.bool (decide (a≠b)))) D B L):opW P n ops i ⟨dst,.binOp .neq t x y u,ty,pos,after,g⟩ K S D B L:=Zr (ZjC  hg hd hx hy h)
theorem Zjz  {a b:List UInt8}   (hg:Zf ops S g=some true:=by exact rfl) (hd:Zn n dst=true:=by exact rfl) (hx:ev S x=some (str a):=by exact rfl) (hy:ev S y=some (str b):=by exact rfl) (h:K (Zaz S dst (.bool (Op.bytesLess a b))) D B L):opW P n ops i ⟨dst,.binOp .lss t x y u,ty,pos,after,g⟩ K S D B L:=Zr (ZkK  hg hd hx hy h)
theorem xV  {x:Operand} {t:TypeId} {e:TypeId} {p:Option Addr} {len:Nat} {cap:Nat}  (hu:P.underlying t=some (.slice e)) (hg:Zf ops S g=some true:=by exact rfl) (hd:Zn n dst=true:=by exact rfl) (hx:ev S x=some (.slice p len cap):=by exact rfl) (h:K (Zaz S dst (.int .i64 len)) D B L):opW P n ops i ⟨dst,.call ⟨.builtin .len,#[x],#[t]⟩,ty,pos,after,g⟩ K S D B L:=Zr (ZkO  hg hd hu hx h)
theorem xVs  {x:Operand} {t:TypeId} {l:List UInt8}  (hu:P.underlying t=some .string) (hg:Zf ops S g=some true:=by exact rfl) (hd:Zn n dst=true:=by exact rfl) (hx:ev S x=some (str l):=by exact rfl) (h:K (Zaz S dst (.int .i64 l.length)) D B L):opW P n ops i ⟨dst,.call ⟨.builtin .len,#[x],#[t]⟩,ty,pos,after,g⟩ K S D B L:=Zr (ZjF  hg hd hu hx h)
theorem xNc  {x:Operand} {a:Addr}   (hg:Zf ops S g=some true:=by exact rfl) (hd:Zn n dst=true:=by exact rfl) (hx:ev S x=some (.pointer (some a)):=by exact rfl) (h:K (Zaz S dst (.pointer (some a))) D B L):opW P n ops i ⟨dst,.nilCheck x,ty,pos,after,g⟩ K S D B L:=Zr (Zd1  hg hd hx h)
theorem x1  {t:TypeId} {x:Operand} {a:Addr} {v:Value} {l:List Value} {T:TypeId} {fr:Nat × Nat} {r:Cells}  (hl:lk P t=some none) (j:Nat) (hg:Zf ops S g=some true:=by exact rfl) (hd:Zn n dst=true:=by exact rfl) (hx:ev S x=some (ptr a):=by exact rfl) (hj:L[j]? = some ((a.block,.cells l.toArray T fr) :: r):=by exact rfl) (hs:a.spot=none:=by exact rfl) (hv:l[a.off]? = some v:=by exact rfl) (h:K (Zaz S dst v) D B L):opW P n ops i ⟨dst,.load t x,ty,pos,after,g⟩ K S D B L:=Zr (Zq  hg hd hl hx (atL j hj hs hv) h)
theorem xL  {t:TypeId} {x:Operand} {a:Addr} {l:List Value} {T:TypeId} {fr:Nat × Nat} {r:Cells}  (vs:List Value) (hl:lk P t=some (some vs.length)) (j:Nat) (hg:Zf ops S g=some true:=by exact rfl) (hd:Zn n dst=true:=by exact rfl) (hx:ev S x=some (ptr a):=by exact rfl) (hj:L[j]? = some ((a.block,.cells l.toArray T fr) :: r):=by exact rfl) (hs:a.spot=none:=by exact rfl) (hv:(l.drop a.off).take vs.length=vs:=by exact rfl) (h:K (Zaz S dst (.agg vs.toArray)) D B L):opW P n ops i ⟨dst,.load t x,ty,pos,after,g⟩ K S D B L:=Zr (Zak  vs hg hd hl hx (Zhp j hj hs hv) h)
theorem y1  {t:TypeId} {x:Operand} {a:Addr} {v:Value} {b o:Nat} {row:List Value}  (hl:lk P t=some none) (hc:Zb2 B b o row) (off:Nat) (hg:Zf ops S g=some true:=by exact rfl) (hd:Zn n dst=true:=by exact rfl) (hx:ev S x=some (ptr a):=by exact rfl) (ha:a=⟨b,o+off,none⟩:=by exact rfl) (hv:row[off]? = some v:=by exact rfl) (h:K (Zaz S dst v) D B L):opW P n ops i ⟨dst,.load t x,ty,pos,after,g⟩ K S D B L:=Zr (Zq  hg hd hl hx (by subst ha;exact hc _ off _ hv) h)
theorem yL  {t:TypeId} {x:Operand} {a:Addr} {b o:Nat} {row:List Value}  (vs:List Value) (hl:lk P t=some (some vs.length)) (hc:Zb2 B b o row) (off:Nat) (hg:Zf ops S g=some true:=by exact rfl) (hd:Zn n dst=true:=by exact rfl) (hx:ev S x=some (ptr a):=by exact rfl) (ha:a=⟨b,o+off,none⟩:=by exact rfl) (hv:(row.drop off).take vs.length=vs:=by exact rfl) (h:K (Zaz S dst (.agg vs.toArray)) D B L):opW P n ops i ⟨dst,.load t x,ty,pos,after,g⟩ K S D B L:=Zr (Zak  vs hg hd hl hx (Zhq hc off ha hv) h)
theorem xS  {t:TypeId} {x:Operand} {y:Operand} {a:Addr} {v:Value} {l:List Value} {T:TypeId} {r:Cells}  (vs:List Value) (j:Nat) (l':List Value) (hsz:ZL P t=some vs.length) (hg:Zf ops S g=some true:=by exact rfl) (hd:Zn n dst=true:=by exact rfl) (hx:ev S x=some (ptr a):=by exact rfl) (hy:ev S y=some v:=by exact rfl) (hv:v.cells=vs.toArray:=by exact rfl) (ho:vs.all Zc0=true:=by exact rfl) (hj:L[j]? = some ((a.block,.cells l.toArray T (0,0)) :: r):=by exact rfl) (hs:a.spot=none:=by exact rfl) (hlen:Nat.ble (a.off+vs.length) l.length=true:=by exact rfl) (hl':ZV l a.off vs=l':=by exact rfl) (h:K (Zaz S dst undef) D B (L.set j ((a.block,.cells l'.toArray T (0,0)) :: r))):opW P n ops i ⟨dst,.store t x y,ty,pos,after,g⟩ K S D B L:=Zr (Zb5  vs j l' hg hd hsz hx hy hv ho hj hs hlen hl' h)
theorem xB  {t:TypeId} {z:Value} {pl:List (Nat × Nat)} {vs:List Value} (parts:List (Nat × Operand)) (zl l':List Value) (hpl:ZaY P t=some pl) (hz:Zaj P t=some z) (hg:Zf ops S g=some true:=by exact rfl) (hd:Zn n dst=true:=by exact rfl) (hzl:z.cells.toList=zl:=by exact rfl) (ha:evs S (parts.map (·.2))=some vs:=by exact rfl) (hf:ZdT (fun i=>pl[i]?) zl ((parts.map (·.1)).zip vs)=some l':=by exact rfl) (h:K (Zaz S dst (.agg l'.toArray)) D B L):opW P n ops i ⟨dst,.build t parts.toArray,ty,pos,after,g⟩ K S D B L:=Zr (Zc9 (parts:=parts) zl l' hg hd hpl hz hzl ha hf h)
theorem xAl  {t:TypeId} {z:Value} (l:List Value) (hz:Zaj P t=some z) (hg:Zf ops S g=some true:=by exact rfl) (hd:Zn n dst=true:=by exact rfl) (hl:z.cells=l.toArray:=by exact rfl) (h :∀b,K (Zaz S dst (ptr ⟨b,0,none⟩)) D B (L ++ [ZaB b l t])):opW P n ops i ⟨dst,.alloc t,ty,pos,after,g⟩ K S D B L:=Zr (Zj6 (l:=l) hg hd hz hl h)
theorem xBx  {t:TypeId} {x:Operand} {v:Value} (l:List Value)  (hg:Zf ops S g=some true:=by exact rfl) (hd:Zn n dst=true:=by exact rfl) (hx:ev S x=some v:=by exact rfl) (hl:v.cells=l.toArray:=by exact rfl) (h :∀b,K (Zaz S dst (ptr ⟨b,0,none⟩)) D B (L ++ [ZaB b l t])):opW P n ops i ⟨dst,.box t x,ty,pos,after,g⟩ K S D B L:=Zr (Zlv (l:=l) hg hd hx hl h)
theorem xIx  {t:TypeId} {e:TypeId} {x:Operand} {y:Operand} {k:IntKind} {b:Nat} {o:Nat} {len:Nat} {cap:Nat} {sz:Nat} {ix:Int}  (hu:P.underlying t=some (.slice e)) (hsz:ZL P e=some sz) (hg:Zf ops S g=some true:=by exact rfl) (hd:Zn n dst=true:=by exact rfl) (hx:ev S x=some (.slice (some ⟨b,o,none⟩) len cap):=by exact rfl) (hy:ev S y=some (.int k ix):=by exact rfl) (h0:0≤ix:=by first | omega | (simp;done) | (simp;omega)) (h1:ix<len:=by first | omega | (simp;done) | (simp;omega)) (h:K (Zaz S dst (ptr ⟨b,o+ix.toNat*sz,none⟩)) D B L):opW P n ops i ⟨dst,.indexAddr t x y,ty,pos,after,g⟩ K S D B L:=Zr (ZkP  hg hd hu hsz hx hy h0 h1 h)
theorem xIp  {t:TypeId} {e:TypeId} {x:Operand} {y:Operand} {k:IntKind} {p:Option Addr} {b:Nat} {len:Nat} {cap:Nat} {sz:Nat} {ix:Int}  (hp:p=some ⟨b,0,none⟩) (hu:P.underlying t=some (.slice e)) (hsz:ZL P e=some sz) (hg:Zf ops S g=some true:=by exact rfl) (hd:Zn n dst=true:=by exact rfl) (hx:ev S x=some (.slice p len cap):=by exact rfl) (hy:ev S y=some (.int k ix):=by exact rfl) (h0:0≤ix:=by first | omega | (simp;done) | (simp;omega)) (h1:ix<len:=by first | omega | (simp;done) | (simp;omega)) (h:K (Zaz S dst (ptr ⟨b,ix.toNat*sz,none⟩)) D B L):opW P n ops i ⟨dst,.indexAddr t x y,ty,pos,after,g⟩ K S D B L:=Zr (Zlu  hp hg hd hu hsz hx hy h0 h1 h)
theorem xR  {f:FuncId} {xs:List Operand} {vs:List Value} {ats:Array TypeId} {v:Value}  (he:enters P f=true) (ha:evs S xs=some vs) (hc:Zaw P f vs B v) (hg:Zf ops S g=some true:=by exact rfl) (hd:Zn n dst=true:=by exact rfl) (h:K (Zaz S dst v) D B L):opW P n ops i ⟨dst,.call ⟨.value (.func f),xs.toArray,ats⟩,ty,pos,after,g⟩ K S D B L:=Zr (ZZ  hg hd he ha hc h)
theorem xBs  {t:TypeId} {e:TypeId} {len:Nat} {sz:Nat} {z:Value} {vs:List Value} (parts:List (Nat × Operand)) (l':List Value) (hu:P.underlying t=some (.slice e)) (hsz:ZL P e=some sz) (hz:Zaj P e=some z) (hg:Zf ops S g=some true:=by exact rfl) (hd:Zn n dst=true:=by exact rfl) (hbig:Nat.ble (len*sz) 1024=true:=by exact rfl) (hidx:parts.map (·.1)=List.range len:=by exact rfl) (ha:evs S (parts.map (·.2))=some vs:=by exact rfl) (hall:vs.all (fun v=>Nat.beq v.cells.toList.length sz)=true:=by exact rfl) (hl':(vs.map fun v=>v.cells.toList).flatten=l':=by exact rfl) (h :∀b,K (Zaz S dst (.slice (some ⟨b,0,none⟩) len len)) D B (L ++ [ZaB b l' e])):opW P n ops i ⟨dst,.buildSlice t len parts.toArray,ty,pos,after,g⟩ K S D B L:=Zr (Zac (parts:=parts) l' hg hd hu hsz hz hbig hidx ha hall hl' h)
end
section
variable {P:PJ} {n:Nat} {ops:Array Oper} {K:ZR} {S:Env} {D:List Deferred} {B:Kn} {L:List Cells}
variable {dst:Option Tmp} {ty:TypeId} {pos:String} {after:Array Edge} {g:Option (Nat × Bool)} {t u:TypeId} {x y:Operand}
theorem aT {C:Cx P} {k':List Item} {I:Kn→List Cells→Prop} {ℓ:List Nat} (i:Nat) {o:Oper} {v:Value} (hi:ops[i]? = some o) (hq:quiet P n ops I i o v (sel (o.looksAt ops) S)) (hr:(Z8 ops ℓ).contains i=true:=by kernel_rfl) (hd:Zn n o.dst=true:=by exact rfl) (hp:ZgJ o=false:=by rfl) (h:ZaD C k' n ops I (i :: ℓ) K (Zaz S o.dst v) D B L):ZaD C k' n ops I ℓ K S D B L:=Zjo i hi hr hd hq h hp
theorem r4 {α β γ δ:Type} {a:α} {b:β} {c:γ} {d:δ} : a=a∧b=b∧c=c∧d=d:=⟨rfl,rfl,rfl,rfl⟩
variable {C:Cx P} {k':List Item} {I:Kn→List Cells→Prop} {ℓ:List Nat}
theorem aM  {x:Operand} {v:Value} (i:Nat) (hii:ops[i]? = some ⟨dst,.move x,ty,pos,after,g⟩)  (hrr:(Z8 ops ℓ).contains i=true:=by kernel_rfl) (hdd:Zn n dst=true:=by exact rfl) (hg:Zf ops (sel ((⟨dst,.move x,ty,pos,after,g⟩:Oper).looksAt ops) S) g=some true:=by exact rfl) (hd:Zn n dst=true:=by exact rfl) (hx:ev (sel ((⟨dst,.move x,ty,pos,after,g⟩:Oper).looksAt ops) S) x=some v:=by exact rfl) (h:ZaD C k' n ops I (i :: ℓ) K (Zaz S dst v) D B L):ZaD C k' n ops I ℓ K S D B L:=ZQ i hii hrr hdd (fun _ _ _=>ZjE hg hd hx ⟨rfl,rfl,rfl,rfl⟩) h
theorem aA  {x:Operand} {v:Value} (i:Nat) (hii:ops[i]? = some ⟨dst,.assign x,ty,pos,after,g⟩)  (hrr:(Z8 ops ℓ).contains i=true:=by kernel_rfl) (hdd:Zn n dst=true:=by exact rfl) (hg:Zf ops (sel ((⟨dst,.assign x,ty,pos,after,g⟩:Oper).looksAt ops) S) g=some true:=by exact rfl) (hd:Zn n dst=true:=by exact rfl) (hx:ev (sel ((⟨dst,.assign x,ty,pos,after,g⟩:Oper).looksAt ops) S) x=some v:=by exact rfl) (h:ZaD C k' n ops I (i :: ℓ) K (Zaz S dst v) D B L):ZaD C k' n ops I ℓ K S D B L:=ZQ i hii hrr hdd (fun _ _ _=>Zgs hg hd hx ⟨rfl,rfl,rfl,rfl⟩) h
theorem aZ  {dst:Option Tmp} {op:Op} {t:TypeId} {pos:String} {after:Array Edge} {g:Option (Nat × Bool)} (i:Nat) (hii:ops[i]? = some ⟨dst,op,t,pos,after,g⟩)  (hrr:(Z8 ops ℓ).contains i=true:=by kernel_rfl) (hdd:Zn n dst=true:=by exact rfl) (hg:Zf ops (sel ((⟨dst,op,t,pos,after,g⟩:Oper).looksAt ops) S) g=some false:=by exact rfl) (hd:Zn n dst=true:=by exact rfl) (h:ZaD C k' n ops I (i :: ℓ) K (Zaz S dst undef) D B L):ZaD C k' n ops I ℓ K S D B L:=ZQ i hii hrr hdd (fun _ _ _=>ZjB hg hd ⟨rfl,rfl,rfl,rfl⟩) h
theorem aPT  {c:Operand} {a:Operand} {b:Operand} {v:Value} (i:Nat) (hii:ops[i]? = some ⟨dst,.pick c a b,ty,pos,after,g⟩)  (hrr:(Z8 ops ℓ).contains i=true:=by kernel_rfl) (hdd:Zn n dst=true:=by exact rfl) (hg:Zf ops (sel ((⟨dst,.pick c a b,ty,pos,after,g⟩:Oper).looksAt ops) S) g=some true:=by exact rfl) (hd:Zn n dst=true:=by exact rfl) (hc:ev (sel ((⟨dst,.pick c a b,ty,pos,after,g⟩:Oper).looksAt ops) S) c=some (.bool true):=by exact rfl) (hx:ev (sel ((⟨dst,.pick c a b,ty,pos,after,g⟩:Oper).looksAt ops) S) a=some v:=by exact rfl) (h:ZaD C k' n ops I (i :: ℓ) K (Zaz S dst v) D B L):ZaD C k' n ops I ℓ K S D B L:=ZQ i hii hrr hdd (fun _ _ _=>Zhw hg hd hc hx ⟨rfl,rfl,rfl,rfl⟩) h
theorem aPF  {c:Operand} {a:Operand} {b:Operand} {v:Value} (i:Nat) (hii:ops[i]? = some ⟨dst,.pick c a b,ty,pos,after,g⟩)  (hrr:(Z8 ops ℓ).contains i=true:=by kernel_rfl) (hdd:Zn n dst=true:=by exact rfl) (hg:Zf ops (sel ((⟨dst,.pick c a b,ty,pos,after,g⟩:Oper).looksAt ops) S) g=some true:=by exact rfl) (hd:Zn n dst=true:=by exact rfl) (hc:ev (sel ((⟨dst,.pick c a b,ty,pos,after,g⟩:Oper).looksAt ops) S) c=some (.bool false):=by exact rfl) (hx:ev (sel ((⟨dst,.pick c a b,ty,pos,after,g⟩:Oper).looksAt ops) S) b=some v:=by exact rfl) (h:ZaD C k' n ops I (i :: ℓ) K (Zaz S dst v) D B L):ZaD C k' n ops I ℓ K S D B L:=ZQ i hii hrr hdd (fun _ _ _=>Zhx hg hd hc hx ⟨rfl,rfl,rfl,rfl⟩) h
theorem aW  {s:TypeId} {x:Operand} {fi:Nat} {off:Nat} {a:Addr} (i:Nat) (hii:ops[i]? = some ⟨dst,.fieldAddr s x fi,ty,pos,after,g⟩) (hf:Zu P s fi=some off) (hrr:(Z8 ops ℓ).contains i=true:=by kernel_rfl) (hdd:Zn n dst=true:=by exact rfl) (hg:Zf ops (sel ((⟨dst,.fieldAddr s x fi,ty,pos,after,g⟩:Oper).looksAt ops) S) g=some true:=by exact rfl) (hd:Zn n dst=true:=by exact rfl) (hx:ev (sel ((⟨dst,.fieldAddr s x fi,ty,pos,after,g⟩:Oper).looksAt ops) S) x=some (ptr a):=by exact rfl) (h:ZaD C k' n ops I (i :: ℓ) K (Zaz S dst (ptr (a.add off))) D B L):ZaD C k' n ops I ℓ K S D B L:=ZQ i hii hrr hdd (fun _ _ _=>Zc7 hg hd hf hx ⟨rfl,rfl,rfl,rfl⟩) h
theorem aN  {x:Operand} {b:Bool} {t:TypeId} (i:Nat) (hii:ops[i]? = some ⟨dst,.unOp .not t x,ty,pos,after,g⟩)  (hrr:(Z8 ops ℓ).contains i=true:=by kernel_rfl) (hdd:Zn n dst=true:=by exact rfl) (hg:Zf ops (sel ((⟨dst,.unOp .not t x,ty,pos,after,g⟩:Oper).looksAt ops) S) g=some true:=by exact rfl) (hd:Zn n dst=true:=by exact rfl) (hx:ev (sel ((⟨dst,.unOp .not t x,ty,pos,after,g⟩:Oper).looksAt ops) S) x=some (.bool b):=by exact rfl) (h:ZaD C k' n ops I (i :: ℓ) K (Zaz S dst (.bool (!b))) D B L):ZaD C k' n ops I ℓ K S D B L:=ZQ i hii hrr hdd (fun _ _ _=>ZkI hg hd hx ⟨rfl,rfl,rfl,rfl⟩) h
theorem aNc  {x:Operand} {a:Addr} (i:Nat) (hii:ops[i]? = some ⟨dst,.nilCheck x,ty,pos,after,g⟩)  (hrr:(Z8 ops ℓ).contains i=true:=by kernel_rfl) (hdd:Zn n dst=true:=by exact rfl) (hg:Zf ops (sel ((⟨dst,.nilCheck x,ty,pos,after,g⟩:Oper).looksAt ops) S) g=some true:=by exact rfl) (hd:Zn n dst=true:=by exact rfl) (hx:ev (sel ((⟨dst,.nilCheck x,ty,pos,after,g⟩:Oper).looksAt ops) S) x=some (.pointer (some a)):=by exact rfl) (h:ZaD C k' n ops I (i :: ℓ) K (Zaz S dst (.pointer (some a))) D B L):ZaD C k' n ops I ℓ K S D B L:=ZQ i hii hrr hdd (fun _ _ _=>Zd1 hg hd hx ⟨rfl,rfl,rfl,rfl⟩) h
theorem ZkC  {k:IntKind} {a b:Int} (i:Nat) (hii:ops[i]? = some ⟨dst,.binOp .lss t x y u,ty,pos,after,g⟩)  (hrr:(Z8 ops ℓ).contains i=true:=by kernel_rfl) (hdd:Zn n dst=true:=by exact rfl) (hg:Zf ops (sel ((⟨dst,.binOp .lss t x y u,ty,pos,after,g⟩:Oper).looksAt ops) S) g=some true:=by exact rfl) (hd:Zn n dst=true:=by exact rfl) (hx:ev (sel ((⟨dst,.binOp .lss t x y u,ty,pos,after,g⟩:Oper).looksAt ops) S) x=some (.int k a):=by exact rfl) (hy:ev (sel ((⟨dst,.binOp .lss t x y u,ty,pos,after,g⟩:Oper).looksAt ops) S) y=some (.int k b):=by exact rfl) (h:ZaD C k' n ops I (i :: ℓ) K (Zaz S dst (.bool (decide (a<b)))) D B L):ZaD C k' n ops I ℓ K S D B L:=ZQ i hii hrr hdd (fun _ _ _=>ZkL hg hd hx hy ⟨rfl,rfl,rfl,rfl⟩) h
theorem ZkD  {k:IntKind} {a b:Int} (i:Nat) (hii:ops[i]? = some ⟨dst,.binOp .leq t x y u,ty,pos,after,g⟩)  (hrr:(Z8 ops ℓ).contains i=true:=by kernel_rfl) (hdd:Zn n dst=true:=by exact rfl) (hg:Zf ops (sel ((⟨dst,.binOp .leq t x y u,ty,pos,after,g⟩:Oper).looksAt ops) S) g=some true:=by exact rfl) (hd:Zn n dst=true:=by exact rfl) (hx:ev (sel ((⟨dst,.binOp .leq t x y u,ty,pos,after,g⟩:Oper).looksAt ops) S) x=some (.int k a):=by exact rfl) (hy:ev (sel ((⟨dst,.binOp .leq t x y u,ty,pos,after,g⟩:Oper).looksAt ops) S) y=some (.int k b):=by exact rfl) (h:ZaD C k' n ops I (i :: ℓ) K (Zaz S dst (.bool (decide (a≤b)))) D B L):ZaD C k' n ops I ℓ K S D B L:=ZQ i hii hrr hdd (fun _ _ _=>ZkN hg hd hx hy ⟨rfl,rfl,rfl,rfl⟩) h
theorem Zjq  {k:IntKind} {a b:Int} (i:Nat) (hii:ops[i]? = some ⟨dst,.binOp .gtr t x y u,ty,pos,after,g⟩)  (hrr:(Z8 ops ℓ).contains i=true:=by kernel_rfl) (hdd:Zn n dst=true:=by exact rfl) (hg:Zf ops (sel ((⟨dst,.binOp .gtr t x y u,ty,pos,after,g⟩:Oper).looksAt ops) S) g=some true:=by exact rfl) (hd:Zn n dst=true:=by exact rfl) (hx:ev (sel ((⟨dst,.binOp .gtr t x y u,ty,pos,after,g⟩:Oper).looksAt ops) S) x=some (.int k a):=by exact rfl) (hy:ev (sel ((⟨dst,.binOp .gtr t x y u,ty,pos,after,g⟩:Oper).looksAt ops) S) y=some (.int k b):=by exact rfl) (h:ZaD C k' n ops I (i :: ℓ) K (Zaz S dst (.bool (decide (b<a)))) D B L):ZaD C k' n ops I ℓ K S D B L:=ZQ i hii hrr hdd (fun _ _ _=>ZkQ hg hd hx hy ⟨rfl,rfl,rfl,rfl⟩) h
theorem ZlS  {k:IntKind} {a b:Int} (i:Nat) (hii:ops[i]? = some ⟨dst,.binOp .geq t x y u,ty,pos,after,g⟩)  (hrr:(Z8 ops ℓ).contains i=true:=by kernel_rfl) (hdd:Zn n dst=true:=by exact rfl) (hg:Zf ops (sel ((⟨dst,.binOp .geq t x y u,ty,pos,after,g⟩:Oper).looksAt ops) S) g=some true:=by exact rfl) (hd:Zn n dst=true:=by exact rfl) (hx:ev (sel ((⟨dst,.binOp .geq t x y u,ty,pos,after,g⟩:Oper).looksAt ops) S) x=some (.int k a):=by exact rfl) (hy:ev (sel ((⟨dst,.binOp .geq t x y u,ty,pos,after,g⟩:Oper).looksAt ops) S) y=some (.int k b):=by exact rfl) (h:ZaD C k' n ops I (i :: ℓ) K (Zaz S dst (.bool (decide (b≤a)))) D B L):ZaD C k' n ops I ℓ K S D B L:=ZQ i hii hrr hdd (fun _ _ _=>ZkR hg hd hx hy ⟨rfl,rfl,rfl,rfl⟩) h
theorem Zlh  {k:IntKind} {a b:Int} (i:Nat) (hii:ops[i]? = some ⟨dst,.binOp .eql t x y u,ty,pos,after,g⟩)  (hrr:(Z8 ops ℓ).contains i=true:=by kernel_rfl) (hdd:Zn n dst=true:=by exact rfl) (hg:Zf ops (sel ((⟨dst,.binOp .eql t x y u,ty,pos,after,g⟩:Oper).looksAt ops) S) g=some true:=by exact rfl) (hd:Zn n dst=true:=by exact rfl) (hx:ev (sel ((⟨dst,.binOp .eql t x y u,ty,pos,after,g⟩:Oper).looksAt ops) S) x=some (.int k a):=by exact rfl) (hy:ev (sel ((⟨dst,.binOp .eql t x y u,ty,pos,after,g⟩:Oper).looksAt ops) S) y=some (.int k b):=by exact rfl) (h:ZaD C k' n ops I (i :: ℓ) K (Zaz S dst (.bool (decide (a=b)))) D B L):ZaD C k' n ops I ℓ K S D B L:=ZQ i hii hrr hdd (fun _ _ _=>ZjI hg hd hx hy ⟨rfl,rfl,rfl,rfl⟩) h
theorem Zlf  {k:IntKind} {a b:Int} (i:Nat) (hii:ops[i]? = some ⟨dst,.binOp .neq t x y u,ty,pos,after,g⟩)  (hrr:(Z8 ops ℓ).contains i=true:=by kernel_rfl) (hdd:Zn n dst=true:=by exact rfl) (hg:Zf ops (sel ((⟨dst,.binOp .neq t x y u,ty,pos,after,g⟩:Oper).looksAt ops) S) g=some true:=by exact rfl) (hd:Zn n dst=true:=by exact rfl) (hx:ev (sel ((⟨dst,.binOp .neq t x y u,ty,pos,after,g⟩:Oper).looksAt ops) S) x=some (.int k a):=by exact rfl) (hy:ev (sel ((⟨dst,.binOp .neq t x y u,ty,pos,after,g⟩:Oper).looksAt ops) S) y=some (.int k b):=by exact rfl) (h:ZaD C k' n ops I (i :: ℓ) K (Zaz S dst (.bool (decide (a≠b)))) D B L):ZaD C k' n ops I ℓ K S D B L:=ZQ i hii hrr hdd (fun _ _ _=>ZjD hg hd hx hy ⟨rfl,rfl,rfl,rfl⟩) h
theorem Zlg  {a b:List UInt8} (i:Nat) (hii:ops[i]? = some ⟨dst,.binOp .eql t x y u,ty,pos,after,g⟩)  (hrr:(Z8 ops ℓ).contains i=true:=by kernel_rfl) (hdd:Zn n dst=true:=by exact rfl) (hg:Zf ops (sel ((⟨dst,.binOp .eql t x y u,ty,pos,after,g⟩:Oper).looksAt ops) S) g=some true:=by exact rfl) (hd:Zn n dst=true:=by exact rfl) (hx:ev (sel ((⟨dst,.binOp .eql t x y u,ty,pos,after,g⟩:Oper).looksAt ops) S) x=some (str a):=by exact rfl) (hy:ev (sel ((⟨dst,.binOp .eql t x y u,ty,pos,after,g⟩:Oper).looksAt ops) S) y=some (str b):=by exact rfl) (h:ZaD C k' n ops I (i :: ℓ) K (Zaz S dst (.bool (decide (a=b)))) D B L):ZaD C k' n ops I ℓ K S D B L:=ZQ i hii hrr hdd (fun _ _ _=>ZjH hg hd hx hy ⟨rfl,rfl,rfl,rfl⟩) h
theorem Zb1  {a b:List UInt8} (i:Nat) (hii:ops[i]? = some ⟨dst,.binOp .neq t x y u,ty,pos,after,g⟩)  (hrr:(Z8 ops ℓ).contains i=true:=by kernel_rfl) (hdd:Zn n dst=true:=by exact rfl) (hg:Zf ops (sel ((⟨dst,.binOp .neq t x y u,ty,pos,after,g⟩:Oper).looksAt ops) S) g=some true:=by exact rfl) (hd:Zn n dst=true:=by exact rfl) (hx:ev (sel ((⟨dst,.binOp .neq t x y u,ty,pos,after,g⟩:Oper).looksAt ops) S) x=some (str a):=by exact rfl) (hy:ev (sel ((⟨dst,.binOp .neq t x y u,ty,pos,after,g⟩:Oper).looksAt ops) S) y=some (str b):=by exact rfl) (h:ZaD C k' n ops I (i :: ℓ) K (Zaz S dst (.bool (decide (a≠b)))) D B L):ZaD C k' n ops I ℓ K S D B L:=ZQ i hii hrr hdd (fun _ _ _=>ZjC hg hd hx hy ⟨rfl,rfl,rfl,rfl⟩) h
theorem aU  {k:IntKind} {a b r:Int} (i:Nat) (hii:ops[i]? = some ⟨dst,.binOp .sub t x y u,ty,pos,after,g⟩)  (hrr:(Z8 ops ℓ).contains i=true:=by kernel_rfl) (hdd:Zn n dst=true:=by exact rfl) (hg:Zf ops (sel ((⟨dst,.binOp .sub t x y u,ty,pos,after,g⟩:Oper).looksAt ops) S) g=some true:=by exact rfl) (hd:Zn n dst=true:=by exact rfl) (hx:ev (sel ((⟨dst,.binOp .sub t x y u,ty,pos,after,g⟩:Oper).looksAt ops) S) x=some (.int k a):=by exact rfl) (hy:ev (sel ((⟨dst,.binOp .sub t x y u,ty,pos,after,g⟩:Oper).looksAt ops) S) y=some (.int k b):=by exact rfl) (hr:k.wrap (a - b)=r:=by first | exact ZbC (by first | omega | (simp;done) | (simp;omega)) (by first | omega | (simp;done) | (simp;omega)) | exact rfl) (h:ZaD C k' n ops I (i :: ℓ) K (Zaz S dst (.int k r)) D B L):ZaD C k' n ops I ℓ K S D B L:=ZQ i hii hrr hdd (fun _ _ _=>Zhv hg hd hx hy hr ⟨rfl,rfl,rfl,rfl⟩) h
theorem aIx  {t:TypeId} {e:TypeId} {x:Operand} {y:Operand} {k:IntKind} {b:Nat} {o:Nat} {len:Nat} {cap:Nat} {sz:Nat} {ix:Int} (i:Nat) (hii:ops[i]? = some ⟨dst,.indexAddr t x y,ty,pos,after,g⟩) (hu:P.underlying t=some (.slice e)) (hsz:ZL P e=some sz) (hrr:(Z8 ops ℓ).contains i=true:=by kernel_rfl) (hdd:Zn n dst=true:=by exact rfl) (hg:Zf ops (sel ((⟨dst,.indexAddr t x y,ty,pos,after,g⟩:Oper).looksAt ops) S) g=some true:=by exact rfl) (hd:Zn n dst=true:=by exact rfl) (hx:ev (sel ((⟨dst,.indexAddr t x y,ty,pos,after,g⟩:Oper).looksAt ops) S) x=some (.slice (some ⟨b,o,none⟩) len cap):=by exact rfl) (hy:ev (sel ((⟨dst,.indexAddr t x y,ty,pos,after,g⟩:Oper).looksAt ops) S) y=some (.int k ix):=by exact rfl) (h0:0≤ix:=by first | omega | (simp;done) | (simp;omega)) (h1:ix<len:=by first | omega | (simp;done) | (simp;omega)) (h:ZaD C k' n ops I (i :: ℓ) K (Zaz S dst (ptr ⟨b,o+ix.toNat*sz,none⟩)) D B L):ZaD C k' n ops I ℓ K S D B L:=ZQ i hii hrr hdd (fun _ _ _=>ZkP hg hd hu hsz hx hy h0 h1 ⟨rfl,rfl,rfl,rfl⟩) h
end
end Go.BL
namespace Go.BL
open Go
set_option linter.unusedVariables false
set_option linter.unusedSimpArgs false
def Zah (c:UInt8):Bool:=(decide (97≤c.toNat) && decide (c.toNat≤122)) || (decide (48≤c.toNat) && decide (c.toNat≤57))
def Z4 (l:List UInt8):Bool:=l.all Zah && decide (1≤l.length) && decide (l.length≤8)
theorem Zjp {l:List UInt8} {k:Nat} {c:UInt8} (hc:l[k]? = some c) (h:Zah c=false):l.all Zah=false:=by
  rw [Bool.eq_false_iff];intro ha
  have:=List.all_eq_true.1 ha c (List.mem_of_getElem? hc)
  rw [h] at this;cases this
theorem ZgU {l:List UInt8} {k:Nat} {c:UInt8} (hc:l[k]? = some c) (h:Zah c=true) (ha:(l.take k).all Zah=true):(l.take (k+1)).all Zah=true:=by
  rw [List.take_add_one,hc];simp only [Option.toList_some,List.all_append,ha,List.all_cons,h,List.all_nil];rfl
def word (l:List UInt8) (i:Nat):List UInt8:=(l.drop i).takeWhile Zah
def Zbc (w:List UInt8):Bool:=decide (1≤w.length) && decide (w.length≤8)
theorem ZhQ {o:Option UInt8} {f:UInt8→Bool} (h:(match o with | some c=>f c | none=>false)=true) :∃c,o=some c∧f c=true:=by
  cases o with
  | none=>cases h
  | some c=>exact ⟨c,rfl,h⟩
theorem ZbI {α:Type} {l:List α} {k:Nat} {c:α} (h:l[k]? = some c):k<l.length:=(List.getElem?_eq_some_iff.1 h).1
theorem Zcm {p:UInt8→Bool} :∀{m:List UInt8} {k:Nat},(m.take k).all p=true→(∀c,m[k]? = some c→p c=false)→m.takeWhile p=m.take k
  | [],k,_,_=>by simp
  | c :: m,0,_,h=>by simp [List.takeWhile,h c rfl]
  | c :: m,k+1,ha,h=>by
    simp only [List.take_succ_cons,List.all_cons,Bool.and_eq_true] at ha
    simp only [List.takeWhile,ha.1,List.take_succ_cons]
    rw [Zcm ha.2 (fun c hc=>h c (by simpa using hc))]
theorem ZiJ {l:List UInt8} {i k:Nat} (ha:((l.drop i).take k).all Zah=true) (h :∀c,l[i+k]? = some c→Zah c=false):word l i=(l.drop i).take k:=
  Zcm ha (fun c hc=>h c (by simpa using hc))
theorem Zb0 {l:List UInt8} {i k:Nat} : (l.take (i+k)).drop i=(l.drop i).take k:=by
  rw [List.drop_take,Nat.add_sub_cancel_left]
theorem Zd3 {a b c d:Value} (h:a=c) (h':b=d):Value.tuple #[a,b]=Value.tuple #[c,d]:=by rw [h,h']
def more:Nat→List UInt8→Nat→Bool × Nat
  | 0,_,i=>(true,i)
  | n+1,l,i=>if l[i]? = some 46 then (if Zbc (word l (i+1))=true then more n l (i+1+(word l (i+1)).length) else (false,i+1+(word l (i+1)).length)) else (true,i)
def dom (l:List UInt8) (i:Nat):Bool × Nat:=if Zbc (word l i)=true then more 2 l (i+(word l i).length) else (false,i+(word l i).length)
def ZdJ (l:List UInt8) (i:Nat):List UInt8:=if (dom l i).1=true then (l.take (dom l i).2).drop i else []
def Zge (l:List UInt8) (i:Nat):Bool:=(dom l i).1 && decide ((dom l i).2 - i≤20)
theorem Zgd {l:List UInt8} {i:Nat} (h:Zbc (word l i)=false):dom l i=(false,i+(word l i).length):=by simp [dom,h]
theorem Zjk {l:List UInt8} {i:Nat} (h:Zbc (word l i)=true):dom l i=more 2 l (i+(word l i).length):=by simp [dom,h]
theorem Zc5 {l:List UInt8} {i:Nat} (h:i≤l.length):i+(word l i).length≤l.length:=by
  have:=List.IsPrefix.length_le (List.takeWhile_prefix Zah (l:=l.drop i))
  rw [List.length_drop] at this
  unfold word;omega
theorem Zdp {l:List UInt8} {n j:Nat} (h : ¬ l[j]? = some 46):more n l j=(true,j):=by
  cases n with
  | zero=>rfl
  | succ n=>rw [more,if_neg h]
theorem ZiY {l:List UInt8} {n j:Nat} (hn:1≤n) (h:l[j]? = some 46) (hw:Zbc (word l (j+1))=false):more n l j=(false,j+1+(word l (j+1)).length):=by
  cases n with
  | zero=>omega
  | succ n=>rw [more,if_pos h,if_neg (by simp [hw])]
theorem Zh5 {l:List UInt8} {n j:Nat} (hn:1≤n) (h:l[j]? = some 46) (hw:Zbc (word l (j+1))=true):more n l j=more (n - 1) l (j+1+(word l (j+1)).length):=by
  cases n with
  | zero=>omega
  | succ n=>rw [more,if_pos h,if_pos hw];rfl
theorem Zbo {p:UInt8→Bool} :∀l:List UInt8,(l.takeWhile p).length=l.length↔l.all p=true
  | []=>by simp
  | c :: l=>by
    have h:=Zbo (p:=p) l
    cases hc:p c with
    | true=>simp [List.takeWhile,hc] at h ⊢;exact h
    | false=>simp [List.takeWhile,hc]
theorem Za6 {l:List UInt8} : Z4 l=(Zbc (word l 0) && decide ((word l 0).length=l.length)):=by
  have h:=Zbo (p:=Zah) l
  have e:word l 0=l.takeWhile Zah:=by simp [word]
  rw [Bool.eq_iff_iff]
  simp only [Z4,Zbc,e,Bool.and_eq_true,decide_eq_true_eq]
  constructor
  · rintro ⟨⟨h1,h2⟩,h3⟩
    have:=h.2 h1
    omega
  · rintro ⟨⟨h1,h2⟩,h3⟩
    exact ⟨⟨h.1 h3,by omega⟩,by omega⟩
theorem Zh4 {l:List UInt8} :∀(n j:Nat),j≤l.length→(more n l j).2≤l.length
  | 0,j,h=>h
  | n+1,j,h=>by
    rw [more]
    split
    · rename_i e
      have:=ZbI e
      have h2:=Zc5 (l:=l) (i:=j+1) (by omega)
      split
      · exact Zh4 n _ h2
      · exact h2
    · exact h
theorem Zlc {l:List UInt8} {i:Nat} (h:i≤l.length):(dom l i).2≤l.length:=by
  unfold dom
  have h2:=Zc5 h
  split
  · exact Zh4 2 _ h2
  · exact h2
def glue (a:List UInt8):List (List UInt8)→List (List UInt8)
  | []=>[a]
  | p :: ps=>(a ++ p) :: ps
def cut (x:UInt8):List UInt8→List (List UInt8)
  | []=>[[]]
  | c :: r=>if c=x then [] :: cut x r else glue [c] (cut x r)
theorem ZgT (x:UInt8) :∀l,cut x l≠[]
  | []=>by simp [cut]
  | c :: r=>by
    rw [cut]
    split
    · simp
    · cases cut x r <;> simp [glue]
theorem ZgL {m:List (List UInt8)} (h:m≠[]):glue [] m=m:=by
  cases m with
  | nil=>exact absurd rfl h
  | cons p ps=>rfl
theorem Zil (a b:List UInt8) (m:List (List UInt8)):glue a (glue b m)=glue (a ++ b) m:=by
  cases m <;> simp [glue]
structure CutSt where
  i:Nat
  f:Nat
  m:Nat
  ps:List (List UInt8)
  q:Option Addr
  cp:Nat
  s:Cells
theorem Zlx {a b:UInt8} (h:(a.toNat:Int)=b.toNat):a=b:=UInt8.toNat_inj.1 (by exact_mod_cast h)
theorem ZkA {l:List UInt8} {x c:UInt8} {i:Nat} (h:l[i]? = some c) (e:c=x):cut x (l.drop i)=[] :: cut x (l.drop (i+1)):=by
  obtain ⟨hlt,he⟩:=List.getElem?_eq_some_iff.1 h
  rw [List.drop_eq_getElem_cons hlt,he,cut,if_pos e]
theorem Zjm {l:List UInt8} {x c:UInt8} {i:Nat} (h:l[i]? = some c) (e:c≠x):cut x (l.drop i)=glue [c] (cut x (l.drop (i+1))):=by
  obtain ⟨hlt,he⟩:=List.getElem?_eq_some_iff.1 h
  rw [List.drop_eq_getElem_cons hlt,he,cut,if_neg e]
theorem Zlw {a b:UInt8} (h : ¬ (a.toNat:Int)=b.toNat):a≠b:=fun e=>h (by rw [e])
theorem ZhF {l:List UInt8} {c:UInt8} {i f:Nat} (h:l[i]? = some c) (hf:f≤i):(l.take i).drop f ++ [c]=(l.take (i+1)).drop f:=by
  have hlt:=ZbI h
  rw [List.take_add_one,h]
  simp only [Option.toList_some]
  rw [List.drop_append_of_le_length (by rw [List.length_take];omega)]
theorem Zja (a:List UInt8) (m:List (List UInt8)):glue a ([] :: m)=a :: m:=by simp [glue]
def Za4 (l:List UInt8):Bool:=(cut 46 l).all Z4 && decide ((cut 46 l).length≤3) && decide (l.length≤20)
theorem Zi9 {a:List UInt8} {m:List (List UInt8)} {n:Nat} (h :∀p,p∈m→p.length≤n) :∀p,p∈glue a m→p.length≤a.length+n:=by
  cases m with
  | nil=>intro p hp;simp [glue] at hp;subst hp;omega
  | cons q qs=>
    intro p hp
    simp only [glue,List.mem_cons] at hp
    rcases hp with rfl | hp
    · rw [List.length_append];have:=h q (List.mem_cons_self ..);omega
    · have:=h p (List.mem_cons_of_mem _ hp);omega
theorem Zgf (x:UInt8) :∀(l p:List UInt8),p∈cut x l→p.length≤l.length
  | [],p,h=>by simp [cut] at h;subst h;simp
  | c :: r,p,h=>by
    rw [cut] at h
    split at h
    · rcases List.mem_cons.1 h with rfl | h
      · simp
      · have:=Zgf x r p h;simp;omega
    · have:=Zi9 (Zgf x r) p h;simp at this ⊢;omega
theorem ZfD {l:List (List UInt8)} {k:Nat} {c:List UInt8} (hc:l[k]? = some c) (h:Z4 c=false):l.all Z4=false:=by
  rw [Bool.eq_false_iff];intro ha
  have:=List.all_eq_true.1 ha c (List.mem_of_getElem? hc)
  rw [h] at this;cases this
theorem ZfE {l:List (List UInt8)} {k:Nat} {c:List UInt8} (hc:l[k]? = some c) (h:Z4 c=true) (ha:(l.take k).all Z4=true):(l.take (k+1)).all Z4=true:=by
  rw [List.take_add_one,hc];simp only [Option.toList_some,List.all_append,ha,List.all_cons,h,List.all_nil];rfl
theorem Zfy (x:UInt8) :∀l:List UInt8,(cut x l).length≤l.length+1
  | []=>by simp [cut]
  | c :: r=>by
    have h:=Zfy x r
    rw [cut]
    split
    · simp;omega
    · cases hq:cut x r with
      | nil=>exact absurd hq (ZgT x r)
      | cons p ps=>rw [hq] at h;simp [glue] at h ⊢;omega
end Go.BL
namespace Go.BL
open Go
set_option linter.unusedVariables false
set_option linter.unusedSimpArgs false
theorem ZeO {x:UInt8} :∀{l:List UInt8},x ∉ l→cut x l=[l]
  | [],_=>rfl
  | c :: r,h=>by
    rw [cut,if_neg (fun e=>h (by rw [e];exact List.mem_cons_self ..)),ZeO (fun hm=>h (List.mem_cons_of_mem _ hm))]
    rfl
theorem ZdK {x:UInt8} {b:List UInt8} :∀{a:List UInt8},x ∉ a→cut x (a ++ x :: b)=a :: cut x b
  | [],_=>by simp [cut]
  | c :: r,h=>by
    rw [List.cons_append,cut,if_neg (fun e=>h (by rw [e];exact List.mem_cons_self ..)),ZdK (fun hm=>h (List.mem_cons_of_mem _ hm))]
    rfl
theorem Zb9 {x:UInt8} :∀{l:List UInt8},x∈l→∃a b,l=a ++ x :: b∧x ∉ a
  | c :: r,h=>by
    by_cases e:c=x
    · exact ⟨[],r,by simp [e],by simp⟩
    · have hr:x∈r:=(List.mem_cons.1 h).resolve_left (Ne.symm e)
      obtain ⟨a,b,h1,h2⟩:=Zb9 hr
      exact ⟨c :: a,b,by simp [h1],by simp [Ne.symm e,h2]⟩
theorem ZdX (l:List UInt8) (i j:Nat):word l (i+j)=word (l.drop i) j:=by
  unfold word;rw [List.drop_drop]
theorem Zeb (l:List UInt8) (i:Nat) :∀n j,more n l (i+j)=((more n (l.drop i) j).1,i+(more n (l.drop i) j).2)
  | 0,j=>rfl
  | n+1,j=>by
    simp only [more,List.getElem?_drop]
    rw [show i+j+1=i+(j+1) from by omega,ZdX]
    split
    · split
      · rw [show i+(j+1)+(word (l.drop i) (j+1)).length=i+(j+1+(word (l.drop i) (j+1)).length) from by omega,Zeb l i n]
      · simp only [Prod.mk.injEq,true_and];omega
    · rfl
theorem ZiK {l:List UInt8} (h:l.all Zah=true):word l 0=l:=by
  have:=(Zbo (p:=Zah) l).2 h
  have h2:=List.takeWhile_prefix Zah (l:=l)
  simp only [word,List.drop_zero]
  exact List.IsPrefix.eq_of_length h2 this
theorem ZcQ {a b:List UInt8} {x:UInt8} (hx:Zah x=false) (h:a.all Zah=true):word (a ++ x :: b) 0=a:=by
  simp only [word,List.drop_zero]
  induction a with
  | nil=>simp [List.takeWhile,hx]
  | cons c a ih=>
    simp only [List.all_cons,Bool.and_eq_true] at h
    simp only [List.cons_append,List.takeWhile,h.1,ih h.2]
theorem ZcP {a:List UInt8} (b:List UInt8) (h:a.all Zah=false):(word (a ++ b) 0).length<a.length∧word (a ++ b) 0=word a 0:=by
  simp only [word,List.drop_zero]
  induction a with
  | nil=>simp at h
  | cons c a ih=>
    cases hc:Zah c with
    | false=>simp [List.takeWhile,hc]
    | true=>
      have h':a.all Zah=false:=by simpa [hc] using h
      have:=ih h'
      simp only [List.cons_append,List.takeWhile,hc,List.length_cons]
      exact ⟨by omega,by rw [this.2]⟩
theorem Zkv {a:List UInt8} (b:List UInt8) {k:Nat} (h:k<a.length):(a ++ b)[k]? = a[k]?:=List.getElem?_append_left h
theorem ZdB {x:UInt8} {a:List UInt8} (h:x ∉ a) (k:Nat):a[k]?≠some x:=fun e=>h (List.mem_of_getElem? e)
theorem Zh2 :∀(n:Nat) (b:List UInt8),(Zbc (word b 0)=true∧more n b (word b 0).length=(true,b.length))↔((cut 46 b).all Z4=true∧(cut 46 b).length≤n+1):=by
  intro n
  induction n with
  | zero=>
    intro b
    by_cases hd:(46:UInt8)∈b
    · obtain ⟨a,r,rfl,ha⟩:=Zb9 hd
      rw [ZdK ha]
      have hlen:(word (a ++ 46 :: r) 0).length≤a.length:=by
        cases hna:a.all Zah with
        | true=>rw [ZcQ (by decide) hna];exact Nat.le_refl _
        | false=>exact Nat.le_of_lt (ZcP _ hna).1
      constructor
      · rintro ⟨_,h2⟩
        simp only [more,Prod.mk.injEq,true_and] at h2
        rw [List.length_append,List.length_cons] at h2
        omega
      · rintro ⟨_,h2⟩
        have:=ZgT 46 r
        simp only [List.length_cons] at h2
        exact absurd (List.eq_nil_of_length_eq_zero (by omega)) this
    · rw [ZeO hd]
      simp only [more,List.all_cons,List.all_nil,Bool.and_true,List.length_cons,List.length_nil,Nat.zero_add,Nat.le_refl,and_true,Prod.mk.injEq,true_and,Za6,Bool.and_eq_true,decide_eq_true_eq]
  | succ n ih=>
    intro b
    by_cases hd:(46:UInt8)∈b
    · obtain ⟨a,r,rfl,ha⟩:=Zb9 hd
      rw [ZdK ha]
      cases hna:a.all Zah with
      | true=>
        rw [ZcQ (by decide) hna]
        have hg:(a ++ 46 :: r)[a.length]? = some 46:=by simp
        have hdr:(a ++ 46 :: r).drop (a.length+1)=r:=by rw [List.drop_append];simp
        have hw:word (a ++ 46 :: r) (a.length+1)=word r 0:=by
          have:=ZdX (a ++ 46 :: r) (a.length+1) 0
          rw [Nat.add_zero,hdr] at this;exact this
        have hm:more n (a ++ 46 :: r) (a.length+1+(word r 0).length)=((more n r (word r 0).length).1,a.length+1+(more n r (word r 0).length).2):=by
          rw [Zeb,hdr]
        simp only [more,hg,if_true,hw,hm,List.all_cons,Bool.and_eq_true,List.length_cons]
        have hna':Z4 a=Zbc a:=by rw [Za6,ZiK hna];simp
        have hi:=ih r
        constructor
        · rintro ⟨h1,h2⟩
          split at h2
          · rename_i h3
            simp only [Prod.mk.injEq,List.length_append,List.length_cons] at h2
            have:=hi.1 ⟨h3,by ext1;exact h2.1;simp only [];omega⟩
            exact ⟨⟨by rw [hna'];exact h1,this.1⟩,by omega⟩
          · simp at h2
        · rintro ⟨⟨h1,h2⟩,h3⟩
          obtain ⟨h4,h5⟩:=hi.2 ⟨h2,by omega⟩
          refine ⟨by rw [← hna'];exact h1,?_⟩
          rw [if_pos h4,h5]
          simp;omega
      | false=>
        obtain ⟨h1,h2⟩:=ZcP (46 :: r) hna
        have hne:Z4 a=false:=by simp [Z4,hna]
        constructor
        · rintro ⟨_,h3⟩
          rw [Zdp (by rw [Zkv _ h1];exact ZdB ha _)] at h3
          simp only [Prod.mk.injEq,true_and,List.length_append,List.length_cons] at h3
          omega
        · rintro ⟨h3,_⟩
          simp [hne] at h3
    · rw [ZeO hd]
      rw [Zdp (ZdB hd _)]
      simp only [List.all_cons,List.all_nil,Bool.and_true,List.length_cons,List.length_nil,Prod.mk.injEq,true_and,Za6,Bool.and_eq_true,decide_eq_true_eq]
      constructor
      · rintro ⟨h1,h2⟩;exact ⟨⟨h1,h2⟩,by omega⟩
      · rintro ⟨⟨h1,h2⟩,_⟩;exact ⟨h1,h2⟩
theorem Zfw (b:List UInt8):((dom b 0).1=true∧(dom b 0).2≤20∧(dom b 0).2=b.length)↔Za4 b=true:=by
  have h:=Zh2 2 b
  simp only [Za4,Bool.and_eq_true,decide_eq_true_eq]
  constructor
  · rintro ⟨h1,h2,h3⟩
    cases hw:Zbc (word b 0) with
    | false=>simp [dom,hw] at h1
    | true=>
      simp only [dom,hw,if_true,Nat.zero_add] at h1 h2 h3
      have:=h.1 ⟨hw,by ext1;exact h1;exact h3⟩
      exact ⟨⟨this.1,this.2⟩,by omega⟩
  · rintro ⟨⟨h1,h2⟩,h3⟩
    obtain ⟨h4,h5⟩:=h.2 ⟨h1,h2⟩
    simp only [dom,h4,if_true,Nat.zero_add,h5]
    exact ⟨trivial,h3,trivial⟩
end Go.BL
namespace Go.BL
open Go
set_option linter.unusedVariables false
set_option linter.unusedSimpArgs false
theorem Zbw {α:Type} {p:α→Prop} {l:List α} {k:Nat} {x:α} (hx:l[k]? = some x) (h :∀y,y∈l.take k→p y) (hp:p x) :∀y,y∈l.take (k+1)→p y:=by
  intro y hy
  rw [List.take_add_one,hx] at hy
  simp only [Option.toList_some,List.mem_append,List.mem_singleton] at hy
  rcases hy with hy | rfl
  · exact h y hy
  · exact hp
def Zhe (us:List DUser) (u:Str):Int:=match us.findIdx? (fun x=>decide (x.name=u)) with | some i=>i | none=>-1
theorem Zi5 {us:List DUser} {u:Str} {k:Nat} {x:DUser} (hx:us[k]? = some x) (he:x.name=u) (h :∀y,y∈us.take k→y.name≠u):Zhe us u=k:=by
  have:us.findIdx? (fun x=>decide (x.name=u))=some k:=by
    rw [List.findIdx?_eq_some_iff_getElem]
    obtain ⟨hk,rfl⟩:=List.getElem?_eq_some_iff.1 hx
    refine ⟨hk,by simpa using he,fun j hj=>?_⟩
    have:=h us[j] (by rw [List.mem_take_iff_getElem];exact ⟨j,by omega,rfl⟩)
    simpa using this
  rw [Zhe,this]
theorem Zih {us:List DUser} {u:Str} (h :∀y,y∈us→y.name≠u):Zhe us u = -1:=by
  have:us.findIdx? (fun x=>decide (x.name=u))=none:=by
    rw [List.findIdx?_eq_none_iff]
    intro x hx
    simpa using h x hx
  rw [Zhe,this]
theorem Zay {α:Type} {as bs:List α} {k:Nat} {x y:α} (hx:as[k]? = some x) (hy:bs[k]? = some y) (e:x=y) (h:as.take k=bs.take k):as.take (k+1)=bs.take (k+1):=by
  rw [List.take_add_one,List.take_add_one,hx,hy,e,h]
theorem ZcM {α:Type} {as bs:List α} {inst:Decidable (as=bs)} (h : ¬ (as.length:Int)=bs.length):false=decide (as=bs):=by
  symm;rw [decide_eq_false_iff_not];intro e;exact h (by rw [e])
theorem ZbV {α:Type} {as bs:List α} {inst:Decidable (as=bs)} {k:Nat} {x y:α} (hx:as[k]? = some x) (hy:bs[k]? = some y) (e : ¬ x=y):false=decide (as=bs):=by
  symm;rw [decide_eq_false_iff_not];intro h;rw [h,hy] at hx;exact e (Option.some.inj hx).symm
theorem eqT {α:Type} {as bs:List α} {inst:Decidable (as=bs)} {k:Nat} (hl:as.length=bs.length) (hk:k=as.length) (h:as.take k=bs.take k):true=decide (as=bs):=by
  symm;rw [decide_eq_true_eq]
  rw [List.take_of_length_le (by omega),List.take_of_length_le (by omega)] at h;exact h
theorem Zme {α:Type} {as:List α} {x:α} {inst:Decidable (x∈as)} (h :∀y,y∈as→y≠x):false=decide (x∈as):=by
  symm;rw [decide_eq_false_iff_not];intro hx;exact h x hx rfl
theorem Zmd {α:Type} {as:List α} {x y:α} {inst:Decidable (x∈as)} {k:Nat} (hy:as[k]? = some y) (e:y=x):true=decide (x∈as):=by
  symm;rw [decide_eq_true_eq];subst e;exact List.mem_of_getElem? hy
theorem ZbO {α:Type} {p:α→Prop} {l:List α} {k:Nat} (hk : ¬ (k:Int)<l.length) (h :∀y,y∈l.take k→p y) :∀y,y∈l→p y:=by
  rwa [List.take_of_length_le (by omega)] at h
theorem ZgQ {α:Type} {l:List α} {k:Nat} {x:α} (h:l[k]? = some x):l.drop k=x :: l.drop (k+1):=by
  obtain ⟨hlt,he⟩:=List.getElem?_eq_some_iff.1 h
  rw [List.drop_eq_getElem_cons hlt,he]
theorem Zky {α:Type} {l:List α} {k:Nat} (h : ¬ (k:Int)<l.length):l.drop k=[]:=List.drop_eq_nil_of_le (by omega)
def ZbH (l:List Str):Bool:=l.all Z4 && decide l.Nodup && decide (l.length≤3)
def ZbS (x:DLetter):Bool:=Z4 x.fr && ZbH x.to_ && decide (0<x.to_.length) && decide (x.text.length≤20)
def Zig (x:DItem):Bool:=ZbS ⟨x.fr,x.left,x.text⟩
def ZcZ:Int→List DItem→Option Int
  | last,[]=>some last
  | last,x :: r=>if (last+1≤x.id∧x.id≤99)∧Zig x=true then ZcZ x.id r else none
def ZbF (q:DQueue):Bool:=match ZcZ 0 q.items with
  | some last=>decide (last+1≤q.next) && decide (q.next≤100) && decide (q.items.length≤6)
  | none=>false
theorem Zkn {α:Type} {l:List α} {k:Nat} {x:α} (hx:l[k]? = some x) (h:(l.take k).Nodup) (hn : ¬ x∈l.take k):(l.take (k+1)).Nodup:=by
  rw [List.take_add_one,hx]
  simp only [Option.toList_some]
  rw [List.nodup_append]
  exact ⟨h,by simp,fun a ha b hb=>by rw [List.mem_singleton.1 hb];exact fun e=>hn (e ▸ ha)⟩
theorem Zkm {α:Type} {l:List α} {k:Nat} {x:α} (hx:l[k]? = some x) (h:x∈l.take k) : ¬ l.Nodup:=by
  intro hn
  have e:l=l.take k ++ l.drop k:=(List.take_append_drop k l).symm
  rw [e,ZgQ hx,List.nodup_append] at hn
  exact hn.2.2 x h x (List.mem_cons_self ..) rfl
theorem Zfd {l:List Str} {k:Nat} {x:Str} (hx:l[k]? = some x) (h:Z4 x=false):false=ZbH l:=by
  simp [ZbH,ZfD hx h]
theorem Zfc {l:List Str} {k:Nat} {x:Str} (hx:l[k]? = some x) (h:x∈l.take k):false=ZbH l:=by
  simp [ZbH,Zkm hx h]
theorem ZfS {l:List Str} {k:Nat} (hk : ¬ (k:Int)<l.length) (ha:(l.take k).all Z4=true) (hn:(l.take k).Nodup):decide ((l.length:Int)≤3)=ZbH l:=by
  rw [List.take_of_length_le (by omega)] at ha hn
  rw [Bool.eq_iff_iff];simp only [ZbH,ha,decide_eq_true hn,Bool.true_and,decide_eq_true_eq];omega
def Zhs {α:Type} (p:α→Bool) (xs:List α):Int:=match xs.findIdx? p with | some i=>i | none=>-1
theorem Zi7 {α:Type} {p:α→Bool} {xs:List α} {k:Nat} {x:α} (hx:xs[k]? = some x) (he:p x=true) (h :∀y,y∈xs.take k→p y=false):Zhs p xs=k:=by
  have:xs.findIdx? p=some k:=by
    rw [List.findIdx?_eq_some_iff_getElem]
    obtain ⟨hk,rfl⟩:=List.getElem?_eq_some_iff.1 hx
    refine ⟨hk,he,fun j hj=>?_⟩
    have:=h xs[j] (by rw [List.mem_take_iff_getElem];exact ⟨j,by omega,rfl⟩)
    simpa using this
  rw [Zhs,this]
theorem Zii {α:Type} {p:α→Bool} {xs:List α} (h :∀y,y∈xs→p y=false):Zhs p xs = -1:=by
  have:xs.findIdx? p=none:=by
    rw [List.findIdx?_eq_none_iff]
    intro x hx
    simpa using h x hx
  rw [Zhs,this]
theorem Zi6 {α:Type} {p:α→Bool} {xs:List α} : (0≤Zhs p xs)↔∃x,x∈xs∧p x=true:=by
  cases h:xs.findIdx? p with
  | none=>
    rw [List.findIdx?_eq_none_iff] at h
    simp only [Zhs,List.findIdx?_eq_none_iff.2 h]
    refine ⟨fun e=>absurd e (by omega),fun ⟨x,hx,hp⟩=>?_⟩
    rw [h x hx] at hp;cases hp
  | some i=>
    simp only [Zhs,h]
    rw [List.findIdx?_eq_some_iff_getElem] at h
    obtain ⟨hi,hp,_⟩:=h
    exact ⟨fun _=>⟨_,List.getElem_mem hi,hp⟩,fun _=>by omega⟩
theorem ZgA {q:DQueue} (h:ZcZ 0 q.items=none):false=ZbF q:=by simp [ZbF,h]
theorem Zgz {q:DQueue} {last:Int} (h:ZcZ 0 q.items=some last):(decide (last+1≤q.next) && decide (q.next≤100) && decide (q.items.length≤6))=ZbF q:=by simp [ZbF,h]
theorem ZhT {q:DQueue} {k:Nat} {last:Int} {x:DItem} (hs:ZcZ 0 q.items=ZcZ last (q.items.drop k)) (hx:q.items[k]? = some x):ZcZ 0 q.items=if (last+1≤x.id∧x.id≤99)∧Zig x=true then ZcZ x.id (q.items.drop (k+1)) else none:=by
  rw [hs,ZgQ hx,ZcZ]
theorem Zbh.mono {B B':Kn} {q:Option Addr} {m:Nat} (h:Zbh B q m) (hle:B.le B'):Zbh B' q m:=fun j hj=>by
  obtain ⟨a,c,h1,h2,h3⟩:=h j hj
  exact ⟨a,c,h1,h2,h3.mono hle⟩
structure Gh (α:Type) where
  k:Nat
  p:Nat
  l:Cells
  a:Option Addr
  c:Nat
  xs:List α
theorem Ze2 {α:Type} {l:List α} {k:Nat} {x:α} (hx:l[k]? = some x):l.take (k+1)=l.take k ++ [x]:=by
  rw [List.take_add_one,hx];rfl
structure Gh2 (α β:Type) where
  k:Nat
  p:Nat
  l:Cells
  a:Option Addr
  c:Nat
  xs:List α
  e:β
structure GQ where
  k:Nat
  p:Nat
  l:Cells
  a:Option Addr
  c:Nat
  q:DQueue
structure GM where
  b:Nat
  p:Nat
  l:Cells
  a:Option Addr
  c:Nat
  q:DQueue
  f:Bool
structure QOf where
  p:Option Addr
  ys:List DItem
  xs:List DItem
  l:Cells
  q:Option Addr
  c:Nat
  cells:Cells
end Go.BL
namespace Go.BL
open Go
set_option linter.unusedVariables false
set_option linter.unusedSimpArgs false
def hat (xs:List Int) (k:Nat):Int:=xs.getD k 0
structure QLf where
  p:Option Addr
  ys:List DItem
  xs:List DItem
  cells:Cells
structure QN where
  k:Nat
  a:Option Addr
  c:Nat
end Go.BL
namespace Go.BL
open Go
set_option linter.unusedVariables false
set_option linter.unusedSimpArgs false
def Zdr (m:DMail):Bool:=(decide (1≤m.uid) && decide (m.uid≤99)) && (decide (0≤m.flags) && decide (m.flags≤31)) && decide (m.text.length≤20)
def scn {α β:Type} (p:β→α→Bool) (nx:β→α→β) (b0:β) (xs:List α):Bool × β:=xs.foldl (fun s x=>(s.1 && p s.2 x,nx s.2 x)) (true,b0)
theorem Zde {α β:Type} {p:β→α→Bool} {nx:β→α→β} {b0:β} {xs:List α} : scn p nx b0 (xs.take 0)=(true,b0):=by simp [scn]
theorem Zgw {α β:Type} {p:β→α→Bool} {nx:β→α→β} {b0:β} {xs:List α} {k:Nat} {x:α} (hx:xs[k]? = some x):scn p nx b0 (xs.take (k+1))=((scn p nx b0 (xs.take k)).1 && p (scn p nx b0 (xs.take k)).2 x,nx (scn p nx b0 (xs.take k)).2 x):=by
  have:xs.take (k+1)=xs.take k ++ [x]:=by rw [List.take_add_one,hx];rfl
  rw [this,scn,List.foldl_append];rfl
theorem ZbE {α β:Type} {p:β→α→Bool} {nx:β→α→β} :∀(xs:List α) (b:β),(xs.foldl (fun (s:Bool × β) x=>(s.1 && p s.2 x,nx s.2 x)) (false,b)).1=false
  | [],_=>rfl
  | x :: xs,b=>by simp only [List.foldl_cons,Bool.false_and];exact ZbE xs _
theorem Zke {α β:Type} {p:β→α→Bool} {nx:β→α→β} {b0:β} {xs:List α} {k:Nat} (h:(scn p nx b0 (xs.take k)).1=false):(scn p nx b0 xs).1=false:=by
  have e:xs=xs.take k ++ xs.drop k:=(List.take_append_drop k xs).symm
  have:scn p nx b0 xs=(xs.drop k).foldl (fun s x=>(s.1 && p s.2 x,nx s.2 x)) (scn p nx b0 (xs.take k)):=by
    conv=>lhs;rw [e,scn,List.foldl_append]
    rfl
  rw [this]
  rcases hs:scn p nx b0 (xs.take k) with ⟨b,c⟩
  rw [hs] at h
  simp only at h
  subst h
  exact ZbE _ _
theorem Zdf {α β:Type} {p:β→α→Bool} {nx:β→α→β} {b0:β} {xs:List α} {k:Nat} {x:α} (hx:xs[k]? = some x) (h:p (scn p nx b0 (xs.take k)).2 x=false):(scn p nx b0 xs).1=false:=
  Zke (k:=k+1) (by rw [Zgw hx,h,Bool.and_false])
theorem Zbd {α β:Type} {p:β→α→Bool} {nx:β→α→β} {b0 b:β} {xs:List α} {k:Nat} {x:α} (hx:xs[k]? = some x) (hs:scn p nx b0 (xs.take k)=(true,b)) (h:p b x=true):scn p nx b0 (xs.take (k+1))=(true,nx b x):=by
  rw [Zgw hx,hs];simp [h]
theorem ZcE {α β:Type} {p:β→α→Bool} {nx:β→α→β} {b0 b:β} {xs:List α} {k:Nat} (hs:scn p nx b0 (xs.take k)=(true,b)) (hk:xs.length≤k):scn p nx b0 xs=(true,b):=by
  rwa [List.take_of_length_le hk] at hs
def Zha (b:Int) (m:DMail):Bool:=Zdr m && decide (b<m.uid)
def Zcs (ms:List DMail):Bool × Int:=scn Zha (fun _ m=>m.uid) 0 ms
def Zgh (b:DBox):Bool:=(Zcs b.mail).1 && (decide ((Zcs b.mail).2+1≤b.next) && decide (b.next≤100)) && decide (b.mail.length≤10)
def ZaW (ms:List DMail):Nat:=(ms.map (·.text.length)).sum
theorem ZfQ {ms:List DMail} {k:Nat} {x:DMail} (hx:ms[k]? = some x):ZaW (ms.take (k+1))=ZaW (ms.take k)+x.text.length:=by
  have:ms.take (k+1)=ms.take k ++ [x]:=by rw [List.take_add_one,hx];rfl
  simp [ZaW,this]
theorem ZfB {b:DBox} (h:(Zcs b.mail).1=false):Zgh b=false:=by simp [Zgh,h]
theorem ZfA {b:DBox} {l:Int} (h:Zcs b.mail=(true,l)):Zgh b=((decide (l+1≤b.next) && decide (b.next≤100)) && decide (b.mail.length≤10)):=by simp [Zgh,h]
theorem Zhb {m:DMail} (h:Zdr m=true):0≤m.uid∧m.uid≤99:=by
  simp only [Zdr,Bool.and_eq_true,decide_eq_true_eq] at h;omega
theorem Zg2 {ms:List DMail} {k n:Nat} (h:n=ZaW (ms.take k)) (hk:ms.length≤k):n=ZaW ms:=by rwa [List.take_of_length_le hk] at h
def anyone:Str:=[97,110,121,111,110,101]
def ZaV (u:DUser):Bool:=Z4 u.name && decide (u.name≠anyone) && Z4 u.pass && (decide (0≤u.quota) && decide (u.quota≤200))
theorem ZbT :∀(a b:Str),Op.bytesLess a b = !(Op.bytesLess b a || decide (b=a))
  | [],[]=>by simp [Op.bytesLess]
  | [],_ :: _=>by simp [Op.bytesLess]
  | _ :: _,[]=>by simp [Op.bytesLess]
  | a :: x,b :: y=>by
    have ih:=ZbT x y
    simp only [Op.bytesLess,ih]
    rcases UInt8.lt_or_lt_of_ne (a:=a) (b:=b) with h
    by_cases e:a=b
    · subst e
      have : ¬ a<a:=UInt8.lt_irrefl a
      simp [this,ih]
    · rcases h e with h | h
      · have h2 : ¬ b<a:=UInt8.lt_asymm h
        simp [h,h2,e,Ne.symm e]
      · have h2 : ¬ a<b:=UInt8.lt_asymm h
        simp [h,h2,e]
def ZbB (b:Str) (u:DUser):Bool:=ZaV u && Op.bytesLess b u.name
def Zbn (us:List DUser):Bool × Str:=scn ZbB (fun _ u=>u.name) [] us
def Zad (us:List DUser):Bool:=(Zbn us).1 && (decide (1≤us.length) && decide (us.length≤4))
theorem Zb7 {us:List DUser} (h:(Zbn us).1=false):Zad us=false:=by simp [Zad,h]
theorem Zda {us:List DUser} {b:Str} (h:Zbn us=(true,b)):Zad us=(decide (1≤us.length) && decide (us.length≤4)):=by simp [Zad,h]
def inF (o n:Str) (f:DFolder):Bool:=decide (f.owner=o) && decide (f.name=n)
theorem ZeS {α:Type} {p:α→Bool} {xs:List α} {k:Nat} {x:α} (hx:xs[k]? = some x) (h:p x=false):xs.all p=false:=by
  rw [List.all_eq_false];exact ⟨x,List.mem_of_getElem? hx,by simp [h]⟩
theorem ZeR {α:Type} {p:α→Bool} {xs:List α} (h :∀y,y∈xs→p y=true):xs.all p=true:=List.all_eq_true.2 h
def ZeB (a b:DFolder):Bool:=Op.bytesLess a.owner b.owner || (decide (a.owner=b.owner) && Op.bytesLess a.name b.name)
theorem ZeA (a:Str):Op.bytesLess a a=false:=by
  have:=ZbT a a
  cases h:Op.bytesLess a a with
  | false=>rfl
  | true=>rw [h] at this;simp at this
end Go.BL
namespace Go.BL
open Go
set_option linter.unusedVariables false
set_option linter.unusedSimpArgs false
inductive Prev {α β:Type} (f:α→β) (z:β) (xs:List α):Nat→β→Prop
  | zero:Prev f z xs 0 z
  | succ {k:Nat} {x:α} : xs[k]? = some x→Prev f z xs (k+1) (f x)
theorem Prev.at {α β:Type} {f:α→β} {z:β} {xs:List α} {k:Nat} {b:β} {y:α} (h:Prev f z xs k b) (hy:xs[((k:Int) - 1).toNat]? = some y) (hk:0<(k:Int)):b=f y:=by
  cases h with
  | zero=>omega
  | succ hx=>
    rename_i k x
    rw [show (((k+1:Nat):Int) - 1).toNat=k from by omega,hx] at hy
    cases hy;rfl
theorem Prev.at0 {α β:Type} {f:α→β} {z:β} {xs:List α} {k:Nat} {b:β} (h:Prev f z xs k b) (hk:(k:Int)≤0):b=z:=by
  cases h with
  | zero=>rfl
  | succ hx=>omega
theorem Zeu {α β:Type} {p:β→α→Bool} {nx:β→α→β} {b0 b:β} {xs:List α} {k:Nat} {x:α} (hx:xs[k]? = some x) (hs:scn p nx b0 (xs.take k)=(true,b)) (h:p b x=false):(scn p nx b0 xs).1=false:=
  Zdf hx (by rw [congrArg Prod.snd hs];exact h)
theorem Za3 {us:List DUser} {k:Nat} {x:DUser} {nm:Str} (hx:us[k]? = some x) (hs:Zbn (us.take k)=(true,nm)) (h:ZbB nm x=false):Zad us=false:=
  Zb7 (Zeu hx hs h)
theorem ZgD {s:Str} (h:0<s.length):Op.bytesLess [] s=true:=by
  cases s with
  | nil=>cases h
  | cons a s=>rfl
theorem Zea {s:Str} (h:Z4 s=true):0<s.length:=by
  cases s with
  | nil=>simp [Z4] at h
  | cons a s=>simp
def ZdA (b:Str) (g:DGrant):Bool:=Z4 g.user && (decide (1≤g.rights) && decide (g.rights≤63)) && Op.bytesLess b g.user
def ZbJ (gs:List DGrant):Bool × Str:=scn ZdA (fun _ g=>g.user) [] gs
def Zgm (gs:List DGrant):Bool:=(ZbJ gs).1 && decide (gs.length≤4)
theorem ZdM {gs:List DGrant} {k:Nat} {x:DGrant} {nm:Str} (hx:gs[k]? = some x) (hs:ZbJ (gs.take k)=(true,nm)) (h:ZdA nm x=false):Zgm gs=false:=by
  rw [Zgm,show (ZbJ gs).1=false from Zeu hx hs h,Bool.false_and]
theorem ZiB {gs:List DGrant} {b:Str} (h:ZbJ gs=(true,b)):Zgm gs=decide (gs.length≤4):=by rw [Zgm,h,Bool.true_and]
def DFolder.box (f:DFolder):DBox:=⟨f.next,f.mail⟩
def inbox:Str:=[105,110,98,111,120]
def Zaf (us:List DUser) (f:DFolder):Bool:=decide (0≤Zhe us f.owner) && Z4 f.name && Zgm f.grants && Zgh f.box
def Zam (us:List DUser) (b:Option DFolder) (f:DFolder):Bool:=Zaf us f && (match b with | none=>true | some y=>ZeB y f)
def Za0 (us:List DUser) (fs:List DFolder):Bool × Option DFolder:=scn (Zam us) (fun _ f=>some f) none fs
def Zaq (us:List DUser) (fs:List DFolder):Bool:=(Za0 us fs).1 && decide (fs.length≤8)
theorem ZaH {us:List DUser} {fs:List DFolder} {k:Nat} {x:DFolder} {b:Option DFolder} (hx:fs[k]? = some x) (hs:Za0 us (fs.take k)=(true,b)) (h:Zam us b x=false):Zaq us fs=false:=by
  rw [Zaq,show (Za0 us fs).1=false from Zeu hx hs h,Bool.false_and]
theorem ZeL {us:List DUser} {fs:List DFolder} {b:Option DFolder} (h:Za0 us fs=(true,b)):Zaq us fs=decide (fs.length≤8):=by rw [Zaq,h,Bool.true_and]
def Zck (fs:List DFolder) (u:Str):Nat:=(fs.map fun f=>if f.owner=u then ZaW f.mail else 0).sum
theorem Zd2 {fs:List DFolder} {u:Str} {k:Nat} {x:DFolder} (hx:fs[k]? = some x):Zck (fs.take (k+1)) u=Zck (fs.take k) u+if x.owner=u then ZaW x.mail else 0:=by
  have:fs.take (k+1)=fs.take k ++ [x]:=by rw [List.take_add_one,hx];rfl
  simp [Zck,this]
theorem ZhD {fs:List DFolder} {u:Str} {k n:Nat} (h:n=Zck (fs.take k) u) (hk:fs.length≤k):n=Zck fs u:=by rwa [List.take_of_length_le hk] at h
def ZgH (us:List DUser) (ns:List Str):Bool:=ns.all fun n=>decide (0≤Zhe us n)
def Zas (fs:List DFolder) (u:DUser):Bool:=decide (0≤Zhs (inF u.name inbox) fs) && decide ((Zck fs u.name:Int)≤u.quota)
def Zap (us:List DUser) (x:DItem):Bool:=decide (0≤Zhe us x.fr) && ZgH us x.left
def ZaS (h:DHost):Bool:=Za4 h.domain && Zad h.users && ZbF h.queue && Zaq h.users h.folders && h.users.all (Zas h.folders) && h.queue.items.all (Zap h.users)
theorem Za5 {B:Kn} {q:Option Addr} {cp:Nat} {ms:List DMail} (h:SlK B q cp 3 Zar ms):ZaW ms≤4000000000000:=by
  have h1 :∀m,m∈ms→m.text.length≤2000000:=fun m hm=>by
    obtain ⟨i,hi⟩:=List.mem_iff_getElem?.1 hm
    obtain ⟨b,o,row,_,h2,_⟩:=h.rows i m hi
    exact h2.2
  have h2 :∀l:List DMail,(∀m,m∈l→m.text.length≤2000000)→ZaW l≤l.length*2000000:=by
    intro l
    induction l with
    | nil=>intro _;simp [ZaW]
    | cons m l ih=>
      intro hl
      have:=ih fun y hy=>hl y (List.mem_cons_of_mem _ hy)
      have:=hl m (List.mem_cons_self ..)
      simp only [ZaW,List.map_cons,List.sum_cons,List.length_cons] at *
      omega
  have:=h2 ms h1
  have:=h.len
  omega
theorem Zdv {h:DHost} {k:Nat} {u:DUser} (hu:h.users[k]? = some u) (hf:Zas h.folders u=false):ZaS h=false:=by
  rw [ZaS,ZeS hu hf,Bool.and_false,Bool.false_and]
theorem Zdw {h:DHost} {k:Nat} {y:DItem} (hy:h.queue.items[k]? = some y) (hf:Zap h.users y=false):ZaS h=false:=by
  rw [ZaS,ZeS hy hf,Bool.and_false]
theorem Zhf {h:DHost} (h1:Za4 h.domain=true) (h2:Zad h.users=true) (h3:ZbF h.queue=true) (h4:Zaq h.users h.folders=true) (h5:h.users.all (Zas h.folders)=true) (h6:h.queue.items.all (Zap h.users)=true):ZaS h=true:=by
  rw [ZaS,h1,h2,h3,h4,h5,h6];rfl
theorem Ze1 {fs:List DFolder} {u:DUser} (h:Zhs (inF u.name inbox) fs<0):Zas fs u=false:=by
  rw [Zas,decide_eq_false (by omega),Bool.false_and]
theorem Ze0 {fs:List DFolder} {u:DUser} (h:u.quota<Zck fs u.name):Zas fs u=false:=by
  rw [Zas,decide_eq_false (p:=(Zck fs u.name:Int)≤u.quota) (by omega),Bool.and_false]
theorem ZeZ {fs:List DFolder} {u:DUser} (h:0≤Zhs (inF u.name inbox) fs) (h':(Zck fs u.name:Int)≤u.quota):Zas fs u=true:=by
  rw [Zas,decide_eq_true h,decide_eq_true h'];rfl
theorem ZeF {us:List DUser} {x:DItem} (h:Zhe us x.fr<0):Zap us x=false:=by rw [Zap,decide_eq_false (by omega),Bool.false_and]
theorem ZeE {us:List DUser} {x:DItem} (h:ZgH us x.left=false):Zap us x=false:=by rw [Zap,h,Bool.and_false]
theorem ZeD {us:List DUser} {x:DItem} (h:0≤Zhe us x.fr) (h':ZgH us x.left=true):Zap us x=true:=by rw [Zap,decide_eq_true h,h'];rfl
theorem Zed :∀{a b c:Str},Op.bytesLess a b=true→Op.bytesLess b c=true→Op.bytesLess a c=true
  | [],[],_,h,_=>by simp [Op.bytesLess] at h
  | _ :: _,[],_,h,_=>by simp [Op.bytesLess] at h
  | _,_ :: _,[],_,h=>by simp [Op.bytesLess] at h
  | [],_ :: _,_ :: _,_,_=>by simp [Op.bytesLess]
  | a :: x,b :: y,c :: z,h,h'=>by
    simp only [Op.bytesLess,Bool.or_eq_true,decide_eq_true_eq,Bool.and_eq_true,beq_iff_eq] at h h' ⊢
    rcases h with h | ⟨rfl,h⟩
    · rcases h' with h' | ⟨rfl,h'⟩
      · exact .inl (UInt8.lt_trans h h')
      · exact .inl h
    · rcases h' with h' | ⟨rfl,h'⟩
      · exact .inl h'
      · exact .inr ⟨rfl,Zed h h'⟩
def Zjx:Rel Bool:=fun _ row x=>row=[.bool x]
theorem Zjx.mono:Mono Zjx:=fun _ _ _ h=>h
theorem Zjx.one {B:Kn} :∀row y,Zjx B row y→row.all Zc0=true∧row.length=1:=by rintro _ y rfl;exact ⟨rfl,rfl⟩
def Zki:List DFolder→Bool
  | []=>true
  | [_]=>true
  | a :: b :: r=>ZeB a b && Zki (b :: r)
theorem Zdg {α:Type} {p:Str→α→Bool} {f:α→Str} (hp :∀b x,p b x=true→Op.bytesLess b (f x)=true) :∀(xs:List α) (b0 b:Str),xs.foldl (fun s x=>(s.1 && p s.2 x,f x)) (true,b0)=(true,b)→(∀y,y∈xs→Op.bytesLess b0 (f y)=true)∧xs.Pairwise (fun x y=>Op.bytesLess (f x) (f y)=true)
  | [],_,_,_=>⟨by simp,.nil⟩
  | x :: xs,b0,b,h=>by
    simp only [List.foldl_cons,Bool.true_and] at h
    cases hq:p b0 x with
    | false=>
      rw [hq] at h
      have:=ZbE (p:=p) (nx:=fun _ g=>f g) xs (f x)
      rw [h] at this;cases this
    | true=>
      rw [hq] at h
      obtain ⟨h1,h2⟩:=Zdg hp xs (f x) b h
      refine ⟨fun y hy=>?_,.cons h1 h2⟩
      rcases List.mem_cons.1 hy with rfl | hy
      · exact hp _ _ hq
      · exact Zed (hp _ _ hq) (h1 y hy)
theorem ZdQ {us:List DUser} (h:Zad us=true):us.Pairwise fun x y=>Op.bytesLess x.name y.name=true:=by
  simp only [Zad,Bool.and_eq_true] at h
  exact (Zdg (p:=ZbB) (f:=fun u=>u.name) (fun b x hq=>by simp only [ZbB,Bool.and_eq_true] at hq;exact hq.2) us [] (Zbn us).2 (Prod.ext h.1 rfl)).2
theorem Zf3 {us:List DUser} {u:Str} : 0≤Zhe us u↔∃x,x∈us∧x.name=u:=by
  unfold Zhe
  cases h:us.findIdx? (fun x=>decide (x.name=u)) with
  | none=>
    have:=List.findIdx?_eq_none_iff.1 h
    simp only [decide_eq_false_iff_not] at this
    exact ⟨fun hc=>absurd hc (by simp only [];omega),fun ⟨x,hx,e⟩=>absurd e (this x hx)⟩
  | some i=>
    rw [List.findIdx?_eq_some_iff_getElem] at h
    obtain ⟨hi,h1,_⟩:=h
    exact ⟨fun _=>⟨us[i],List.getElem_mem hi,by simpa using h1⟩,fun _=>by simp only [];omega⟩
theorem Zbz {us:List DUser} :∀(fs:List DFolder) (b0:Option DFolder),(fs.foldl (fun s x=>(s.1 && Zam us s.2 x,some x)) (true,b0)).1=(fs.all (Zaf us) && Zki ((match b0 with | none=>[] | some y=>[y]) ++ fs))
  | [],none=>rfl
  | [],some y=>rfl
  | x :: fs,b0=>by
    simp only [List.foldl_cons,Bool.true_and]
    have hstep:(fs.foldl (fun (s:Bool × Option DFolder) x=>(s.1 && Zam us s.2 x,some x)) (Zam us b0 x,some x)).1=(Zam us b0 x && (fs.all (Zaf us) && Zki (x :: fs))):=by
      cases hq:Zam us b0 x with
      | false=>rw [Bool.false_and];exact ZbE (p:=Zam us) (nx:=fun _ f=>some f) fs (some x)
      | true=>rw [Bool.true_and];exact Zbz fs (some x)
    rw [hstep]
    cases b0 with
    | none=>
      simp only [Zam,Bool.and_true,List.all_cons,List.nil_append]
      cases Zaf us x <;> simp
    | some y=>
      simp only [Zam,List.all_cons,List.cons_append,List.nil_append,Zki]
      cases Zaf us x <;> cases ZeB y x <;> simp
theorem ZdC {us:List DUser} {fs:List DFolder} : Zaq us fs=(fs.all (Zaf us) && Zki fs && decide (fs.length≤8)):=by
  rw [Zaq,show (Za0 us fs).1=_ from Zbz fs none];rfl
end Go.BL
namespace Go.BL
open Go
set_option linter.unusedVariables false
set_option linter.unusedSimpArgs false
structure DSess where
  user:Str
  owner:Str
  name:Str
deriving DecidableEq
end Go.BL
namespace Go.BL
open Go
set_option linter.unusedVariables false
set_option linter.unusedSimpArgs false
def ZcS (n:Str):DFolder:=⟨n,inbox,[],1,[]⟩
def Zh1 (d:Str) (us:List DUser):DHost:=⟨d,us,us.map fun u=>ZcS u.name,⟨1,[]⟩⟩
def Zh0:DHost:=⟨[],[],[],⟨0,[]⟩⟩
def ZE (d:Str) (us:List DUser):DHost × Bool:=if Za4 d=true∧Zad us=true then (Zh1 d us,true) else (Zh0,false)
theorem ZhS {α β:Type} {p:β→α→Bool} {nx:β→α→β} :∀(xs:List α) (b:β),(xs.foldl (fun (s:Bool × β) x=>(s.1 && p s.2 x,nx s.2 x)) (true,b)).1=true→∀x,x∈xs→∃b',p b' x=true
  | [],_,_,x,hx=>by cases hx
  | x :: xs,b,h,y,hy=>by
    simp only [List.foldl_cons,Bool.true_and] at h
    cases hq:p b x with
    | false=>
      rw [hq] at h
      have:=ZbE (p:=p) (nx:=nx) xs (nx b x)
      rw [this] at h;cases h
    | true=>
      rw [hq] at h
      rcases List.mem_cons.1 hy with rfl | hy
      · exact ⟨b,hq⟩
      · exact ZhS xs _ h y hy
theorem ZeY {us:List DUser} (h:Zad us=true) {u:DUser} (hu:u∈us):ZaV u=true:=by
  simp only [Zad,Bool.and_eq_true] at h
  obtain ⟨b,hb⟩:=ZhS (p:=ZbB) (nx:=fun _ u=>u.name) us [] h.1 u hu
  simp only [ZbB,Bool.and_eq_true] at hb;exact hb.1
theorem ZgB :∀{us:List DUser},us.Pairwise (fun x y=>Op.bytesLess x.name y.name=true)→Zki (us.map fun u=>ZcS u.name)=true
  | [],_=>rfl
  | [_],_=>rfl
  | a :: b :: r,h=>by
    cases h with
    | cons h1 h2=>
      have h3:=h1 b (List.mem_cons_self ..)
      show (ZeB (ZcS a.name) (ZcS b.name) && Zki ((b :: r).map fun u=>ZcS u.name))=true
      rw [ZgB h2,Bool.and_true,ZeB]
      simp only [ZcS,h3,Bool.true_or]
theorem ZhC (us:List DUser) (n:Str):Zck (us.map fun u=>ZcS u.name) n=0:=by
  induction us with
  | nil=>rfl
  | cons u us ih=>
    simp only [Zck,List.map_cons,List.sum_cons] at ih ⊢
    rw [ih]
    simp [ZcS,ZaW]
theorem Zkl {us:List DUser} {u:DUser} (h:u∈us):0≤Zhs (inF u.name inbox) (us.map fun u=>ZcS u.name):=
  Zi6.2 ⟨ZcS u.name,List.mem_map.2 ⟨u,h,rfl⟩,by simp [inF,ZcS]⟩
theorem Zdo (d:Str) (us:List DUser):ZaS (Zh1 d us)=(Za4 d && Zad us):=by
  cases hu:Zad us with
  | false=>simp [ZaS,Zh1,hu]
  | true=>
    have h1:Zaq us (us.map fun u=>ZcS u.name)=true:=by
      rw [ZdC,ZgB (ZdQ hu)]
      have h2:(us.map fun u=>ZcS u.name).all (Zaf us)=true:=by
        rw [List.all_eq_true]
        intro f hf
        obtain ⟨u,hm,rfl⟩:=List.mem_map.1 hf
        have e1:Z4 inbox=true:=by decide
        have e2:Zgm []=true:=by decide
        have e3:Zgh ⟨1,[]⟩=true:=by decide
        simp only [Zaf,ZcS,DFolder.box,e1,e2,e3,Bool.and_true]
        exact decide_eq_true (Zf3.2 ⟨u,hm,rfl⟩)
      have h3:us.length≤4:=by simp only [Zad,Bool.and_eq_true,decide_eq_true_eq] at hu;exact hu.2.2
      rw [h2];simp;omega
    have h4:us.all (Zas (us.map fun u=>ZcS u.name))=true:=by
      rw [List.all_eq_true]
      intro u hm
      have:=ZeY hu hm
      simp only [ZaV,Bool.and_eq_true,decide_eq_true_eq] at this
      simp only [Zas,ZhC,Bool.and_eq_true,decide_eq_true_eq]
      exact ⟨Zkl hm,by omega⟩
    have h5:ZbF ⟨1,[]⟩=true:=by decide
    simp only [ZaS,Zh1,hu,h1,h4,h5,List.all_nil,Bool.and_true]
theorem Zdx {d:Str} {us:List DUser} (h:ZaS (Zh1 d us)=true):ZE d us=(Zh1 d us,true):=by
  rw [Zdo,Bool.and_eq_true] at h;rw [ZE,if_pos h]
theorem ZcH {d:Str} {us:List DUser} (h:ZaS (Zh1 d us)=false):ZE d us=(Zh0,false):=by
  rw [Zdo] at h;rw [ZE,if_neg (by rw [← Bool.and_eq_true,h];exact Bool.false_ne_true)]
end Go.BL
namespace Go.BL
open Go
set_option linter.unusedVariables false
set_option linter.unusedSimpArgs false
def dig (k:Nat):Str:=[UInt8.ofNat (IntKind.u8.wrap (48+((k % 10:Nat):Int))).toNat]
def digs (k:Nat):Str:=if h:k=0 then [] else digs (k / 10) ++ dig k
termination_by k
decreasing_by omega
theorem Zfx:digs 0=[]:=by unfold digs;rfl
theorem ZgS {k:Nat} (h:0<k):digs k=digs (k / 10) ++ dig k:=by
  conv=>lhs;unfold digs
  rw [dif_neg (by omega)]
theorem ZeN :∀(n k:Nat),k<10 ^ n→(digs k).length≤n
  | n,0,_=>by rw [Zfx];simp
  | 0,k+1,h=>by simp at h
  | n+1,k+1,h=>by
    rw [ZgS (by omega),List.length_append]
    have h1:(k+1) / 10<10 ^ n:=by rw [Nat.pow_succ] at h;omega
    have:=ZeN n _ h1
    simp only [dig,List.length_cons,List.length_nil];omega
def Zt (k:Nat):Str:=if k=0 then [109,48] else 109 :: digs k
theorem ZaG {k:Nat} (h:k≤1000000000000000):(Zt k).length≤20:=by
  unfold Zt
  split
  · simp
  · have:=ZeN 16 k (by omega)
    simp only [List.length_cons];omega
theorem Zix {k0 k:Nat} {t:Str} (h:digs k0=digs k ++ t) (hk:0<k):digs k0=digs (k / 10) ++ (dig k ++ t):=by
  rw [h,ZgS hk,List.append_assoc]
theorem Zkz {k0 k:Nat} {t:Str} (h0:k0≤1000000000000000) (h:digs k0=digs k ++ t):t.length≤16:=by
  have h1:=ZeN 16 k0 (by omega)
  rw [h,List.length_append] at h1;omega
theorem ZaF {α:Type} {ys:List α} {i:Nat} {c:α} (h:i<ys.length):(ys.set i c).take (i+1)=ys.take i ++ [c]:=by
  rw [List.take_add_one,List.getElem?_set_self h,List.take_set_of_le (Nat.le_refl _)];rfl
def Zau (k n:Nat):List DMail:=(List.range n).map fun i=>⟨((k+3*i:Nat):Int),((k+3*i+1:Nat):Int),Zt (k+3*i+1+1)⟩
theorem ZX (k n:Nat):(Zau k n).length=n:=by simp [Zau]
theorem Zff {ys:List DMail} {i k:Nat} {z1 z2 z3:DMail} (ht:ys.take i=Zau k i) (h1:ys[i]? = some z1) (h2:(ys.set i ⟨((k+3*i:Nat):Int),z1.flags,z1.text⟩)[i]? = some z2)
    (h3:((ys.set i ⟨((k+3*i:Nat):Int),z1.flags,z1.text⟩).set i ⟨z2.uid,((k+3*i+1:Nat):Int),z2.text⟩)[i]? = some z3) :
    (((ys.set i ⟨((k+3*i:Nat):Int),z1.flags,z1.text⟩).set i ⟨z2.uid,((k+3*i+1:Nat):Int),z2.text⟩).set i ⟨z3.uid,z3.flags,Zt (k+3*i+1+1)⟩).take (i+1)=Zau k (i+1):=by
  have hl:=(List.getElem?_eq_some_iff.1 h1).1
  rw [List.getElem?_set_self hl] at h2;cases h2
  rw [List.set_set,List.getElem?_set_self hl] at h3;cases h3
  rw [List.set_set,List.set_set,ZaF hl,ht,Zau,Zau,List.range_succ,List.map_append];rfl
def ZW (k n:Nat):List DGrant:=(List.range n).map fun i=>⟨Zt (k+2*i),((k+2*i+1:Nat):Int)⟩
theorem ZP (k n:Nat):(ZW k n).length=n:=by simp [ZW]
theorem Zex {ys:List DGrant} {i k:Nat} {z1 z2:DGrant} (ht:ys.take i=ZW k i) (h1:ys[i]? = some z1) (h2:(ys.set i ⟨Zt (k+2*i),z1.rights⟩)[i]? = some z2) :
    ((ys.set i ⟨Zt (k+2*i),z1.rights⟩).set i ⟨z2.user,((k+2*i+1:Nat):Int)⟩).take (i+1)=ZW k (i+1):=by
  have hl:=(List.getElem?_eq_some_iff.1 h1).1
  rw [List.getElem?_set_self hl] at h2;cases h2
  rw [List.set_set,ZaF hl,ht,ZW,ZW,List.range_succ,List.map_append];rfl
def ZaO (k n:Nat):List DUser:=(List.range n).map fun i=>⟨Zt (k+3*i),Zt (k+3*i+1),((k+3*i+1+1:Nat):Int)⟩
theorem Zal (k n:Nat):(ZaO k n).length=n:=by simp [ZaO]
theorem Zfe {ys:List DUser} {i k:Nat} {z1 z2 z3:DUser} (ht:ys.take i=ZaO k i) (h1:ys[i]? = some z1) (h2:(ys.set i ⟨Zt (k+3*i),z1.pass,z1.quota⟩)[i]? = some z2)
    (h3:((ys.set i ⟨Zt (k+3*i),z1.pass,z1.quota⟩).set i ⟨z2.name,Zt (k+3*i+1),z2.quota⟩)[i]? = some z3) :
    (((ys.set i ⟨Zt (k+3*i),z1.pass,z1.quota⟩).set i ⟨z2.name,Zt (k+3*i+1),z2.quota⟩).set i ⟨z3.name,z3.pass,((k+3*i+1+1:Nat):Int)⟩).take (i+1)=ZaO k (i+1):=by
  have hl:=(List.getElem?_eq_some_iff.1 h1).1
  rw [List.getElem?_set_self hl] at h2;cases h2
  rw [List.set_set,List.getElem?_set_self hl] at h3;cases h3
  rw [List.set_set,List.set_set,ZaF hl,ht,ZaO,ZaO,List.range_succ,List.map_append];rfl
def Za7 (k n:Nat):List Str:=(List.range n).map fun i=>Zt (k+1*i)
theorem Zag (k n:Nat):(Za7 k n).length=n:=by simp [Za7]
theorem ZfU {ys:List Str} {i k:Nat} {z1:Str} (ht:ys.take i=Za7 k i) (h1:ys[i]? = some z1):(ys.set i (Zt (k+1*i))).take (i+1)=Za7 k (i+1):=by
  have hl:=(List.getElem?_eq_some_iff.1 h1).1
  rw [ZaF hl,ht,Za7,Za7,List.range_succ,List.map_append];rfl
theorem ZgE {α:Type} {ys zs:List α} {i:Nat} (h:ys.take i=zs) (hi:ys.length≤i):ys=zs:=by rwa [List.take_of_length_le hi] at h
end Go.BL
namespace Go.BL
open Go
set_option linter.unusedVariables false
set_option linter.unusedSimpArgs false
structure DEvent where
  kind:Int
  by_:Str
  owner:Str
  name:Str
  to_:Str
  text:Str
  a:Int
  b:Int
deriving DecidableEq
end Go.BL
namespace Go.BL
open Go
set_option linter.unusedVariables false
set_option linter.unusedSimpArgs false
theorem Zku {α:Type} {fs:List α} {k i:Nat} {y g:α} (h:(fs.set k y)[i]? = some g):(i=k∧g=y∧k<fs.length)∨(i≠k∧fs[i]? = some g):=by
  have hi:=(List.getElem?_eq_some_iff.1 h).1
  rw [List.length_set] at hi
  rw [List.getElem?_set] at h
  split at h
  · rename_i e
    subst e
    simp [hi] at h
    exact .inl ⟨rfl,h.symm,hi⟩
  · rename_i e
    exact .inr ⟨fun e'=>e e'.symm,h⟩
def Like (ms ms':List DMail):Prop:=ms'.length=ms.length∧∀(i:Nat) (a b:DMail),ms[i]? = some a→ms'[i]? = some b→b.uid=a.uid∧b.text=a.text∧(b.flags=a.flags∨(0≤b.flags∧b.flags≤31))
theorem Like.refl (ms:List DMail):Like ms ms:=⟨rfl,fun i a b h1 h2=>by rw [h1] at h2;cases h2;exact ⟨rfl,rfl,.inl rfl⟩⟩
theorem Like.set {ms acc:List DMail} {k:Nat} {a:DMail} {fl:Int} (h:Like ms acc) (ha:acc[k]? = some a) (hf:0≤fl∧fl≤31):Like ms (acc.set k ⟨a.uid,fl,a.text⟩):=by
  refine ⟨by rw [List.length_set];exact h.1,fun i c d hc hd=>?_⟩
  rcases Zku hd with ⟨rfl,rfl,_⟩ | ⟨_,hd⟩
  · have:=h.2 _ _ _ hc ha
    exact ⟨this.1,this.2.1,.inr hf⟩
  · exact h.2 _ _ _ hc hd
end Go.BL
namespace Go.BL
open Go
set_option linter.unusedVariables false
set_option linter.unusedSimpArgs false
structure GHC where
  q1:Option Addr
  c1:Nat
  q3:Option Addr
  c3:Nat
  b:Nat
structure GEx where
  k:Nat
  m:Gh DMail
  n:Gh Int
structure GCp where
  k:Nat
  x:DHost
  c:Int
  q1:Option Addr
  c1:Nat
  q2:Option Addr
  c2:Nat
  q3:Option Addr
  c3:Nat
structure GHo where
  k:Nat
  p:Nat
  x:DHost
  q1:Option Addr
  c1:Nat
  q2:Option Addr
  c2:Nat
  q3:Option Addr
  c3:Nat
structure GBo where
  k:Nat
  p:Nat
  l:Cells
  a:Option Addr
  c:Nat
  x:DBox
structure GAc where
  k:Nat
  p:Nat
  l:Cells
  a:Option Addr
  c:Nat
  xs:List DGrant
end Go.BL
namespace Go.BL
open Go
set_option linter.unusedVariables false
set_option linter.unusedSimpArgs false
end Go.BL
namespace Go.BL
open Go
set_option linter.unusedVariables false
set_option linter.unusedSimpArgs false
def ZaE (f:DFolder):Nat:=3+2*f.grants.length+3*f.mail.length
def mkF (k:Nat) (f:DFolder):DFolder:=⟨Zt k,Zt (k+1),ZW (k+1+1) f.grants.length,((k+1+1+2*f.grants.length:Nat):Int),Zau (k+1+1+2*f.grants.length+1) f.mail.length⟩
def ZaL (x:DItem):Nat:=3+x.left.length
def mkI (k:Nat) (x:DItem):DItem:=⟨((k:Nat):Int),Zt (k+1),Zt (k+1+1),Za7 (k+1+1+1) x.left.length⟩
def kL {α:Type} (st:α→Nat) (k:Nat) (xs:List α):Nat:=k+(xs.map st).sum
def mkL {α:Type} (st:α→Nat) (mk:Nat→α→α):Nat→List α→List α
  | _,[]=>[]
  | k,x :: xs=>mk k x :: mkL st mk (k+st x) xs
theorem Zfl {α:Type} {st:α→Nat} {k:Nat} : kL st k []=k:=by simp [kL]
theorem Zf0 {α:Type} {st:α→Nat} {k:Nat} {x:α} {xs:List α} : kL st k (x :: xs)=kL st (k+st x) xs:=by simp [kL];omega
theorem Zdu {α:Type} {st:α→Nat} {k i:Nat} {xs:List α} {x:α} (hx:xs[i]? = some x):kL st k (xs.take (i+1))=kL st k (xs.take i)+st x:=by
  rw [Ze2 hx,kL,kL,List.map_append,List.sum_append];simp;omega
theorem Zk7 {α:Type} {st:α→Nat} {c:Nat} :∀{xs:List α} (k:Nat),(∀x,x∈xs→st x≤c)→kL st k xs≤k+xs.length*c
  | [],k,_=>by simp [kL]
  | x :: xs,k,h=>by
    have h1:=Zk7 (st:=st) (c:=c) (xs:=xs) (k+st x) fun y hy=>h y (List.mem_cons_of_mem _ hy)
    have h2:=h x (List.mem_cons_self ..)
    rw [Zf0,List.length_cons,Nat.succ_mul];omega
theorem ZgF {α:Type} {st:α→Nat} {mk:Nat→α→α} {x:α} :∀{xs:List α} (k:Nat),mkL st mk k (xs ++ [x])=mkL st mk k xs ++ [mk (kL st k xs) x]
  | [],k=>by simp [mkL,kL]
  | y :: xs,k=>by
    rw [List.cons_append,mkL,ZgF (xs:=xs) (k+st y),mkL,Zf0,List.cons_append]
theorem Zbs {α:Type} {st:α→Nat} {mk:Nat→α→α} :∀{xs:List α} (k:Nat),(mkL st mk k xs).length=xs.length
  | [],k=>rfl
  | y :: xs,k=>by rw [mkL,List.length_cons,Zbs (k+st y),List.length_cons]
theorem ZiZ {α:Type} {st:α→Nat} {mk:Nat→α→α} {xs ys:List α} {i k:Nat} {x:α} (ht:ys.take i=mkL st mk k (xs.take i)) (hx:xs[i]? = some x) (hl:ys.length=xs.length):(ys.set i (mk (kL st k (xs.take i)) x)).take (i+1)=mkL st mk k (xs.take (i+1)):=by
  have hi:=(List.getElem?_eq_some_iff.1 hx).1
  rw [ZaF (by omega),Ze2 hx,ZgF,ht]
theorem Zh6 {α:Type} {st:α→Nat} {mk:Nat→α→α} {xs ys:List α} {i k:Nat} (ht:ys.take i=mkL st mk k (xs.take i)) (hl:ys.length=xs.length) (hi:xs.length≤i):ys=mkL st mk k xs:=by
  rwa [List.take_of_length_le (by omega),List.take_of_length_le hi] at ht
theorem ZfW {α:Type} {st:α→Nat} {mk:Nat→α→α} :∀{xs:List α} {i:Nat} {x:α} (k:Nat),xs[i]? = some x→(mkL st mk k xs)[i]? = some (mk (kL st k (xs.take i)) x)
  | [],i,x,k,h=>by simp at h
  | y :: xs,0,x,k,h=>by
    simp only [List.getElem?_cons_zero,Option.some.injEq] at h
    subst h;simp [mkL,kL]
  | y :: xs,i+1,x,k,h=>by
    rw [mkL,List.getElem?_cons_succ,ZfW (k+st y) (by simpa using h),List.take_succ_cons,Zf0]
theorem ZgO {α:Type} {xs ys:List α} {i:Nat} {z:α} (hd:ys.drop i=xs.drop i):(ys.set i z).drop (i+1)=xs.drop (i+1):=by
  rw [List.drop_set_of_lt (by omega),← List.drop_drop,← List.drop_drop,hd]
theorem ZgP {α:Type} {xs ys:List α} {i:Nat} (hd:ys.drop i=xs.drop i):ys[i]? = xs[i]?:=by
  have:=congrArg (fun l=>l[0]?) hd
  simpa using this
theorem ZfV {k n g:Nat} (h:g<n):(Zau k n)[g]? = some ⟨((k+3*g:Nat):Int),((k+3*g+1:Nat):Int),Zt (k+3*g+1+1)⟩:=by simp [Zau,h]
theorem Zfh {k n g:Nat} (h:g<n):(ZW k n)[g]? = some ⟨Zt (k+2*g),((k+2*g+1:Nat):Int)⟩:=by simp [ZW,h]
theorem ZfT {k n g:Nat} (h:g<n):(ZaO k n)[g]? = some ⟨Zt (k+3*g),Zt (k+3*g+1),((k+3*g+1+1:Nat):Int)⟩:=by simp [ZaO,h]
theorem Zg8 {k n g:Nat} (h:g<n):(Za7 k n)[g]? = some (Zt (k+1*g)):=by simp [Za7,h]
theorem Zbq {α:Type} {xs:List α} {k:Nat} {x z:α} (h:xs[k]? = some x):(xs.set k z)[k]? = some z:=List.getElem?_set_self (List.getElem?_eq_some_iff.1 h).1
theorem Zi4 {α:Type} {st:α→Nat} {k i:Nat} {xs:List α} {x:α} (hx:xs[i]? = some x):kL st k (xs.take i)+st x≤kL st k xs:=by
  have e:xs=xs.take (i+1) ++ xs.drop (i+1):=(List.take_append_drop _ _).symm
  have h1:=Zdu (st:=st) (k:=k) hx
  have h2:kL st k xs=kL st k (xs.take (i+1))+((xs.drop (i+1)).map st).sum:=by
    conv=>lhs;rw [e]
    simp only [kL,List.map_append,List.sum_append];omega
  omega
theorem ZgI {α:Type} {st:α→Nat} {k i:Nat} {xs:List α} (h:xs.length≤i):kL st k (xs.take i)=kL st k xs:=by rw [List.take_of_length_le h]
theorem Zi3 {α:Type} {st:α→Nat} {k:Nat} {xs:List α} : k≤kL st k xs:=by simp [kL]
theorem Zgt {α:Type} {xs ys:List α} {i:Nat} {z:α} (h:ys.length=xs.length):(ys.set i z).length=xs.length:=by rw [List.length_set,h]
theorem Zfg {α:Type} {st:α→Nat} {mk:Nat→α→α} {xs ys:List α} {i k m:Nat} {x:α} (ht:ys.take i=mkL st mk k (xs.take i)) (hx:xs[i]? = some x) (hl:ys.length=xs.length) (hs:m=kL st k (xs.take i)):(ys.set i (mk m x)).take (i+1)=mkL st mk k (xs.take (i+1)):=by
  subst hs;exact ZiZ ht hx hl
end Go.BL
namespace Go.BL
open Go
set_option linter.unusedVariables false
set_option linter.unusedSimpArgs false
def kH (k:Nat) (x:DHost):Nat:=kL ZaL (kL ZaE (k+3*x.users.length) x.folders) x.queue.items
end Go.BL
namespace Go.BL
open Go
set_option linter.unusedVariables false
set_option linter.unusedSimpArgs false
end Go.BL
namespace Go.BL
open Go
set_option linter.unusedVariables false
set_option linter.unusedSimpArgs false
end Go.BL
namespace Go.BL
open Go
set_option linter.unusedVariables false
set_option linter.unusedSimpArgs false
end Go.BL
namespace Go.BL
open Go
set_option linter.unusedVariables false
set_option linter.unusedSimpArgs false
theorem Zkt {d:Str} {us:List DUser} (h:szL Zbx us≤1048576):kH 1 (ZE d us).1≤100000000∧(ZE d us).1.users.length≤2000000∧(ZE d us).1.folders.length≤2000000∧(ZE d us).1.queue.items.length≤2000000:=by
  have h0:=(Zdb h).1
  unfold ZE
  split
  · have h2:=Zk7 (st:=ZaE) (c:=3) (xs:=us.map fun u=>ZcS u.name) (1+3*us.length) fun f hf=>by
      obtain ⟨g,_,rfl⟩:=List.mem_map.1 hf
      simp [ZaE,ZcS]
    rw [List.length_map] at h2
    refine ⟨?_,?_,?_,?_⟩
    · show kL ZaL (kL ZaE (1+3*us.length) (us.map fun u=>ZcS u.name)) []≤_
      rw [Zfl];omega
    · show us.length≤_;omega
    · show (us.map fun u=>ZcS u.name).length≤_;rw [List.length_map];omega
    · exact Nat.zero_le _
  · refine ⟨?_,?_,?_,?_⟩ <;> simp [Zh0,kH,kL]
end Go.BL
namespace Go.BL
section
variable {P:PJ} {n:Nat} {ops:Array Oper} {i:Nat} {K:ZR} {S:Env} {D:List Deferred} {B:Kn} {L:List Cells}
variable {dst:Option Tmp} {ty:TypeId} {pos:String} {after:Array Edge} {g:Option (Nat × Bool)}
end
end Go.BL
