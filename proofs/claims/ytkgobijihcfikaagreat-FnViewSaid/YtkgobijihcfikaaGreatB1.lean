/-
  THE WALK'S LOGIC: owned cells and known cells, goroutines started and awaited, calls, loops, data, and plain laws on lists: no program in sight.
-/
import Derived.Test.YtkgobijihcfikaaGreatB0
set_option linter.unusedVariables false
set_option linter.unusedSimpArgs false
set_option linter.unusedSectionVars false
namespace Go.BL
theorem om {p:Prop} (h:p:=by first | omega | (simp;done) | (simp;omega)):p:=h
theorem om2 {p:Prop} (h:p:=by first | assumption | omega | (simp;done) | (simp;omega)):p:=h
theorem oz {p:Prop} (h:p:=by omega):p:=h
theorem kr {p:Prop} (h:p:=by kernel_rfl):p:=h
theorem so {p:Prop} (h:p:=by simp only [];omega):p:=h
theorem so2 {p:Prop} (h:p:=by first | omega | (simp only [];omega)):p:=h
theorem oa {p:Prop} (h:p:=by first | assumption | omega):p:=h
theorem oy {p:Prop} (h:p:=by assumption):p:=h
theorem om3 {p:Prop} (h:p:=by first | omega | decide | (simp;done) | (simp;omega)):p:=h
theorem ob {p:Prop} (h:p:=by first | assumption | omega | (simp only [];omega) | (simp only [];assumption) | (simp;done) | (simp;omega)):p:=h
theorem ol {p:Prop} (h:p:=by first | rfl | (simp only [List.length_set];rfl)):p:=h
theorem t1 {α0:Sort _} {a0:α0} : a0=a0∧True:=⟨rfl,trivial⟩
theorem t2 {α0 α1:Sort _} {a0:α0} {a1:α1} : a0=a0∧a1=a1∧True:=⟨rfl,rfl,trivial⟩
theorem t3 {α0 α1 α2:Sort _} {a0:α0} {a1:α1} {a2:α2} : a0=a0∧a1=a1∧a2=a2∧True:=⟨rfl,rfl,rfl,trivial⟩
theorem t4 {α0 α1 α2 α3:Sort _} {a0:α0} {a1:α1} {a2:α2} {a3:α3} : a0=a0∧a1=a1∧a2=a2∧a3=a3∧True:=⟨rfl,rfl,rfl,rfl,trivial⟩
theorem t5 {α0 α1 α2 α3 α4:Sort _} {a0:α0} {a1:α1} {a2:α2} {a3:α3} {a4:α4} : a0=a0∧a1=a1∧a2=a2∧a3=a3∧a4=a4∧True:=⟨rfl,rfl,rfl,rfl,rfl,trivial⟩
theorem t6 {α0 α1 α2 α3 α4 α5:Sort _} {a0:α0} {a1:α1} {a2:α2} {a3:α3} {a4:α4} {a5:α5} : a0=a0∧a1=a1∧a2=a2∧a3=a3∧a4=a4∧a5=a5∧True:=⟨rfl,rfl,rfl,rfl,rfl,rfl,trivial⟩
theorem t7 {α0 α1 α2 α3 α4 α5 α6:Sort _} {a0:α0} {a1:α1} {a2:α2} {a3:α3} {a4:α4} {a5:α5} {a6:α6} : a0=a0∧a1=a1∧a2=a2∧a3=a3∧a4=a4∧a5=a5∧a6=a6∧True:=⟨rfl,rfl,rfl,rfl,rfl,rfl,rfl,trivial⟩
theorem t8 {α0 α1 α2 α3 α4 α5 α6 α7:Sort _} {a0:α0} {a1:α1} {a2:α2} {a3:α3} {a4:α4} {a5:α5} {a6:α6} {a7:α7} : a0=a0∧a1=a1∧a2=a2∧a3=a3∧a4=a4∧a5=a5∧a6=a6∧a7=a7∧True:=⟨rfl,rfl,rfl,rfl,rfl,rfl,rfl,rfl,trivial⟩
theorem t9 {α0 α1 α2 α3 α4 α5 α6 α7 α8:Sort _} {a0:α0} {a1:α1} {a2:α2} {a3:α3} {a4:α4} {a5:α5} {a6:α6} {a7:α7} {a8:α8} : a0=a0∧a1=a1∧a2=a2∧a3=a3∧a4=a4∧a5=a5∧a6=a6∧a7=a7∧a8=a8∧True:=⟨rfl,rfl,rfl,rfl,rfl,rfl,rfl,rfl,rfl,trivial⟩
theorem t10 {α0 α1 α2 α3 α4 α5 α6 α7 α8 α9:Sort _} {a0:α0} {a1:α1} {a2:α2} {a3:α3} {a4:α4} {a5:α5} {a6:α6} {a7:α7} {a8:α8} {a9:α9} : a0=a0∧a1=a1∧a2=a2∧a3=a3∧a4=a4∧a5=a5∧a6=a6∧a7=a7∧a8=a8∧a9=a9∧True:=⟨rfl,rfl,rfl,rfl,rfl,rfl,rfl,rfl,rfl,rfl,trivial⟩
theorem t11 {α0 α1 α2 α3 α4 α5 α6 α7 α8 α9 α10:Sort _} {a0:α0} {a1:α1} {a2:α2} {a3:α3} {a4:α4} {a5:α5} {a6:α6} {a7:α7} {a8:α8} {a9:α9} {a10:α10} : a0=a0∧a1=a1∧a2=a2∧a3=a3∧a4=a4∧a5=a5∧a6=a6∧a7=a7∧a8=a8∧a9=a9∧a10=a10∧True:=⟨rfl,rfl,rfl,rfl,rfl,rfl,rfl,rfl,rfl,rfl,rfl,trivial⟩
theorem t12 {α0 α1 α2 α3 α4 α5 α6 α7 α8 α9 α10 α11:Sort _} {a0:α0} {a1:α1} {a2:α2} {a3:α3} {a4:α4} {a5:α5} {a6:α6} {a7:α7} {a8:α8} {a9:α9} {a10:α10} {a11:α11} : a0=a0∧a1=a1∧a2=a2∧a3=a3∧a4=a4∧a5=a5∧a6=a6∧a7=a7∧a8=a8∧a9=a9∧a10=a10∧a11=a11∧True:=⟨rfl,rfl,rfl,rfl,rfl,rfl,rfl,rfl,rfl,rfl,rfl,rfl,trivial⟩
theorem t13 {α0 α1 α2 α3 α4 α5 α6 α7 α8 α9 α10 α11 α12:Sort _} {a0:α0} {a1:α1} {a2:α2} {a3:α3} {a4:α4} {a5:α5} {a6:α6} {a7:α7} {a8:α8} {a9:α9} {a10:α10} {a11:α11} {a12:α12} : a0=a0∧a1=a1∧a2=a2∧a3=a3∧a4=a4∧a5=a5∧a6=a6∧a7=a7∧a8=a8∧a9=a9∧a10=a10∧a11=a11∧a12=a12∧True:=⟨rfl,rfl,rfl,rfl,rfl,rfl,rfl,rfl,rfl,rfl,rfl,rfl,rfl,trivial⟩
theorem t17 {α0 α1 α2 α3 α4 α5 α6 α7 α8 α9 α10 α11 α12 α13 α14 α15 α16:Sort _} {a0:α0} {a1:α1} {a2:α2} {a3:α3} {a4:α4} {a5:α5} {a6:α6} {a7:α7} {a8:α8} {a9:α9} {a10:α10} {a11:α11} {a12:α12} {a13:α13} {a14:α14} {a15:α15} {a16:α16} : a0=a0∧a1=a1∧a2=a2∧a3=a3∧a4=a4∧a5=a5∧a6=a6∧a7=a7∧a8=a8∧a9=a9∧a10=a10∧a11=a11∧a12=a12∧a13=a13∧a14=a14∧a15=a15∧a16=a16∧True:=⟨rfl,rfl,rfl,rfl,rfl,rfl,rfl,rfl,rfl,rfl,rfl,rfl,rfl,rfl,rfl,rfl,rfl,trivial⟩
section
variable {P:PJ} {n:Nat} {ops:Array Oper} {i:Nat} {K:ZaF} {S:Env} {D:List Deferred} {B:Kn} {L:List Cells}
variable {dst:Option Tmp} {ty:TypeId} {pos:String} {after:Array Edge} {g:Option (Nat × Bool)} {t u:TypeId} {x y:Operand}
theorem xM {x:Operand} {v:Value} (hg:Zq ops S g=some true:=by exact rfl) (hd:ZI n dst=true:=by exact rfl) (hx:ev S x=some v:=by exact rfl) (h:K (Zb2 S dst v) D B L):opW P n ops i ⟨dst,.move x,ty,pos,after,g⟩ K S D B L:=Zp (ZsU hg hd hx h)
theorem xA {x:Operand} {v:Value} (hg:Zq ops S g=some true:=by exact rfl) (hd:ZI n dst=true:=by exact rfl) (hx:ev S x=some v:=by exact rfl) (h:K (Zb2 S dst v) D B L):opW P n ops i ⟨dst,.assign x,ty,pos,after,g⟩ K S D B L:=Zp (Zna hg hd hx h)
theorem xP  {dst:Option Tmp} {op:Op} {t:TypeId} {pos:String} {after:Array Edge} {g:Option (Nat × Bool)}   (hg:Zq ops S g=some false:=by exact rfl) (hd:ZI n dst=true:=by exact rfl) (h:K (Zb2 S dst undef) D B L):opW P n ops i ⟨dst,op,t,pos,after,g⟩ K S D B L:=Zp (ZsR  hg hd h)
theorem xT  {c:Operand} {a:Operand} {b:Operand} {v:Value}   (hg:Zq ops S g=some true:=by exact rfl) (hd:ZI n dst=true:=by exact rfl) (hc:ev S c=some (.bool true):=by exact rfl) (hx:ev S a=some v:=by exact rfl) (h:K (Zb2 S dst v) D B L):opW P n ops i ⟨dst,.pick c a b,ty,pos,after,g⟩ K S D B L:=Zp (Zo8  hg hd hc hx h)
theorem xF  {c:Operand} {a:Operand} {b:Operand} {v:Value}   (hg:Zq ops S g=some true:=by exact rfl) (hd:ZI n dst=true:=by exact rfl) (hc:ev S c=some (.bool false):=by exact rfl) (hx:ev S b=some v:=by exact rfl) (h:K (Zb2 S dst v) D B L):opW P n ops i ⟨dst,.pick c a b,ty,pos,after,g⟩ K S D B L:=Zp (Zo9  hg hd hc hx h)
theorem xE  {x:Operand} {ix:Nat} {vs:List Value} {v:Value}   (hg:Zq ops S g=some true:=by exact rfl) (hd:ZI n dst=true:=by exact rfl) (hx:ev S x=some (.tuple vs.toArray):=by exact rfl) (hi:vs[ix]? = some v:=by exact rfl) (h:K (Zb2 S dst v) D B L):opW P n ops i ⟨dst,.extract x ix,ty,pos,after,g⟩ K S D B L:=Zp (ZkO  hg hd hx hi h)
theorem xN  {x:Operand} {b:Bool} {t:TypeId}   (hg:Zq ops S g=some true:=by exact rfl) (hd:ZI n dst=true:=by exact rfl) (hx:ev S x=some (.bool b):=by exact rfl) (h:K (Zb2 S dst (.bool (!b))) D B L):opW P n ops i ⟨dst,.unOp .not t x,ty,pos,after,g⟩ K S D B L:=Zp (Zuz  hg hd hx h)
theorem xW  {s:TypeId} {x:Operand} {fi:Nat} {off:Nat} {a:Addr}  (hf:ZX P s fi=some off) (hg:Zq ops S g=some true:=by exact rfl) (hd:ZI n dst=true:=by exact rfl) (hx:ev S x=some (ptr a):=by exact rfl) (h:K (Zb2 S dst (ptr (a.add off))) D B L):opW P n ops i ⟨dst,.fieldAddr s x fi,ty,pos,after,g⟩ K S D B L:=Zp (ZhS  hg hd hf hx h)
theorem xD  {k:IntKind} {a b r:Int}   (hg:Zq ops S g=some true:=by exact rfl) (hd:ZI n dst=true:=by exact rfl) (hx:ev S x=some (.int k a):=by exact rfl) (hy:ev S y=some (.int k b):=by exact rfl) (hr:k.wrap (a+b)=r:=by first | exact ZaN (by first | omega | (simp;done) | (simp;omega)) (by first | omega | (simp;done) | (simp;omega)) | exact rfl) (h:K (Zb2 S dst (.int k r)) D B L):opW P n ops i ⟨dst,.binOp .add t x y u,ty,pos,after,g⟩ K S D B L:=Zp (ZeF  hg hd hx hy hr h)
theorem xU  {k:IntKind} {a b r:Int}   (hg:Zq ops S g=some true:=by exact rfl) (hd:ZI n dst=true:=by exact rfl) (hx:ev S x=some (.int k a):=by exact rfl) (hy:ev S y=some (.int k b):=by exact rfl) (hr:k.wrap (a - b)=r:=by first | exact ZaN (by first | omega | (simp;done) | (simp;omega)) (by first | omega | (simp;done) | (simp;omega)) | exact rfl) (h:K (Zb2 S dst (.int k r)) D B L):opW P n ops i ⟨dst,.binOp .sub t x y u,ty,pos,after,g⟩ K S D B L:=Zp (Zi8  hg hd hx hy hr h)
theorem xY  {k:IntKind} {a b r:Int}   (hg:Zq ops S g=some true:=by exact rfl) (hd:ZI n dst=true:=by exact rfl) (hx:ev S x=some (.int k a):=by exact rfl) (hy:ev S y=some (.int k b):=by exact rfl) (hr:k.wrap (a*b)=r:=by first | exact ZaN (by first | omega | (simp;done) | (simp;omega)) (by first | omega | (simp;done) | (simp;omega)) | exact rfl) (h:K (Zb2 S dst (.int k r)) D B L):opW P n ops i ⟨dst,.binOp .mul t x y u,ty,pos,after,g⟩ K S D B L:=Zp (ZkL  hg hd hx hy hr h)
theorem Zae  {k:IntKind} {a b:Int}   (hg:Zq ops S g=some true:=by exact rfl) (hd:ZI n dst=true:=by exact rfl) (hx:ev S x=some (.int k a):=by exact rfl) (hy:ev S y=some (.int k b):=by exact rfl) (h:K (Zb2 S dst (.bool (decide (a<b)))) D B L):opW P n ops i ⟨dst,.binOp .lss t x y u,ty,pos,after,g⟩ K S D B L:=Zp (ZuC  hg hd hx hy h)
theorem ZcE  {k:IntKind} {a b:Int}   (hg:Zq ops S g=some true:=by exact rfl) (hd:ZI n dst=true:=by exact rfl) (hx:ev S x=some (.int k a):=by exact rfl) (hy:ev S y=some (.int k b):=by exact rfl) (h:K (Zb2 S dst (.bool (decide (a≤b)))) D B L):opW P n ops i ⟨dst,.binOp .leq t x y u,ty,pos,after,g⟩ K S D B L:=Zp (ZuD  hg hd hx hy h)
theorem Zbx  {k:IntKind} {a b:Int}   (hg:Zq ops S g=some true:=by exact rfl) (hd:ZI n dst=true:=by exact rfl) (hx:ev S x=some (.int k a):=by exact rfl) (hy:ev S y=some (.int k b):=by exact rfl) (h:K (Zb2 S dst (.bool (decide (b<a)))) D B L):opW P n ops i ⟨dst,.binOp .gtr t x y u,ty,pos,after,g⟩ K S D B L:=Zp (ZuF  hg hd hx hy h)
theorem ZdB  {k:IntKind} {a b:Int}   (hg:Zq ops S g=some true:=by exact rfl) (hd:ZI n dst=true:=by exact rfl) (hx:ev S x=some (.int k a):=by exact rfl) (hy:ev S y=some (.int k b):=by exact rfl) (h:K (Zb2 S dst (.bool (decide (b≤a)))) D B L):opW P n ops i ⟨dst,.binOp .geq t x y u,ty,pos,after,g⟩ K S D B L:=Zp (ZuG  hg hd hx hy h)
theorem ZJ  {k:IntKind} {a b:Int}   (hg:Zq ops S g=some true:=by exact rfl) (hd:ZI n dst=true:=by exact rfl) (hx:ev S x=some (.int k a):=by exact rfl) (hy:ev S y=some (.int k b):=by exact rfl) (h:K (Zb2 S dst (.bool (decide (a=b)))) D B L):opW P n ops i ⟨dst,.binOp .eql t x y u,ty,pos,after,g⟩ K S D B L:=Zp (ZsY  hg hd hx hy h)
theorem Zc5  {k:IntKind} {a b:Int}   (hg:Zq ops S g=some true:=by exact rfl) (hd:ZI n dst=true:=by exact rfl) (hx:ev S x=some (.int k a):=by exact rfl) (hy:ev S y=some (.int k b):=by exact rfl) (h:K (Zb2 S dst (.bool (decide (a≠b)))) D B L):opW P n ops i ⟨dst,.binOp .neq t x y u,ty,pos,after,g⟩ K S D B L:=Zp (ZsS  hg hd hx hy h)
theorem ZcF  {a b:List UInt8}   (hg:Zq ops S g=some true:=by exact rfl) (hd:ZI n dst=true:=by exact rfl) (hx:ev S x=some (str a):=by exact rfl) (hy:ev S y=some (str b):=by exact rfl) (h:K (Zb2 S dst (.bool (decide (a=b)))) D B L):opW P n ops i ⟨dst,.binOp .eql t x y u,ty,pos,after,g⟩ K S D B L:=Zp (ZsX  hg hd hx hy h)
theorem Zjg  {a b:List UInt8}   (hg:Zq ops S g=some true:=by exact rfl) (hd:ZI n dst=true:=by exact rfl) (hx:ev S x=some (str a):=by exact rfl) (hy:ev S y=some (str b):=by exact rfl) (h:K (Zb2 S dst (.bool (decide (a≠b)))) D B L):opW P n ops i ⟨dst,.binOp .neq t x y u,ty,pos,after,g⟩ K S D B L:=Zp (ZuA  hg hd hx hy h)
theorem ZsP  {a b:List UInt8}   (hg:Zq ops S g=some true:=by exact rfl) (hd:ZI n dst=true:=by exact rfl) (hx:ev S x=some (str a):=by exact rfl) (hy:ev S y=some (str b):=by exact rfl) (h:K (Zb2 S dst (.bool (Op.bytesLess a b))) D B L):opW P n ops i ⟨dst,.binOp .lss t x y u,ty,pos,after,g⟩ K S D B L:=Zp (ZuB  hg hd hx hy h)
theorem Zuv  {a b:List UInt8}   (hg:Zq ops S g=some true:=by exact rfl) (hd:ZI n dst=true:=by exact rfl) (hx:ev S x=some (str a):=by exact rfl) (hy:ev S y=some (str b):=by exact rfl) (h:K (Zb2 S dst (.bool (!Op.bytesLess a b))) D B L):opW P n ops i ⟨dst,.binOp .geq t x y u,ty,pos,after,g⟩ K S D B L:=Zp (Zpe  hg hd hx hy h)
theorem xV  {x:Operand} {t:TypeId} {e:TypeId} {p:Option Addr} {len:Nat} {cap:Nat}  (hu:P.underlying t=some (.slice e)) (hg:Zq ops S g=some true:=by exact rfl) (hd:ZI n dst=true:=by exact rfl) (hx:ev S x=some (.slice p len cap):=by exact rfl) (h:K (Zb2 S dst (.int .i64 len)) D B L):opW P n ops i ⟨dst,.call ⟨.builtin .len,#[x],#[t]⟩,ty,pos,after,g⟩ K S D B L:=Zp (ZsW  hg hd hu hx h)
theorem xVs  {x:Operand} {t:TypeId} {l:List UInt8}  (hu:P.underlying t=some .string) (hg:Zq ops S g=some true:=by exact rfl) (hd:ZI n dst=true:=by exact rfl) (hx:ev S x=some (str l):=by exact rfl) (h:K (Zb2 S dst (.int .i64 l.length)) D B L):opW P n ops i ⟨dst,.call ⟨.builtin .len,#[x],#[t]⟩,ty,pos,after,g⟩ K S D B L:=Zp (Zpd  hg hd hu hx h)
theorem xNc  {x:Operand} {a:Addr}   (hg:Zq ops S g=some true:=by exact rfl) (hd:ZI n dst=true:=by exact rfl) (hx:ev S x=some (.pointer (some a)):=by exact rfl) (h:K (Zb2 S dst (.pointer (some a))) D B L):opW P n ops i ⟨dst,.nilCheck x,ty,pos,after,g⟩ K S D B L:=Zp (Zjk  hg hd hx h)
theorem x1  {t:TypeId} {x:Operand} {a:Addr} {v:Value} {l:List Value} {T:TypeId} {fr:Nat × Nat} {r:Cells}  (hl:lk P t=some none) (j:Nat) (hg:Zq ops S g=some true:=by exact rfl) (hd:ZI n dst=true:=by exact rfl) (hx:ev S x=some (ptr a):=by exact rfl) (hj:L[j]? = some ((a.block,.cells l.toArray T fr) :: r):=by exact rfl) (hs:a.spot=none:=by exact rfl) (hv:l[a.off]? = some v:=by exact rfl) (h:K (Zb2 S dst v) D B L):opW P n ops i ⟨dst,.load t x,ty,pos,after,g⟩ K S D B L:=Zp (Zl  hg hd hl hx (atL j hj hs hv) h)
theorem xL  {t:TypeId} {x:Operand} {a:Addr} {l:List Value} {T:TypeId} {fr:Nat × Nat} {r:Cells}  (vs:List Value) (hl:lk P t=some (some vs.length)) (j:Nat) (hg:Zq ops S g=some true:=by exact rfl) (hd:ZI n dst=true:=by exact rfl) (hx:ev S x=some (ptr a):=by exact rfl) (hj:L[j]? = some ((a.block,.cells l.toArray T fr) :: r):=by exact rfl) (hs:a.spot=none:=by exact rfl) (hv:(l.drop a.off).take vs.length=vs:=by exact rfl) (h:K (Zb2 S dst (.agg vs.toArray)) D B L):opW P n ops i ⟨dst,.load t x,ty,pos,after,g⟩ K S D B L:=Zp (Z8  vs hg hd hl hx (Zaj j hj hs hv) h)
theorem y1  {t:TypeId} {x:Operand} {a:Addr} {v:Value} {b o:Nat} {row:List Value}  (hl:lk P t=some none) (hc:Zbv B b o row) (off:Nat) (hg:Zq ops S g=some true:=by exact rfl) (hd:ZI n dst=true:=by exact rfl) (hx:ev S x=some (ptr a):=by exact rfl) (ha:a=⟨b,o+off,none⟩:=by exact rfl) (hv:row[off]? = some v:=by exact rfl) (h:K (Zb2 S dst v) D B L):opW P n ops i ⟨dst,.load t x,ty,pos,after,g⟩ K S D B L:=Zp (Zl  hg hd hl hx (by subst ha;exact hc _ off _ hv) h)
theorem yL  {t:TypeId} {x:Operand} {a:Addr} {b o:Nat} {row:List Value}  (vs:List Value) (hl:lk P t=some (some vs.length)) (hc:Zbv B b o row) (off:Nat) (hg:Zq ops S g=some true:=by exact rfl) (hd:ZI n dst=true:=by exact rfl) (hx:ev S x=some (ptr a):=by exact rfl) (ha:a=⟨b,o+off,none⟩:=by exact rfl) (hv:(row.drop off).take vs.length=vs:=by exact rfl) (h:K (Zb2 S dst (.agg vs.toArray)) D B L):opW P n ops i ⟨dst,.load t x,ty,pos,after,g⟩ K S D B L:=Zp (Z8  vs hg hd hl hx (Zh9 hc off ha hv) h)
theorem xS  {t:TypeId} {x:Operand} {y:Operand} {a:Addr} {v:Value} {l:List Value} {T:TypeId} {r:Cells}  (vs:List Value) (j:Nat) (l':List Value) (hsz:Zam P t=some vs.length) (hg:Zq ops S g=some true:=by exact rfl) (hd:ZI n dst=true:=by exact rfl) (hx:ev S x=some (ptr a):=by exact rfl) (hy:ev S y=some v:=by exact rfl) (hv:v.cells=vs.toArray:=by exact rfl) (ho:vs.all Zhm=true:=by exact rfl) (hj:L[j]? = some ((a.block,.cells l.toArray T (0,0)) :: r):=by exact rfl) (hs:a.spot=none:=by exact rfl) (hlen:Nat.ble (a.off+vs.length) l.length=true:=by exact rfl) (hl':Zbp l a.off vs=l':=by exact rfl) (h:K (Zb2 S dst undef) D B (L.set j ((a.block,.cells l'.toArray T (0,0)) :: r))):opW P n ops i ⟨dst,.store t x y,ty,pos,after,g⟩ K S D B L:=Zp (ZQ  vs j l' hg hd hsz hx hy hv ho hj hs hlen hl' h)
theorem xB  {t:TypeId} {z:Value} {pl:List (Nat × Nat)} {vs:List Value} (parts:List (Nat × Operand)) (zl l':List Value) (hpl:Zbd P t=some pl) (hz:ZaQ P t=some z) (hg:Zq ops S g=some true:=by exact rfl) (hd:ZI n dst=true:=by exact rfl) (hzl:z.cells.toList=zl:=by exact rfl) (ha:evs S (parts.map (·.2))=some vs:=by exact rfl) (hf:Zjd (fun i=>pl[i]?) zl ((parts.map (·.1)).zip vs)=some l':=by exact rfl) (h:K (Zb2 S dst (.agg l'.toArray)) D B L):opW P n ops i ⟨dst,.build t parts.toArray,ty,pos,after,g⟩ K S D B L:=Zp (Zav (parts:=parts) zl l' hg hd hpl hz hzl ha hf h)
theorem xAl  {t:TypeId} {z:Value} (l:List Value) (hz:ZaQ P t=some z) (hg:Zq ops S g=some true:=by exact rfl) (hd:ZI n dst=true:=by exact rfl) (hl:z.cells=l.toArray:=by exact rfl) (h :∀b,K (Zb2 S dst (ptr ⟨b,0,none⟩)) D B (L ++ [Zbm b l t])):opW P n ops i ⟨dst,.alloc t,ty,pos,after,g⟩ K S D B L:=Zp (Zar (l:=l) hg hd hz hl h)
theorem xBx  {t:TypeId} {x:Operand} {v:Value} (l:List Value)  (hg:Zq ops S g=some true:=by exact rfl) (hd:ZI n dst=true:=by exact rfl) (hx:ev S x=some v:=by exact rfl) (hl:v.cells=l.toArray:=by exact rfl) (h :∀b,K (Zb2 S dst (ptr ⟨b,0,none⟩)) D B (L ++ [Zbm b l t])):opW P n ops i ⟨dst,.box t x,ty,pos,after,g⟩ K S D B L:=Zp (ZvV (l:=l) hg hd hx hl h)
theorem xIx  {t:TypeId} {e:TypeId} {x:Operand} {y:Operand} {k:IntKind} {b:Nat} {o:Nat} {len:Nat} {cap:Nat} {sz:Nat} {ix:Int}  (hu:P.underlying t=some (.slice e)) (hsz:Zam P e=some sz) (hg:Zq ops S g=some true:=by exact rfl) (hd:ZI n dst=true:=by exact rfl) (hx:ev S x=some (.slice (some ⟨b,o,none⟩) len cap):=by exact rfl) (hy:ev S y=some (.int k ix):=by exact rfl) (h0:0≤ix:=by first | omega | (simp;done) | (simp;omega)) (h1:ix<len:=by first | omega | (simp;done) | (simp;omega)) (h:K (Zb2 S dst (ptr ⟨b,o+ix.toNat*sz,none⟩)) D B L):opW P n ops i ⟨dst,.indexAddr t x y,ty,pos,after,g⟩ K S D B L:=Zp (ZuE  hg hd hu hsz hx hy h0 h1 h)
theorem xIp  {t:TypeId} {e:TypeId} {x:Operand} {y:Operand} {k:IntKind} {p:Option Addr} {b:Nat} {len:Nat} {cap:Nat} {sz:Nat} {ix:Int}  (hp:p=some ⟨b,0,none⟩) (hu:P.underlying t=some (.slice e)) (hsz:Zam P e=some sz) (hg:Zq ops S g=some true:=by exact rfl) (hd:ZI n dst=true:=by exact rfl) (hx:ev S x=some (.slice p len cap):=by exact rfl) (hy:ev S y=some (.int k ix):=by exact rfl) (h0:0≤ix:=by first | omega | (simp;done) | (simp;omega)) (h1:ix<len:=by first | omega | (simp;done) | (simp;omega)) (h:K (Zb2 S dst (ptr ⟨b,ix.toNat*sz,none⟩)) D B L):opW P n ops i ⟨dst,.indexAddr t x y,ty,pos,after,g⟩ K S D B L:=Zp (Zf4  hp hg hd hu hsz hx hy h0 h1 h)
theorem xX  {f:FuncId} {xs:List Operand} {vs:List Value} {ats:Array TypeId} {Q:Value→Cells→Prop} {s:Cells}  (j:Nat) (hj:L[j]? = some s) (he:enters P f=true) (ha:evs S xs=some vs) (hc:Ex1 P f vs B s Q) (hg:Zq ops S g=some true:=by exact rfl) (hd:ZI n dst=true:=by exact rfl) (h :∀v s',Q v s'→K (Zb2 S dst v) D B (L.set j s')):opW P n ops i ⟨dst,.call ⟨.value (.func f),xs.toArray,ats⟩,ty,pos,after,g⟩ K S D B L:=Zp (Zci  j hj hg hd he ha hc h)
theorem xR  {f:FuncId} {xs:List Operand} {vs:List Value} {ats:Array TypeId} {v:Value}  (he:enters P f=true) (ha:evs S xs=some vs) (hc:Za1 P f vs B v) (hg:Zq ops S g=some true:=by exact rfl) (hd:ZI n dst=true:=by exact rfl) (h:K (Zb2 S dst v) D B L):opW P n ops i ⟨dst,.call ⟨.value (.func f),xs.toArray,ats⟩,ty,pos,after,g⟩ K S D B L:=Zp (ZaC  hg hd he ha hc h)
theorem xBs  {t:TypeId} {e:TypeId} {len:Nat} {sz:Nat} {z:Value} {vs:List Value} (parts:List (Nat × Operand)) (l':List Value) (hu:P.underlying t=some (.slice e)) (hsz:Zam P e=some sz) (hz:ZaQ P e=some z) (hg:Zq ops S g=some true:=by exact rfl) (hd:ZI n dst=true:=by exact rfl) (hbig:Nat.ble (len*sz) 1024=true:=by exact rfl) (hidx:parts.map (·.1)=List.range len:=by exact rfl) (ha:evs S (parts.map (·.2))=some vs:=by exact rfl) (hall:vs.all (fun v=>Nat.beq v.cells.toList.length sz)=true:=by exact rfl) (hl':(vs.map fun v=>v.cells.toList).flatten=l':=by exact rfl) (h :∀b,K (Zb2 S dst (.slice (some ⟨b,0,none⟩) len len)) D B (L ++ [Zbm b l' e])):opW P n ops i ⟨dst,.buildSlice t len parts.toArray,ty,pos,after,g⟩ K S D B L:=Zp (Zu (parts:=parts) l' hg hd hu hsz hz hbig hidx ha hall hl' h)
end
section
variable {P:PJ} {n:Nat} {ops:Array Oper} {K:ZaF} {S:Env} {D:List Deferred} {B:Kn} {L:List Cells}
variable {dst:Option Tmp} {ty:TypeId} {pos:String} {after:Array Edge} {g:Option (Nat × Bool)} {t u:TypeId} {x y:Operand}
theorem aT {C:Cx P} {k':List Item} {I:Kn→List Cells→Prop} {ℓ:List Nat} (i:Nat) {o:Oper} {v:Value} (hi:ops[i]? = some o) (hq:quiet P n ops I i o v (sel (o.looksAt ops) S)) (hr:(Za4 ops ℓ).contains i=true:=by kernel_rfl) (hd:ZI n o.dst=true:=by exact rfl) (hp:ZjG o=false:=by rfl) (h:ZbV C k' n ops I (i :: ℓ) K (Zb2 S o.dst v) D B L):ZbV C k' n ops I ℓ K S D B L:=ZsA i hi hr hd hq h hp
theorem r4 {α β γ δ:Type} {a:α} {b:β} {c:γ} {d:δ} : a=a∧b=b∧c=c∧d=d:=⟨rfl,rfl,rfl,rfl⟩
variable {C:Cx P} {k':List Item} {I:Kn→List Cells→Prop} {ℓ:List Nat}
theorem aM  {x:Operand} {v:Value} (i:Nat) (hii:ops[i]? = some ⟨dst,.move x,ty,pos,after,g⟩)  (hrr:(Za4 ops ℓ).contains i=true:=by kernel_rfl) (hdd:ZI n dst=true:=by exact rfl) (hg:Zq ops (sel ((⟨dst,.move x,ty,pos,after,g⟩:Oper).looksAt ops) S) g=some true:=by exact rfl) (hd:ZI n dst=true:=by exact rfl) (hx:ev (sel ((⟨dst,.move x,ty,pos,after,g⟩:Oper).looksAt ops) S) x=some v:=by exact rfl) (h:ZbV C k' n ops I (i :: ℓ) K (Zb2 S dst v) D B L):ZbV C k' n ops I ℓ K S D B L:=ZaB i hii hrr hdd (fun _ _ _=>ZsU hg hd hx ⟨rfl,rfl,rfl,rfl⟩) h
theorem aA  {x:Operand} {v:Value} (i:Nat) (hii:ops[i]? = some ⟨dst,.assign x,ty,pos,after,g⟩)  (hrr:(Za4 ops ℓ).contains i=true:=by kernel_rfl) (hdd:ZI n dst=true:=by exact rfl) (hg:Zq ops (sel ((⟨dst,.assign x,ty,pos,after,g⟩:Oper).looksAt ops) S) g=some true:=by exact rfl) (hd:ZI n dst=true:=by exact rfl) (hx:ev (sel ((⟨dst,.assign x,ty,pos,after,g⟩:Oper).looksAt ops) S) x=some v:=by exact rfl) (h:ZbV C k' n ops I (i :: ℓ) K (Zb2 S dst v) D B L):ZbV C k' n ops I ℓ K S D B L:=ZaB i hii hrr hdd (fun _ _ _=>Zna hg hd hx ⟨rfl,rfl,rfl,rfl⟩) h
theorem aZ  {dst:Option Tmp} {op:Op} {t:TypeId} {pos:String} {after:Array Edge} {g:Option (Nat × Bool)} (i:Nat) (hii:ops[i]? = some ⟨dst,op,t,pos,after,g⟩)  (hrr:(Za4 ops ℓ).contains i=true:=by kernel_rfl) (hdd:ZI n dst=true:=by exact rfl) (hg:Zq ops (sel ((⟨dst,op,t,pos,after,g⟩:Oper).looksAt ops) S) g=some false:=by exact rfl) (hd:ZI n dst=true:=by exact rfl) (h:ZbV C k' n ops I (i :: ℓ) K (Zb2 S dst undef) D B L):ZbV C k' n ops I ℓ K S D B L:=ZaB i hii hrr hdd (fun _ _ _=>ZsR hg hd ⟨rfl,rfl,rfl,rfl⟩) h
theorem aPT  {c:Operand} {a:Operand} {b:Operand} {v:Value} (i:Nat) (hii:ops[i]? = some ⟨dst,.pick c a b,ty,pos,after,g⟩)  (hrr:(Za4 ops ℓ).contains i=true:=by kernel_rfl) (hdd:ZI n dst=true:=by exact rfl) (hg:Zq ops (sel ((⟨dst,.pick c a b,ty,pos,after,g⟩:Oper).looksAt ops) S) g=some true:=by exact rfl) (hd:ZI n dst=true:=by exact rfl) (hc:ev (sel ((⟨dst,.pick c a b,ty,pos,after,g⟩:Oper).looksAt ops) S) c=some (.bool true):=by exact rfl) (hx:ev (sel ((⟨dst,.pick c a b,ty,pos,after,g⟩:Oper).looksAt ops) S) a=some v:=by exact rfl) (h:ZbV C k' n ops I (i :: ℓ) K (Zb2 S dst v) D B L):ZbV C k' n ops I ℓ K S D B L:=ZaB i hii hrr hdd (fun _ _ _=>Zo8 hg hd hc hx ⟨rfl,rfl,rfl,rfl⟩) h
theorem aPF  {c:Operand} {a:Operand} {b:Operand} {v:Value} (i:Nat) (hii:ops[i]? = some ⟨dst,.pick c a b,ty,pos,after,g⟩)  (hrr:(Za4 ops ℓ).contains i=true:=by kernel_rfl) (hdd:ZI n dst=true:=by exact rfl) (hg:Zq ops (sel ((⟨dst,.pick c a b,ty,pos,after,g⟩:Oper).looksAt ops) S) g=some true:=by exact rfl) (hd:ZI n dst=true:=by exact rfl) (hc:ev (sel ((⟨dst,.pick c a b,ty,pos,after,g⟩:Oper).looksAt ops) S) c=some (.bool false):=by exact rfl) (hx:ev (sel ((⟨dst,.pick c a b,ty,pos,after,g⟩:Oper).looksAt ops) S) b=some v:=by exact rfl) (h:ZbV C k' n ops I (i :: ℓ) K (Zb2 S dst v) D B L):ZbV C k' n ops I ℓ K S D B L:=ZaB i hii hrr hdd (fun _ _ _=>Zo9 hg hd hc hx ⟨rfl,rfl,rfl,rfl⟩) h
theorem aE  {x:Operand} {ix:Nat} {vs:List Value} {v:Value} (i:Nat) (hii:ops[i]? = some ⟨dst,.extract x ix,ty,pos,after,g⟩)  (hrr:(Za4 ops ℓ).contains i=true:=by kernel_rfl) (hdd:ZI n dst=true:=by exact rfl) (hg:Zq ops (sel ((⟨dst,.extract x ix,ty,pos,after,g⟩:Oper).looksAt ops) S) g=some true:=by exact rfl) (hd:ZI n dst=true:=by exact rfl) (hx:ev (sel ((⟨dst,.extract x ix,ty,pos,after,g⟩:Oper).looksAt ops) S) x=some (.tuple vs.toArray):=by exact rfl) (hi:vs[ix]? = some v:=by exact rfl) (h:ZbV C k' n ops I (i :: ℓ) K (Zb2 S dst v) D B L):ZbV C k' n ops I ℓ K S D B L:=ZaB i hii hrr hdd (fun _ _ _=>ZkO hg hd hx hi ⟨rfl,rfl,rfl,rfl⟩) h
theorem aW  {s:TypeId} {x:Operand} {fi:Nat} {off:Nat} {a:Addr} (i:Nat) (hii:ops[i]? = some ⟨dst,.fieldAddr s x fi,ty,pos,after,g⟩) (hf:ZX P s fi=some off) (hrr:(Za4 ops ℓ).contains i=true:=by kernel_rfl) (hdd:ZI n dst=true:=by exact rfl) (hg:Zq ops (sel ((⟨dst,.fieldAddr s x fi,ty,pos,after,g⟩:Oper).looksAt ops) S) g=some true:=by exact rfl) (hd:ZI n dst=true:=by exact rfl) (hx:ev (sel ((⟨dst,.fieldAddr s x fi,ty,pos,after,g⟩:Oper).looksAt ops) S) x=some (ptr a):=by exact rfl) (h:ZbV C k' n ops I (i :: ℓ) K (Zb2 S dst (ptr (a.add off))) D B L):ZbV C k' n ops I ℓ K S D B L:=ZaB i hii hrr hdd (fun _ _ _=>ZhS hg hd hf hx ⟨rfl,rfl,rfl,rfl⟩) h
theorem aN  {x:Operand} {b:Bool} {t:TypeId} (i:Nat) (hii:ops[i]? = some ⟨dst,.unOp .not t x,ty,pos,after,g⟩)  (hrr:(Za4 ops ℓ).contains i=true:=by kernel_rfl) (hdd:ZI n dst=true:=by exact rfl) (hg:Zq ops (sel ((⟨dst,.unOp .not t x,ty,pos,after,g⟩:Oper).looksAt ops) S) g=some true:=by exact rfl) (hd:ZI n dst=true:=by exact rfl) (hx:ev (sel ((⟨dst,.unOp .not t x,ty,pos,after,g⟩:Oper).looksAt ops) S) x=some (.bool b):=by exact rfl) (h:ZbV C k' n ops I (i :: ℓ) K (Zb2 S dst (.bool (!b))) D B L):ZbV C k' n ops I ℓ K S D B L:=ZaB i hii hrr hdd (fun _ _ _=>Zuz hg hd hx ⟨rfl,rfl,rfl,rfl⟩) h
theorem aNc  {x:Operand} {a:Addr} (i:Nat) (hii:ops[i]? = some ⟨dst,.nilCheck x,ty,pos,after,g⟩)  (hrr:(Za4 ops ℓ).contains i=true:=by kernel_rfl) (hdd:ZI n dst=true:=by exact rfl) (hg:Zq ops (sel ((⟨dst,.nilCheck x,ty,pos,after,g⟩:Oper).looksAt ops) S) g=some true:=by exact rfl) (hd:ZI n dst=true:=by exact rfl) (hx:ev (sel ((⟨dst,.nilCheck x,ty,pos,after,g⟩:Oper).looksAt ops) S) x=some (.pointer (some a)):=by exact rfl) (h:ZbV C k' n ops I (i :: ℓ) K (Zb2 S dst (.pointer (some a))) D B L):ZbV C k' n ops I ℓ K S D B L:=ZaB i hii hrr hdd (fun _ _ _=>Zjk hg hd hx ⟨rfl,rfl,rfl,rfl⟩) h
theorem aV  {x:Operand} {t:TypeId} {e:TypeId} {p:Option Addr} {len:Nat} {cap:Nat} (i:Nat) (hii:ops[i]? = some ⟨dst,.call ⟨.builtin .len,#[x],#[t]⟩,ty,pos,after,g⟩) (hu:P.underlying t=some (.slice e)) (hrr:(Za4 ops ℓ).contains i=true:=by kernel_rfl) (hdd:ZI n dst=true:=by exact rfl) (hg:Zq ops (sel ((⟨dst,.call ⟨.builtin .len,#[x],#[t]⟩,ty,pos,after,g⟩:Oper).looksAt ops) S) g=some true:=by exact rfl) (hd:ZI n dst=true:=by exact rfl) (hx:ev (sel ((⟨dst,.call ⟨.builtin .len,#[x],#[t]⟩,ty,pos,after,g⟩:Oper).looksAt ops) S) x=some (.slice p len cap):=by exact rfl) (h:ZbV C k' n ops I (i :: ℓ) K (Zb2 S dst (.int .i64 len)) D B L):ZbV C k' n ops I ℓ K S D B L:=ZaB i hii hrr hdd (fun _ _ _=>ZsW hg hd hu hx ⟨rfl,rfl,rfl,rfl⟩) h
theorem Zq6  {k:IntKind} {a b:Int} (i:Nat) (hii:ops[i]? = some ⟨dst,.binOp .lss t x y u,ty,pos,after,g⟩)  (hrr:(Za4 ops ℓ).contains i=true:=by kernel_rfl) (hdd:ZI n dst=true:=by exact rfl) (hg:Zq ops (sel ((⟨dst,.binOp .lss t x y u,ty,pos,after,g⟩:Oper).looksAt ops) S) g=some true:=by exact rfl) (hd:ZI n dst=true:=by exact rfl) (hx:ev (sel ((⟨dst,.binOp .lss t x y u,ty,pos,after,g⟩:Oper).looksAt ops) S) x=some (.int k a):=by exact rfl) (hy:ev (sel ((⟨dst,.binOp .lss t x y u,ty,pos,after,g⟩:Oper).looksAt ops) S) y=some (.int k b):=by exact rfl) (h:ZbV C k' n ops I (i :: ℓ) K (Zb2 S dst (.bool (decide (a<b)))) D B L):ZbV C k' n ops I ℓ K S D B L:=ZaB i hii hrr hdd (fun _ _ _=>ZuC hg hd hx hy ⟨rfl,rfl,rfl,rfl⟩) h
theorem Zum  {k:IntKind} {a b:Int} (i:Nat) (hii:ops[i]? = some ⟨dst,.binOp .leq t x y u,ty,pos,after,g⟩)  (hrr:(Za4 ops ℓ).contains i=true:=by kernel_rfl) (hdd:ZI n dst=true:=by exact rfl) (hg:Zq ops (sel ((⟨dst,.binOp .leq t x y u,ty,pos,after,g⟩:Oper).looksAt ops) S) g=some true:=by exact rfl) (hd:ZI n dst=true:=by exact rfl) (hx:ev (sel ((⟨dst,.binOp .leq t x y u,ty,pos,after,g⟩:Oper).looksAt ops) S) x=some (.int k a):=by exact rfl) (hy:ev (sel ((⟨dst,.binOp .leq t x y u,ty,pos,after,g⟩:Oper).looksAt ops) S) y=some (.int k b):=by exact rfl) (h:ZbV C k' n ops I (i :: ℓ) K (Zb2 S dst (.bool (decide (a≤b)))) D B L):ZbV C k' n ops I ℓ K S D B L:=ZaB i hii hrr hdd (fun _ _ _=>ZuD hg hd hx hy ⟨rfl,rfl,rfl,rfl⟩) h
theorem Zhq  {k:IntKind} {a b:Int} (i:Nat) (hii:ops[i]? = some ⟨dst,.binOp .gtr t x y u,ty,pos,after,g⟩)  (hrr:(Za4 ops ℓ).contains i=true:=by kernel_rfl) (hdd:ZI n dst=true:=by exact rfl) (hg:Zq ops (sel ((⟨dst,.binOp .gtr t x y u,ty,pos,after,g⟩:Oper).looksAt ops) S) g=some true:=by exact rfl) (hd:ZI n dst=true:=by exact rfl) (hx:ev (sel ((⟨dst,.binOp .gtr t x y u,ty,pos,after,g⟩:Oper).looksAt ops) S) x=some (.int k a):=by exact rfl) (hy:ev (sel ((⟨dst,.binOp .gtr t x y u,ty,pos,after,g⟩:Oper).looksAt ops) S) y=some (.int k b):=by exact rfl) (h:ZbV C k' n ops I (i :: ℓ) K (Zb2 S dst (.bool (decide (b<a)))) D B L):ZbV C k' n ops I ℓ K S D B L:=ZaB i hii hrr hdd (fun _ _ _=>ZuF hg hd hx hy ⟨rfl,rfl,rfl,rfl⟩) h
theorem Zvw  {k:IntKind} {a b:Int} (i:Nat) (hii:ops[i]? = some ⟨dst,.binOp .geq t x y u,ty,pos,after,g⟩)  (hrr:(Za4 ops ℓ).contains i=true:=by kernel_rfl) (hdd:ZI n dst=true:=by exact rfl) (hg:Zq ops (sel ((⟨dst,.binOp .geq t x y u,ty,pos,after,g⟩:Oper).looksAt ops) S) g=some true:=by exact rfl) (hd:ZI n dst=true:=by exact rfl) (hx:ev (sel ((⟨dst,.binOp .geq t x y u,ty,pos,after,g⟩:Oper).looksAt ops) S) x=some (.int k a):=by exact rfl) (hy:ev (sel ((⟨dst,.binOp .geq t x y u,ty,pos,after,g⟩:Oper).looksAt ops) S) y=some (.int k b):=by exact rfl) (h:ZbV C k' n ops I (i :: ℓ) K (Zb2 S dst (.bool (decide (b≤a)))) D B L):ZbV C k' n ops I ℓ K S D B L:=ZaB i hii hrr hdd (fun _ _ _=>ZuG hg hd hx hy ⟨rfl,rfl,rfl,rfl⟩) h
theorem Zq8  {k:IntKind} {a b:Int} (i:Nat) (hii:ops[i]? = some ⟨dst,.binOp .eql t x y u,ty,pos,after,g⟩)  (hrr:(Za4 ops ℓ).contains i=true:=by kernel_rfl) (hdd:ZI n dst=true:=by exact rfl) (hg:Zq ops (sel ((⟨dst,.binOp .eql t x y u,ty,pos,after,g⟩:Oper).looksAt ops) S) g=some true:=by exact rfl) (hd:ZI n dst=true:=by exact rfl) (hx:ev (sel ((⟨dst,.binOp .eql t x y u,ty,pos,after,g⟩:Oper).looksAt ops) S) x=some (.int k a):=by exact rfl) (hy:ev (sel ((⟨dst,.binOp .eql t x y u,ty,pos,after,g⟩:Oper).looksAt ops) S) y=some (.int k b):=by exact rfl) (h:ZbV C k' n ops I (i :: ℓ) K (Zb2 S dst (.bool (decide (a=b)))) D B L):ZbV C k' n ops I ℓ K S D B L:=ZaB i hii hrr hdd (fun _ _ _=>ZsY hg hd hx hy ⟨rfl,rfl,rfl,rfl⟩) h
theorem Zvv  {k:IntKind} {a b:Int} (i:Nat) (hii:ops[i]? = some ⟨dst,.binOp .neq t x y u,ty,pos,after,g⟩)  (hrr:(Za4 ops ℓ).contains i=true:=by kernel_rfl) (hdd:ZI n dst=true:=by exact rfl) (hg:Zq ops (sel ((⟨dst,.binOp .neq t x y u,ty,pos,after,g⟩:Oper).looksAt ops) S) g=some true:=by exact rfl) (hd:ZI n dst=true:=by exact rfl) (hx:ev (sel ((⟨dst,.binOp .neq t x y u,ty,pos,after,g⟩:Oper).looksAt ops) S) x=some (.int k a):=by exact rfl) (hy:ev (sel ((⟨dst,.binOp .neq t x y u,ty,pos,after,g⟩:Oper).looksAt ops) S) y=some (.int k b):=by exact rfl) (h:ZbV C k' n ops I (i :: ℓ) K (Zb2 S dst (.bool (decide (a≠b)))) D B L):ZbV C k' n ops I ℓ K S D B L:=ZaB i hii hrr hdd (fun _ _ _=>ZsS hg hd hx hy ⟨rfl,rfl,rfl,rfl⟩) h
theorem Zq7  {a b:List UInt8} (i:Nat) (hii:ops[i]? = some ⟨dst,.binOp .eql t x y u,ty,pos,after,g⟩)  (hrr:(Za4 ops ℓ).contains i=true:=by kernel_rfl) (hdd:ZI n dst=true:=by exact rfl) (hg:Zq ops (sel ((⟨dst,.binOp .eql t x y u,ty,pos,after,g⟩:Oper).looksAt ops) S) g=some true:=by exact rfl) (hd:ZI n dst=true:=by exact rfl) (hx:ev (sel ((⟨dst,.binOp .eql t x y u,ty,pos,after,g⟩:Oper).looksAt ops) S) x=some (str a):=by exact rfl) (hy:ev (sel ((⟨dst,.binOp .eql t x y u,ty,pos,after,g⟩:Oper).looksAt ops) S) y=some (str b):=by exact rfl) (h:ZbV C k' n ops I (i :: ℓ) K (Zb2 S dst (.bool (decide (a=b)))) D B L):ZbV C k' n ops I ℓ K S D B L:=ZaB i hii hrr hdd (fun _ _ _=>ZsX hg hd hx hy ⟨rfl,rfl,rfl,rfl⟩) h
theorem aD  {k:IntKind} {a b r:Int} (i:Nat) (hii:ops[i]? = some ⟨dst,.binOp .add t x y u,ty,pos,after,g⟩)  (hrr:(Za4 ops ℓ).contains i=true:=by kernel_rfl) (hdd:ZI n dst=true:=by exact rfl) (hg:Zq ops (sel ((⟨dst,.binOp .add t x y u,ty,pos,after,g⟩:Oper).looksAt ops) S) g=some true:=by exact rfl) (hd:ZI n dst=true:=by exact rfl) (hx:ev (sel ((⟨dst,.binOp .add t x y u,ty,pos,after,g⟩:Oper).looksAt ops) S) x=some (.int k a):=by exact rfl) (hy:ev (sel ((⟨dst,.binOp .add t x y u,ty,pos,after,g⟩:Oper).looksAt ops) S) y=some (.int k b):=by exact rfl) (hr:k.wrap (a+b)=r:=by first | exact ZaN (by first | omega | (simp;done) | (simp;omega)) (by first | omega | (simp;done) | (simp;omega)) | exact rfl) (h:ZbV C k' n ops I (i :: ℓ) K (Zb2 S dst (.int k r)) D B L):ZbV C k' n ops I ℓ K S D B L:=ZaB i hii hrr hdd (fun _ _ _=>ZeF hg hd hx hy hr ⟨rfl,rfl,rfl,rfl⟩) h
theorem aU  {k:IntKind} {a b r:Int} (i:Nat) (hii:ops[i]? = some ⟨dst,.binOp .sub t x y u,ty,pos,after,g⟩)  (hrr:(Za4 ops ℓ).contains i=true:=by kernel_rfl) (hdd:ZI n dst=true:=by exact rfl) (hg:Zq ops (sel ((⟨dst,.binOp .sub t x y u,ty,pos,after,g⟩:Oper).looksAt ops) S) g=some true:=by exact rfl) (hd:ZI n dst=true:=by exact rfl) (hx:ev (sel ((⟨dst,.binOp .sub t x y u,ty,pos,after,g⟩:Oper).looksAt ops) S) x=some (.int k a):=by exact rfl) (hy:ev (sel ((⟨dst,.binOp .sub t x y u,ty,pos,after,g⟩:Oper).looksAt ops) S) y=some (.int k b):=by exact rfl) (hr:k.wrap (a - b)=r:=by first | exact ZaN (by first | omega | (simp;done) | (simp;omega)) (by first | omega | (simp;done) | (simp;omega)) | exact rfl) (h:ZbV C k' n ops I (i :: ℓ) K (Zb2 S dst (.int k r)) D B L):ZbV C k' n ops I ℓ K S D B L:=ZaB i hii hrr hdd (fun _ _ _=>Zi8 hg hd hx hy hr ⟨rfl,rfl,rfl,rfl⟩) h
theorem aIx  {t:TypeId} {e:TypeId} {x:Operand} {y:Operand} {k:IntKind} {b:Nat} {o:Nat} {len:Nat} {cap:Nat} {sz:Nat} {ix:Int} (i:Nat) (hii:ops[i]? = some ⟨dst,.indexAddr t x y,ty,pos,after,g⟩) (hu:P.underlying t=some (.slice e)) (hsz:Zam P e=some sz) (hrr:(Za4 ops ℓ).contains i=true:=by kernel_rfl) (hdd:ZI n dst=true:=by exact rfl) (hg:Zq ops (sel ((⟨dst,.indexAddr t x y,ty,pos,after,g⟩:Oper).looksAt ops) S) g=some true:=by exact rfl) (hd:ZI n dst=true:=by exact rfl) (hx:ev (sel ((⟨dst,.indexAddr t x y,ty,pos,after,g⟩:Oper).looksAt ops) S) x=some (.slice (some ⟨b,o,none⟩) len cap):=by exact rfl) (hy:ev (sel ((⟨dst,.indexAddr t x y,ty,pos,after,g⟩:Oper).looksAt ops) S) y=some (.int k ix):=by exact rfl) (h0:0≤ix:=by first | omega | (simp;done) | (simp;omega)) (h1:ix<len:=by first | omega | (simp;done) | (simp;omega)) (h:ZbV C k' n ops I (i :: ℓ) K (Zb2 S dst (ptr ⟨b,o+ix.toNat*sz,none⟩)) D B L):ZbV C k' n ops I ℓ K S D B L:=ZaB i hii hrr hdd (fun _ _ _=>ZuE hg hd hu hsz hx hy h0 h1 ⟨rfl,rfl,rfl,rfl⟩) h
end
end Go.BL
namespace Go.BL
open Go
set_option linter.unusedVariables false
set_option linter.unusedSimpArgs false
def ZbJ (c:UInt8):Bool:=(decide (97≤c.toNat) && decide (c.toNat≤122)) || (decide (48≤c.toNat) && decide (c.toNat≤57))
def Zaq (l:List UInt8):Bool:=l.all ZbJ && decide (1≤l.length) && decide (l.length≤8)
theorem ZsB {l:List UInt8} {k:Nat} {c:UInt8} (hc:l[k]? = some c) (h:ZbJ c=false):l.all ZbJ=false:=by
  rw [Bool.eq_false_iff];intro ha
  have:=List.all_eq_true.1 ha c (List.mem_of_getElem? hc)
  rw [h] at this;cases this
theorem ZnR {l:List UInt8} {k:Nat} {c:UInt8} (hc:l[k]? = some c) (h:ZbJ c=true) (ha:(l.take k).all ZbJ=true):(l.take (k+1)).all ZbJ=true:=by
  rw [List.take_add_one,hc];simp only [Option.toList_some,List.all_append,ha,List.all_cons,h,List.all_nil];rfl
def word (l:List UInt8) (i:Nat):List UInt8:=(l.drop i).takeWhile ZbJ
def ZdC (w:List UInt8):Bool:=decide (1≤w.length) && decide (w.length≤8)
theorem ZpC {o:Option UInt8} {f:UInt8→Bool} (h:(match o with | some c=>f c | none=>false)=true) :∃c,o=some c∧f c=true:=by
  cases o with
  | none=>cases h
  | some c=>exact ⟨c,rfl,h⟩
theorem Zcb {α:Type} {l:List α} {k:Nat} {c:α} (h:l[k]? = some c):k<l.length:=(List.getElem?_eq_some_iff.1 h).1
theorem Zf6 {p:UInt8→Bool} :∀{m:List UInt8} {k:Nat},(m.take k).all p=true→(∀c,m[k]? = some c→p c=false)→m.takeWhile p=m.take k
  | [],k,_,_=>by simp
  | c :: m,0,_,h=>by simp [List.takeWhile,h c rfl]
  | c :: m,k+1,ha,h=>by
    simp only [List.take_succ_cons,List.all_cons,Bool.and_eq_true] at ha
    simp only [List.takeWhile,ha.1,List.take_succ_cons]
    rw [Zf6 ha.2 (fun c hc=>h c (by simpa using hc))]
theorem Zrk {l:List UInt8} {i k:Nat} (ha:((l.drop i).take k).all ZbJ=true) (h :∀c,l[i+k]? = some c→ZbJ c=false):word l i=(l.drop i).take k:=
  Zf6 ha (fun c hc=>h c (by simpa using hc))
theorem Zft {l:List UInt8} {i k:Nat} : (l.take (i+k)).drop i=(l.drop i).take k:=by
  rw [List.drop_take,Nat.add_sub_cancel_left]
theorem Zjo {a b c d:Value} (h:a=c) (h':b=d):Value.tuple #[a,b]=Value.tuple #[c,d]:=by rw [h,h']
def more:Nat→List UInt8→Nat→Bool × Nat
  | 0,_,i=>(true,i)
  | n+1,l,i=>if l[i]? = some 46 then (if ZdC (word l (i+1))=true then more n l (i+1+(word l (i+1)).length) else (false,i+1+(word l (i+1)).length)) else (true,i)
def dom (l:List UInt8) (i:Nat):Bool × Nat:=if ZdC (word l i)=true then more 2 l (i+(word l i).length) else (false,i+(word l i).length)
def ZiR (l:List UInt8) (i:Nat):List UInt8:=if (dom l i).1=true then (l.take (dom l i).2).drop i else []
def ZmU (l:List UInt8) (i:Nat):Bool:=(dom l i).1 && decide ((dom l i).2 - i≤20)
theorem ZmT {l:List UInt8} {i:Nat} (h:ZdC (word l i)=false):dom l i=(false,i+(word l i).length):=by simp [dom,h]
theorem Zsr {l:List UInt8} {i:Nat} (h:ZdC (word l i)=true):dom l i=more 2 l (i+(word l i).length):=by simp [dom,h]
theorem ZhO {l:List UInt8} {i:Nat} (h:i≤l.length):i+(word l i).length≤l.length:=by
  have:=List.IsPrefix.length_le (List.takeWhile_prefix ZbJ (l:=l.drop i))
  rw [List.length_drop] at this
  unfold word;omega
theorem Zii {l:List UInt8} {n j:Nat} (h : ¬ l[j]? = some 46):more n l j=(true,j):=by
  cases n with
  | zero=>rfl
  | succ n=>rw [more,if_neg h]
theorem ZrP {l:List UInt8} {n j:Nat} (hn:1≤n) (h:l[j]? = some 46) (hw:ZdC (word l (j+1))=false):more n l j=(false,j+1+(word l (j+1)).length):=by
  cases n with
  | zero=>omega
  | succ n=>rw [more,if_pos h,if_neg (by simp [hw])]
theorem Zp1 {l:List UInt8} {n j:Nat} (hn:1≤n) (h:l[j]? = some 46) (hw:ZdC (word l (j+1))=true):more n l j=more (n - 1) l (j+1+(word l (j+1)).length):=by
  cases n with
  | zero=>omega
  | succ n=>rw [more,if_pos h,if_pos hw];rfl
theorem Zei {p:UInt8→Bool} :∀l:List UInt8,(l.takeWhile p).length=l.length↔l.all p=true
  | []=>by simp
  | c :: l=>by
    have h:=Zei (p:=p) l
    cases hc:p c with
    | true=>simp [List.takeWhile,hc] at h ⊢;exact h
    | false=>simp [List.takeWhile,hc]
theorem Zdo {l:List UInt8} : Zaq l=(ZdC (word l 0) && decide ((word l 0).length=l.length)):=by
  have h:=Zei (p:=ZbJ) l
  have e:word l 0=l.takeWhile ZbJ:=by simp [word]
  rw [Bool.eq_iff_iff]
  simp only [Zaq,ZdC,e,Bool.and_eq_true,decide_eq_true_eq]
  constructor
  · rintro ⟨⟨h1,h2⟩,h3⟩
    have:=h.2 h1
    omega
  · rintro ⟨⟨h1,h2⟩,h3⟩
    exact ⟨⟨h.1 h3,by omega⟩,by omega⟩
theorem Zp0 {l:List UInt8} :∀(n j:Nat),j≤l.length→(more n l j).2≤l.length
  | 0,j,h=>h
  | n+1,j,h=>by
    rw [more]
    split
    · rename_i e
      have:=Zcb e
      have h2:=ZhO (l:=l) (i:=j+1) (by omega)
      split
      · exact Zp0 n _ h2
      · exact h2
    · exact h
theorem Zvj {l:List UInt8} {i:Nat} (h:i≤l.length):(dom l i).2≤l.length:=by
  unfold dom
  have h2:=ZhO h
  split
  · exact Zp0 2 _ h2
  · exact h2
def glue (a:List UInt8):List (List UInt8)→List (List UInt8)
  | []=>[a]
  | p :: ps=>(a ++ p) :: ps
def cut (x:UInt8):List UInt8→List (List UInt8)
  | []=>[[]]
  | c :: r=>if c=x then [] :: cut x r else glue [c] (cut x r)
theorem ZnO (x:UInt8) :∀l,cut x l≠[]
  | []=>by simp [cut]
  | c :: r=>by
    rw [cut]
    split
    · simp
    · cases cut x r <;> simp [glue]
theorem Znz {m:List (List UInt8)} (h:m≠[]):glue [] m=m:=by
  cases m with
  | nil=>exact absurd rfl h
  | cons p ps=>rfl
theorem Zqr (a b:List UInt8) (m:List (List UInt8)):glue a (glue b m)=glue (a ++ b) m:=by
  cases m <;> simp [glue]
structure CutSt where
  i:Nat
  f:Nat
  m:Nat
  ps:List (List UInt8)
  q:Option Addr
  cp:Nat
  s:Cells
theorem ZvX {a b:UInt8} (h:(a.toNat:Int)=b.toNat):a=b:=UInt8.toNat_inj.1 (by exact_mod_cast h)
theorem Zuh {l:List UInt8} {x c:UInt8} {i:Nat} (h:l[i]? = some c) (e:c=x):cut x (l.drop i)=[] :: cut x (l.drop (i+1)):=by
  obtain ⟨hlt,he⟩:=List.getElem?_eq_some_iff.1 h
  rw [List.drop_eq_getElem_cons hlt,he,cut,if_pos e]
theorem Zst {l:List UInt8} {x c:UInt8} {i:Nat} (h:l[i]? = some c) (e:c≠x):cut x (l.drop i)=glue [c] (cut x (l.drop (i+1))):=by
  obtain ⟨hlt,he⟩:=List.getElem?_eq_some_iff.1 h
  rw [List.drop_eq_getElem_cons hlt,he,cut,if_neg e]
theorem ZvW {a b:UInt8} (h : ¬ (a.toNat:Int)=b.toNat):a≠b:=fun e=>h (by rw [e])
theorem Zpr {l:List UInt8} {c:UInt8} {i f:Nat} (h:l[i]? = some c) (hf:f≤i):(l.take i).drop f ++ [c]=(l.take (i+1)).drop f:=by
  have hlt:=Zcb h
  rw [List.take_add_one,h]
  simp only [Option.toList_some]
  rw [List.drop_append_of_le_length (by rw [List.length_take];omega)]
theorem Zsf (a:List UInt8) (m:List (List UInt8)):glue a ([] :: m)=a :: m:=by simp [glue]
def Zcj (l:List UInt8):Bool:=(cut 46 l).all Zaq && decide ((cut 46 l).length≤3) && decide (l.length≤20)
theorem Zse {a:List UInt8} {m:List (List UInt8)} {n:Nat} (h :∀p,p∈m→p.length≤n) :∀p,p∈glue a m→p.length≤a.length+n:=by
  cases m with
  | nil=>intro p hp;simp [glue] at hp;subst hp;omega
  | cons q qs=>
    intro p hp
    simp only [glue,List.mem_cons] at hp
    rcases hp with rfl | hp
    · rw [List.length_append];have:=h q (List.mem_cons_self ..);omega
    · have:=h p (List.mem_cons_of_mem _ hp);omega
theorem ZmV (x:UInt8) :∀(l p:List UInt8),p∈cut x l→p.length≤l.length
  | [],p,h=>by simp [cut] at h;subst h;simp
  | c :: r,p,h=>by
    rw [cut] at h
    split at h
    · rcases List.mem_cons.1 h with rfl | h
      · simp
      · have:=ZmV x r p h;simp;omega
    · have:=Zse (ZmV x r) p h;simp at this ⊢;omega
theorem ZlU {l:List (List UInt8)} {k:Nat} {c:List UInt8} (hc:l[k]? = some c) (h:Zaq c=false):l.all Zaq=false:=by
  rw [Bool.eq_false_iff];intro ha
  have:=List.all_eq_true.1 ha c (List.mem_of_getElem? hc)
  rw [h] at this;cases this
theorem Zi0 {l:List (List UInt8)} {k:Nat} {c:List UInt8} (hc:l[k]? = some c) (h:Zaq c=true) (ha:(l.take k).all Zaq=true):(l.take (k+1)).all Zaq=true:=by
  rw [List.take_add_one,hc];simp only [Option.toList_some,List.all_append,ha,List.all_cons,h,List.all_nil];rfl
theorem ZlN (x:UInt8) :∀l:List UInt8,(cut x l).length≤l.length+1
  | []=>by simp [cut]
  | c :: r=>by
    have h:=ZlN x r
    rw [cut]
    split
    · simp;omega
    · cases hq:cut x r with
      | nil=>exact absurd hq (ZnO x r)
      | cons p ps=>rw [hq] at h;simp [glue] at h ⊢;omega
end Go.BL
namespace Go.BL
open Go
set_option linter.unusedVariables false
set_option linter.unusedSimpArgs false
theorem Zkz {x:UInt8} :∀{l:List UInt8},x ∉ l→cut x l=[l]
  | [],_=>rfl
  | c :: r,h=>by
    rw [cut,if_neg (fun e=>h (by rw [e];exact List.mem_cons_self ..)),Zkz (fun hm=>h (List.mem_cons_of_mem _ hm))]
    rfl
theorem ZiS {x:UInt8} {b:List UInt8} :∀{a:List UInt8},x ∉ a→cut x (a ++ x :: b)=a :: cut x b
  | [],_=>by simp [cut]
  | c :: r,h=>by
    rw [List.cons_append,cut,if_neg (fun e=>h (by rw [e];exact List.mem_cons_self ..)),ZiS (fun hm=>h (List.mem_cons_of_mem _ hm))]
    rfl
theorem ZfE {x:UInt8} :∀{l:List UInt8},x∈l→∃a b,l=a ++ x :: b∧x ∉ a
  | c :: r,h=>by
    by_cases e:c=x
    · exact ⟨[],r,by simp [e],by simp⟩
    · have hr:x∈r:=(List.mem_cons.1 h).resolve_left (Ne.symm e)
      obtain ⟨a,b,h1,h2⟩:=ZfE hr
      exact ⟨c :: a,b,by simp [h1],by simp [Ne.symm e,h2]⟩
theorem Zjh (l:List UInt8) (i j:Nat):word l (i+j)=word (l.drop i) j:=by
  unfold word;rw [List.drop_drop]
theorem ZjD (l:List UInt8) (i:Nat) :∀n j,more n l (i+j)=((more n (l.drop i) j).1,i+(more n (l.drop i) j).2)
  | 0,j=>rfl
  | n+1,j=>by
    simp only [more,List.getElem?_drop]
    rw [show i+j+1=i+(j+1) from by omega,Zjh]
    split
    · split
      · rw [show i+(j+1)+(word (l.drop i) (j+1)).length=i+(j+1+(word (l.drop i) (j+1)).length) from by omega,ZjD l i n]
      · simp only [Prod.mk.injEq,true_and];omega
    · rfl
theorem Zrl {l:List UInt8} (h:l.all ZbJ=true):word l 0=l:=by
  have:=(Zei (p:=ZbJ) l).2 h
  have h2:=List.takeWhile_prefix ZbJ (l:=l)
  simp only [word,List.drop_zero]
  exact List.IsPrefix.eq_of_length h2 this
theorem Zg1 {a b:List UInt8} {x:UInt8} (hx:ZbJ x=false) (h:a.all ZbJ=true):word (a ++ x :: b) 0=a:=by
  simp only [word,List.drop_zero]
  induction a with
  | nil=>simp [List.takeWhile,hx]
  | cons c a ih=>
    simp only [List.all_cons,Bool.and_eq_true] at h
    simp only [List.cons_append,List.takeWhile,h.1,ih h.2]
theorem Zg0 {a:List UInt8} (b:List UInt8) (h:a.all ZbJ=false):(word (a ++ b) 0).length<a.length∧word (a ++ b) 0=word a 0:=by
  simp only [word,List.drop_zero]
  induction a with
  | nil=>simp at h
  | cons c a ih=>
    cases hc:ZbJ c with
    | false=>simp [List.takeWhile,hc]
    | true=>
      have h':a.all ZbJ=false:=by simpa [hc] using h
      have:=ih h'
      simp only [List.cons_append,List.takeWhile,hc,List.length_cons]
      exact ⟨by omega,by rw [this.2]⟩
theorem ZtX {a:List UInt8} (b:List UInt8) {k:Nat} (h:k<a.length):(a ++ b)[k]? = a[k]?:=List.getElem?_append_left h
theorem ZiH {x:UInt8} {a:List UInt8} (h:x ∉ a) (k:Nat):a[k]?≠some x:=fun e=>h (List.mem_of_getElem? e)
theorem ZpV :∀(n:Nat) (b:List UInt8),(ZdC (word b 0)=true∧more n b (word b 0).length=(true,b.length))↔((cut 46 b).all Zaq=true∧(cut 46 b).length≤n+1):=by
  intro n
  induction n with
  | zero=>
    intro b
    by_cases hd:(46:UInt8)∈b
    · obtain ⟨a,r,rfl,ha⟩:=ZfE hd
      rw [ZiS ha]
      have hlen:(word (a ++ 46 :: r) 0).length≤a.length:=by
        cases hna:a.all ZbJ with
        | true=>rw [Zg1 (by decide) hna];exact Nat.le_refl _
        | false=>exact Nat.le_of_lt (Zg0 _ hna).1
      constructor
      · rintro ⟨_,h2⟩
        simp only [more,Prod.mk.injEq,true_and] at h2
        rw [List.length_append,List.length_cons] at h2
        omega
      · rintro ⟨_,h2⟩
        have:=ZnO 46 r
        simp only [List.length_cons] at h2
        exact absurd (List.eq_nil_of_length_eq_zero (by omega)) this
    · rw [Zkz hd]
      simp only [more,List.all_cons,List.all_nil,Bool.and_true,List.length_cons,List.length_nil,Nat.zero_add,Nat.le_refl,and_true,Prod.mk.injEq,true_and,Zdo,Bool.and_eq_true,decide_eq_true_eq]
  | succ n ih=>
    intro b
    by_cases hd:(46:UInt8)∈b
    · obtain ⟨a,r,rfl,ha⟩:=ZfE hd
      rw [ZiS ha]
      cases hna:a.all ZbJ with
      | true=>
        rw [Zg1 (by decide) hna]
        have hg:(a ++ 46 :: r)[a.length]? = some 46:=by simp
        have hdr:(a ++ 46 :: r).drop (a.length+1)=r:=by rw [List.drop_append];simp
        have hw:word (a ++ 46 :: r) (a.length+1)=word r 0:=by
          have:=Zjh (a ++ 46 :: r) (a.length+1) 0
          rw [Nat.add_zero,hdr] at this;exact this
        have hm:more n (a ++ 46 :: r) (a.length+1+(word r 0).length)=((more n r (word r 0).length).1,a.length+1+(more n r (word r 0).length).2):=by
          rw [ZjD,hdr]
        simp only [more,hg,if_true,hw,hm,List.all_cons,Bool.and_eq_true,List.length_cons]
        have hna':Zaq a=ZdC a:=by rw [Zdo,Zrl hna];simp
        have hi:=ih r
        constructor
        · rintro ⟨h1,h2⟩
          split at h2
          · rename_i h3
            simp only [Prod.mk.injEq,List.length_append,List.length_cons] at h2
            have:=hi.1 ⟨h3,by ext1;exact h2.1;simp only [];omega⟩
            exact ⟨⟨by rw [hna'];exact h1,this.1⟩,by omega⟩
          · simp at h2
        · rintro ⟨⟨h1,h2⟩,h3⟩
          obtain ⟨h4,h5⟩:=hi.2 ⟨h2,by omega⟩
          refine ⟨by rw [← hna'];exact h1,?_⟩
          rw [if_pos h4,h5]
          simp;omega
      | false=>
        obtain ⟨h1,h2⟩:=Zg0 (46 :: r) hna
        have hne:Zaq a=false:=by simp [Zaq,hna]
        constructor
        · rintro ⟨_,h3⟩
          rw [Zii (by rw [ZtX _ h1];exact ZiH ha _)] at h3
          simp only [Prod.mk.injEq,true_and,List.length_append,List.length_cons] at h3
          omega
        · rintro ⟨h3,_⟩
          simp [hne] at h3
    · rw [Zkz hd]
      rw [Zii (ZiH hd _)]
      simp only [List.all_cons,List.all_nil,Bool.and_true,List.length_cons,List.length_nil,Prod.mk.injEq,true_and,Zdo,Bool.and_eq_true,decide_eq_true_eq]
      constructor
      · rintro ⟨h1,h2⟩;exact ⟨⟨h1,h2⟩,by omega⟩
      · rintro ⟨⟨h1,h2⟩,_⟩;exact ⟨h1,h2⟩
theorem ZlL (b:List UInt8):((dom b 0).1=true∧(dom b 0).2≤20∧(dom b 0).2=b.length)↔Zcj b=true:=by
  have h:=ZpV 2 b
  simp only [Zcj,Bool.and_eq_true,decide_eq_true_eq]
  constructor
  · rintro ⟨h1,h2,h3⟩
    cases hw:ZdC (word b 0) with
    | false=>simp [dom,hw] at h1
    | true=>
      simp only [dom,hw,if_true,Nat.zero_add] at h1 h2 h3
      have:=h.1 ⟨hw,by ext1;exact h1;exact h3⟩
      exact ⟨⟨this.1,this.2⟩,by omega⟩
  · rintro ⟨⟨h1,h2⟩,h3⟩
    obtain ⟨h4,h5⟩:=h.2 ⟨h1,h2⟩
    simp only [dom,h4,if_true,Nat.zero_add,h5]
    exact ⟨trivial,h3,trivial⟩
end Go.BL
namespace Go.BL
open Go
set_option linter.unusedVariables false
set_option linter.unusedSimpArgs false
theorem Zbo {α:Type} {p:α→Prop} {l:List α} {k:Nat} {x:α} (hx:l[k]? = some x) (h :∀y,y∈l.take k→p y) (hp:p x) :∀y,y∈l.take (k+1)→p y:=by
  intro y hy
  rw [List.take_add_one,hx] at hy
  simp only [Option.toList_some,List.mem_append,List.mem_singleton] at hy
  rcases hy with hy | rfl
  · exact h y hy
  · exact hp
def ZcC (us:List DUser) (u:Str):Int:=match us.findIdx? (fun x=>decide (x.name=u)) with | some i=>i | none=>-1
theorem Zr4 {us:List DUser} {u:Str} {k:Nat} {x:DUser} (hx:us[k]? = some x) (he:x.name=u) (h :∀y,y∈us.take k→y.name≠u):ZcC us u=k:=by
  have:us.findIdx? (fun x=>decide (x.name=u))=some k:=by
    rw [List.findIdx?_eq_some_iff_getElem]
    obtain ⟨hk,rfl⟩:=List.getElem?_eq_some_iff.1 hx
    refine ⟨hk,by simpa using he,fun j hj=>?_⟩
    have:=h us[j] (by rw [List.mem_take_iff_getElem];exact ⟨j,by omega,rfl⟩)
    simpa using this
  rw [ZcC,this]
theorem Zqe {us:List DUser} {u:Str} (h :∀y,y∈us→y.name≠u):ZcC us u = -1:=by
  have:us.findIdx? (fun x=>decide (x.name=u))=none:=by
    rw [List.findIdx?_eq_none_iff]
    intro x hx
    simpa using h x hx
  rw [ZcC,this]
theorem ZeH {α:Type} {as bs:List α} {k:Nat} {x y:α} (hx:as[k]? = some x) (hy:bs[k]? = some y) (e:x=y) (h:as.take k=bs.take k):as.take (k+1)=bs.take (k+1):=by
  rw [List.take_add_one,List.take_add_one,hx,hy,e,h]
theorem ZmS {α:Type} {as bs:List α} {inst:Decidable (as=bs)} (h : ¬ (as.length:Int)=bs.length):false=decide (as=bs):=by
  symm;rw [decide_eq_false_iff_not];intro e;exact h (by rw [e])
theorem Zkw {α:Type} {as bs:List α} {inst:Decidable (as=bs)} {k:Nat} {x y:α} (hx:as[k]? = some x) (hy:bs[k]? = some y) (e : ¬ x=y):false=decide (as=bs):=by
  symm;rw [decide_eq_false_iff_not];intro h;rw [h,hy] at hx;exact e (Option.some.inj hx).symm
theorem eqT {α:Type} {as bs:List α} {inst:Decidable (as=bs)} {k:Nat} (hl:as.length=bs.length) (hk:k=as.length) (h:as.take k=bs.take k):true=decide (as=bs):=by
  symm;rw [decide_eq_true_eq]
  rw [List.take_of_length_le (by omega),List.take_of_length_le (by omega)] at h;exact h
theorem Zxs {α:Type} {as:List α} {x:α} {inst:Decidable (x∈as)} (h :∀y,y∈as→y≠x):false=decide (x∈as):=by
  symm;rw [decide_eq_false_iff_not];intro hx;exact h x hx rfl
theorem Zxr {α:Type} {as:List α} {x y:α} {inst:Decidable (x∈as)} {k:Nat} (hy:as[k]? = some y) (e:y=x):true=decide (x∈as):=by
  symm;rw [decide_eq_true_eq];subst e;exact List.mem_of_getElem? hy
theorem ZbA {α:Type} {p:α→Prop} {l:List α} {k:Nat} (hk : ¬ (k:Int)<l.length) (h :∀y,y∈l.take k→p y) :∀y,y∈l→p y:=by
  rwa [List.take_of_length_le (by omega)] at h
theorem Zky {α:Type} {l:List α} {k:Nat} {x:α} (h:l[k]? = some x):l.drop k=x :: l.drop (k+1):=by
  obtain ⟨hlt,he⟩:=List.getElem?_eq_some_iff.1 h
  rw [List.drop_eq_getElem_cons hlt,he]
theorem ZqL {α:Type} {l:List α} {k:Nat} (h : ¬ (k:Int)<l.length):l.drop k=[]:=List.drop_eq_nil_of_le (by omega)
def ZcK (l:List Str):Bool:=l.all Zaq && decide l.Nodup && decide (l.length≤3)
def ZaO (x:DLetter):Bool:=Zaq x.fr && ZcK x.to_ && decide (0<x.to_.length) && decide (x.text.length≤20)
def ZcB (x:DItem):Bool:=ZaO ⟨x.fr,x.left,x.text⟩
def ZcV:Int→List DItem→Option Int
  | last,[]=>some last
  | last,x :: r=>if (last+1≤x.id∧x.id≤99)∧ZcB x=true then ZcV x.id r else none
def Zah (q:DQueue):Bool:=match ZcV 0 q.items with
  | some last=>decide (last+1≤q.next) && decide (q.next≤100) && decide (q.items.length≤6)
  | none=>false
theorem ZpU {α:Type} {l:List α} {k:Nat} {x:α} (hx:l[k]? = some x) (h:(l.take k).Nodup) (hn : ¬ x∈l.take k):(l.take (k+1)).Nodup:=by
  rw [List.take_add_one,hx]
  simp only [Option.toList_some]
  rw [List.nodup_append]
  exact ⟨h,by simp,fun a ha b hb=>by rw [List.mem_singleton.1 hb];exact fun e=>hn (e ▸ ha)⟩
theorem ZtC {α:Type} {l:List α} {k:Nat} {x:α} (hx:l[k]? = some x) (h:x∈l.take k) : ¬ l.Nodup:=by
  intro hn
  have e:l=l.take k ++ l.drop k:=(List.take_append_drop k l).symm
  rw [e,Zky hx,List.nodup_append] at hn
  exact hn.2.2 x h x (List.mem_cons_self ..) rfl
theorem Zhb {l:List Str} {k:Nat} {x:Str} (hx:l[k]? = some x) (h:Zaq x=false):false=ZcK l:=by
  simp [ZcK,ZlU hx h]
theorem Zha {l:List Str} {k:Nat} {x:Str} (hx:l[k]? = some x) (h:x∈l.take k):false=ZcK l:=by
  simp [ZcK,ZtC hx h]
theorem Zih {l:List Str} {k:Nat} (hk : ¬ (k:Int)<l.length) (ha:(l.take k).all Zaq=true) (hn:(l.take k).Nodup):decide ((l.length:Int)≤3)=ZcK l:=by
  rw [List.take_of_length_le (by omega)] at ha hn
  rw [Bool.eq_iff_iff];simp only [ZcK,ha,decide_eq_true hn,Bool.true_and,decide_eq_true_eq];omega
def Za6 {α:Type} (p:α→Bool) (xs:List α):Int:=match xs.findIdx? p with | some i=>i | none=>-1
theorem ZhE {α:Type} {p:α→Bool} {xs:List α} {k:Nat} {x:α} (hx:xs[k]? = some x) (he:p x=true) (h :∀y,y∈xs.take k→p y=false):Za6 p xs=k:=by
  have:xs.findIdx? p=some k:=by
    rw [List.findIdx?_eq_some_iff_getElem]
    obtain ⟨hk,rfl⟩:=List.getElem?_eq_some_iff.1 hx
    refine ⟨hk,he,fun j hj=>?_⟩
    have:=h xs[j] (by rw [List.mem_take_iff_getElem];exact ⟨j,by omega,rfl⟩)
    simpa using this
  rw [Za6,this]
theorem ZeY {α:Type} {p:α→Bool} {xs:List α} (h :∀y,y∈xs→p y=false):Za6 p xs = -1:=by
  have:xs.findIdx? p=none:=by
    rw [List.findIdx?_eq_none_iff]
    intro x hx
    simpa using h x hx
  rw [Za6,this]
theorem ZdK {α:Type} {p:α→Bool} {xs:List α} : (0≤Za6 p xs)↔∃x,x∈xs∧p x=true:=by
  cases h:xs.findIdx? p with
  | none=>
    rw [List.findIdx?_eq_none_iff] at h
    simp only [Za6,List.findIdx?_eq_none_iff.2 h]
    refine ⟨fun e=>absurd e (by omega),fun ⟨x,hx,hp⟩=>?_⟩
    rw [h x hx] at hp;cases hp
  | some i=>
    simp only [Za6,h]
    rw [List.findIdx?_eq_some_iff_getElem] at h
    obtain ⟨hi,hp,_⟩:=h
    exact ⟨fun _=>⟨_,List.getElem_mem hi,hp⟩,fun _=>by omega⟩
def Zwe (xs:List Str) (v:Str):Int:=Za6 (fun x=>decide (x=v)) xs
theorem Zr5 {xs:List Str} {v:Str} : (0≤Zwe xs v)↔v∈xs:=by
  rw [Zwe,ZdK];simp
theorem Znn {q:DQueue} (h:ZcV 0 q.items=none):false=Zah q:=by simp [Zah,h]
theorem Znm {q:DQueue} {last:Int} (h:ZcV 0 q.items=some last):(decide (last+1≤q.next) && decide (q.next≤100) && decide (q.items.length≤6))=Zah q:=by simp [Zah,h]
theorem ZpE {q:DQueue} {k:Nat} {last:Int} {x:DItem} (hs:ZcV 0 q.items=ZcV last (q.items.drop k)) (hx:q.items[k]? = some x):ZcV 0 q.items=if (last+1≤x.id∧x.id≤99)∧ZcB x=true then ZcV x.id (q.items.drop (k+1)) else none:=by
  rw [hs,Zky hx,ZcV]
def rep (l:Str) (n:Nat):Str:=(List.replicate n l).flatten
theorem Zj6 (l:Str) (n:Nat):(rep l n).length=n*l.length:=by simp [rep]
theorem ZeV (x:DLetter):ZaO x=(Zaq x.fr && (decide (1≤x.to_.length) && ZcK x.to_) && decide ((x.text.length:Int)≤20)):=by
  rw [Bool.eq_iff_iff];simp only [ZaO,Bool.and_eq_true,decide_eq_true_eq]
  constructor
  · rintro ⟨⟨⟨a,b⟩,c⟩,d⟩;exact ⟨⟨a,by omega,b⟩,by omega⟩
  · rintro ⟨⟨a,c,b⟩,d⟩;exact ⟨⟨⟨a,b⟩,by omega⟩,by omega⟩
theorem Zai.mono {B B':Kn} {q:Option Addr} {m:Nat} (h:Zai B q m) (hle:B.le B'):Zai B' q m:=fun j hj=>by
  obtain ⟨a,c,h1,h2,h3⟩:=h j hj
  exact ⟨a,c,h1,h2,h3.mono hle⟩
theorem Ztq (l:Str) (n:Nat) (h:n % 2=1):rep l n=l ++ rep (l ++ l) (n / 2):=by
  obtain ⟨k,rfl⟩ :∃k,n=2*k+1:=⟨n / 2,by omega⟩
  have e:(2*k+1) / 2=k:=by omega
  rw [e]
  clear h e
  induction k with
  | zero=>simp [rep]
  | succ k ih=>
    rw [show 2*(k+1)+1=(2*k+1)+1+1 from by omega]
    simp only [rep,List.replicate_succ,List.flatten_cons] at ih ⊢
    rw [ih];simp
theorem Zrz (l:Str) (n:Nat) (h:n % 2=0):rep l n=rep (l ++ l) (n / 2):=by
  obtain ⟨k,rfl⟩ :∃k,n=2*k:=⟨n / 2,by omega⟩
  have e:2*k / 2=k:=by omega
  rw [e]
  clear h e
  induction k with
  | zero=>simp [rep]
  | succ k ih=>
    rw [show 2*(k+1)=(2*k)+1+1 from by omega]
    simp only [rep,List.replicate_succ,List.flatten_cons] at ih ⊢
    rw [ih];simp
structure Gh (α:Type) where
  k:Nat
  p:Nat
  l:Cells
  a:Option Addr
  c:Nat
  xs:List α
theorem Zas {α:Type} {l:List α} {k:Nat} {x:α} (hx:l[k]? = some x):l.take (k+1)=l.take k ++ [x]:=by
  rw [List.take_add_one,hx];rfl
def ZhM (q:DQueue) (x:DLetter):DQueue × Bool:=
  if Zah q=true∧ZaO x=true then
    (if 6≤q.items.length∨99<q.next then (q,false) else (⟨q.next+1,q.items ++ [⟨q.next,x.fr,x.text,x.to_⟩]⟩,true))
  else (⟨0,[]⟩,false)
theorem Zq4 {q:DQueue} {x:DLetter} (h:Zah q=false):ZhM q x=(⟨0,[]⟩,false):=by simp [ZhM,h]
theorem Zq3 {q:DQueue} {x:DLetter} (h:ZaO x=false):ZhM q x=(⟨0,[]⟩,false):=by simp [ZhM,h]
theorem ZlX {q:DQueue} {x:DLetter} (h:Zah q=true) (h':ZaO x=true) (hf:6≤q.items.length∨99<q.next):ZhM q x=(q,false):=by rw [ZhM,if_pos ⟨h,h'⟩,if_pos hf]
theorem Zuj {q:DQueue} {x:DLetter} (h:Zah q=true) (h':ZaO x=true) (h1 : ¬ 6≤q.items.length) (h2 : ¬ 99<q.next):ZhM q x=(⟨q.next+1,q.items ++ [⟨q.next,x.fr,x.text,x.to_⟩]⟩,true):=by
  rw [ZhM,if_pos ⟨h,h'⟩,if_neg (by omega)]
theorem ZpF :∀{xs:List DItem} {l r:Int},ZcV l xs=some r→l≤r
  | [],l,r,h=>by simp only [ZcV,Option.some.injEq] at h;omega
  | x :: xs,l,r,h=>by
    rw [ZcV] at h
    split at h
    · rename_i e;have:=ZpF h;omega
    · cases h
theorem ZeO {q:DQueue} (h:Zah q=true):1≤q.next∧q.next≤100∧q.items.length≤6:=by
  unfold Zah at h
  split at h
  · rename_i last e
    have:=ZpF e
    simp only [Bool.and_eq_true,decide_eq_true_eq] at h
    omega
  · cases h
structure Gh2 (α β:Type) where
  k:Nat
  p:Nat
  l:Cells
  a:Option Addr
  c:Nat
  xs:List α
  e:β
def without (xs:List Str) (u:Str):List Str:=xs.filter fun x=>decide (x≠u)
theorem ZkK {xs:List Str} {u:Str} {k:Nat} {x:Str} (hx:xs[k]? = some x) (h : ¬ x=u):without (xs.take (k+1)) u=without (xs.take k) u ++ [x]:=by
  rw [Zas hx,without,without,List.filter_append];simp [h]
theorem ZkJ {xs:List Str} {u:Str} {k:Nat} {x:Str} (hx:xs[k]? = some x) (h:x=u):without (xs.take (k+1)) u=without (xs.take k) u:=by
  rw [Zas hx,without,without,List.filter_append];simp [h]
theorem ZhP (xs:List Str) (u:Str):(without xs u).length≤xs.length:=List.length_filter_le _ _
def ZbK (id:Int) (u:Str) (x:DItem):DItem:=if x.id=id∧u∈x.left then ⟨x.id,x.fr,x.text,without x.left u⟩ else x
def Zez (id:Int) (u:Str) (xs:List DItem):List DItem:=(xs.map (ZbK id u)).filter fun x=>decide (0<x.left.length)
def ZbW (id:Int) (u:Str) (s:Str × Bool) (x:DItem):Str × Bool:=if x.id=id∧u∈x.left then (x.text,true) else s
def ZfD (id:Int) (u:Str) (xs:List DItem):Str × Bool:=xs.foldl (ZbW id u) ([],false)
theorem ZeI {id:Int} {u:Str} {x:DItem} (h:x.id=id) (h':u∈x.left):ZbK id u x=⟨x.id,x.fr,x.text,without x.left u⟩:=by rw [ZbK,if_pos ⟨h,h'⟩]
theorem Zg7 {id:Int} {u:Str} {x:DItem} (h : ¬ x.id=id):ZbK id u x=x:=by rw [ZbK,if_neg (fun e=>h e.1)]
theorem Zg6 {id:Int} {u:Str} {x:DItem} (h : ¬ u∈x.left):ZbK id u x=x:=by rw [ZbK,if_neg (fun e=>h e.2)]
theorem Zh1 {id:Int} {u:Str} {xs:List DItem} {k:Nat} {x y:DItem} (hx:xs[k]? = some x) (e:ZbK id u x=y) (h:0<y.left.length):Zez id u (xs.take (k+1))=Zez id u (xs.take k) ++ [y]:=by
  rw [Zas hx,Zez,Zez,List.map_append,List.filter_append];simp [e,h]
theorem Zgy {id:Int} {u:Str} {xs:List DItem} {k:Nat} {x y:DItem} (hx:xs[k]? = some x) (e:ZbK id u x=y) (h : ¬ 0<y.left.length):Zez id u (xs.take (k+1))=Zez id u (xs.take k):=by
  rw [Zas hx,Zez,Zez,List.map_append,List.filter_append];simp [e,show y.left.length=0 by omega]
theorem Zk2 {id:Int} {u:Str} {xs:List DItem} {k:Nat} {x:DItem} (hx:xs[k]? = some x) (h:x.id=id) (h':u∈x.left):ZfD id u (xs.take (k+1))=(x.text,true):=by
  rw [Zas hx,ZfD,List.foldl_append];simp [ZbW,h,h']
theorem Zk1 {id:Int} {u:Str} {xs:List DItem} {k:Nat} {x:DItem} (hx:xs[k]? = some x) (h : ¬ x.id=id):ZfD id u (xs.take (k+1))=ZfD id u (xs.take k):=by
  rw [Zas hx,ZfD,List.foldl_append];simp [ZbW,h,ZfD]
theorem Zk0 {id:Int} {u:Str} {xs:List DItem} {k:Nat} {x:DItem} (hx:xs[k]? = some x) (h : ¬ u∈x.left):ZfD id u (xs.take (k+1))=ZfD id u (xs.take k):=by
  rw [Zas hx,ZfD,List.foldl_append];simp [ZbW,h,ZfD]
theorem Zh0 (id:Int) (u:Str) (xs:List DItem):(Zez id u xs).length≤xs.length:=by
  unfold Zez;exact Nat.le_trans (List.length_filter_le _ _) (by simp)
def Zb9 (q:DQueue) (id:Int) (u:Str):DQueue × Str × Bool:=(⟨q.next,Zez id u q.items⟩,(ZfD id u q.items).1,(ZfD id u q.items).2)
def Zc3 (q:DQueue) (id:Int) (u:Str):DQueue × Str × Bool:=if Zah q=true then Zb9 q id u else (⟨0,[]⟩,[],false)
structure GQ where
  k:Nat
  p:Nat
  l:Cells
  a:Option Addr
  c:Nat
  q:DQueue
structure GM where
  b:Nat
  p:Nat
  l:Cells
  a:Option Addr
  c:Nat
  q:DQueue
  f:Bool
theorem ZhL (q:DQueue) (x:DLetter):(ZhM q x).1.items.length≤q.items.length+1:=by
  unfold ZhM
  split
  · split
    · exact Nat.le_succ _
    · simp
  · exact Nat.zero_le _
theorem Zld (q:DQueue) (id:Int) (u:Str):(Zc3 q id u).1.items.length≤q.items.length:=by
  unfold Zc3
  split
  · exact Zh0 _ _ _
  · exact Nat.zero_le _
structure QOf where
  p:Option Addr
  ys:List DItem
  xs:List DItem
  l:Cells
  q:Option Addr
  c:Nat
  cells:Cells
theorem Z4.slice0 {α:Type} {B:Kn} {l:Cells} {p:Option Addr} {c:Nat} {T:TypeId} {w sz:Nat} {R:Rel α} {xs:List α} (h:Z4 B l p c T w R xs):(if c=0 then p else p.map (fun a=>a.add (0*sz)))=p:=by
  obtain ⟨rows,_,_,_,⟨rfl,_,rfl,_⟩ | ⟨b,arr,rfl,_,_,_,_⟩⟩:=h
  · rfl
  · split
    · rfl
    · rw [Nat.zero_mul];simp [Addr.add_off]
theorem ZgB {q:DQueue} (h : ¬ (q.items.length≤6∧1≤q.next∧q.next≤100)):false=Zah q:=by
  symm;rw [Bool.eq_false_iff];intro hq
  have:=ZeO hq
  omega
end Go.BL
namespace Go.BL
open Go
set_option linter.unusedVariables false
set_option linter.unusedSimpArgs false
def hat (xs:List Int) (k:Nat):Int:=xs.getD k 0
def swp (xs:List Int) (i j:Nat):List Int:=(xs.set i (hat xs j)).set j (hat xs i)
def ZdA (xs:List Int):Prop:=∀k,0<k→k<xs.length→hat xs ((k - 1) / 2)≤hat xs k
def ZfZ (xs:List Int) (j:Nat):Prop:=(∀k,0<k→k<xs.length→k≠j→hat xs ((k - 1) / 2)≤hat xs k)∧(∀k,0<k→k<xs.length→(k - 1) / 2=j→0<j→hat xs ((j - 1) / 2)≤hat xs k)
theorem ZtV {xs:List Int} {k:Nat} {a:Int} (h:xs[k]? = some a):hat xs k=a:=by simp [hat,List.getD,h]
theorem Za8 {xs:List Int} {k:Nat} (h:k<xs.length):xs[k]? = some (hat xs k):=by simp [hat,List.getD,List.getElem?_eq_getElem h]
theorem Zdm (xs:List Int) (i j:Nat):(swp xs i j).length=xs.length:=by simp [swp]
theorem Ze0 {xs:List Int} {i j:Nat} (hi:i<xs.length) (hj:j<xs.length) (k:Nat):hat (swp xs i j) k=if k=j then hat xs i else if k=i then hat xs j else hat xs k:=by
  simp only [hat,swp,List.getD,List.getElem?_set]
  by_cases h1:k=j
  · subst h1;simp [hj]
  · have h1' : ¬j=k:=fun h=>h1 h.symm
    by_cases h2:k=i
    · subst h2;simp [hi,h1,h1']
    · have h2' : ¬i=k:=fun h=>h2 h.symm
      simp [h1,h1',h2,h2']
theorem Zf8 {xs:List Int} {i j:Nat} (hi:i<xs.length) (hj:j<xs.length):(swp xs i j).Perm xs:=by
  rw [List.perm_iff_count]
  intro a
  unfold swp
  rw [List.count_set (by simpa using hj),List.count_set hi]
  have e1:(xs.set i (hat xs j))[j]'(by simpa using hj)=hat xs j:=by
    rw [List.getElem_set];split
    · rfl
    · simp [hat,List.getD,List.getElem?_eq_getElem hj]
  have e2:xs[i]=hat xs i:=by simp [hat,List.getD,List.getElem?_eq_getElem hi]
  rw [e1,e2]
  have hp :∀v,(v == a)=true→v∈xs→0<List.count a xs:=fun v hv hm=>by
    rw [beq_iff_eq] at hv;subst hv;exact List.count_pos_iff.2 hm
  have hm1:hat xs i∈xs:=by rw [← e2];exact List.getElem_mem _
  by_cases h1:(hat xs i == a)=true <;> by_cases h2:(hat xs j == a)=true <;> simp [h1,h2] <;> (try have:=hp _ h1 hm1;omega)
theorem Ztj {xs:List Int} (h:ZfZ xs 0):ZdA xs:=fun k h0 hk=>h.1 k h0 hk (by omega)
theorem Ztl {xs:List Int} {j:Nat} (h:ZfZ xs j) (hj:hat xs ((j - 1) / 2)≤hat xs j):ZdA xs:=fun k h0 hk=>by
  by_cases e:k=j
  · subst e;exact hj
  · exact h.1 k h0 hk e
theorem Ztk {xs:List Int} {j:Nat} (h0:0<j) (hj:j<xs.length) (h:ZfZ xs j) (hlt:hat xs j<hat xs ((j - 1) / 2)):ZfZ (swp xs ((j - 1) / 2) j) ((j - 1) / 2):=by
  have hi:(j - 1) / 2<xs.length:=by omega
  have H:=fun k=>Ze0 hi hj k
  generalize hii:(j - 1) / 2=i at *
  refine ⟨fun k hk0 hk hne=>?_,fun k hk0 hk hpar hi0=>?_⟩
  · rw [Zdm] at hk
    rw [H,H]
    by_cases e1:k=j
    · subst e1
      rw [hii];rw [if_neg (by omega),if_pos rfl,if_pos rfl];omega
    · rw [if_neg e1,if_neg hne]
      by_cases e2:(k - 1) / 2=j
      · rw [if_pos e2];have:=h.2 k hk0 hk e2 h0;rw [hii] at this;exact this
      · rw [if_neg e2]
        by_cases e3:(k - 1) / 2=i
        · rw [if_pos e3];have:=h.1 k hk0 hk e1;rw [e3] at this;omega
        · rw [if_neg e3];exact h.1 k hk0 hk e1
  · rw [Zdm] at hk
    rw [H,H]
    have hpi:(i - 1) / 2≠i:=by omega
    have hpj:(i - 1) / 2≠j:=by omega
    rw [if_neg hpj,if_neg hpi]
    have hii2:=h.1 i hi0 hi (by omega)
    by_cases e1:k=j
    · rw [if_pos e1];exact hii2
    · rw [if_neg e1,if_neg (by omega)]
      have:=h.1 k hk0 hk e1;rw [hpar] at this;omega
theorem Zr8 {xs:List Int} (h:ZdA xs) :∀k,k<xs.length→hat xs 0≤hat xs k:=fun k=>by
  induction k using Nat.strongRecOn with
  | ind k ih=>
    intro hk
    by_cases h0:k=0
    · subst h0;exact Int.le_refl _
    · have h1:=ih ((k - 1) / 2) (by omega) (by omega)
      have h2:=h k (by omega) hk
      omega
def ZsN (xs:List Int) (n:Nat):Prop:=∀k,0<k→k<n→hat xs ((k - 1) / 2)≤hat xs k
def Zfb (xs:List Int) (n i:Nat):Prop:=(∀k,0<k→k<n→(k - 1) / 2≠i→hat xs ((k - 1) / 2)≤hat xs k)∧(∀k,0<k→k<n→(k - 1) / 2=i→0<i→hat xs ((i - 1) / 2)≤hat xs k)
theorem ZqN {xs:List Int} {n i:Nat} (h:Zfb xs n i) (hl:n≤2*i+1):ZsN xs n:=fun k h0 hk=>h.1 k h0 hk (by omega)
theorem ZiQ {xs:List Int} {n i:Nat} (h:Zfb xs n i) (hc :∀k,0<k→k<n→(k - 1) / 2=i→hat xs i≤hat xs k):ZsN xs n:=fun k h0 hk=>by
  by_cases e:(k - 1) / 2=i
  · rw [e];exact hc k h0 hk e
  · exact h.1 k h0 hk e
theorem ZiP {xs:List Int} {n i j:Nat} (hn:n≤xs.length) (hj0:0<j) (hj:j<n) (hpj:(j - 1) / 2=i) (h:Zfb xs n i) (hmin :∀k,0<k→k<n→(k - 1) / 2=i→hat xs j≤hat xs k) (hlt:hat xs j<hat xs i):Zfb (swp xs i j) n j:=by
  have hi:i<xs.length:=by omega
  have hij:i≠j:=by omega
  have H:=fun k=>Ze0 hi (show j<xs.length by omega) k
  refine ⟨fun k hk0 hk hne=>?_,fun k hk0 hk hpar _=>?_⟩
  · rw [H,H,if_neg hne]
    by_cases e1:k=j
    · subst e1;rw [if_pos hpj,if_pos rfl];omega
    · rw [if_neg e1]
      by_cases e2:(k - 1) / 2=i
      · rw [if_pos e2,if_neg (by omega)];exact hmin k hk0 hk e2
      · rw [if_neg e2]
        by_cases e3:k=i
        · rw [if_pos e3];subst e3;exact h.2 j hj0 hj hpj hk0
        · rw [if_neg e3];exact h.1 k hk0 hk e2
  · rw [H,H,hpj,if_neg hij,if_pos rfl,if_neg (by omega),if_neg (by omega)]
    have:=h.1 k hk0 hk (by omega)
    rwa [hpar] at this
theorem ZvY (k:Nat):Int.tdiv ((k:Int) - 1) 2=(((k - 1) / 2:Nat):Int):=by
  cases k with
  | zero=>rfl
  | succ k=>rw [show ((k+1:Nat):Int) - 1=(k:Int) from by omega,Int.tdiv_eq_ediv_of_nonneg (by omega)];simp
theorem Zqm {xs:List Int} {z:Int} {k:Nat} (h:k<xs.length):hat (xs ++ [z]) k=hat xs k:=by
  simp [hat,List.getD,List.getElem?_append_left h]
theorem ZrC {xs:List Int} {z:Int} (h:ZdA xs):ZfZ (xs ++ [z]) xs.length:=by
  refine ⟨fun k h0 hk hne=>?_,fun k h0 hk hp _=>?_⟩
  · rw [List.length_append,List.length_singleton] at hk
    rw [Zqm (by omega),Zqm (by omega)]
    exact h k h0 (by omega)
  · rw [List.length_append,List.length_singleton] at hk
    omega
theorem Ztr {xs:List Int} (h:ZdA xs) (h0:0<xs.length):Zfb (swp xs 0 (xs.length - 1)) (xs.length - 1) 0:=by
  refine ⟨fun k hk0 hk hne=>?_,fun k hk0 hk hpar hh=>absurd hh (by omega)⟩
  rw [Ze0 h0 (by omega),Ze0 h0 (by omega),if_neg (by omega),if_neg (by omega),if_neg (by omega),if_neg (by omega)]
  exact h k hk0 (by omega)
theorem Zru {xs:List Int} (h0:0<xs.length):hat (swp xs 0 (xs.length - 1)) (xs.length - 1)=hat xs 0:=by rw [Ze0 h0 (by omega),if_pos rfl]
theorem Zny {xs:List Int} {n k:Nat} (h:k<n):hat (xs.take n) k=hat xs k:=by simp [hat,List.getD,List.getElem?_take,h]
theorem ZoF {ys:List Int} {n:Nat} (h:ZsN ys n) (hn:n≤ys.length):ZdA (ys.take n):=fun k h0 hk=>by
  rw [List.length_take] at hk
  rw [Zny (by omega),Zny (by omega)]
  exact h k h0 (by omega)
theorem ZrF {xs ys:List Int} (h0:0<ys.length) (hp:ys.Perm xs) {z:Int} (hz:hat ys (ys.length - 1)=z):(z :: ys.take (ys.length - 1)).Perm xs:=by
  refine List.Perm.trans ?_ hp
  have e:ys=ys.take (ys.length - 1) ++ [z]:=by
    have h1:=Zas (Za8 (xs:=ys) (k:=ys.length - 1) (by omega))
    rw [show ys.length - 1+1=ys.length from by omega,List.take_length] at h1
    rw [hz] at h1;exact h1
  have h2:(z :: ys.take (ys.length - 1)).Perm (ys.take (ys.length - 1) ++ [z]):=(List.perm_append_singleton z _).symm
  rwa [← e] at h2
theorem Zr7:ZdA []:=fun k h0 hk=>by simp at hk
def asc:Int→Int→List Int→Bool
  | _,_,[]=>true
  | b,l,x :: r=>decide (b<x) && decide (x≤l) && asc x l r
theorem Zm2 :∀{r:List Int} {b l z:Int},asc b l r=true→z∈r→b<z
  | [],_,_,_,_,hz=>by cases hz
  | x :: r,b,l,z,h,hz=>by
    simp only [asc,Bool.and_eq_true,decide_eq_true_eq] at h
    rcases List.mem_cons.1 hz with rfl | hz
    · exact h.1.1
    · have:=Zm2 h.2 hz;omega
theorem ZtU {xs:List Int} {k:Nat} (h:k<xs.length):hat xs k∈xs:=List.mem_of_getElem? (Za8 h)
theorem Zsz {b l x:Int} {r ys:List Int} (hp:ys.Perm (x :: r)) (hh:ZdA ys) (hne:hat ys 0≠x):false=asc b l (x :: r):=by
  symm;rw [Bool.eq_false_iff]
  intro h
  have h0:0<ys.length:=by rw [hp.length_eq];simp
  have hm:=hp.mem_iff.1 (ZtU h0)
  simp only [asc,Bool.and_eq_true,decide_eq_true_eq] at h
  rcases List.mem_cons.1 hm with e | hm
  · exact hne e
  · have h1:=Zm2 h.2 hm
    obtain ⟨k,hk⟩:=List.mem_iff_getElem?.1 (hp.mem_iff.2 (List.mem_cons_self (a:=x) (l:=r)))
    have h2:=Zr8 hh k (List.getElem?_eq_some_iff.1 hk).1
    rw [ZtV hk] at h2
    omega
theorem Zsy {b l x:Int} {r:List Int} (h:x≤b):false=asc b l (x :: r):=by simp [asc,show ¬ b<x from by omega]
theorem Zsx {b l x:Int} {r:List Int} (h:l<x):false=asc b l (x :: r):=by simp [asc,show ¬ x≤l from by omega]
theorem Zvp {b l x:Int} {r:List Int} (h : ¬ x≤b) (h2 : ¬ l<x):asc b l (x :: r)=asc x l r:=by simp [asc,show b<x from by omega,show x≤l from by omega]
theorem Zni :∀{xs:List DItem} {b:Int} {l:Int},l≤99→(match ZcV b xs with | some r=>decide (r≤l) | none=>false)=(decide (b≤l) && xs.all ZcB && asc b l (xs.map (·.id)))
  | [],b,l,_=>by simp [ZcV,asc]
  | x :: xs,b,l,hl=>by
    have ih:=Zni (xs:=xs) (b:=x.id) hl
    rw [ZcV,List.map_cons,List.all_cons,asc]
    by_cases h1:b+1≤x.id
    · by_cases h2:ZcB x=true
      · by_cases h3:x.id≤99
        · rw [if_pos ⟨⟨h1,h3⟩,h2⟩,ih,h2]
          by_cases h4:x.id≤l
          · simp [h4,show b≤l from by omega,show b<x.id from by omega]
          · simp [h4]
        · rw [if_neg (fun h=>h3 h.1.2)]
          simp [show ¬ x.id≤l from by omega]
      · rw [if_neg (fun h=>h2 h.2)]
        simp [h2]
    · rw [if_neg (fun h=>h1 h.1.1)]
      simp [show ¬ b<x.id from by omega]
theorem ZcJ (q:DQueue):Zah q=(decide (q.items.length≤6) && decide (1≤q.next) && decide (q.next≤100) && q.items.all ZcB && asc 0 (q.next - 1) (q.items.map (·.id))):=by
  by_cases h:q.next≤100
  · have:=Zni (xs:=q.items) (b:=0) (l:=q.next - 1) (by omega)
    unfold Zah
    cases hs:ZcV 0 q.items with
    | none=>
      rw [hs] at this
      simp only at this
      rw [Bool.eq_iff_iff]
      simp only [Bool.and_eq_true,decide_eq_true_eq,Bool.false_eq_true,false_iff]
      rintro ⟨⟨⟨⟨_,h1⟩,_⟩,h2⟩,h3⟩
      rw [h2,h3] at this
      simp at this;omega
    | some r=>
      rw [hs] at this
      simp only at this
      rw [Bool.eq_iff_iff] at this ⊢
      simp only [Bool.and_eq_true,decide_eq_true_eq] at this ⊢
      constructor
      · rintro ⟨⟨h1,h2⟩,h3⟩
        obtain ⟨⟨a,b⟩,c⟩:=this.1 (by omega)
        exact ⟨⟨⟨⟨h3,by omega⟩,h⟩,b⟩,c⟩
      · rintro ⟨⟨⟨⟨h1,h2⟩,h3⟩,h4⟩,h5⟩
        have:=this.2 ⟨⟨by omega,h4⟩,h5⟩
        omega
  · unfold Zah
    cases ZcV 0 q.items <;> simp [h]
theorem Zvs {α:Type} {p:α→Bool} {l:List α} {k:Nat} {x:α} (hx:l[k]? = some x) (h:p x=false):l.all p=false:=by
  rw [Bool.eq_false_iff];intro hp
  rw [List.all_eq_true] at hp
  have:=hp x (List.mem_of_getElem? hx)
  rw [h] at this;cases this
theorem Zvr {α:Type} {p:α→Bool} {l:List α} {k:Nat} {x:α} (hx:l[k]? = some x) (h:p x=true) (ha:(l.take k).all p=true):(l.take (k+1)).all p=true:=by
  rw [Zas hx,List.all_append,ha];simp [h]
theorem Zmq {q:DQueue} {k:Nat} {x:DItem} (hx:q.items[k]? = some x) (h:ZcB x=false):false=Zah q:=by
  rw [ZcJ,Zvs hx h];simp
theorem Zmp {q:DQueue} {k:Nat} (hk : ¬ (k:Int)<q.items.length) (ha:(q.items.take k).all ZcB=true) (h6:q.items.length≤6) (h1:1≤q.next) (h2:q.next≤100):asc 0 (q.next - 1) (q.items.map (·.id))=Zah q:=by
  rw [List.take_of_length_le (by omega)] at ha
  rw [ZcJ,ha];simp [h6,h1,h2]
theorem ZlW {q:DQueue} {x:DLetter} (h:(ZhM q x).2=true):(ZhM q x).1=⟨q.next+1,q.items ++ [⟨q.next,x.fr,x.text,x.to_⟩]⟩∧Zah q=true∧ZaO x=true∧q.items.length<6∧q.next≤99:=by
  unfold ZhM at h ⊢
  by_cases h1:Zah q=true∧ZaO x=true
  · rw [if_pos h1] at h ⊢
    by_cases h2:6≤q.items.length∨99<q.next
    · rw [if_pos h2] at h;cases h
    · rw [if_neg h2];exact ⟨rfl,h1.1,h1.2,by omega,by omega⟩
  · rw [if_neg h1] at h;cases h
theorem Znj :∀{xs:List DItem} {b r:Int} {y:DItem},ZcV b xs=some r→r+1≤y.id→y.id≤99→ZcB y=true→ZcV b (xs ++ [y])=some y.id
  | [],b,r,y,h,h1,h2,h3=>by
    simp only [ZcV,Option.some.injEq] at h;subst h
    simp only [List.nil_append,ZcV,if_pos (And.intro (And.intro h1 h2) h3)]
  | x :: xs,b,r,y,h,h1,h2,h3=>by
    rw [ZcV] at h
    split at h
    · rename_i hc
      rw [List.cons_append,ZcV,if_pos hc];exact Znj h h1 h2 h3
    · cases h
theorem ZoU {q:DQueue} {x:DLetter} (h:(ZhM q x).2=true):Zah (ZhM q x).1=true:=by
  obtain ⟨he,hq,hx,h6,h9⟩:=ZlW h
  rw [he]
  unfold Zah at hq ⊢
  split at hq
  · rename_i last hs
    simp only [Bool.and_eq_true,decide_eq_true_eq] at hq
    have:=Znj (y:=⟨q.next,x.fr,x.text,x.to_⟩) hs (by simp only [];omega) h9 hx
    rw [this]
    simp only [Bool.and_eq_true,decide_eq_true_eq,List.length_append,List.length_singleton]
    omega
  · cases hq
structure QLf where
  p:Option Addr
  ys:List DItem
  xs:List DItem
  cells:Cells
theorem Zs9 :∀{ids:List Int} {b l:Int},asc b l ids=true→ids.Nodup
  | [],_,_,_=>by simp
  | x :: r,b,l,h=>by
    simp only [asc,Bool.and_eq_true,decide_eq_true_eq] at h
    rw [List.nodup_cons]
    exact ⟨fun hm=>by have:=Zm2 h.2 hm;omega,Zs9 h.2⟩
theorem Zmo {q:DQueue} (h:Zah q=true):(q.items.map (·.id)).Nodup:=by
  rw [ZcJ] at h
  simp only [Bool.and_eq_true] at h
  exact Zs9 h.2
theorem ZdI {q:DQueue} (h:Zah q=true) {x:DItem} (hx:x∈q.items):ZcB x=true:=by
  rw [ZcJ] at h
  simp only [Bool.and_eq_true] at h
  exact List.all_eq_true.1 h.1.2 x hx
theorem Ziv {x:DItem} (h:ZcB x=true):0<x.left.length∧x.left.Nodup:=by
  simp only [ZcB,ZaO,ZcK,Bool.and_eq_true,decide_eq_true_eq] at h
  exact ⟨h.1.2,h.1.1.2.1.2⟩
theorem ZkZ {id:Int} {u:Str} {x:DItem} (h : ¬ (x.id=id∧u∈x.left)):ZbK id u x=x:=by rw [ZbK,if_neg h]
theorem Zf7 {id:Int} {u:Str} :∀{xs:List DItem} {s:Str × Bool},(∀x,x∈xs→¬ (x.id=id∧u∈x.left))→xs.foldl (ZbW id u) s=s
  | [],_,_=>rfl
  | x :: xs,s,h=>by
    rw [List.foldl_cons,ZbW,if_neg (h x (List.mem_cons_self ..))]
    exact Zf7 fun y hy=>h y (List.mem_cons_of_mem _ hy)
theorem ZhZ {id:Int} {u:Str} {xs:List DItem} (h :∀x,x∈xs→¬ (x.id=id∧u∈x.left)) (hl :∀x,x∈xs→0<x.left.length):Zez id u xs=xs:=by
  have e:xs.map (ZbK id u)=xs:=by
    conv=>rhs;rw [← List.map_id xs]
    exact List.map_congr_left fun x hx=>ZkZ (h x hx)
  rw [Zez,e]
  exact List.filter_eq_self.2 fun x hx=>by simpa using hl x hx
theorem Zrt {q:DQueue} {id:Int} {u:Str} (hq:Zah q=true) (h :∀x,x∈q.items→¬ (x.id=id∧u∈x.left)):Zc3 q id u=(q,[],false):=by
  rw [Zc3,if_pos hq,Zb9,ZhZ h (fun x hx=>(Ziv (ZdI hq hx)).1),ZfD,Zf7 h]
theorem Zqf {q:DQueue} (hq:Zah q=true) {pre ys:List DItem} {y:DItem} (hs:pre ++ y :: ys=q.items):(∀x,x∈pre→x.id≠y.id)∧∀x,x∈ys→x.id≠y.id:=by
  have h:=Zmo hq
  rw [← hs,List.map_append,List.map_cons,List.nodup_append] at h
  obtain ⟨_,h2,h3⟩:=h
  rw [List.nodup_cons] at h2
  refine ⟨fun x hx=>h3 _ (List.mem_map.2 ⟨x,hx,rfl⟩) _ (List.mem_cons_self ..),fun x hx e=>h2.1 (List.mem_map.2 ⟨x,hx,e⟩)⟩
theorem Zmb {q:DQueue} (hq:Zah q=true) {pre ys:List DItem} {y:DItem} (hs:pre ++ y :: ys=q.items) {u:Str} (hu:u∈y.left) :
    Zc3 q y.id u=(⟨q.next,pre ++ (if 0<(without y.left u).length then ⟨y.id,y.fr,y.text,without y.left u⟩ :: ys else ys)⟩,y.text,true):=by
  obtain ⟨h1,h2⟩:=Zqf hq hs
  have hl :∀x,x∈q.items→0<x.left.length:=fun x hx=>(Ziv (ZdI hq hx)).1
  have n1 :∀x,x∈pre→¬ (x.id=y.id∧u∈x.left):=fun x hx e=>h1 x hx e.1
  have n2 :∀x,x∈ys→¬ (x.id=y.id∧u∈x.left):=fun x hx e=>h2 x hx e.1
  have l1:=ZhZ n1 (fun x hx=>hl x (by rw [← hs];exact List.mem_append_left _ hx))
  have l2:=ZhZ n2 (fun x hx=>hl x (by rw [← hs];exact List.mem_append_right _ (List.mem_cons_of_mem _ hx)))
  rw [Zc3,if_pos hq,Zb9,← hs]
  unfold Zez at l1 l2 ⊢
  unfold ZfD
  rw [List.foldl_append,Zf7 n1,List.foldl_cons,Zf7 n2,ZbW,if_pos ⟨rfl,hu⟩,List.map_append,List.map_cons,List.filter_append,l1,ZeI rfl hu,List.filter_cons,l2]
  simp only [decide_eq_true_eq]
theorem Zpq {q:DQueue} {id:Int} {u:Str} (h:(Zc3 q id u).2.2=true):Zah q=true∧∃pre y ys,pre ++ y :: ys=q.items∧y.id=id∧u∈y.left∧
    Zc3 q id u=(⟨q.next,pre ++ (if 0<(without y.left u).length then ⟨y.id,y.fr,y.text,without y.left u⟩ :: ys else ys)⟩,y.text,true):=by
  have hq:Zah q=true:=by
    cases hq:Zah q with
    | true=>rfl
    | false=>simp [Zc3,hq] at h
  refine ⟨hq,?_⟩
  by_cases hx :∀x,x∈q.items→¬ (x.id=id∧u∈x.left)
  · rw [Zrt hq hx] at h;cases h
  · simp only [Classical.not_forall,Classical.not_not] at hx
    obtain ⟨y,hy,hi,hu⟩:=hx
    obtain ⟨pre,ys,hs⟩:=List.append_of_mem hy
    exact ⟨pre,y,ys,hs.symm,hi,hu,by rw [← hi];exact Zmb hq hs.symm hu⟩
theorem Zsw :∀{ids:List Int} {b b' l:Int},b'≤b→asc b l ids=true→asc b' l ids=true
  | [],_,_,_,_,_=>rfl
  | x :: r,b,b',l,hb,h=>by
    simp only [asc,Bool.and_eq_true,decide_eq_true_eq] at h ⊢
    exact ⟨⟨by omega,h.1.2⟩,h.2⟩
theorem Zq0 :∀{a c:List Int} {b l x:Int},asc b l (a ++ x :: c)=true→asc b l (a ++ c)=true
  | [],c,b,l,x,h=>by
    simp only [List.nil_append,asc,Bool.and_eq_true,decide_eq_true_eq] at h ⊢
    exact Zsw (by omega) h.2
  | y :: a,c,b,l,x,h=>by
    simp only [List.cons_append,asc,Bool.and_eq_true,decide_eq_true_eq] at h ⊢
    exact ⟨h.1,Zq0 h.2⟩
theorem Zi9 {y:DItem} {u:Str} (h:ZcB y=true) (h0:0<(without y.left u).length):ZcB ⟨y.id,y.fr,y.text,without y.left u⟩=true:=by
  simp only [ZcB,ZaO,ZcK,Bool.and_eq_true,decide_eq_true_eq,List.all_eq_true] at h ⊢
  obtain ⟨⟨⟨h1,⟨h2,h3⟩,h4⟩,h5⟩,h6⟩:=h
  have:=ZhP y.left u
  exact ⟨⟨⟨h1,⟨fun x hx=>h2 x (List.mem_filter.1 hx).1,h3.filter _⟩,by omega⟩,h0⟩,h6⟩
theorem ZnX {q:DQueue} {id:Int} {u:Str} (h:(Zc3 q id u).2.2=true):Zah (Zc3 q id u).1=true:=by
  obtain ⟨hq,pre,y,ys,hs,hi,hu,he⟩:=Zpq h
  rw [he]
  have hq':=hq
  rw [ZcJ,← hs] at hq'
  rw [ZcJ]
  simp only [Bool.and_eq_true,decide_eq_true_eq,List.length_append,List.length_cons,List.all_append,List.all_cons,List.map_append,List.map_cons] at hq' ⊢
  obtain ⟨⟨⟨⟨h6,h1⟩,h2⟩,h3,h4,h5⟩,ha⟩:=hq'
  by_cases h0:0<(without y.left u).length
  · rw [if_pos h0]
    simp only [List.length_cons,List.all_cons,List.map_cons,Bool.and_eq_true]
    exact ⟨⟨⟨⟨by omega,h1⟩,h2⟩,h3,Zi9 h4 h0,h5⟩,ha⟩
  · rw [if_neg h0]
    exact ⟨⟨⟨⟨by omega,h1⟩,h2⟩,h3,h5⟩,Zq0 ha⟩
structure QN where
  k:Nat
  a:Option Addr
  c:Nat
end Go.BL
namespace Go.BL
open Go
set_option linter.unusedVariables false
set_option linter.unusedSimpArgs false
def ZbG (m:DMail):Bool:=(decide (1≤m.uid) && decide (m.uid≤99)) && (decide (0≤m.flags) && decide (m.flags≤31)) && decide (m.text.length≤20)
def scn {α β:Type} (p:β→α→Bool) (nx:β→α→β) (b0:β) (xs:List α):Bool × β:=xs.foldl (fun s x=>(s.1 && p s.2 x,nx s.2 x)) (true,b0)
theorem ZeM {α β:Type} {p:β→α→Bool} {nx:β→α→β} {b0:β} {xs:List α} : scn p nx b0 (xs.take 0)=(true,b0):=by simp [scn]
theorem Zng {α β:Type} {p:β→α→Bool} {nx:β→α→β} {b0:β} {xs:List α} {k:Nat} {x:α} (hx:xs[k]? = some x):scn p nx b0 (xs.take (k+1))=((scn p nx b0 (xs.take k)).1 && p (scn p nx b0 (xs.take k)).2 x,nx (scn p nx b0 (xs.take k)).2 x):=by
  have:xs.take (k+1)=xs.take k ++ [x]:=by rw [List.take_add_one,hx];rfl
  rw [this,scn,List.foldl_append];rfl
theorem Zca {α β:Type} {p:β→α→Bool} {nx:β→α→β} :∀(xs:List α) (b:β),(xs.foldl (fun (s:Bool × β) x=>(s.1 && p s.2 x,nx s.2 x)) (false,b)).1=false
  | [],_=>rfl
  | x :: xs,b=>by simp only [List.foldl_cons,Bool.false_and];exact Zca xs _
theorem Ztn {α β:Type} {p:β→α→Bool} {nx:β→α→β} {b0:β} {xs:List α} {k:Nat} (h:(scn p nx b0 (xs.take k)).1=false):(scn p nx b0 xs).1=false:=by
  have e:xs=xs.take k ++ xs.drop k:=(List.take_append_drop k xs).symm
  have:scn p nx b0 xs=(xs.drop k).foldl (fun s x=>(s.1 && p s.2 x,nx s.2 x)) (scn p nx b0 (xs.take k)):=by
    conv=>lhs;rw [e,scn,List.foldl_append]
    rfl
  rw [this]
  rcases hs:scn p nx b0 (xs.take k) with ⟨b,c⟩
  rw [hs] at h
  simp only at h
  subst h
  exact Zca _ _
theorem ZfJ {α β:Type} {p:β→α→Bool} {nx:β→α→β} {b0:β} {xs:List α} {k:Nat} {x:α} (hx:xs[k]? = some x) (h:p (scn p nx b0 (xs.take k)).2 x=false):(scn p nx b0 xs).1=false:=
  Ztn (k:=k+1) (by rw [Zng hx,h,Bool.and_false])
theorem Zcg {α β:Type} {p:β→α→Bool} {nx:β→α→β} {b0 b:β} {xs:List α} {k:Nat} {x:α} (hx:xs[k]? = some x) (hs:scn p nx b0 (xs.take k)=(true,b)) (h:p b x=true):scn p nx b0 (xs.take (k+1))=(true,nx b x):=by
  rw [Zng hx,hs];simp [h]
theorem ZdP {α β:Type} {p:β→α→Bool} {nx:β→α→β} {b0 b:β} {xs:List α} {k:Nat} (hs:scn p nx b0 (xs.take k)=(true,b)) (hk:xs.length≤k):scn p nx b0 xs=(true,b):=by
  rwa [List.take_of_length_le hk] at hs
def ZbQ (b:Int) (m:DMail):Bool:=ZbG m && decide (b<m.uid)
def Zch (ms:List DMail):Bool × Int:=scn ZbQ (fun _ m=>m.uid) 0 ms
def Zbl (b:DBox):Bool:=(Zch b.mail).1 && (decide ((Zch b.mail).2+1≤b.next) && decide (b.next≤100)) && decide (b.mail.length≤10)
def Zap (ms:List DMail):Nat:=(ms.map (·.text.length)).sum
theorem Zh4 {ms:List DMail} {k:Nat} {x:DMail} (hx:ms[k]? = some x):Zap (ms.take (k+1))=Zap (ms.take k)+x.text.length:=by
  have:ms.take (k+1)=ms.take k ++ [x]:=by rw [List.take_add_one,hx];rfl
  simp [Zap,this]
theorem Zgr {b:DBox} (h:(Zch b.mail).1=false):Zbl b=false:=by simp [Zbl,h]
theorem Zdu {b:DBox} {l:Int} (h:Zch b.mail=(true,l)):Zbl b=((decide (l+1≤b.next) && decide (b.next≤100)) && decide (b.mail.length≤10)):=by simp [Zbl,h]
theorem ZjE {m:DMail} (h:ZbG m=true):0≤m.uid∧m.uid≤99:=by
  simp only [ZbG,Bool.and_eq_true,decide_eq_true_eq] at h;omega
theorem Zjs {ms:List DMail} {k n:Nat} (h:n=Zap (ms.take k)) (hk:ms.length≤k):n=Zap ms:=by rwa [List.take_of_length_le hk] at h
def ZdW (b:DBox):Int:=if Zbl b then (Zap b.mail:Int) else -1
def anyone:Str:=[97,110,121,111,110,101]
def Zcu (u:DUser):Bool:=Zaq u.name && decide (u.name≠anyone) && Zaq u.pass && (decide (0≤u.quota) && decide (u.quota≤200))
theorem Zbq :∀(a b:Str),Op.bytesLess a b = !(Op.bytesLess b a || decide (b=a))
  | [],[]=>by simp [Op.bytesLess]
  | [],_ :: _=>by simp [Op.bytesLess]
  | _ :: _,[]=>by simp [Op.bytesLess]
  | a :: x,b :: y=>by
    have ih:=Zbq x y
    simp only [Op.bytesLess,ih]
    rcases UInt8.lt_or_lt_of_ne (a:=a) (b:=b) with h
    by_cases e:a=b
    · subst e
      have : ¬ a<a:=UInt8.lt_irrefl a
      simp [this,ih]
    · rcases h e with h | h
      · have h2 : ¬ b<a:=UInt8.lt_asymm h
        simp [h,h2,e,Ne.symm e]
      · have h2 : ¬ a<b:=UInt8.lt_asymm h
        simp [h,h2,e]
def Zdl (b:Str) (u:DUser):Bool:=Zcu u && Op.bytesLess b u.name
def ZdE (us:List DUser):Bool × Str:=scn Zdl (fun _ u=>u.name) [] us
def Zaw (us:List DUser):Bool:=(ZdE us).1 && (decide (1≤us.length) && decide (us.length≤4))
theorem ZfB {us:List DUser} (h:(ZdE us).1=false):Zaw us=false:=by simp [Zaw,h]
theorem ZhU {us:List DUser} {b:Str} (h:ZdE us=(true,b)):Zaw us=(decide (1≤us.length) && decide (us.length≤4)):=by simp [Zaw,h]
def ZpS:DUser:=⟨[],[],0⟩
def ZfV (t:DUser→Bool) (us:List DUser):DUser × Bool:=match us.find? t with | some x=>(x,true) | none=>(ZpS,false)
theorem ZlJ {α:Type} {t:α→Bool} {xs:List α} (h :∀y,y∈xs→t y=false):xs.find? t=none:=List.find?_eq_none.2 fun y hy=>by simp [h y hy]
theorem Zsj {α:Type} {t:α→Bool} {xs:List α} {k:Nat} {x:α} (hx:xs[k]? = some x) (ht:t x=true) (h :∀y,y∈xs.take k→t y=false):xs.find? t=some x:=by
  have hlt:=(List.getElem?_eq_some_iff.1 hx).1
  have e:xs=xs.take k ++ (x :: xs.drop (k+1)):=by
    rw [← (List.getElem?_eq_some_iff.1 hx).2,← List.drop_eq_getElem_cons hlt,List.take_append_drop]
  rw [e,List.find?_append,ZlJ h];simp [ht]
theorem ZqB {t:DUser→Bool} {us:List DUser} {k:Nat} {x:DUser} (hx:us[k]? = some x) (ht:t x=true) (h :∀y,y∈us.take k→t y=false):ZfV t us=(x,true):=by simp [ZfV,Zsj hx ht h]
theorem ZoL {t:DUser→Bool} {us:List DUser} (h :∀y,y∈us→t y=false):ZfV t us=(ZpS,false):=by simp [ZfV,ZlJ h]
theorem Zj5 {B:Kn} {b:Nat} {T:TypeId} {vs:List Value} (h :∀p,p∈Zbm b vs T→B.mem p.1=some p.2):Zbv B b 0 vs:=fun L j u hu=>
  ⟨rfl,vs.toArray,T,(0,0),.inl (h (b,.cells vs.toArray T) (List.mem_singleton.2 rfl)),by simpa using hu⟩
def ZaX (us:List DUser) (n:Str):DUser × Bool:=if Zaw us then ZfV (fun y=>decide (y.name=n)) us else (ZpS,false)
def inF (o n:Str) (f:DFolder):Bool:=decide (f.owner=o) && decide (f.name=n)
def Zda (us:List DUser) (x:DItem):Bool:=(ZaX us x.fr).2 && x.left.all fun n=>(ZaX us n).2
theorem ZcU {α:Type} {p:α→Bool} {xs:List α} {k:Nat} {x:α} (hx:xs[k]? = some x) (h:p x=false):xs.all p=false:=by
  rw [List.all_eq_false];exact ⟨x,List.mem_of_getElem? hx,by simp [h]⟩
theorem Zet {α:Type} {p:α→Bool} {xs:List α} (h :∀y,y∈xs→p y=true):xs.all p=true:=List.all_eq_true.2 h
def ZbY (a b:DFolder):Bool:=Op.bytesLess a.owner b.owner || (decide (a.owner=b.owner) && Op.bytesLess a.name b.name)
theorem ZcS (a:Str):Op.bytesLess a a=false:=by
  have:=Zbq a a
  cases h:Op.bytesLess a a with
  | false=>rfl
  | true=>rw [h] at this;simp at this
end Go.BL
namespace Go.BL
open Go
set_option linter.unusedVariables false
set_option linter.unusedSimpArgs false
inductive Prev {α β:Type} (f:α→β) (z:β) (xs:List α):Nat→β→Prop
  | zero:Prev f z xs 0 z
  | succ {k:Nat} {x:α} : xs[k]? = some x→Prev f z xs (k+1) (f x)
theorem Prev.at {α β:Type} {f:α→β} {z:β} {xs:List α} {k:Nat} {b:β} {y:α} (h:Prev f z xs k b) (hy:xs[((k:Int) - 1).toNat]? = some y) (hk:0<(k:Int)):b=f y:=by
  cases h with
  | zero=>omega
  | succ hx=>
    rename_i k x
    rw [show (((k+1:Nat):Int) - 1).toNat=k from by omega,hx] at hy
    cases hy;rfl
theorem Prev.at0 {α β:Type} {f:α→β} {z:β} {xs:List α} {k:Nat} {b:β} (h:Prev f z xs k b) (hk:(k:Int)≤0):b=z:=by
  cases h with
  | zero=>rfl
  | succ hx=>omega
theorem Zhv {α β:Type} {p:β→α→Bool} {nx:β→α→β} {b0 b:β} {xs:List α} {k:Nat} {x:α} (hx:xs[k]? = some x) (hs:scn p nx b0 (xs.take k)=(true,b)) (h:p b x=false):(scn p nx b0 xs).1=false:=
  ZfJ hx (by rw [congrArg Prod.snd hs];exact h)
theorem Zdk {us:List DUser} {k:Nat} {x:DUser} {nm:Str} (hx:us[k]? = some x) (hs:ZdE (us.take k)=(true,nm)) (h:Zdl nm x=false):Zaw us=false:=
  ZfB (Zhv hx hs h)
theorem Znr {s:Str} (h:0<s.length):Op.bytesLess [] s=true:=by
  cases s with
  | nil=>cases h
  | cons a s=>rfl
theorem ZjC {s:Str} (h:Zaq s=true):0<s.length:=by
  cases s with
  | nil=>simp [Zaq] at h
  | cons a s=>simp
def Zcs (b:Str) (g:DGrant):Bool:=Zaq g.user && (decide (1≤g.rights) && decide (g.rights≤63)) && Op.bytesLess b g.user
def ZcZ (gs:List DGrant):Bool × Str:=scn Zcs (fun _ g=>g.user) [] gs
def ZbR (gs:List DGrant):Bool:=(ZcZ gs).1 && decide (gs.length≤4)
theorem Zdy {gs:List DGrant} {k:Nat} {x:DGrant} {nm:Str} (hx:gs[k]? = some x) (hs:ZcZ (gs.take k)=(true,nm)) (h:Zcs nm x=false):ZbR gs=false:=by
  rw [ZbR,show (ZcZ gs).1=false from Zhv hx hs h,Bool.false_and]
theorem Zl0 {gs:List DGrant} {b:Str} (h:ZcZ gs=(true,b)):ZbR gs=decide (gs.length≤4):=by rw [ZbR,h,Bool.true_and]
def DFolder.box (f:DFolder):DBox:=⟨f.next,f.mail⟩
def inbox:Str:=[105,110,98,111,120]
def Z6 (us:List DUser) (f:DFolder):Bool:=decide (0≤ZcC us f.owner) && Zaq f.name && ZbR f.grants && Zbl f.box
def ZbT (us:List DUser) (b:Option DFolder) (f:DFolder):Bool:=Z6 us f && (match b with | none=>true | some y=>ZbY y f)
def Zdh (us:List DUser) (fs:List DFolder):Bool × Option DFolder:=scn (ZbT us) (fun _ f=>some f) none fs
def Zce (us:List DUser) (fs:List DFolder):Bool:=(Zdh us fs).1 && decide (fs.length≤8)
theorem ZcD {us:List DUser} {fs:List DFolder} {k:Nat} {x:DFolder} {b:Option DFolder} (hx:fs[k]? = some x) (hs:Zdh us (fs.take k)=(true,b)) (h:ZbT us b x=false):Zce us fs=false:=by
  rw [Zce,show (Zdh us fs).1=false from Zhv hx hs h,Bool.false_and]
theorem Zkr {us:List DUser} {fs:List DFolder} {b:Option DFolder} (h:Zdh us fs=(true,b)):Zce us fs=decide (fs.length≤8):=by rw [Zce,h,Bool.true_and]
def Zbb (fs:List DFolder) (u:Str):Nat:=(fs.map fun f=>if f.owner=u then Zap f.mail else 0).sum
theorem Zjn {fs:List DFolder} {u:Str} {k:Nat} {x:DFolder} (hx:fs[k]? = some x):Zbb (fs.take (k+1)) u=Zbb (fs.take k) u+if x.owner=u then Zap x.mail else 0:=by
  have:fs.take (k+1)=fs.take k ++ [x]:=by rw [List.take_add_one,hx];rfl
  simp [Zbb,this]
theorem Zpo {fs:List DFolder} {u:Str} {k n:Nat} (h:n=Zbb (fs.take k) u) (hk:fs.length≤k):n=Zbb fs u:=by rwa [List.take_of_length_le hk] at h
def Zgl (us:List DUser) (ns:List Str):Bool:=ns.all fun n=>decide (0≤ZcC us n)
def ZaR (fs:List DFolder) (u:DUser):Bool:=decide (0≤Za6 (inF u.name inbox) fs) && decide ((Zbb fs u.name:Int)≤u.quota)
def ZaH (us:List DUser) (x:DItem):Bool:=decide (0≤ZcC us x.fr) && Zgl us x.left
def Zz (h:DHost):Bool:=Zcj h.domain && Zaw h.users && Zah h.queue && Zce h.users h.folders && h.users.all (ZaR h.folders) && h.queue.items.all (ZaH h.users)
theorem ZS {B:Kn} {q:Option Addr} {cp:Nat} {ms:List DMail} (h:SlK B q cp 3 ZD ms):Zap ms≤4000000000000:=by
  have h1 :∀m,m∈ms→m.text.length≤2000000:=fun m hm=>by
    obtain ⟨i,hi⟩:=List.mem_iff_getElem?.1 hm
    obtain ⟨b,o,row,_,h2,_⟩:=h.rows i m hi
    exact h2.2
  have h2 :∀l:List DMail,(∀m,m∈l→m.text.length≤2000000)→Zap l≤l.length*2000000:=by
    intro l
    induction l with
    | nil=>intro _;simp [Zap]
    | cons m l ih=>
      intro hl
      have:=ih fun y hy=>hl y (List.mem_cons_of_mem _ hy)
      have:=hl m (List.mem_cons_self ..)
      simp only [Zap,List.map_cons,List.sum_cons,List.length_cons] at *
      omega
  have:=h2 ms h1
  have:=h.len
  omega
theorem Ziy {h:DHost} {k:Nat} {u:DUser} (hu:h.users[k]? = some u) (hf:ZaR h.folders u=false):Zz h=false:=by
  rw [Zz,ZcU hu hf,Bool.and_false,Bool.false_and]
theorem Ziz {h:DHost} {k:Nat} {y:DItem} (hy:h.queue.items[k]? = some y) (hf:ZaH h.users y=false):Zz h=false:=by
  rw [Zz,ZcU hy hf,Bool.and_false]
theorem ZoB {h:DHost} (h1:Zcj h.domain=true) (h2:Zaw h.users=true) (h3:Zah h.queue=true) (h4:Zce h.users h.folders=true) (h5:h.users.all (ZaR h.folders)=true) (h6:h.queue.items.all (ZaH h.users)=true):Zz h=true:=by
  rw [Zz,h1,h2,h3,h4,h5,h6];rfl
theorem ZkU {fs:List DFolder} {u:DUser} (h:Za6 (inF u.name inbox) fs<0):ZaR fs u=false:=by
  rw [ZaR,decide_eq_false (by omega),Bool.false_and]
theorem ZkT {fs:List DFolder} {u:DUser} (h:u.quota<Zbb fs u.name):ZaR fs u=false:=by
  rw [ZaR,decide_eq_false (p:=(Zbb fs u.name:Int)≤u.quota) (by omega),Bool.and_false]
theorem ZkS {fs:List DFolder} {u:DUser} (h:0≤Za6 (inF u.name inbox) fs) (h':(Zbb fs u.name:Int)≤u.quota):ZaR fs u=true:=by
  rw [ZaR,decide_eq_true h,decide_eq_true h'];rfl
theorem Zkj {us:List DUser} {x:DItem} (h:ZcC us x.fr<0):ZaH us x=false:=by rw [ZaH,decide_eq_false (by omega),Bool.false_and]
theorem Zki {us:List DUser} {x:DItem} (h:Zgl us x.left=false):ZaH us x=false:=by rw [ZaH,h,Bool.and_false]
theorem Zkh {us:List DUser} {x:DItem} (h:0≤ZcC us x.fr) (h':Zgl us x.left=true):ZaH us x=true:=by rw [ZaH,decide_eq_true h,h'];rfl
theorem Zdf :∀{a b c:Str},Op.bytesLess a b=true→Op.bytesLess b c=true→Op.bytesLess a c=true
  | [],[],_,h,_=>by simp [Op.bytesLess] at h
  | _ :: _,[],_,h,_=>by simp [Op.bytesLess] at h
  | _,_ :: _,[],_,h=>by simp [Op.bytesLess] at h
  | [],_ :: _,_ :: _,_,_=>by simp [Op.bytesLess]
  | a :: x,b :: y,c :: z,h,h'=>by
    simp only [Op.bytesLess,Bool.or_eq_true,decide_eq_true_eq,Bool.and_eq_true,beq_iff_eq] at h h' ⊢
    rcases h with h | ⟨rfl,h⟩
    · rcases h' with h' | ⟨rfl,h'⟩
      · exact .inl (UInt8.lt_trans h h')
      · exact .inl h
    · rcases h' with h' | ⟨rfl,h'⟩
      · exact .inl h'
      · exact .inr ⟨rfl,Zdf h h'⟩
def ZeB (gs:List DGrant):List (Str × Int):=gs.map fun g=>(g.user,g.rights)
theorem Zhe :∀(xs:List DGrant) (b0 b:Str),xs.foldl (fun s x=>(s.1 && Zcs s.2 x,x.user)) (true,b0)=(true,b)→(∀y,y∈xs→y.user=b∨Op.bytesLess y.user b=true)∧(b=b0∨Op.bytesLess b0 b=true)
  | [],b0,b,h=>by
    cases h;exact ⟨by simp,.inl rfl⟩
  | x :: xs,b0,b,h=>by
    simp only [List.foldl_cons,Bool.true_and] at h
    cases hp:Zcs b0 x with
    | false=>
      rw [hp] at h
      have:=Zca (p:=Zcs) (nx:=fun _ g=>g.user) xs x.user
      rw [h] at this;cases this
    | true=>
      rw [hp] at h
      obtain ⟨h1,h2⟩:=Zhe xs x.user b h
      have hl:Op.bytesLess b0 x.user=true:=by
        simp only [Zcs,Bool.and_eq_true] at hp;exact hp.2
      refine ⟨fun y hy=>?_,.inr ?_⟩
      · rcases List.mem_cons.1 hy with rfl | hy
        · rcases h2 with h2 | h2
          · exact .inl h2.symm
          · exact .inr h2
        · exact h1 y hy
      · rcases h2 with rfl | h2
        · exact hl
        · exact Zdf hl h2
theorem ZrO {kvs:List (Str × Int)} {k:Str} {v:Int} (h:k ∉ kvs.map (·.1)):mput kvs k v=kvs ++ [(k,v)]:=by
  induction kvs with
  | nil=>rfl
  | cons p r ih=>
    simp only [List.map_cons,List.mem_cons,not_or] at h
    simp only [mput,if_neg h.1,ih h.2,List.cons_append]
theorem ZtN {gs:List DGrant} {k:Nat} {m:DGrant} {nm:Str} (hm:gs[k]? = some m) (hs:ZcZ (gs.take k)=(true,nm)) (hl:Op.bytesLess nm m.user=true):mput (ZeB (gs.take k)) m.user m.rights=ZeB (gs.take (k+1)):=by
  have h1:=(Zhe _ _ _ hs).1
  rw [ZrO]
  · rw [ZeB,ZeB,List.take_add_one,hm];simp
  · intro hc
    simp only [ZeB,List.map_map,List.mem_map,Function.comp] at hc
    obtain ⟨y,hy,e⟩:=hc
    rcases h1 y hy with h | h
    · rw [← e,h,ZcS] at hl;cases hl
    · rw [e] at h
      have:=Zdf hl h
      rw [ZcS] at this;cases this
def Zm4 (gs:List DGrant) (B:Kn):Value→Kn→List Cells→Prop:=fun v B' Ls=>∃m l,v = .tuple #[.map m,.bool (ZbR gs)]∧Ls=[l]∧B'=B∧(ZbR gs=true→∃b,m=some b∧Zun l b (ZeB gs))
theorem ZiO {P:PJ} {S:Env} {B:Kn} {L:List Cells} {rs:List ResultVar} {gs:List DGrant} (e:Exit) (he:e = .ret∨e = .normal) (vs:List Value) (hr:Zew P S B L rs vs) (h:ZbR gs=false) (hv:ZdX vs = .tuple #[.map none,.bool false]:=by rfl):ZgS P rs (Zm4 gs B) e S [] B L:=
  Zt6 e he vs hr ⟨none,[],by rw [hv,h],rfl,rfl,fun hc=>by rw [h] at hc;cases hc⟩
theorem Zt5 {P:PJ} {S:Env} {B:Kn} {L:List Cells} {rs:List ResultVar} {gs:List DGrant} (e:Exit) (he:e = .ret∨e = .normal) (vs:List Value) {b:Nat} {l:Cells} {r:List Cells} (hp:ZbS L [0]=some ([l],r)) (hr:Zew P S B L rs vs) (h:ZbR gs=true) (hm:Zun l b (ZeB gs)) (hv:ZdX vs = .tuple #[.map (some b),.bool true]:=by rfl):ZgS P rs (Zm4 gs B) e S [] B L:=
  Zag e he vs [0] hp hr ⟨some b,l,by rw [hv,h],rfl,rfl,fun _=>⟨b,rfl,hm⟩⟩
def Zvk (f:DFolder) (ow nm:Str):Int:=if Lib.compareBytes f.owner ow≠0 then Lib.compareBytes f.owner ow else Lib.compareBytes f.name nm
theorem ZlO (f g:DFolder):0≤Zvk f g.owner g.name↔ZbY f g=false:=by
  have h1:=ZmZ f.owner g.owner
  have h2:=ZmZ f.name g.name
  unfold Zvk ZbY
  by_cases e:f.owner=g.owner
  · have e0:=h1.2.2 e
    have e1:Op.bytesLess f.owner g.owner=false:=by rw [e];exact ZcS _
    rw [if_neg (fun h=>h e0),e1,decide_eq_true e,Bool.true_and,Bool.false_or,Bool.eq_false_iff,ne_eq,← h2.1];omega
  · have e0:Lib.compareBytes f.owner g.owner≠0:=fun h=>e (h1.2.1 h)
    rw [if_pos e0,decide_eq_false e,Bool.false_and,Bool.or_false,Bool.eq_false_iff,ne_eq,← h1.1];omega
def ZfC (fs:List DFolder) (u:Str):Int:=(fs.map fun f=>if f.owner=u then ZdW ⟨f.next,f.mail⟩ else 0).sum
theorem Zjm {fs:List DFolder} {u:Str} {k:Nat} {x:DFolder} (hx:fs[k]? = some x):ZfC (fs.take (k+1)) u=ZfC (fs.take k) u+if x.owner=u then ZdW ⟨x.next,x.mail⟩ else 0:=by
  have:fs.take (k+1)=fs.take k ++ [x]:=by rw [List.take_add_one,hx];rfl
  simp [ZfC,this]
theorem Zpl {fs:List DFolder} {u:Str} {k:Nat} {n:Int} (h:n=ZfC (fs.take k) u) (hk:fs.length≤k):n=ZfC fs u:=by rwa [List.take_of_length_le hk] at h
theorem Zns :∀(xs:List DMail) (b0 b:Int),xs.foldl (fun s x=>(s.1 && ZbQ s.2 x,x.uid)) (true,b0)=(true,b)→∀y,y∈xs→ZbG y=true
  | [],_,_,_,_,h=>by cases h
  | x :: xs,b0,b,h,y,hy=>by
    simp only [List.foldl_cons,Bool.true_and] at h
    cases hp:ZbQ b0 x with
    | false=>
      rw [hp] at h
      have:=Zca (p:=ZbQ) (nx:=fun _ m=>m.uid) xs x.uid
      rw [h] at this;cases this
    | true=>
      rw [hp] at h
      rcases List.mem_cons.1 hy with rfl | hy
      · simp only [ZbQ,Bool.and_eq_true] at hp;exact hp.1
      · exact Zns xs x.uid b h y hy
theorem Zdt {b:DBox} (h:Zbl b=true):(∀y,y∈b.mail→ZbG y=true)∧b.mail.length≤10:=by
  simp only [Zbl,Bool.and_eq_true,decide_eq_true_eq] at h
  exact ⟨Zns b.mail 0 (Zch b.mail).2 (Prod.ext h.1.1 rfl),h.2⟩
theorem ZfH :∀l:List DMail,(∀m,m∈l→ZbG m=true)→Zap l≤l.length*20
  | [],_=>by simp [Zap]
  | m :: l,h=>by
    have h1:=ZfH l fun y hy=>h y (List.mem_cons_of_mem _ hy)
    have h2:=h m (List.mem_cons_self ..)
    simp only [ZbG,Bool.and_eq_true,decide_eq_true_eq] at h2
    simp only [Zap,List.map_cons,List.sum_cons,List.length_cons] at *
    omega
theorem ZjT (b:DBox) : -1≤ZdW b∧ZdW b≤200:=by
  unfold ZdW
  split
  · rename_i h
    obtain ⟨h1,h2⟩:=Zdt h
    have:=ZfH _ h1
    omega
  · omega
theorem Zrs (fs:List DFolder) (u:Str) : -1*fs.length≤ZfC fs u∧ZfC fs u≤fs.length*200:=by
  induction fs with
  | nil=>simp [ZfC]
  | cons f fs ih=>
    have:=ZjT ⟨f.next,f.mail⟩
    simp only [ZfC,List.map_cons,List.sum_cons,List.length_cons] at *
    split <;> omega
def Zer (x:DHost) (u:Str) (more:Int):Bool:=!(ZaX x.users u).2 || decide ((ZaX x.users u).1.quota<ZfC x.folders u+more)
def ZcR (x:DHost) (w:DUser):Bool:=decide (0≤Za6 (inF w.name inbox) x.folders) && !Zer x w.name 0
theorem ZkX {x:DHost} {w:DUser} (h:Za6 (inF w.name inbox) x.folders<0):ZcR x w=false:=by rw [ZcR,decide_eq_false (by omega),Bool.false_and]
theorem ZkW {x:DHost} {w:DUser} (h:Zer x w.name 0=true):ZcR x w=false:=by rw [ZcR,h];simp
theorem ZkV {x:DHost} {w:DUser} (h:0≤Za6 (inF w.name inbox) x.folders) (h':Zer x w.name 0=false):ZcR x w=true:=by rw [ZcR,h',decide_eq_true h];rfl
def ZhV (x:DHost):Bool:=x.users.all (ZcR x)
def Zm5:Rel Bool:=fun _ row x=>row=[.bool x]
theorem Zm5.mono:Mono Zm5:=fun _ _ _ h=>h
theorem Zm5.one {B:Kn} :∀row y,Zm5 B row y→row.all Zhm=true∧row.length=1:=by rintro _ y rfl;exact ⟨rfl,rfl⟩
def ZaY (us:List DUser) (f:DFolder):Bool:=(ZaX us f.owner).2 && Zaq f.name && ZbR f.grants && Zbl f.box
theorem Zhx (C i:Nat):(some (ptr (Addr.add ⟨C,0,none⟩ ((i:Int).toNat*1))):Option Value)=some (ptr ⟨C,i,none⟩):=by
  rw [Addr.add_off _ _ rfl];simp
def Zrc (x:DHost) (i:Nat):Value:=.bool (match x.folders[i]? with | some m=>ZaY x.users m | none=>false)
theorem Znc {x:DHost} {i:Nat} {m:DFolder} (h:x.folders[i]? = some m):Zrc x i = .bool (ZaY x.users m):=by simp [Zrc,h]
theorem Zpj {B:Kn} {x:DHost} {C:Nat} {T:TypeId} (hm :∀p,p∈[(C,Obj.cells ((List.range x.folders.length).map (Zrc x)).toArray T (0,0))]→B.mem p.1=some p.2) (hl:x.folders.length≤2000000):SlK B (some ⟨C,0,none⟩) (x.folders.map (ZaY x.users)).length 1 Zm5 (x.folders.map (ZaY x.users)):=by
  refine ⟨fun i y hy=>⟨C,0,[.bool y],rfl,rfl,fun j u hu=>?_⟩,by simp,by simpa using hl⟩
  have hj:j=0:=by
    cases j with
    | zero=>rfl
    | succ j=>simp at hu
  subst hj
  simp only [List.getElem?_cons_zero,Option.some.injEq] at hu
  subst hu
  rw [List.getElem?_map] at hy
  obtain ⟨m,hm',rfl⟩:=Option.map_eq_some_iff.1 hy
  have hi:i<x.folders.length:=(List.getElem?_eq_some_iff.1 hm').1
  refine ⟨rfl,_,T,(0,0),.inl (hm _ (List.mem_singleton.2 rfl)),?_⟩
  simp only [Nat.mul_one,Nat.zero_add,Nat.add_zero,List.getElem?_toArray,List.getElem?_map,List.getElem?_range hi,Option.map_some,Znc hm']
theorem ZkG {us:List DUser} {fs:List DFolder} : (!decide (0≤Za6 (fun y=>decide (false=y)) (fs.map (ZaY us))))=fs.all (ZaY us):=by
  by_cases h :∀f,f∈fs→ZaY us f=true
  · rw [List.all_eq_true.2 h,ZeY (fun y hy=>by
      obtain ⟨f,hf,rfl⟩:=List.mem_map.1 hy
      simp [h f hf])]
    rfl
  · have h2:fs.all (ZaY us)=false:=by
      rw [Bool.eq_false_iff,ne_eq,List.all_eq_true];exact h
    rw [h2]
    have h3 :∃k,(fs.map (ZaY us)).findIdx? (fun y=>decide (false=y))=some k:=by
      cases hk:(fs.map (ZaY us)).findIdx? (fun y=>decide (false=y)) with
      | some k=>exact ⟨k,rfl⟩
      | none=>
        exfalso;apply h
        intro f hf
        have:=List.findIdx?_eq_none_iff.1 hk (ZaY us f) (List.mem_map_of_mem hf)
        cases hq:ZaY us f with
        | true=>rfl
        | false=>rw [hq] at this;simp at this
    obtain ⟨k,hk⟩:=h3
    have e:Za6 (fun y=>decide (false=y)) (fs.map (ZaY us))=(k:Int):=by unfold Za6;rw [hk]
    rw [e];simp
def Zgu:List DFolder→Bool
  | []=>true
  | [_]=>true
  | a :: b :: r=>ZbY a b && Zgu (b :: r)
def Zdq (x:DHost):Bool:=Zcj x.domain && Zaw x.users && Zah x.queue && decide (x.folders.length≤8) && Zgu x.folders && (x.folders.all (ZaY x.users) && ZhV x && x.queue.items.all (Zda x.users))
def ZsK (fs:List DFolder) (k:Nat):Prop:=∀i a b,i<k→fs[i]? = some a→fs[i+1]? = some b→ZbY a b=true
theorem Zoi {fs:List DFolder} : ZsK fs 0:=fun i a b h=>by omega
theorem Zoj {fs:List DFolder} {k:Nat} {x y:DFolder} (h:ZsK fs k) (hx:fs[k]? = some x) (hy:fs[k+1]? = some y) (hl:ZbY x y=true):ZsK fs (k+1):=fun i a b hi ha hb=>by
  rcases Nat.lt_or_ge i k with h' | h'
  · exact h i a b h' ha hb
  · obtain rfl:i=k:=by omega
    rw [hx] at ha;rw [hy] at hb
    cases ha;cases hb;exact hl
theorem Zhy :∀(fs:List DFolder),Zgu fs=true↔∀i a b,fs[i]? = some a→fs[i+1]? = some b→ZbY a b=true
  | []=>by simp [Zgu]
  | [_]=>by simp [Zgu]
  | x :: y :: r=>by
    rw [Zgu,Bool.and_eq_true,Zhy (y :: r)]
    constructor
    · rintro ⟨h1,h2⟩ i a b ha hb
      cases i with
      | zero=>simp at ha hb;rw [← ha,← hb];exact h1
      | succ i=>exact h2 i a b (by simpa using ha) (by simpa using hb)
    · intro h
      exact ⟨h 0 x y rfl rfl,fun i a b ha hb=>h (i+1) a b (by simpa using ha) (by simpa using hb)⟩
theorem ZrL {fs:List DFolder} {k:Nat} {x y:DFolder} (hx:fs[k]? = some x) (hy:fs[k+1]? = some y) (hl:ZbY x y=false):Zgu fs=false:=by
  rw [Bool.eq_false_iff,ne_eq,Zhy]
  intro h
  have:=h k x y hx hy
  rw [hl] at this;cases this
theorem ZrK {fs:List DFolder} (h :∀i a b,i<fs.length - 1→fs[i]? = some a→fs[i+1]? = some b→ZbY a b=true):Zgu fs=true:=
  (Zhy fs).2 fun i a b ha hb=>h i a b (by have:=(List.getElem?_eq_some_iff.1 hb).1;omega) ha hb
theorem ZfK {α:Type} {p:Str→α→Bool} {f:α→Str} (hp :∀b x,p b x=true→Op.bytesLess b (f x)=true) :∀(xs:List α) (b0 b:Str),xs.foldl (fun s x=>(s.1 && p s.2 x,f x)) (true,b0)=(true,b)→(∀y,y∈xs→Op.bytesLess b0 (f y)=true)∧xs.Pairwise (fun x y=>Op.bytesLess (f x) (f y)=true)
  | [],_,_,_=>⟨by simp,.nil⟩
  | x :: xs,b0,b,h=>by
    simp only [List.foldl_cons,Bool.true_and] at h
    cases hq:p b0 x with
    | false=>
      rw [hq] at h
      have:=Zca (p:=p) (nx:=fun _ g=>f g) xs (f x)
      rw [h] at this;cases this
    | true=>
      rw [hq] at h
      obtain ⟨h1,h2⟩:=ZfK hp xs (f x) b h
      refine ⟨fun y hy=>?_,.cons h1 h2⟩
      rcases List.mem_cons.1 hy with rfl | hy
      · exact hp _ _ hq
      · exact Zdf (hp _ _ hq) (h1 y hy)
theorem ZdN {us:List DUser} (h:Zaw us=true):us.Pairwise fun x y=>Op.bytesLess x.name y.name=true:=by
  simp only [Zaw,Bool.and_eq_true] at h
  exact (ZfK (p:=Zdl) (f:=fun u=>u.name) (fun b x hq=>by simp only [Zdl,Bool.and_eq_true] at hq;exact hq.2) us [] (ZdE us).2 (Prod.ext h.1 rfl)).2
theorem ZbB {us:List DUser} {u:Str} : 0≤ZcC us u↔∃x,x∈us∧x.name=u:=by
  unfold ZcC
  cases h:us.findIdx? (fun x=>decide (x.name=u)) with
  | none=>
    have:=List.findIdx?_eq_none_iff.1 h
    simp only [decide_eq_false_iff_not] at this
    exact ⟨fun hc=>absurd hc (by simp only [];omega),fun ⟨x,hx,e⟩=>absurd e (this x hx)⟩
  | some i=>
    rw [List.findIdx?_eq_some_iff_getElem] at h
    obtain ⟨hi,h1,_⟩:=h
    exact ⟨fun _=>⟨us[i],List.getElem_mem hi,by simpa using h1⟩,fun _=>by simp only [];omega⟩
theorem ZqA {us:List DUser} {t:DUser→Bool} : (ZfV t us).2=true↔∃x,x∈us∧t x=true:=by
  unfold ZfV
  cases h:us.find? t with
  | none=>simp only [Bool.false_eq_true,false_iff];rintro ⟨x,hx,e⟩;have:=List.find?_eq_none.1 h x hx;exact this e
  | some x=>simp only [true_iff];exact ⟨x,List.mem_of_find?_eq_some h,List.find?_some h⟩
theorem ZdF {us:List DUser} (h:Zaw us=true) (n:Str):(ZaX us n).2=decide (0≤ZcC us n):=by
  rw [ZaX,if_pos h,Bool.eq_iff_iff,ZqA,decide_eq_true_eq,ZbB];simp
theorem ZfU :∀{us:List DUser},us.Pairwise (fun x y=>Op.bytesLess x.name y.name=true)→∀w,w∈us→us.find? (fun y=>decide (y.name=w.name))=some w
  | [],_,w,h=>by cases h
  | x :: us,hp,w,h=>by
    cases hp with
    | cons h1 h2=>
      rw [List.find?_cons]
      rcases List.mem_cons.1 h with rfl | h
      · simp
      · have hne:x.name≠w.name:=fun e=>by
          have:=h1 w h
          rw [e,ZcS] at this;cases this
        simp only [hne,decide_false]
        exact ZfU h2 w h
theorem ZjZ {us:List DUser} (h:Zaw us=true) {w:DUser} (hw:w∈us):ZaX us w.name=(w,true):=by
  rw [ZaX,if_pos h,ZfV,ZfU (ZdN h) w hw]
theorem ZoK {us:List DUser} (h:Zaw us=true) (f:DFolder):ZaY us f=Z6 us f:=by
  rw [ZaY,Z6,ZdF h]
theorem Zey {us:List DUser} :∀(fs:List DFolder) (b0:Option DFolder),(fs.foldl (fun s x=>(s.1 && ZbT us s.2 x,some x)) (true,b0)).1=(fs.all (Z6 us) && Zgu ((match b0 with | none=>[] | some y=>[y]) ++ fs))
  | [],none=>rfl
  | [],some y=>rfl
  | x :: fs,b0=>by
    simp only [List.foldl_cons,Bool.true_and]
    have hstep:(fs.foldl (fun (s:Bool × Option DFolder) x=>(s.1 && ZbT us s.2 x,some x)) (ZbT us b0 x,some x)).1=(ZbT us b0 x && (fs.all (Z6 us) && Zgu (x :: fs))):=by
      cases hq:ZbT us b0 x with
      | false=>rw [Bool.false_and];exact Zca (p:=ZbT us) (nx:=fun _ f=>some f) fs (some x)
      | true=>rw [Bool.true_and];exact Zey fs (some x)
    rw [hstep]
    cases b0 with
    | none=>
      simp only [ZbT,Bool.and_true,List.all_cons,List.nil_append]
      cases Z6 us x <;> simp
    | some y=>
      simp only [ZbT,List.all_cons,List.cons_append,List.nil_append,Zgu]
      cases Z6 us x <;> cases ZbY y x <;> simp
theorem Zdr {us:List DUser} {fs:List DFolder} : Zce us fs=(fs.all (Z6 us) && Zgu fs && decide (fs.length≤8)):=by
  rw [Zce,show (Zdh us fs).1=_ from Zey fs none];rfl
theorem Znd {us:List DUser} {u:Str} :∀{fs:List DFolder},fs.all (Z6 us)=true→ZfC fs u=(Zbb fs u:Int)
  | [],_=>rfl
  | f :: fs,h=>by
    simp only [List.all_cons,Bool.and_eq_true] at h
    have ih:=Znd (u:=u) h.2
    have hb:Zbl ⟨f.next,f.mail⟩=true:=by
      have:=h.1;simp only [Z6,Bool.and_eq_true] at this;exact this.2
    simp only [ZfC,Zbb,List.map_cons,List.sum_cons] at ih ⊢
    rw [ih]
    by_cases he:f.owner=u
    · simp [he,ZdW,hb]
    · simp [he]
theorem Zma {x:DHost} (hu:Zaw x.users=true) (hf:x.folders.all (Z6 x.users)=true) {w:DUser} (hw:w∈x.users):ZcR x w=ZaR x.folders w:=by
  rw [ZcR,ZaR,Zer,ZjZ hu hw,Znd hf]
  simp only [Bool.not_true,Bool.false_or,Int.add_zero]
  congr 1
  rw [Bool.eq_iff_iff];simp
theorem ZmC {us:List DUser} (h:Zaw us=true) (y:DItem):Zda us y=ZaH us y:=by
  rw [Zda,ZaH,ZdF h,Zgl]
  simp only [ZdF h]
theorem Zq2 {α:Type} {p q:α→Bool} {xs:List α} (h :∀x,x∈xs→p x=q x):xs.all p=xs.all q:=by
  rw [Bool.eq_iff_iff,List.all_eq_true,List.all_eq_true]
  exact ⟨fun a x hx=>h x hx ▸ a x hx,fun a x hx=>(h x hx).symm ▸ a x hx⟩
theorem ZoC (x:DHost):Zdq x=Zz x:=by
  cases hu:Zaw x.users with
  | false=>simp [Zdq,Zz,hu]
  | true=>
    have e1:x.folders.all (ZaY x.users)=x.folders.all (Z6 x.users):=Zq2 fun f _=>ZoK hu f
    have e2:x.queue.items.all (Zda x.users)=x.queue.items.all (ZaH x.users):=Zq2 fun y _=>ZmC hu y
    rw [Zdq,Zz,hu,e1,e2,Zdr]
    cases hf:x.folders.all (Z6 x.users) with
    | false=>simp
    | true=>
      have e3:ZhV x=x.users.all (ZaR x.folders):=Zq2 fun w hw=>Zma hu hf hw
      rw [e3]
      cases Zcj x.domain <;> cases Zah x.queue <;> cases Zgu x.folders <;> cases decide (x.folders.length≤8) <;> simp
end Go.BL
namespace Go.BL
open Go
set_option linter.unusedVariables false
set_option linter.unusedSimpArgs false
theorem Zhc {x:DHost} (h:Zz x=true):Zaw x.users=true:=by
  simp only [Zz,Bool.and_eq_true] at h;exact h.1.1.1.1.2
theorem ZmI {x:DHost} (h:Zz x=true) (n:Str):(ZaX x.users n).2=decide (0≤ZcC x.users n):=ZdF (Zhc h) n
theorem Zsi {us:List DUser} {n:Str} (h:0≤ZcC us n) {x:DUser} (hx:us[(ZcC us n).toNat]? = some x):ZfV (fun y=>decide (y.name=n)) us=(x,true):=by
  unfold ZcC at h hx
  cases hf:us.findIdx? (fun x=>decide (x.name=n)) with
  | none=>rw [hf] at h;simp at h
  | some i=>
    rw [hf] at hx
    simp only [Int.toNat_natCast] at hx
    rw [List.findIdx?_eq_some_iff_getElem] at hf
    obtain ⟨hi,h1,h2⟩:=hf
    rw [List.getElem?_eq_getElem hi] at hx
    cases hx
    have:us.find? (fun y=>decide (y.name=n))=some us[i]:=by
      rw [List.find?_eq_some_iff_getElem]
      exact ⟨h1,i,hi,rfl,fun j hj=>by simpa using h2 j hj⟩
    rw [ZfV,this]
structure DSess where
  user:Str
  owner:Str
  name:Str
deriving DecidableEq
theorem Zkl (us:List DUser) (n:Str):ZcC us n<us.length∧ZcC us n ≥ -1:=by
  unfold ZcC
  cases hf:us.findIdx? (fun x=>decide (x.name=n)) with
  | none=>simp only [];omega
  | some i=>
    rw [List.findIdx?_eq_some_iff_getElem] at hf
    obtain ⟨hi,_⟩:=hf
    simp only [];omega
end Go.BL
namespace Go.BL
open Go
set_option linter.unusedVariables false
set_option linter.unusedSimpArgs false
def Zj8 (n:Str):DFolder:=⟨n,inbox,[],1,[]⟩
def ZpT (d:Str) (us:List DUser):DHost:=⟨d,us,us.map fun u=>Zj8 u.name,⟨1,[]⟩⟩
def Za5:DHost:=⟨[],[],[],⟨0,[]⟩⟩
def Zck (d:Str) (us:List DUser):DHost × Bool:=if Zcj d=true∧Zaw us=true then (ZpT d us,true) else (Za5,false)
theorem Zj1 {α β:Type} {p:β→α→Bool} {nx:β→α→β} :∀(xs:List α) (b:β),(xs.foldl (fun (s:Bool × β) x=>(s.1 && p s.2 x,nx s.2 x)) (true,b)).1=true→∀x,x∈xs→∃b',p b' x=true
  | [],_,_,x,hx=>by cases hx
  | x :: xs,b,h,y,hy=>by
    simp only [List.foldl_cons,Bool.true_and] at h
    cases hq:p b x with
    | false=>
      rw [hq] at h
      have:=Zca (p:=p) (nx:=nx) xs (nx b x)
      rw [this] at h;cases h
    | true=>
      rw [hq] at h
      rcases List.mem_cons.1 hy with rfl | hy
      · exact ⟨b,hq⟩
      · exact Zj1 xs _ h y hy
theorem Zg4 {us:List DUser} (h:Zaw us=true) {u:DUser} (hu:u∈us):Zcu u=true:=by
  simp only [Zaw,Bool.and_eq_true] at h
  obtain ⟨b,hb⟩:=Zj1 (p:=Zdl) (nx:=fun _ u=>u.name) us [] h.1 u hu
  simp only [Zdl,Bool.and_eq_true] at hb;exact hb.1
theorem Zno :∀{us:List DUser},us.Pairwise (fun x y=>Op.bytesLess x.name y.name=true)→Zgu (us.map fun u=>Zj8 u.name)=true
  | [],_=>rfl
  | [_],_=>rfl
  | a :: b :: r,h=>by
    cases h with
    | cons h1 h2=>
      have h3:=h1 b (List.mem_cons_self ..)
      show (ZbY (Zj8 a.name) (Zj8 b.name) && Zgu ((b :: r).map fun u=>Zj8 u.name))=true
      rw [Zno h2,Bool.and_true,ZbY]
      simp only [Zj8,h3,Bool.true_or]
theorem Zpm (us:List DUser) (n:Str):Zbb (us.map fun u=>Zj8 u.name) n=0:=by
  induction us with
  | nil=>rfl
  | cons u us ih=>
    simp only [Zbb,List.map_cons,List.sum_cons] at ih ⊢
    rw [ih]
    simp [Zj8,Zap]
theorem ZtA {us:List DUser} {u:DUser} (h:u∈us):0≤Za6 (inF u.name inbox) (us.map fun u=>Zj8 u.name):=
  ZdK.2 ⟨Zj8 u.name,List.mem_map.2 ⟨u,h,rfl⟩,by simp [inF,Zj8]⟩
theorem Zmt (d:Str) (us:List DUser):Zz (ZpT d us)=(Zcj d && Zaw us):=by
  cases hu:Zaw us with
  | false=>simp [Zz,ZpT,hu]
  | true=>
    have h1:Zce us (us.map fun u=>Zj8 u.name)=true:=by
      rw [Zdr,Zno (ZdN hu)]
      have h2:(us.map fun u=>Zj8 u.name).all (Z6 us)=true:=by
        rw [List.all_eq_true]
        intro f hf
        obtain ⟨u,hm,rfl⟩:=List.mem_map.1 hf
        have e1:Zaq inbox=true:=by decide
        have e2:ZbR []=true:=by decide
        have e3:Zbl ⟨1,[]⟩=true:=by decide
        simp only [Z6,Zj8,DFolder.box,e1,e2,e3,Bool.and_true]
        exact decide_eq_true (ZbB.2 ⟨u,hm,rfl⟩)
      have h3:us.length≤4:=by simp only [Zaw,Bool.and_eq_true,decide_eq_true_eq] at hu;exact hu.2.2
      rw [h2];simp;omega
    have h4:us.all (ZaR (us.map fun u=>Zj8 u.name))=true:=by
      rw [List.all_eq_true]
      intro u hm
      have:=Zg4 hu hm
      simp only [Zcu,Bool.and_eq_true,decide_eq_true_eq] at this
      simp only [ZaR,Zpm,Bool.and_eq_true,decide_eq_true_eq]
      exact ⟨ZtA hm,by omega⟩
    have h5:Zah ⟨1,[]⟩=true:=by decide
    simp only [Zz,ZpT,hu,h1,h4,h5,List.all_nil,Bool.and_true]
theorem ZiA {d:Str} {us:List DUser} (h:Zz (ZpT d us)=true):Zck d us=(ZpT d us,true):=by
  rw [Zmt,Bool.and_eq_true] at h;rw [Zck,if_pos h]
theorem ZoD {d:Str} {us:List DUser} (h:Zz (ZpT d us)=false):Zck d us=(Za5,false):=by
  rw [Zmt] at h;rw [Zck,if_neg (by rw [← Bool.and_eq_true,h];exact Bool.false_ne_true)]
def Zhz:DFolder:=⟨[],[],[],0,[]⟩
def ZL (x:DHost) (o n:Str):DFolder × Bool:=if Zz x=true then (match x.folders.find? (inF o n) with | some f=>(f,true) | none=>(Zhz,false)) else (Zhz,false)
theorem Zjb {x:DHost} {o n:Str} (h:Zz x=false):ZL x o n=(Zhz,false):=by simp [ZL,h]
theorem ZiC {x:DHost} {o n:Str} (h:Za6 (inF o n) x.folders<0):ZL x o n=(Zhz,false):=by
  have:x.folders.find? (inF o n)=none:=List.find?_eq_none.2 fun y hy hp=>by have:=ZdK.2 ⟨y,hy,hp⟩;omega
  rw [ZL,this];split <;> rfl
theorem ZiB {x:DHost} {o n:Str} (hx:Zz x=true) (h:0≤Za6 (inF o n) x.folders) {f:DFolder} (hf:x.folders[(Za6 (inF o n) x.folders).toNat]? = some f):ZL x o n=(f,true):=by
  unfold Za6 at h hf
  cases hq:x.folders.findIdx? (inF o n) with
  | none=>rw [hq] at h;simp at h
  | some i=>
    rw [hq] at hf
    simp only [Int.toNat_natCast] at hf
    rw [List.findIdx?_eq_some_iff_getElem] at hq
    obtain ⟨hi,h1,h2⟩:=hq
    rw [List.getElem?_eq_getElem hi] at hf
    cases hf
    have:x.folders.find? (inF o n)=some x.folders[i]:=by
      rw [List.find?_eq_some_iff_getElem]
      exact ⟨h1,i,hi,rfl,fun j hj=>by simpa using h2 j hj⟩
    rw [ZL,if_pos hx,this]
theorem ZdR {α:Type} (p:α→Bool) (xs:List α):Za6 p xs<xs.length∧Za6 p xs ≥ -1:=by
  unfold Za6
  cases hf:xs.findIdx? p with
  | none=>simp only [];omega
  | some i=>
    rw [List.findIdx?_eq_some_iff_getElem] at hf
    obtain ⟨hi,_⟩:=hf
    simp only [];omega
end Go.BL
namespace Go.BL
open Go
set_option linter.unusedVariables false
set_option linter.unusedSimpArgs false
end Go.BL
namespace Go.BL
open Go
set_option linter.unusedVariables false
set_option linter.unusedSimpArgs false
def Zbz (k:Nat):Int:=([1,2,4,8,16,32]:List Int).getD k 0
theorem ZqW {k:Nat} (h:k<6):(k=0∧Zbz k=1)∨(k=1∧Zbz k=2)∨(k=2∧Zbz k=4)∨(k=3∧Zbz k=8)∨(k=4∧Zbz k=16)∨(k=5∧Zbz k=32):=by
  have:k=0∨k=1∨k=2∨k=3∨k=4∨k=5:=by omega
  rcases this with rfl | rfl | rfl | rfl | rfl | rfl <;> simp [Zbz]
theorem ZkD {k:Nat} (h:k<6):0<Zbz k∧Zbz k≤32:=by rcases ZqW h with h | h | h | h | h | h <;> omega
theorem ZdM {α:Type} {p:α→Bool} {xs:List α} {k:Nat} {x:α} (hx:xs[k]? = some x):(xs.take (k+1)).any p=((xs.take k).any p || p x):=by
  rw [Zas hx,List.any_append];simp
theorem Zq1 {α:Type} {p:α→Bool} {xs:List α} {k:Nat} {b:Bool} (h:b=(xs.take k).any p) (hk:xs.length≤k):b=xs.any p:=by rwa [List.take_of_length_le hk] at h
def onB (u:Str) (b:Int) (g:DGrant):Bool:=(decide (g.user=u) || decide (g.user=anyone)) && decide (Int.tmod (Int.tdiv g.rights b) 2=1)
def Zfv (gs:List DGrant) (u:Str):Nat→Int
  | 0=>0
  | k+1=>if gs.any (onB u (Zbz k))=true then Zfv gs u k+Zbz k else Zfv gs u k
theorem ZiY (gs:List DGrant) (u:Str) :∀k,k≤6→0≤Zfv gs u k∧Zfv gs u k≤100*k
  | 0,_=>by simp [Zfv]
  | k+1,h=>by
    have:=ZiY gs u k (by omega)
    have:=ZkD (k:=k) (by omega)
    simp only [Zfv]
    split <;> omega
def ZbL (gs:List DGrant) (u:Str):Int:=Zfv gs u 6
def Zgv (f:DFolder) (u:Str) (r:Int):Bool:=decide (u=f.owner) || decide (Int.tmod (Int.tdiv (ZbL f.grants u) r) 2=1)
def Zi4 (us:List DUser) (fs:List DFolder) (u:Str) (k:Int) (r:Int):Int:=
  if ZcC us u<0∨k<0 then 1 else match fs[k.toNat]? with
    | none=>1
    | some f=>if Zgv f u 1=false then 1 else if Zgv f u r=false then 2 else 0
theorem ZqS {us:List DUser} {fs:List DFolder} {u:Str} {k r:Int} (h:ZcC us u<0∨k<0):Zi4 us fs u k r=1:=by rw [Zi4,if_pos h]
theorem ZqT {us:List DUser} {fs:List DFolder} {u:Str} {k r:Int} {f:DFolder} (h : ¬ (ZcC us u<0∨k<0)) (hf:fs[k.toNat]? = some f):Zi4 us fs u k r=if Zgv f u 1=false then 1 else if Zgv f u r=false then 2 else 0:=by
  rw [Zi4,if_neg h,hf]
theorem Zec {us:List DUser} {fs:List DFolder} {u:Str} {k r:Int} (h:Zi4 us fs u k r=0):0≤ZcC us u∧0≤k∧∃f,fs[k.toNat]? = some f∧Zgv f u 1=true∧Zgv f u r=true:=by
  unfold Zi4 at h
  split at h
  · cases h
  · split at h
    · cases h
    · rename_i f hf
      split at h
      · cases h
      · split at h
        · cases h
        · rename_i h1 h2 h3
          exact ⟨by omega,by omega,f,hf,by simpa using h2,by simpa using h3⟩
def ZgW (b:DBox) (fl:Int) (t:Str):DBox × Bool:=if 10≤b.mail.length∨99<b.next then (b,false) else (⟨b.next+1,b.mail ++ [⟨b.next,fl,t⟩]⟩,true)
theorem ZlY {b:DBox} {fl:Int} {t:Str} (h:10≤b.mail.length∨99<b.next):ZgW b fl t=(b,false):=by rw [ZgW,if_pos h]
theorem Zuk {b:DBox} {fl:Int} {t:Str} (h : ¬ (10≤b.mail.length∨99<b.next)):ZgW b fl t=(⟨b.next+1,b.mail ++ [⟨b.next,fl,t⟩]⟩,true):=by rw [ZgW,if_neg h]
def DFolder.withBox (f:DFolder) (b:DBox):DFolder:=⟨f.owner,f.name,f.grants,b.next,b.mail⟩
def DHost.withFolders (x:DHost) (fs:List DFolder):DHost:=⟨x.domain,x.users,fs,x.queue⟩
def DHost.withQueue (x:DHost) (q:DQueue):DHost:=⟨x.domain,x.users,x.folders,q⟩
def ZdQ (us:List DUser) (n:Str):Int:=match us[(ZcC us n).toNat]? with | some w=>w.quota | none=>0
def ZbP (x:DHost) (k:Nat) (fl:Int) (t:Str):DHost × Int:=
  match x.folders[k]? with
  | none=>(x,0)
  | some f=>if ZdQ x.users f.owner<(Zbb x.folders f.owner:Int)+t.length then (x,3)
    else if (ZgW f.box fl t).2=true then (x.withFolders (x.folders.set k (f.withBox (ZgW f.box fl t).1)),0) else (x,4)
theorem Zms {x:DHost} {k:Nat} {fl:Int} {t:Str} {f:DFolder} (hf:x.folders[k]? = some f) (h:ZdQ x.users f.owner<(Zbb x.folders f.owner:Int)+t.length):ZbP x k fl t=(x,3):=by simp only [ZbP,hf,if_pos h]
theorem Zof {x:DHost} {k:Nat} {fl:Int} {t:Str} {f:DFolder} (hf:x.folders[k]? = some f) (h : ¬ ZdQ x.users f.owner<(Zbb x.folders f.owner:Int)+t.length) (h2:(ZgW f.box fl t).2=false):ZbP x k fl t=(x,4):=by simp only [ZbP,hf,if_neg h,h2];rfl
theorem Zog {x:DHost} {k:Nat} {fl:Int} {t:Str} {f:DFolder} (hf:x.folders[k]? = some f) (h : ¬ ZdQ x.users f.owner<(Zbb x.folders f.owner:Int)+t.length) (h2:(ZgW f.box fl t).2=true):ZbP x k fl t=(x.withFolders (x.folders.set k (f.withBox (ZgW f.box fl t).1)),0):=by simp only [ZbP,hf,if_neg h,h2,if_true]
def ZaU (n:Int):Bool:=decide (0≤n) && decide (n≤31)
def Zko (x:DHost) (by_ o n:Str) (fl:Int) (t:Str):DHost × Int:=
  if ¬ (Zz x=true∧ZaU fl=true∧t.length≤20) then (Za5,5)
  else if Zi4 x.users x.folders by_ (Za6 (inF o n) x.folders) 8≠0 then (x,Zi4 x.users x.folders by_ (Za6 (inF o n) x.folders) 8)
  else ZbP x (Za6 (inF o n) x.folders).toNat fl t
def ZeU (o n:Str):DFolder:=⟨o,n,[],1,[]⟩
def ZgI (fs:List DFolder) (f:DFolder):Nat:=(fs.takeWhile fun y=>ZbY y f).length
def Zhn (fs:List DFolder) (f:DFolder):List DFolder:=fs.take (ZgI fs f) ++ [f] ++ fs.drop (ZgI fs f)
def Zbk (x:DHost) (u n:Str):DHost × Int:=
  if ¬ (Zz x=true∧Zaq n=true) then (Za5,5)
  else if ZcC x.users u<0 then (x,1)
  else if 0≤Za6 (inF u n) x.folders∨8≤x.folders.length then (x,4)
  else (x.withFolders (Zhn x.folders (ZeU u n)),0)
def Ze9 (u:Str) (r:Int) (s:Bool × List DGrant) (g:DGrant):Bool × List DGrant:=
  let s1:Bool × List DGrant:=if s.1=false∧Op.bytesLess g.user u=false then (true,s.2 ++ [⟨u,r⟩]) else s
  if g.user≠u then (s1.1,s1.2 ++ [g]) else s1
def Zeu (u:Str) (r:Int) (gs:List DGrant):Bool × List DGrant:=gs.foldl (Ze9 u r) (decide (r=0),[])
theorem Zct {u:Str} {r:Int} {gs:List DGrant} {k:Nat} {x:DGrant} (hx:gs[k]? = some x):Zeu u r (gs.take (k+1))=Ze9 u r (Zeu u r (gs.take k)) x:=by
  rw [Zas hx,Zeu,List.foldl_append];rfl
def Zgt (gs:List DGrant) (u:Str) (r:Int):List DGrant:=if (Zeu u r gs).1=true then (Zeu u r gs).2 else (Zeu u r gs).2 ++ [⟨u,r⟩]
def ZdH (r:Int):Bool:=decide (0≤r) && decide (r≤63)
def Zb5 (gs:List DGrant) (u:Str) (r:Int):List DGrant × Bool:=
  if ¬ (ZbR gs=true∧Zaq u=true∧ZdH r=true) then ([],false)
  else if ZbR (Zgt gs u r)=true then (Zgt gs u r,true) else (gs,false)
def DFolder.withGrants (f:DFolder) (gs:List DGrant):DFolder:=⟨f.owner,f.name,gs,f.next,f.mail⟩
def Ze1 (x:DHost) (k:Nat) (u:Str) (r:Int):DHost × Int:=
  match x.folders[k]? with
  | none=>(x,0)
  | some f=>if (Zb5 f.grants u r).2=true then (x.withFolders (x.folders.set k (f.withGrants (Zb5 f.grants u r).1)),0) else (x,4)
def Zb4 (x:DHost) (by_ o n u:Str) (r:Int):DHost × Int:=
  if ¬ (Zz x=true∧ZdH r=true) then (Za5,5)
  else if Zi4 x.users x.folders by_ (Za6 (inF o n) x.folders) 32≠0 then (x,Zi4 x.users x.folders by_ (Za6 (inF o n) x.folders) 32)
  else if u≠anyone∧ZcC x.users u<0 then (x,1)
  else Ze1 x (Za6 (inF o n) x.folders).toNat u r
def Zbr (x:DHost) (l:DLetter):DHost × Int:=
  if ¬ (Zz x=true∧ZaO l=true) then (Za5,5)
  else if ZcC x.users l.fr<0∨Zgl x.users l.to_=false then (x,1)
  else if (ZhM x.queue l).2=true then (x.withQueue (ZhM x.queue l).1,0) else (x,4)
def ZaT (x:DHost) (id:Int) (u:Str):DHost × Int:=
  if Zz x=false then (Za5,5)
  else if (Zb9 x.queue id u).2.2=false then (x,1)
  else if (ZbP x (Za6 (inF u inbox) x.folders).toNat 0 (Zb9 x.queue id u).2.1).2≠4 then
    ((ZbP x (Za6 (inF u inbox) x.folders).toNat 0 (Zb9 x.queue id u).2.1).1.withQueue (Zb9 x.queue id u).1,(ZbP x (Za6 (inF u inbox) x.folders).toNat 0 (Zb9 x.queue id u).2.1).2)
  else ZbP x (Za6 (inF u inbox) x.folders).toNat 0 (Zb9 x.queue id u).2.1
def Zk6 (s:DSpan):Bool:=(decide (0≤s.low) && decide (s.low≤99)) && (decide (0≤s.high) && decide (s.high≤99))
def Zh5 (s:List DSpan):Bool:=s.all Zk6 && (decide (1≤s.length) && decide (s.length≤6))
def ZdO (last n:Int) (s:DSpan):Bool:=decide (min (if s.low=0 then last else s.low) (if s.high=0 then last else s.high)≤n) && decide (n≤max (if s.low=0 then last else s.low) (if s.high=0 then last else s.high))
def Zgd (s:List DSpan) (last n:Int):Bool:=s.any (ZdO last n)
def ZcY (s:List DSpan) (last:Int):Nat→List Int
  | 0=>[]
  | n+1=>if Zgd s last (n+1:Nat)=true then ZcY s last n ++ [((n+1:Nat):Int)] else ZcY s last n
def ZaE (s:List DSpan) (last:Int):List Int:=if Zh5 s=true then ZcY s (min last 99) (min last 99).toNat else []
def ZjU (n:Int) (k:Nat):Int:=Int.tmod (Int.tdiv n (Zbz k)) 2
def Ze6 (fl how ot:Int) (k:Nat):Bool:=(decide (how=1) && decide (0<ZjU fl k+ZjU ot k)) || (decide (how = -1) && decide (ZjU fl k=1) && decide (ZjU ot k=0)) || (decide (how=0) && decide (ZjU ot k=1))
def ZiV (fl how ot:Int):Nat→Int
  | 0=>0
  | k+1=>if Ze6 fl how ot k=true then ZiV fl how ot k+Zbz k else ZiV fl how ot k
theorem ZnQ (fl how ot:Int) :∀k,k≤5→0≤ZiV fl how ot k∧ZiV fl how ot k≤100*k
  | 0,_=>by simp [ZiV]
  | k+1,h=>by
    have:=ZnQ fl how ot k (by omega)
    have:=ZkD (k:=k) (by omega)
    simp only [ZiV]
    split <;> omega
def chg (fl how ot:Int):Int:=ZiV fl how ot 5
theorem Zs7 (fl how ot:Int):0≤chg fl how ot∧chg fl how ot≤31:=by
  unfold chg
  simp only [ZiV,show Zbz 0=1 from rfl,show Zbz 1=2 from rfl,show Zbz 2=4 from rfl,show Zbz 3=8 from rfl,show Zbz 4=16 from rfl]
  split <;> split <;> split <;> split <;> split <;> omega
def ZpR (n:Nat) (b x:Int):Bool:=(decide (1≤x) && decide (x≤n)) && decide (b<x)
def ZdJ (n:Nat) (xs:List Int):Bool × Int:=scn (ZpR n) (fun _ x=>x) 0 xs
def Zd3 (n:Nat) (xs:List Int):Bool:=(ZdJ n xs).1
def ZgN (ms:List DMail) (how fl:Int) (acc:List DMail) (n:Int):List DMail:=
  match acc[(n - 1).toNat]?,ms[(n - 1).toNat]? with
  | some a,some m=>acc.set (n - 1).toNat ⟨a.uid,chg m.flags how fl,a.text⟩
  | _,_=>acc
def ZdV (ms:List DMail) (how fl:Int) (ns:List Int):List DMail:=ns.foldl (ZgN ms how fl) ms
def Zkm (how:Int):Bool:=decide (-1≤how) && decide (how≤1)
def Zbj (b:DBox) (ns:List Int) (how fl:Int):DBox × Bool:=
  if Zbl b=true∧Zd3 b.mail.length ns=true∧Zkm how=true∧ZaU fl=true then (⟨b.next,ZdV b.mail how fl ns⟩,true) else (⟨0,[]⟩,false)
def Zo2 (m:DMail):Bool:=decide (Int.tmod (Int.tdiv m.flags 8) 2=1)
def ZcA (ms:List DMail):List DMail:=ms.filter fun m=>!Zo2 m
def Zdb (s:Nat × List Int) (m:DMail):Nat × List Int:=if Zo2 m=true then (s.1,s.2 ++ [((s.1+1:Nat):Int)]) else (s.1+1,s.2)
def Zkp (ms:List DMail):Nat × List Int:=ms.foldl Zdb (0,[])
def expunge (b:DBox):DBox × List Int:=if Zbl b=true then (⟨b.next,ZcA b.mail⟩,(Zkp b.mail).2) else (⟨0,[]⟩,[])
def atF (x:DHost) (s:DSess) (r:Int):Int × Int:=
  if Zi4 x.users x.folders s.user (Za6 (inF s.owner s.name) x.folders) 2≠0 then (Za6 (inF s.owner s.name) x.folders,Zi4 x.users x.folders s.user (Za6 (inF s.owner s.name) x.folders) 2)
  else (Za6 (inF s.owner s.name) x.folders,Zi4 x.users x.folders s.user (Za6 (inF s.owner s.name) x.folders) r)
def Zho (x:DHost) (k:Nat):DBox:=match x.folders[k]? with | some f=>f.box | none=>⟨0,[]⟩
def Zjt (x:DHost) (k:Nat) (b:DBox):DHost:=match x.folders[k]? with | some f=>x.withFolders (x.folders.set k (f.withBox b)) | none=>x
def Zcd (x:DHost) (s:DSess) (set:List DSpan) (how fl:Int):DHost × Int:=
  if ¬ (Zz x=true∧Zh5 set=true∧ZaU fl=true∧Zkm how=true) then (Za5,5)
  else if (atF x s 4).2≠0 then (x,(atF x s 4).2)
  else (Zjt x (atF x s 4).1.toNat (Zbj (Zho x (atF x s 4).1.toNat) (ZaE set (Zho x (atF x s 4).1.toNat).mail.length) how fl).1,0)
def ZaP (x:DHost) (s:DSess):DHost × List Int × Int:=
  if Zz x=false then (Za5,[],5)
  else if (atF x s 16).2≠0 then (x,[],(atF x s 16).2)
  else (Zjt x (atF x s 16).1.toNat (expunge (Zho x (atF x s 16).1.toNat)).1,(expunge (Zho x (atF x s 16).1.toNat)).2,0)
def ZbO (to:Nat) (s:DHost × Int) (m:DMail):DHost × Int:=if s.2=0 then ZbP s.1 to m.flags m.text else s
def ZiT (x:DHost) (ms:List DMail) (to:Nat):DHost × Int:=ms.foldl (ZbO to) (x,0)
def Zc6 (ms:List DMail) (n:Int):DMail:=match ms[(n - 1).toNat]? with | some m=>m | none=>⟨0,0,[]⟩
def Zeq (x:DHost) (s:DSess) (set:List DSpan) (o n:Str):DHost × Int:=
  if ¬ (Zz x=true∧Zh5 set=true) then (Za5,5)
  else if (atF x s 2).2≠0 then (x,(atF x s 2).2)
  else if Zi4 x.users x.folders s.user (Za6 (inF o n) x.folders) 8≠0 then (x,Zi4 x.users x.folders s.user (Za6 (inF o n) x.folders) 8)
  else
    let ms:=(ZaE set (Zho x (atF x s 2).1.toNat).mail.length).map (Zc6 (Zho x (atF x s 2).1.toNat).mail)
    if (ZiT x ms (Za6 (inF o n) x.folders).toNat).2=0 then ZiT x ms (Za6 (inF o n) x.folders).toNat else (x,(ZiT x ms (Za6 (inF o n) x.folders).toNat).2)
structure DEvent where
  kind:Int
  by_:Str
  owner:Str
  name:Str
  to_:Str
  text:Str
  a:Int
  b:Int
deriving DecidableEq
def ZhH (x:DHost) (e:DEvent):DHost × Int:=
  if e.kind=1 then Zbk x e.by_ e.name
  else if e.kind=2 then Zb4 x e.by_ e.owner e.name e.to_ e.a
  else if e.kind=3 then Zko x e.by_ e.owner e.name e.a e.text
  else if e.kind=4 then Zbr x ⟨e.by_,[e.to_],e.text⟩
  else if e.kind=5 then ZaT x e.a e.to_
  else if e.kind=6 then Zcd x ⟨e.by_,e.owner,e.name⟩ [⟨e.a,e.a⟩] 1 e.b
  else if e.kind=7 then ((ZaP x ⟨e.by_,e.owner,e.name⟩).1,(ZaP x ⟨e.by_,e.owner,e.name⟩).2.2)
  else if e.kind=8 then Zeq x ⟨e.by_,e.owner,e.name⟩ [⟨e.a,e.a⟩] e.to_ inbox
  else (Za5,5)
def hDo (x:DHost) (e:DEvent):DHost × Int:=if Zz x=false then (Za5,5) else if (ZhH x e).2=5 then (x,5) else ZhH x e
end Go.BL
namespace Go.BL
open Go
set_option linter.unusedVariables false
set_option linter.unusedSimpArgs false
theorem ZaJ {x:DHost} : Zz x=true↔(Zcj x.domain=true∧Zaw x.users=true∧Zah x.queue=true)∧((∀f,f∈x.folders→Z6 x.users f=true)∧Zgu x.folders=true∧x.folders.length≤8)∧(∀u,u∈x.users→ZaR x.folders u=true)∧(∀y,y∈x.queue.items→ZaH x.users y=true):=by
  simp only [Zz,Zdr,Bool.and_eq_true,decide_eq_true_eq,List.all_eq_true]
  constructor
  · rintro ⟨⟨⟨⟨⟨h1,h2⟩,h3⟩,⟨h4,h5⟩,h6⟩,h7⟩,h8⟩
    exact ⟨⟨h1,h2,h3⟩,⟨h4,h5,h6⟩,h7,h8⟩
  · rintro ⟨⟨h1,h2,h3⟩,⟨h4,h5,h6⟩,h7,h8⟩
    exact ⟨⟨⟨⟨⟨h1,h2⟩,h3⟩,⟨h4,h5⟩,h6⟩,h7⟩,h8⟩
theorem ZiG {α:Type} {fs:List α} {k i:Nat} {y g:α} (h:(fs.set k y)[i]? = some g):(i=k∧g=y∧k<fs.length)∨(i≠k∧fs[i]? = some g):=by
  have hi:=(List.getElem?_eq_some_iff.1 h).1
  rw [List.length_set] at hi
  rw [List.getElem?_set] at h
  split at h
  · rename_i e
    subst e
    simp [hi] at h
    exact .inl ⟨rfl,h.symm,hi⟩
  · rename_i e
    exact .inr ⟨fun e'=>e e'.symm,h⟩
theorem ZkY :∀{fs:List DFolder} {k:Nat} {f:DFolder} (f':DFolder) (u:Str),fs[k]? = some f→Zbb (fs.set k f') u+(if f.owner=u then Zap f.mail else 0)=Zbb fs u+(if f'.owner=u then Zap f'.mail else 0)
  | [],_,_,_,_,h=>by simp at h
  | g :: fs,0,f,f',u,h=>by
    simp only [List.getElem?_cons_zero,Option.some.injEq] at h
    subst h
    simp only [List.set_cons_zero,Zbb,List.map_cons,List.sum_cons]
    omega
  | g :: fs,k+1,f,f',u,h=>by
    have:=ZkY (fs:=fs) (k:=k) f' u (by simpa using h)
    simp only [Zbb] at this
    simp only [List.set_cons_succ,Zbb,List.map_cons,List.sum_cons]
    omega
theorem Zlp {a b a' b':DFolder} (h1:a.owner=a'.owner) (h2:a.name=a'.name) (h3:b.owner=b'.owner) (h4:b.name=b'.name):ZbY a b=ZbY a' b':=by simp only [ZbY,h1,h2,h3,h4]
theorem ZrJ {fs:List DFolder} {k:Nat} {f f':DFolder} (h:Zgu fs=true) (hf:fs[k]? = some f) (ho:f'.owner=f.owner) (hn:f'.name=f.name):Zgu (fs.set k f')=true:=by
  rw [Zhy] at h ⊢
  intro i a b ha hb
  rcases ZiG ha with ⟨e1,e2,_⟩ | ⟨hi,ha'⟩
  · rcases ZiG hb with ⟨e,_,_⟩ | ⟨_,hb'⟩
    · omega
    · rw [e2,Zlp ho hn rfl rfl];exact h i _ _ (by rw [e1];exact hf) hb'
  · rcases ZiG hb with ⟨e,e2,_⟩ | ⟨_,hb'⟩
    · rw [e2,Zlp rfl rfl ho hn];exact h i _ _ ha' (by rw [e];exact hf)
    · exact h _ _ _ ha' hb'
theorem ZtS {fs:List DFolder} {k:Nat} {f f':DFolder} {o n:Str} (hf:fs[k]? = some f) (ho:f'.owner=f.owner) (hn:f'.name=f.name) (h:0≤Za6 (inF o n) fs):0≤Za6 (inF o n) (fs.set k f'):=by
  rw [ZdK] at h ⊢
  obtain ⟨y,hy,hp⟩:=h
  obtain ⟨i,hi⟩:=List.mem_iff_getElem?.1 hy
  by_cases e:i=k
  · subst e
    rw [hf] at hi;cases hi
    refine ⟨f',List.mem_iff_getElem?.2 ⟨i,?_⟩,by simp only [inF,ho,hn] at hp ⊢;exact hp⟩
    have:=(List.getElem?_eq_some_iff.1 hf).1
    simp [List.getElem?_set,this]
  · exact ⟨y,List.mem_iff_getElem?.2 ⟨i,by rw [List.getElem?_set,if_neg (fun e'=>e e'.symm)];exact hi⟩,hp⟩
theorem Zoe {us:List DUser} (h:Zaw us=true) {w:DUser} (hw:w∈us):ZdQ us w.name=w.quota:=by
  have h0:0≤ZcC us w.name:=ZbB.2 ⟨w,hw,rfl⟩
  have h1:=Zkl us w.name
  obtain ⟨v,hv⟩ :∃v,us[(ZcC us w.name).toNat]? = some v:=⟨_,List.getElem?_eq_getElem (by omega)⟩
  have h2:=Zsi h0 hv
  rw [ZfV,ZfU (ZdN h) w hw] at h2
  cases h2
  simp only [ZdQ,hv]
theorem ZrI {us:List DUser} {f:DFolder} (h:Z6 us f=true) :∃w,w∈us∧w.name=f.owner:=by
  simp only [Z6,Bool.and_eq_true,decide_eq_true_eq] at h
  exact ZbB.1 h.1.1.1
theorem ZgJ {x:DHost} {k:Nat} {f f':DFolder} (h:Zz x=true) (hf:x.folders[k]? = some f) (ho:f'.owner=f.owner) (hn:f'.name=f.name) (hi:Z6 x.users f'=true)
    (hq:(Zbb x.folders f.owner:Int)+Zap f'.mail≤ZdQ x.users f.owner+Zap f.mail∨Zap f'.mail≤Zap f.mail):Zz (x.withFolders (x.folders.set k f'))=true:=by
  rw [ZaJ] at h ⊢
  obtain ⟨⟨h1,h2,h3⟩,⟨h4,h5,h6⟩,h7,h8⟩:=h
  refine ⟨⟨h1,h2,h3⟩,⟨?_,ZrJ h5 hf ho hn,by simpa [DHost.withFolders] using h6⟩,?_,h8⟩
  · intro g hg
    obtain ⟨i,hg⟩:=List.mem_iff_getElem?.1 hg
    rcases ZiG hg with ⟨_,rfl,_⟩ | ⟨_,hg⟩
    · exact hi
    · exact h4 g (List.mem_of_getElem? hg)
  · intro w hw
    have:=h7 w hw
    simp only [ZaR,Bool.and_eq_true,decide_eq_true_eq] at this ⊢
    refine ⟨ZtS hf ho hn this.1,?_⟩
    have hu:=ZkY f' w.name hf
    simp only [DHost.withFolders]
    by_cases e:f.owner=w.name
    · rw [if_pos e,if_pos (ho.trans e)] at hu
      rw [e,Zoe h2 hw] at hq
      omega
    · rw [if_neg e,if_neg (fun e'=>e (ho ▸ e'))] at hu
      omega
theorem Znp :∀{fs:List DFolder} {f:DFolder},Zgu fs=true→(∀g,g∈fs→¬ (g.owner=f.owner∧g.name=f.name))→Zgu (Zhn fs f)=true
  | [],f,_,_=>rfl
  | a :: r,f,h,hk=>by
    cases hl:ZbY a f with
    | true=>
      have e:Zhn (a :: r) f=a :: Zhn r f:=by simp [Zhn,ZgI,hl]
      have ih:=Znp (fs:=r) (f:=f) (by cases r with | nil=>rfl | cons b r=>simp only [Zgu,Bool.and_eq_true] at h;exact h.2) (fun g hg=>hk g (List.mem_cons_of_mem _ hg))
      rw [e]
      cases r with
      | nil=>simp [Zhn,ZgI,Zgu,hl]
      | cons b r=>
        simp only [Zgu,Bool.and_eq_true] at h
        cases hb:ZbY b f with
        | true=>
          have e2:Zhn (b :: r) f=b :: Zhn r f:=by simp [Zhn,ZgI,hb]
          rw [e2] at ih ⊢
          simp only [Zgu,h.1,Bool.true_and];exact ih
        | false=>
          have e2:Zhn (b :: r) f=f :: b :: r:=by simp [Zhn,ZgI,hb]
          rw [e2] at ih ⊢
          simp only [Zgu,hl,Bool.true_and] at ih ⊢;exact ih
    | false=>
      have e:Zhn (a :: r) f=f :: a :: r:=by simp [Zhn,ZgI,hl]
      rw [e]
      have hne:=hk a (List.mem_cons_self ..)
      have:ZbY f a=true:=by
        unfold ZbY at hl ⊢
        rw [Zbq f.owner a.owner,Zbq f.name a.name]
        simp only [Bool.or_eq_false_iff,Bool.and_eq_false_iff,decide_eq_false_iff_not] at hl
        by_cases e:a.owner=f.owner
        · have e2:a.name≠f.name:=fun e2=>hne ⟨e,e2⟩
          rcases hl.2 with h2 | h2
          · exact absurd e h2
          · simp [e,ZcS,h2,e2]
        · simp [hl.1,e]
      simp only [Zgu,this,Bool.true_and];exact h
theorem Zp2 {fs:List DFolder} {f g:DFolder} : g∈Zhn fs f↔g∈fs∨g=f:=by
  have e:fs=fs.take (ZgI fs f) ++ fs.drop (ZgI fs f):=(List.take_append_drop _ _).symm
  constructor
  · intro h
    simp only [Zhn,List.mem_append,List.mem_singleton] at h
    rcases h with (h | h) | h
    · exact .inl (List.mem_of_mem_take h)
    · exact .inr h
    · exact .inl (List.mem_of_mem_drop h)
  · intro h
    simp only [Zhn,List.mem_append,List.mem_singleton]
    rcases h with h | h
    · rw [e,List.mem_append] at h
      rcases h with h | h
      · exact .inl (.inl h)
      · exact .inr h
    · exact .inl (.inr h)
theorem ZhY (as bs:List DFolder) (u:Str):Zbb (as ++ bs) u=Zbb as u+Zbb bs u:=by simp [Zbb]
theorem Zpn (fs:List DFolder) (f:DFolder) (u:Str):Zbb (Zhn fs f) u=Zbb fs u+(if f.owner=u then Zap f.mail else 0):=by
  have e:Zbb fs u=Zbb (fs.take (ZgI fs f)) u+Zbb (fs.drop (ZgI fs f)) u:=by rw [← ZhY,List.take_append_drop]
  rw [Zhn,ZhY,ZhY,e]
  simp only [Zbb,List.map_cons,List.map_nil,List.sum_cons,List.sum_nil];omega
theorem ZtQ (fs:List DFolder) (f:DFolder):(Zhn fs f).length=fs.length+1:=by
  have:=congrArg List.length (List.take_append_drop (ZgI fs f) fs)
  simp only [List.length_append] at this
  simp only [Zhn,List.length_append,List.length_cons,List.length_nil];omega
theorem Zkn {x:DHost} {u n:Str} (h:Zz x=true) (hn:Zaq n=true) (hu : ¬ ZcC x.users u<0) (hk : ¬ (0≤Za6 (inF u n) x.folders∨8≤x.folders.length)):Zz (x.withFolders (Zhn x.folders (ZeU u n)))=true:=by
  rw [ZaJ] at h ⊢
  obtain ⟨⟨h1,h2,h3⟩,⟨h4,h5,h6⟩,h7,h8⟩:=h
  refine ⟨⟨h1,h2,h3⟩,⟨?_,Znp h5 ?_,by show (Zhn x.folders _).length≤8;rw [ZtQ];omega⟩,?_,h8⟩
  · intro g hg
    rcases Zp2.1 hg with hg | rfl
    · exact h4 g hg
    · have e2:ZbR []=true:=by decide
      have e3:Zbl ⟨1,[]⟩=true:=by decide
      simp only [Z6,ZeU,DFolder.box,e2,e3,hn,Bool.and_true]
      exact decide_eq_true (by simp only [DHost.withFolders];omega)
  · rintro g hg ⟨e1,e2⟩
    exact hk (.inl (ZdK.2 ⟨g,hg,by simp [inF,e1,e2,ZeU]⟩))
  · intro w hw
    have:=h7 w hw
    simp only [ZaR,Bool.and_eq_true,decide_eq_true_eq] at this ⊢
    have e:Zbb (Zhn x.folders (ZeU u n)) w.name=Zbb x.folders w.name:=by
      rw [Zpn];simp [ZeU,Zap]
    obtain ⟨g,hg,hp⟩:=ZdK.1 this.1
    refine ⟨ZdK.2 ⟨g,Zp2.2 (.inl hg),hp⟩,?_⟩
    show ((Zbb (Zhn x.folders (ZeU u n)) w.name:Nat):Int)≤w.quota
    rw [e];exact this.2
theorem ZoJ {x:DHost} {u n:Str} (h:Zz x=true):(Zbk x u n).2=5∨Zz (Zbk x u n).1=true:=by
  unfold Zbk
  split
  · exact .inl rfl
  · rename_i h1
    split
    · exact .inr h
    · rename_i h2
      split
      · exact .inr h
      · rename_i h3
        exact .inr (Zkn h (by simp only [h,true_and,Decidable.not_not] at h1;exact h1) h2 h3)
theorem Zll {ms:List DMail} {b:Int} {m:DMail} (h:Zch ms=(true,b)) (hm:ZbQ b m=true):Zch (ms ++ [m])=(true,m.uid):=by
  rw [Zch,scn,List.foldl_append]
  have:ms.foldl (fun (s:Bool × Int) x=>(s.1 && ZbQ s.2 x,x.uid)) (true,0)=(true,b):=h
  rw [this];simp [hm]
theorem Zfl {b:DBox} (h:Zbl b=true) :∃l,Zch b.mail=(true,l)∧l+1≤b.next∧b.next≤100∧b.mail.length≤10:=by
  simp only [Zbl,Bool.and_eq_true,decide_eq_true_eq] at h
  exact ⟨(Zch b.mail).2,Prod.ext h.1.1 rfl,h.1.2.1,h.1.2.2,h.2⟩
theorem Zj2 :∀(xs:List DMail) (b0 b:Int),xs.foldl (fun (s:Bool × Int) x=>(s.1 && ZbQ s.2 x,x.uid)) (true,b0)=(true,b)→b0≤b
  | [],b0,b,h=>by cases h;omega
  | x :: xs,b0,b,h=>by
    simp only [List.foldl_cons,Bool.true_and] at h
    cases hp:ZbQ b0 x with
    | false=>
      rw [hp] at h
      have:=Zca (p:=ZbQ) (nx:=fun _ m=>m.uid) xs x.uid
      rw [h] at this;cases this
    | true=>
      rw [hp] at h
      have:=Zj2 xs x.uid b h
      simp only [ZbQ,Bool.and_eq_true,decide_eq_true_eq] at hp
      omega
theorem ZoV {b:DBox} {fl:Int} {t:Str} (h:Zbl b=true) (hf:ZaU fl=true) (ht:t.length≤20) (h2:(ZgW b fl t).2=true):Zbl (ZgW b fl t).1=true∧Zap (ZgW b fl t).1.mail=Zap b.mail+t.length:=by
  obtain ⟨l,hs,hl,hn,hk⟩:=Zfl h
  have h0:=Zj2 b.mail 0 l hs
  unfold ZgW at h2 ⊢
  split at h2
  · cases h2
  · rename_i hc
    rw [if_neg hc]
    simp only [ZaU,Bool.and_eq_true,decide_eq_true_eq] at hf
    have hm:ZbQ l ⟨b.next,fl,t⟩=true:=by
      simp only [ZbQ,ZbG,Bool.and_eq_true,decide_eq_true_eq];omega
    refine ⟨?_,by simp [Zap]⟩
    rw [Zdu (Zll hs hm)]
    simp only [Bool.and_eq_true,decide_eq_true_eq,List.length_append,List.length_cons,List.length_nil]
    omega
theorem Zhf {us:List DUser} {f:DFolder} {b:DBox} (h:Z6 us f=true) (hb:Zbl b=true):Z6 us (f.withBox b)=true:=by
  simp only [Z6,Bool.and_eq_true,decide_eq_true_eq] at h ⊢
  exact ⟨⟨⟨h.1.1.1,h.1.1.2⟩,h.1.2⟩,hb⟩
theorem Zbs {x:DHost} {k:Nat} {f:DFolder} (h:Zz x=true) (hf:x.folders[k]? = some f):Z6 x.users f=true:=(ZaJ.1 h).2.1.1 f (List.mem_of_getElem? hf)
theorem Zb0 {us:List DUser} {f:DFolder} (h:Z6 us f=true):Zbl f.box=true:=by simp only [Z6,Bool.and_eq_true] at h;exact h.2
theorem Zhw {x:DHost} {k:Nat} {fl:Int} {t:Str} (h:Zz x=true) (hf:ZaU fl=true) (ht:t.length≤20):Zz (ZbP x k fl t).1=true:=by
  unfold ZbP
  split
  · exact h
  · rename_i f hk
    split
    · exact h
    · rename_i hq
      split
      · rename_i h2
        obtain ⟨h3,h4⟩:=ZoV (Zb0 (Zbs h hk)) hf ht h2
        refine ZgJ h hk rfl rfl (Zhf (Zbs h hk) h3) (.inl ?_)
        show (Zbb x.folders f.owner:Int)+Zap (ZgW f.box fl t).1.mail≤ZdQ x.users f.owner+Zap f.mail
        rw [h4,show f.box.mail=f.mail from rfl];omega
      · exact h
theorem ZW {x:DHost} {k:Nat} {fl:Int} {t:Str} : (ZbP x k fl t).1.users=x.users∧(ZbP x k fl t).1.queue=x.queue∧(ZbP x k fl t).1.domain=x.domain∧(ZbP x k fl t).1.folders.length=x.folders.length:=by
  unfold ZbP
  split
  · exact ⟨rfl,rfl,rfl,rfl⟩
  · split
    · exact ⟨rfl,rfl,rfl,rfl⟩
    · split
      · exact ⟨rfl,rfl,rfl,by simp [DHost.withFolders]⟩
      · exact ⟨rfl,rfl,rfl,rfl⟩
theorem ZtW {x:DHost} {b o n:Str} {fl:Int} {t:Str} (h:Zz x=true):(Zko x b o n fl t).2=5∨Zz (Zko x b o n fl t).1=true:=by
  unfold Zko
  split
  · exact .inl rfl
  · rename_i h1
    simp only [h,true_and,Decidable.not_not] at h1
    split
    · exact .inr h
    · exact .inr (Zhw h h1.1 h1.2)
theorem Zq5 {gs:List DGrant} {u:Str} {r:Int} (h:(Zb5 gs u r).2=true):ZbR (Zb5 gs u r).1=true:=by
  unfold Zb5 at h ⊢
  split
  · rename_i h1;rw [if_pos h1] at h;cases h
  · rename_i h1
    rw [if_neg h1] at h
    split
    · assumption
    · rename_i h2;rw [if_neg h2] at h;cases h
theorem Zqp {x:DHost} {b o n u:Str} {r:Int} (h:Zz x=true):(Zb4 x b o n u r).2=5∨Zz (Zb4 x b o n u r).1=true:=by
  unfold Zb4
  split
  · exact .inl rfl
  · split
    · exact .inr h
    · split
      · exact .inr h
      · right
        unfold Ze1
        split
        · exact h
        · rename_i f hk
          split
          · rename_i h2
            refine ZgJ h hk rfl rfl ?_ (.inr (Nat.le_refl _))
            have:=Zbs h hk
            simp only [Z6,Bool.and_eq_true,decide_eq_true_eq] at this ⊢
            exact ⟨⟨⟨this.1.1.1,this.1.1.2⟩,Zq5 h2⟩,this.2⟩
          · exact h
theorem Zhd {x:DHost} {q:DQueue} (h:Zz x=true) (hq:Zah q=true) (hi :∀y,y∈q.items→ZaH x.users y=true):Zz (x.withQueue q)=true:=by
  rw [ZaJ] at h ⊢
  exact ⟨⟨h.1.1,h.1.2.1,hq⟩,h.2.1,h.2.2.1,hi⟩
theorem ZhF {x:DHost} (h:Zz x=true):Zah x.queue=true:=(ZaJ.1 h).1.2.2
theorem ZoI {x:DHost} {l:DLetter} (h:Zz x=true):(Zbr x l).2=5∨Zz (Zbr x l).1=true:=by
  unfold Zbr
  split
  · exact .inl rfl
  · split
    · exact .inr h
    · rename_i h2
      split
      · rename_i h3
        refine .inr (Zhd h (ZoU h3) fun y hy=>?_)
        rw [(ZlW h3).1] at hy
        simp only [List.mem_append,List.mem_singleton] at hy
        rcases hy with hy | rfl
        · exact (ZaJ.1 h).2.2.2 y hy
        · simp only [not_or,Bool.not_eq_false] at h2
          simp only [ZaH,h2.2,Bool.and_true]
          exact decide_eq_true (by omega)
      · exact .inr h
theorem ZnY {id:Int} {u:Str} {xs:List DItem} {y:DItem} (h:y∈Zez id u xs) :∃z,z∈xs∧y.fr=z.fr∧(∀n,n∈y.left→n∈z.left):=by
  simp only [Zez,List.mem_filter,List.mem_map] at h
  obtain ⟨⟨z,hz,rfl⟩,_⟩:=h
  refine ⟨z,hz,?_,?_⟩
  · unfold ZbK;split <;> rfl
  · intro n hn
    unfold ZbK at hn
    split at hn
    · exact (List.mem_filter.1 hn).1
    · exact hn
theorem Zjp :∀(xs:List DItem) {id:Int} {u:Str} (s:Str × Bool),(xs.foldl (ZbW id u) s).2=true→s.2=true∨∃y,y∈xs∧u∈y.left
  | [],_,_,s,h=>.inl h
  | x :: xs,id,u,s,h=>by
    rcases Zjp xs (ZbW id u s x) h with h | ⟨y,hy,hu⟩
    · unfold ZbW at h
      split at h
      · rename_i hc;exact .inr ⟨x,List.mem_cons_self ..,hc.2⟩
      · exact .inl h
    · exact .inr ⟨y,List.mem_cons_of_mem _ hy,hu⟩
theorem ZoN {x:DHost} {id:Int} {u:Str} (h:Zz x=true) (hf:(Zb9 x.queue id u).2.2=true):0≤Za6 (inF u inbox) x.folders:=by
  obtain ⟨_,_,h7,h8⟩:=ZaJ.1 h
  rcases Zjp x.queue.items (id:=id) (u:=u) ([],false) hf with h0 | ⟨y,hy,hu⟩
  · cases h0
  · have:=h8 y hy
    simp only [ZaH,Zgl,Bool.and_eq_true,List.all_eq_true,decide_eq_true_eq] at this
    obtain ⟨w,hw,rfl⟩:=ZbB.1 (this.2 u hu)
    have:=h7 w hw
    simp only [ZaR,Bool.and_eq_true,decide_eq_true_eq] at this
    exact this.1
theorem Zne :∀(xs:List DItem) {id:Int} {u:Str} (s:Str × Bool),s.1.length≤20→(∀y,y∈xs→ZcB y=true)→(xs.foldl (ZbW id u) s).1.length≤20
  | [],_,_,s,h,_=>h
  | x :: xs,id,u,s,h,ha=>by
    refine Zne xs (ZbW id u s x) ?_ fun y hy=>ha y (List.mem_cons_of_mem _ hy)
    unfold ZbW
    split
    · have:=ha x (List.mem_cons_self ..)
      simp only [ZcB,ZaO,Bool.and_eq_true,decide_eq_true_eq] at this
      exact this.2
    · exact h
theorem Zhk {x:DHost} {id:Int} {u:Str} (h:Zz x=true):(Zb9 x.queue id u).2.1.length≤20:=
  Zne x.queue.items ([],false) (by simp) fun y hy=>ZdI (ZhF h) hy
theorem ZmM {x:DHost} {id:Int} {u:Str} (h:Zz x=true):(ZaT x id u).2=5∨Zz (ZaT x id u).1=true:=by
  right
  unfold ZaT
  rw [if_neg (show ¬ Zz x=false by simp [h])]
  split
  · exact h
  · rename_i hf
    have hp:Zz (ZbP x (Za6 (inF u inbox) x.folders).toNat 0 (Zb9 x.queue id u).2.1).1=true:=Zhw h (by decide) (Zhk h)
    split
    · have e:=ZW (x:=x) (k:=(Za6 (inF u inbox) x.folders).toNat) (fl:=0) (t:=(Zb9 x.queue id u).2.1)
      have hq:Zc3 x.queue id u=Zb9 x.queue id u:=by rw [Zc3,if_pos (ZhF h)]
      refine Zhd hp ?_ fun y hy=>?_
      · rw [← hq];exact ZnX (by rw [hq];simpa using hf)
      · obtain ⟨z,hz,e1,e2⟩:=ZnY (show y∈Zez id u x.queue.items from hy)
        have:=(ZaJ.1 h).2.2.2 z hz
        simp only [ZaH,Zgl,Bool.and_eq_true,List.all_eq_true,e.1,e1] at this ⊢
        exact ⟨this.1,fun n hn=>this.2 n (e2 n hn)⟩
    · exact hp
theorem Zk7 {x:DHost} {k:Nat} {b:DBox} (h:Zz x=true) (hb :∀f,x.folders[k]? = some f→Zbl b=true∧Zap b.mail≤Zap f.mail):Zz (Zjt x k b)=true:=by
  unfold Zjt
  split
  · rename_i f hf
    exact ZgJ h hf rfl rfl (Zhf (Zbs h hf) (hb f hf).1) (.inr (hb f hf).2)
  · exact h
def Like (ms ms':List DMail):Prop:=ms'.length=ms.length∧∀(i:Nat) (a b:DMail),ms[i]? = some a→ms'[i]? = some b→b.uid=a.uid∧b.text=a.text∧(b.flags=a.flags∨(0≤b.flags∧b.flags≤31))
theorem Like.refl (ms:List DMail):Like ms ms:=⟨rfl,fun i a b h1 h2=>by rw [h1] at h2;cases h2;exact ⟨rfl,rfl,.inl rfl⟩⟩
theorem Like.set {ms acc:List DMail} {k:Nat} {a:DMail} {fl:Int} (h:Like ms acc) (ha:acc[k]? = some a) (hf:0≤fl∧fl≤31):Like ms (acc.set k ⟨a.uid,fl,a.text⟩):=by
  refine ⟨by rw [List.length_set];exact h.1,fun i c d hc hd=>?_⟩
  rcases ZiG hd with ⟨rfl,rfl,_⟩ | ⟨_,hd⟩
  · have:=h.2 _ _ _ hc ha
    exact ⟨this.1,this.2.1,.inr hf⟩
  · exact h.2 _ _ _ hc hd
theorem ZlI {ms acc:List DMail} {how fl n:Int} (h:Like ms acc):Like ms (ZgN ms how fl acc n):=by
  unfold ZgN
  split
  · rename_i a m ha hm;exact h.set ha (Zs7 _ _ _)
  · exact h
theorem Zhi {ms:List DMail} {how fl:Int} :∀(ns:List Int) {acc:List DMail},Like ms acc→Like ms (ns.foldl (ZgN ms how fl) acc)
  | [],_,h=>h
  | n :: ns,_,h=>Zhi ns (ZlI h)
theorem Zlo :∀{ms ms':List DMail} (b0 b:Int),Like ms ms'→ms.foldl (fun (s:Bool × Int) x=>(s.1 && ZbQ s.2 x,x.uid)) (true,b0)=(true,b)→ms'.foldl (fun (s:Bool × Int) x=>(s.1 && ZbQ s.2 x,x.uid)) (true,b0)=(true,b)∧Zap ms'=Zap ms
  | [],ms',b0,b,h,hs=>by
    have:ms'=[]:=List.length_eq_zero_iff.1 h.1
    subst this;exact ⟨hs,rfl⟩
  | x :: ms,[],b0,b,h,hs=>by cases h.1
  | x :: ms,y :: ms',b0,b,h,hs=>by
    obtain ⟨h1,h2⟩:=h
    obtain ⟨e1,e2,e3⟩:=h2 0 x y rfl rfl
    simp only [List.foldl_cons,Bool.true_and] at hs ⊢
    cases hp:ZbQ b0 x with
    | false=>
      rw [hp] at hs
      have:=Zca (p:=ZbQ) (nx:=fun _ m=>m.uid) ms x.uid
      rw [hs] at this;cases this
    | true=>
      rw [hp] at hs
      have hq:ZbQ b0 y=true:=by
        simp only [ZbQ,ZbG,Bool.and_eq_true,decide_eq_true_eq] at hp ⊢
        rw [e1,e2]
        rcases e3 with e3 | e3
        · rw [e3];exact hp
        · omega
      rw [hq,e1]
      obtain ⟨h3,h4⟩:=Zlo (ms:=ms) (ms':=ms') x.uid b ⟨by simpa using h1,fun i a c ha hc=>h2 (i+1) a c (by simpa using ha) (by simpa using hc)⟩ hs
      refine ⟨h3,?_⟩
      simp only [Zap,List.map_cons,List.sum_cons,e2] at h4 ⊢
      omega
theorem ZrT {b:DBox} {ms:List DMail} (h:Zbl b=true) (hl:Like b.mail ms):Zbl ⟨b.next,ms⟩=true∧Zap ms=Zap b.mail:=by
  obtain ⟨l,hs,h1,h2,h3⟩:=Zfl h
  obtain ⟨h4,h5⟩:=Zlo 0 l hl hs
  refine ⟨?_,h5⟩
  rw [Zdu (b:=⟨b.next,ms⟩) h4]
  simp only [Bool.and_eq_true,decide_eq_true_eq,hl.1];omega
theorem Ziu :∀(ms:List DMail) (b0 b1 b:Int),b1≤b0→ms.foldl (fun (s:Bool × Int) x=>(s.1 && ZbQ s.2 x,x.uid)) (true,b0)=(true,b)→∃c,c≤b∧(ZcA ms).foldl (fun (s:Bool × Int) x=>(s.1 && ZbQ s.2 x,x.uid)) (true,b1)=(true,c)∧Zap (ZcA ms)≤Zap ms
  | [],b0,b1,b,hb,h=>by cases h;exact ⟨b1,hb,rfl,Nat.le_refl _⟩
  | x :: ms,b0,b1,b,hb,h=>by
    simp only [List.foldl_cons,Bool.true_and] at h
    cases hp:ZbQ b0 x with
    | false=>
      rw [hp] at h
      have:=Zca (p:=ZbQ) (nx:=fun _ m=>m.uid) ms x.uid
      rw [h] at this;cases this
    | true=>
      rw [hp] at h
      have hx:b0<x.uid:=by simp only [ZbQ,Bool.and_eq_true,decide_eq_true_eq] at hp;exact hp.2
      cases hd:Zo2 x with
      | true=>
        obtain ⟨c,h1,h2,h3⟩:=Ziu ms x.uid b1 b (by omega) h
        have e:ZcA (x :: ms)=ZcA ms:=by simp [ZcA,hd]
        rw [e]
        refine ⟨c,h1,h2,?_⟩
        simp only [Zap,List.map_cons,List.sum_cons] at h3 ⊢;omega
      | false=>
        obtain ⟨c,h1,h2,h3⟩:=Ziu ms x.uid x.uid b (by omega) h
        have e:ZcA (x :: ms)=x :: ZcA ms:=by simp [ZcA,hd]
        rw [e]
        have hq:ZbQ b1 x=true:=by
          simp only [ZbQ,Bool.and_eq_true,decide_eq_true_eq] at hp ⊢
          exact ⟨hp.1,by omega⟩
        refine ⟨c,h1,?_,?_⟩
        · simp only [List.foldl_cons,Bool.true_and,hq];exact h2
        · simp only [Zap,List.map_cons,List.sum_cons] at h3 ⊢;omega
theorem Zr1 {b:DBox} (h:Zbl b=true):Zbl ⟨b.next,ZcA b.mail⟩=true∧Zap (ZcA b.mail)≤Zap b.mail:=by
  obtain ⟨l,hs,h1,h2,h3⟩:=Zfl h
  obtain ⟨c,h4,h5,h6⟩:=Ziu b.mail 0 0 l (by omega) hs
  refine ⟨?_,h6⟩
  have:(ZcA b.mail).length≤b.mail.length:=List.length_filter_le _ _
  rw [Zdu (b:=⟨b.next,ZcA b.mail⟩) h5]
  simp only [Bool.and_eq_true,decide_eq_true_eq];omega
theorem Zdj {x:DHost} {k:Nat} {f:DFolder} (h:x.folders[k]? = some f):Zho x k=f.box:=by simp only [Zho,h]
theorem ZhI {x:DHost} {s:DSess} {r:Int} (h:(atF x s r).2=0):(atF x s r).1=Za6 (inF s.owner s.name) x.folders∧0≤(atF x s r).1∧0≤ZcC x.users s.user∧∃f,x.folders[(atF x s r).1.toNat]? = some f∧Zgv f s.user 1=true∧Zgv f s.user 2=true∧Zgv f s.user r=true:=by
  unfold atF at h ⊢
  split at h
  · rename_i h1;exact absurd h h1
  · rename_i h1
    rw [if_neg h1]
    obtain ⟨h2,h3,f,hf,h4,h5⟩:=Zec h
    obtain ⟨_,_,f',hf',_,h6⟩:=Zec (Decidable.not_not.1 h1)
    rw [hf] at hf';cases hf'
    exact ⟨rfl,h3,h2,f,hf,h4,h6,h5⟩
theorem Zqo {x:DHost} {s:DSess} {set:List DSpan} {how fl:Int} (h:Zz x=true):(Zcd x s set how fl).2=5∨Zz (Zcd x s set how fl).1=true∨(Zd3 (Zho x (atF x s 4).1.toNat).mail.length (ZaE set (Zho x (atF x s 4).1.toNat).mail.length)=false):=by
  unfold Zcd
  split
  · exact .inl rfl
  · rename_i h1
    split
    · exact .inr (.inl h)
    · rename_i h2
      cases hn:Zd3 (Zho x (atF x s 4).1.toNat).mail.length (ZaE set (Zho x (atF x s 4).1.toNat).mail.length) with
      | false=>exact .inr (.inr rfl)
      | true=>
        refine .inr (.inl (Zk7 h fun f hf=>?_))
        simp only [h,true_and,Decidable.not_not] at h1
        have hb:=Zb0 (Zbs h hf)
        rw [Zdj hf] at hn ⊢
        rw [Zbj,if_pos ⟨hb,hn,h1.2.2,h1.2.1⟩]
        obtain ⟨h4,h5⟩:=ZrT hb (Zhi (how:=how) (fl:=fl) (ZaE set f.box.mail.length) (Like.refl f.box.mail))
        exact ⟨h4,Nat.le_of_eq h5⟩
theorem ZmL {x:DHost} {s:DSess} (h:Zz x=true):(ZaP x s).2.2=5∨Zz (ZaP x s).1=true:=by
  unfold ZaP
  split
  · exact .inl rfl
  · split
    · exact .inr h
    · refine .inr (Zk7 h fun f hf=>?_)
      have hb:=Zb0 (Zbs h hf)
      rw [Zdj hf,expunge,if_pos hb]
      exact Zr1 hb
theorem ZgC (s:List DSpan) (last:Int) :∀(n:Nat) (y:Int),y∈ZcY s last n→1≤y∧y≤n
  | 0,y,h=>by cases h
  | n+1,y,h=>by
    simp only [ZcY] at h
    split at h
    · rw [List.mem_append,List.mem_singleton] at h
      rcases h with h | rfl
      · have:=ZgC s last n y h;omega
      · omega
    · have:=ZgC s last n y h;omega
theorem Zli {m:Nat} {xs:List Int} {b y:Int} (h:ZdJ m xs=(true,b)) (hy:ZpR m b y=true):ZdJ m (xs ++ [y])=(true,y):=by
  rw [ZdJ,scn,List.foldl_append]
  have:xs.foldl (fun (s:Bool × Int) x=>(s.1 && ZpR m s.2 x,x)) (true,0)=(true,b):=h
  rw [this];simp [hy]
theorem Zif (s:List DSpan) (last:Int) (m:Nat) :∀n,n≤m→∃b,ZdJ m (ZcY s last n)=(true,b)∧b≤n
  | 0,_=>⟨0,rfl,by simp⟩
  | n+1,h=>by
    obtain ⟨b,h1,h2⟩:=Zif s last m n (by omega)
    simp only [ZcY]
    split
    · exact ⟨_,Zli h1 (by simp only [ZpR,Bool.and_eq_true,decide_eq_true_eq];omega),by omega⟩
    · exact ⟨b,h1,by omega⟩
theorem ZpQ (s:List DSpan) (m:Nat):Zd3 m (ZaE s m)=true:=by
  unfold ZaE
  split
  · obtain ⟨b,h,_⟩:=Zif s (min (m:Int) 99) m (min (m:Int) 99).toNat (by omega)
    rw [Zd3,h]
  · rfl
theorem ZjA {s:List DSpan} {m:Nat} {y:Int} (h:y∈ZaE s m):1≤y∧y≤m:=by
  unfold ZaE at h
  split at h
  · have:=ZgC _ _ _ _ h;omega
  · cases h
theorem Zjy (s:List DSpan) (last:Int) :∀n,(ZcY s last n).length≤n
  | 0=>by simp [ZcY]
  | n+1=>by
    have:=Zjy s last n
    simp only [ZcY]
    split
    · simp;omega
    · omega
theorem ZmW {to:Nat} {s:DHost × Int} {m:DMail} (h:Zz s.1=true) (hm:ZbG m=true):Zz (ZbO to s m).1=true:=by
  unfold ZbO
  simp only [ZbG,Bool.and_eq_true,decide_eq_true_eq] at hm
  split
  · exact Zhw h (by simp only [ZaU,Bool.and_eq_true,decide_eq_true_eq];exact hm.1.2) hm.2
  · exact h
theorem ZiU {to:Nat} :∀(ms:List DMail) (s:DHost × Int),Zz s.1=true→(∀m,m∈ms→ZbG m=true)→Zz (ms.foldl (ZbO to) s).1=true
  | [],_,h,_=>h
  | m :: ms,s,h,hm=>ZiU ms _ (ZmW h (hm m (List.mem_cons_self ..))) fun y hy=>hm y (List.mem_cons_of_mem _ hy)
theorem Zp3 {b:DBox} (h:Zbl b=true) {y:Int} (hy:1≤y∧y≤b.mail.length):ZbG (Zc6 b.mail y)=true:=by
  unfold Zc6
  have :∃m,b.mail[(y - 1).toNat]? = some m:=⟨_,List.getElem?_eq_getElem (by omega)⟩
  obtain ⟨m,hm⟩:=this
  simp only [hm]
  exact (Zdt h).1 m (List.mem_of_getElem? hm)
theorem Zsb {x:DHost} {s:DSess} {set:List DSpan} {o n:Str} (h:Zz x=true):(Zeq x s set o n).2=5∨Zz (Zeq x s set o n).1=true:=by
  unfold Zeq
  split
  · exact .inl rfl
  · split
    · exact .inr h
    · rename_i h2
      split
      · exact .inr h
      · obtain ⟨_,_,_,f,hf,_⟩:=ZhI (Decidable.not_not.1 h2)
        have hb:=Zb0 (Zbs h hf)
        simp only []
        split
        · refine .inr (ZiU _ _ h fun m hm=>?_)
          obtain ⟨y,hy,rfl⟩:=List.mem_map.1 hm
          rw [Zdj hf] at hy ⊢
          exact Zp3 hb (ZjA hy)
        · exact .inr h
theorem Zt3 {x:DHost} {e:DEvent} (h:Zz x=true):(ZhH x e).2=5∨Zz (ZhH x e).1=true:=by
  unfold ZhH
  split
  · exact ZoJ h
  · split
    · exact Zqp h
    · split
      · exact ZtW h
      · split
        · exact ZoI h
        · split
          · exact ZmM h
          · split
            · rcases Zqo (x:=x) (s:=⟨e.by_,e.owner,e.name⟩) (set:=[⟨e.a,e.a⟩]) (how:=1) (fl:=e.b) h with h | h | h
              · exact .inl h
              · exact .inr h
              · rw [ZpQ] at h;cases h
            · split
              · exact ZmL h
              · split
                · exact Zsb h
                · exact .inl rfl
theorem Zu1 {x:DHost} {e:DEvent} (h:Zz x=true):Zz (hDo x e).1=true:=by
  unfold hDo
  rw [h]
  simp only [Bool.true_eq_false,if_false]
  split
  · exact h
  · rename_i h2
    rcases Zt3 (e:=e) h with h3 | h3
    · exact absurd h3 h2
    · exact h3
end Go.BL
namespace Go.BL
open Go
set_option linter.unusedVariables false
set_option linter.unusedSimpArgs false
theorem ZrE {k:Nat} {e:Int} (h:([1,2,4,8,16,32]:List Int)[k]? = some e):e=Zbz k:=by rw [Zbz,List.getD_eq_getElem?_getD,h];rfl
theorem ZpJ {k:Nat} {e:Int} (h:([1,2,4,8,16]:List Int)[k]? = some e):e=Zbz k:=by
  have hk:=(List.getElem?_eq_some_iff.1 h).1
  simp only [List.length_cons,List.length_nil] at hk
  have:k=0∨k=1∨k=2∨k=3∨k=4:=by omega
  rcases this with rfl | rfl | rfl | rfl | rfl <;> simp at h <;> rw [← h] <;> rfl
theorem Zjx {a b:Int} (h0:0≤a) (h1:a≤1000000) (hb:0<b):IntKind.i64.wrap (Int.tdiv a b)=Int.tdiv a b:=
  ZaN (Int.le_trans (by decide) (Int.tdiv_nonneg h0 (by omega))) (Int.le_trans (Int.tdiv_le_self _ h0) (by omega))
theorem Zfa {gs:List DGrant} (h:ZbR gs=true) :∀y,y∈gs→0≤y.rights∧y.rights≤63:=by
  intro y hy
  simp only [ZbR,Bool.and_eq_true] at h
  obtain ⟨b,hb⟩:=Zj1 (p:=Zcs) (nx:=fun _ g=>g.user) gs [] h.1 y hy
  simp only [Zcs,Bool.and_eq_true,decide_eq_true_eq] at hb;omega
def ZhN (fs:List DFolder):Prop:=∀f,f∈fs→∀y,y∈f.grants→0≤y.rights∧y.rights≤63
theorem Zbf {x:DHost} (h:Zz x=true):ZhN x.folders:=fun f hf=>by
  have:=(ZaJ.1 h).2.1.1 f hf
  simp only [Z6,Bool.and_eq_true] at this
  exact Zfa this.1.2
theorem Zmm (gs:List DGrant) (u:Str):0≤ZbL gs u∧ZbL gs u≤600:=ZiY gs u 6 (Nat.le_refl _)
theorem Zpk :∀{fs:List DFolder} (us:List DUser) (u:Str),(∀f,f∈fs→Z6 us f=true)→Zbb fs u≤fs.length*200
  | [],_,_,_=>by simp [Zbb]
  | f :: fs,us,u,h=>by
    have ih:=Zpk us u fun g hg=>h g (List.mem_cons_of_mem _ hg)
    obtain ⟨h1,h2⟩:=Zdt (Zb0 (h f (List.mem_cons_self ..)))
    have h3:Zap f.mail≤f.mail.length*20:=ZfH _ h1
    have h4:f.mail.length≤10:=h2
    simp only [Zbb,List.map_cons,List.sum_cons,List.length_cons] at ih ⊢
    split <;> omega
theorem ZmG {x:DHost} (h:Zz x=true) (u:Str):Zbb x.folders u≤1600:=by
  obtain ⟨_,⟨h4,_,h6⟩,_⟩:=ZaJ.1 h
  have:=Zpk x.users u h4
  omega
theorem Zdi {b:DBox} (h:Zbl b=true):1≤b.next∧b.next≤100∧b.mail.length≤10:=by
  obtain ⟨l,hs,h1,h2,h3⟩:=Zfl h
  have:=Zj2 b.mail 0 l hs
  omega
structure GHC where
  q1:Option Addr
  c1:Nat
  q3:Option Addr
  c3:Nat
  b:Nat
theorem Zg5 {α:Type} {p:α→Bool} :∀{fs:List α} {k:Nat},(∀y,y∈fs.take k→p y=true)→(fs.length≤k∨∃z,fs[k]? = some z∧p z=false)→k≤fs.length→(fs.takeWhile p).length=k
  | [],k,_,_,hk=>by simp at hk;subst hk;rfl
  | a :: fs,0,_,he,_=>by
    rcases he with he | ⟨z,hz,hp⟩
    · simp at he
    · simp at hz;subst hz;simp [hp]
  | a :: fs,k+1,ha,he,hk=>by
    have h1:p a=true:=ha a (by simp)
    have ih:=Zg5 (fs:=fs) (k:=k) (fun y hy=>ha y (by simp [hy])) (by
      rcases he with he | ⟨z,hz,hp⟩
      · exact .inl (by simpa using he)
      · exact .inr ⟨z,by simpa using hz,hp⟩) (by simpa using hk)
    simp [h1,ih]
theorem Zcr {x:DHost} {u n:Str} {k:Nat} (h1:Zz x=true) (h2:Zaq n=true) (h3 : ¬ ZcC x.users u<0) (h4 : ¬ 0≤Za6 (inF u n) x.folders) (h5 : ¬ 8≤x.folders.length) (hk:k≤x.folders.length)
    (ha :∀y,y∈x.folders.take k→ZbY y (ZeU u n)=true) (he:x.folders.length≤k∨∃z,x.folders[k]? = some z∧ZbY z (ZeU u n)=false) :
    Zbk x u n=(x.withFolders (((x.folders.take k).drop 0 ++ [⟨u,n,[],1,[]⟩]) ++ (x.folders.take x.folders.length).drop k),0):=by
  rw [Zbk,if_neg (fun h=>h ⟨h1,h2⟩),if_neg h3,if_neg (fun h=>h.elim h4 h5),Zhn,show ZgI x.folders (ZeU u n)=k from Zg5 ha he hk,List.drop_zero,List.take_length]
  rfl
theorem ZgX {gs:List DGrant} {u:Str} {r:Int} (h : ¬ (ZbR gs=true∧Zaq u=true∧ZdH r=true)):Zb5 gs u r=([],false):=by rw [Zb5,if_pos h]
theorem ZlZ {gs:List DGrant} {u:Str} {r:Int} (h:ZbR gs=true∧Zaq u=true∧ZdH r=true) (h2:ZbR (Zgt gs u r)=false):Zb5 gs u r=(gs,false):=by rw [Zb5,if_neg (fun a=>a h),if_neg (by rw [h2];exact Bool.false_ne_true)]
theorem ZjW {gs:List DGrant} {u:Str} {r:Int} (h:ZbR gs=true∧Zaq u=true∧ZdH r=true) (h2:ZbR (Zgt gs u r)=true):Zb5 gs u r=(Zgt gs u r,true):=by rw [Zb5,if_neg (fun a=>a h),if_pos h2]
theorem ZgY {gs xs:List DGrant} {u:Str} {r:Int} (h:(true,xs)=Zeu u r gs):Zgt gs u r=xs:=by rw [Zgt,← h];rfl
theorem ZgZ {gs xs:List DGrant} {u:Str} {r:Int} (h:(false,xs)=Zeu u r gs):Zgt gs u r=xs ++ [⟨u,r⟩]:=by rw [Zgt,← h];rfl
theorem Zi2 {gs:List DGrant} (h:ZbR gs=true):gs.length≤4:=by simp only [ZbR,Bool.and_eq_true,decide_eq_true_eq] at h;exact h.2
theorem ZjJ {x:DHost} {k:Nat} {f:DFolder} {u:Str} {r:Int} (hf:x.folders[k]? = some f) (h:(Zb5 f.grants u r).2=false):Ze1 x k u r=(x,4):=by simp only [Ze1,hf,h];rfl
theorem ZiF {x:DHost} {k:Nat} {f:DFolder} {u:Str} {r:Int} (hf:x.folders[k]? = some f) (h:(Zb5 f.grants u r).2=true):Ze1 x k u r=(x.withFolders (x.folders.set k (f.withGrants (Zb5 f.grants u r).1)),0):=by simp only [Ze1,hf,h,if_true]
theorem Zjz {n:Nat} {xs:List Int} {k:Nat} {x b:Int} (hx:xs[k]? = some x) (hs:ZdJ n (xs.take k)=(true,b)) (h:ZpR n b x=false):Zd3 n xs=false:=Zhv hx hs h
theorem Zom {n:Nat} {xs:List Int} {b:Int} (h:ZdJ n xs=(true,b)):Zd3 n xs=true:=by rw [Zd3,h]
theorem Zol {n:Nat} {xs:List Int} (h:Zd3 n xs=true) :∀y,y∈xs→1≤y∧y≤n:=by
  intro y hy
  obtain ⟨b,hb⟩:=Zj1 (p:=ZpR n) (nx:=fun _ x=>x) xs 0 h y hy
  simp only [ZpR,Bool.and_eq_true,decide_eq_true_eq] at hb;omega
theorem ZlH {ms:List DMail} {how fl:Int} {ns:List Int} {k:Nat} {y:Int} {a m:DMail} (hy:ns[k]? = some y) (ha:(ZdV ms how fl (ns.take k))[(y - 1).toNat]? = some a) (hm:ms[(y - 1).toNat]? = some m) :
    ZdV ms how fl (ns.take (k+1))=(ZdV ms how fl (ns.take k)).set (y - 1).toNat ⟨a.uid,chg m.flags how fl,a.text⟩:=by
  have e:ZdV ms how fl (ns.take (k+1))=ZgN ms how fl (ZdV ms how fl (ns.take k)) y:=by rw [Zas hy,ZdV,List.foldl_append];rfl
  rw [e,ZgN,ha,hm]
theorem ZfX {b:DBox} (h:Zbl b=true) {m:DMail} (hm:m∈b.mail):0≤m.flags∧m.flags≤31:=by
  have:=(Zdt h).1 m hm
  simp only [ZbG,Bool.and_eq_true,decide_eq_true_eq] at this;exact this.1.2
theorem ZrZ {ms:List DMail} {k:Nat} {x:DMail} (hx:ms[k]? = some x) (h:Zo2 x=false):ZcA (ms.take (k+1))=ZcA (ms.take k) ++ [x]:=by
  rw [Zas hx,ZcA,List.filter_append];simp [ZcA,h]
theorem ZtO {ms:List DMail} {k:Nat} {x:DMail} (hx:ms[k]? = some x) (h:Zo2 x=true):ZcA (ms.take (k+1))=ZcA (ms.take k):=by
  rw [Zas hx,ZcA,List.filter_append];simp [ZcA,h]
theorem ZjK {ms:List DMail} {k:Nat} {x:DMail} (hx:ms[k]? = some x):Zkp (ms.take (k+1))=Zdb (Zkp (ms.take k)) x:=by
  rw [Zas hx,Zkp,List.foldl_append];rfl
theorem Zqq (ms:List DMail):(Zkp ms).1=(ZcA ms).length:=by
  have key :∀(ms:List DMail) (s:Nat × List Int),(ms.foldl Zdb s).1=s.1+(ZcA ms).length:=by
    intro ms
    induction ms with
    | nil=>intro s;rfl
    | cons m ms ih=>
      intro s
      rw [List.foldl_cons,ih,Zdb]
      cases hd:Zo2 m with
      | true=>simp [ZcA,hd]
      | false=>simp [ZcA,hd];omega
  rw [Zkp,key];simp
theorem Zr0 (ms:List DMail) (k:Nat):(ZcA (ms.take k)).length≤k:=Nat.le_trans (List.length_filter_le _ _) (by rw [List.length_take];omega)
theorem Zok {s:List DSpan} {last:Int} {n:Nat} (h:Zgd s last (n+1:Nat)=true):ZcY s last (n+1)=ZcY s last n ++ [((n+1:Nat):Int)]:=by simp only [ZcY,h,if_true]
theorem ZpP {s:List DSpan} {last:Int} {n:Nat} (h:Zgd s last (n+1:Nat)=false):ZcY s last (n+1)=ZcY s last n:=by simp only [ZcY,h];rfl
theorem Zh6 {x:DHost} {k:Nat} {b:DBox} {f:DFolder} (h:x.folders[k]? = some f):Zjt x k b=x.withFolders (x.folders.set k (f.withBox b)):=by simp only [Zjt,h]
theorem Zes {b:DBox} {ns:List Int} {how fl:Int} (h : ¬ (Zbl b=true∧Zd3 b.mail.length ns=true∧Zkm how=true∧ZaU fl=true)):Zbj b ns how fl=(⟨0,[]⟩,false):=by rw [Zbj,if_neg h]
theorem ZlR {b:DBox} {ns:List Int} {how fl:Int} (h:Zbl b=true∧Zd3 b.mail.length ns=true∧Zkm how=true∧ZaU fl=true):Zbj b ns how fl=(⟨b.next,ZdV b.mail how fl ns⟩,true):=by rw [Zbj,if_pos h]
structure GEx where
  k:Nat
  m:Gh DMail
  n:Gh Int
structure GCp where
  k:Nat
  x:DHost
  c:Int
  q1:Option Addr
  c1:Nat
  q2:Option Addr
  c2:Nat
  q3:Option Addr
  c3:Nat
theorem ZqR {ns:List Int} {ms:List DMail} {to k:Nat} {y:Int} {s:DHost × Int} (hy:ns[k]? = some y):((ns.take (k+1)).map (Zc6 ms)).foldl (ZbO to) s=ZbO to (((ns.take k).map (Zc6 ms)).foldl (ZbO to) s) (Zc6 ms y):=by
  rw [Zas hy,List.map_append,List.foldl_append];rfl
theorem ZgQ {to:Nat} :∀(ms:List DMail) (s:DHost × Int),s.2≠0→ms.foldl (ZbO to) s=s
  | [],_,_=>rfl
  | m :: ms,s,h=>by rw [List.foldl_cons,ZbO,if_neg h];exact ZgQ ms s h
theorem ZqQ {ns:List Int} {ms:List DMail} {to k:Nat} {s:DHost × Int} {y:DHost} {c:Int} (h:(y,c)=((ns.take k).map (Zc6 ms)).foldl (ZbO to) s) (hc : ¬ c=0):(y,c)=(ns.map (Zc6 ms)).foldl (ZbO to) s:=by
  have e:ns=ns.take k ++ ns.drop k:=(List.take_append_drop k ns).symm
  conv=>rhs;rw [e,List.map_append,List.foldl_append,← h,ZgQ _ _ hc]
theorem ZlC {x:DHost} {s:DSess} {set:List DSpan} {o n:Str} {f:DFolder} {y:DHost} {c:Int} (h : ¬ ¬ (Zz x=true∧Zh5 set=true)) (ha:(atF x s 2).2=0) (hf:x.folders[(atF x s 2).1.toNat]? = some f)
    (hr:(y,c)=((ZaE set f.mail.length).map (Zc6 f.mail)).foldl (ZbO (Za6 (inF o n) x.folders).toNat) (x,Zi4 x.users x.folders s.user (Za6 (inF o n) x.folders) 8)):Zeq x s set o n=if c=0 then (y,0) else (x,c):=by
  rw [Zeq,if_neg h,if_neg (fun h=>h ha),Zdj hf]
  by_cases h8:Zi4 x.users x.folders s.user (Za6 (inF o n) x.folders) 8=0
  · rw [if_neg (fun h=>h h8)]
    rw [h8] at hr
    have e:ZiT x ((ZaE set f.mail.length).map (Zc6 f.mail)) (Za6 (inF o n) x.folders).toNat=(y,c):=hr.symm
    show (if (ZiT x ((ZaE set f.mail.length).map (Zc6 f.mail)) (Za6 (inF o n) x.folders).toNat).2=0 then ZiT x ((ZaE set f.mail.length).map (Zc6 f.mail)) (Za6 (inF o n) x.folders).toNat else (x,(ZiT x ((ZaE set f.mail.length).map (Zc6 f.mail)) (Za6 (inF o n) x.folders).toNat).2))=_
    rw [e]
    by_cases hc:c=0
    · simp only [hc,if_true]
    · simp only [hc,if_false]
  · rw [if_pos h8]
    rw [ZgQ _ _ h8] at hr
    cases hr
    rw [if_neg h8]
theorem Zon (s:List DSpan) (m:Nat):(ZaE s m).length≤m:=by
  unfold ZaE
  split
  · have:=Zjy s (min (m:Int) 99) (min (m:Int) 99).toNat
    omega
  · simp
theorem Zfm (gs:List DGrant) (u:Str) (r:Int):(Zb5 gs u r).1.length≤gs.length+4:=by
  unfold Zb5
  split
  · simp
  · split
    · rename_i h;have:=Zi2 h;simp only [];omega
    · simp only [];omega
theorem ZsF (b:DBox) (fl:Int) (t:Str):(ZgW b fl t).1.mail.length≤b.mail.length+1:=by
  unfold ZgW;split <;> simp
theorem ZmR (b:DBox):(expunge b).1.mail.length≤b.mail.length∧(expunge b).2.length≤b.mail.length:=by
  unfold expunge
  split
  · have key :∀(ms:List DMail) (s:Nat × List Int),(ms.foldl Zdb s).2.length≤s.2.length+ms.length:=by
      intro ms
      induction ms with
      | nil=>intro s;simp
      | cons m ms ih=>
        intro s
        rw [List.foldl_cons]
        cases hd:Zo2 m with
        | true=>
          have:=ih (s.1,s.2 ++ [((s.1+1:Nat):Int)])
          rw [Zdb,if_pos hd]
          simp only [List.length_append,List.length_cons,List.length_nil] at this ⊢;omega
        | false=>
          have:=ih (s.1+1,s.2)
          rw [Zdb,if_neg (by simp [hd])]
          simp only [List.length_cons] at this ⊢;omega
    have:=key b.mail (0,[])
    exact ⟨List.length_filter_le _ _,by simpa [Zkp] using this⟩
  · simp
def ZT (b:DBox) (fl:Int) (t:Str):DBox × Bool:=if Zbl b=true∧ZaU fl=true∧t.length≤20 then ZgW b fl t else (⟨0,[]⟩,false)
theorem Ze7 {b:DBox} {fl:Int} {t:Str} (h : ¬ (Zbl b=true∧ZaU fl=true∧t.length≤20)):ZT b fl t=(⟨0,[]⟩,false):=by rw [ZT,if_neg h]
theorem ZkC {b:DBox} {fl:Int} {t:Str} (h:Zbl b=true∧ZaU fl=true∧t.length≤20):ZT b fl t=ZgW b fl t:=by rw [ZT,if_pos h]
theorem ZdL (b:DBox) (fl:Int) (t:Str):0≤(ZT b fl t).1.next∧(ZT b fl t).1.next≤101∧(ZT b fl t).1.mail.length≤11:=by
  unfold ZT
  split
  · rename_i h
    have:=Zdi h.1
    unfold ZgW
    split
    · simp only [];omega
    · simp;omega
  · simp
theorem ZH (b:DBox):0≤(expunge b).1.next∧(expunge b).1.next≤101∧(expunge b).1.mail.length≤10:=by
  unfold expunge
  split
  · rename_i h
    have:=Zdi h
    have:=List.length_filter_le (fun m=>!Zo2 m) b.mail
    simp only [ZcA];omega
  · simp
theorem Zgo {us:List DUser} {f:DFolder} (h:Z6 us f=true):f.grants.length≤4:=by
  simp only [Z6,Bool.and_eq_true] at h;exact Zi2 h.1.2
theorem ZmH {x:DHost} (h:Zz x=true) :∀y,y∈x.queue.items→0<y.left.length:=fun y hy=>by
  have:=ZdI (ZhF h) hy
  simp only [ZcB,ZaO,Bool.and_eq_true,decide_eq_true_eq] at this
  exact this.1.2
theorem ZoA {x:DHost} (h:Zz x=true):0<x.folders.length∧0<x.users.length:=by
  obtain ⟨⟨_,h2,_⟩,_,h7,_⟩:=ZaJ.1 h
  simp only [Zaw,Bool.and_eq_true,decide_eq_true_eq] at h2
  have hu:0<x.users.length:=by omega
  refine ⟨?_,hu⟩
  have:=h7 _ (List.getElem_mem hu)
  simp only [ZaR,Bool.and_eq_true,decide_eq_true_eq] at this
  obtain ⟨f,hf,_⟩:=ZdK.1 this.1
  exact List.length_pos_of_mem hf
def Zfu (a b:Int):List DUser:=[⟨[97,109,121],[97,49],60⟩,⟨[98,111,98],[98,50],20+a⟩,⟨[99,121,100],[99,51],100+b⟩]
theorem ZqM {a b:Int} (h1:0≤a) (h2:a<60) (h3:0≤b) (h4:b<100):Zck [104,111,115,116,46,111,114,103] (Zfu a b)=(ZpT [104,111,115,116,46,111,114,103] (Zfu a b),true)∧Zz (ZpT [104,111,115,116,46,111,114,103] (Zfu a b))=true:=by
  have hd:Zcj [104,111,115,116,46,111,114,103]=true:=by decide
  have hu:Zaw (Zfu a b)=true:=by
    have e1:Zdl [] ⟨[97,109,121],[97,49],60⟩=true:=by decide
    have e2:Zdl [97,109,121] ⟨[98,111,98],[98,50],20+a⟩=true:=by
      have:(decide (0≤20+a) && decide (20+a≤200))=true:=by simp;omega
      simp only [Zdl,Zcu,this,Bool.and_true];rfl
    have e3:Zdl [98,111,98] ⟨[99,121,100],[99,51],100+b⟩=true:=by
      have:(decide (0≤100+b) && decide (100+b≤200))=true:=by simp;omega
      simp only [Zdl,Zcu,this,Bool.and_true];rfl
    simp [Zaw,ZdE,scn,Zfu,e1,e2,e3]
  have:=Zmt [104,111,115,116,46,111,114,103] (Zfu a b)
  rw [hd,hu] at this
  exact ⟨ZiA this,this⟩
structure GHo where
  k:Nat
  p:Nat
  x:DHost
  q1:Option Addr
  c1:Nat
  q2:Option Addr
  c2:Nat
  q3:Option Addr
  c3:Nat
structure GBo where
  k:Nat
  p:Nat
  l:Cells
  a:Option Addr
  c:Nat
  x:DBox
structure GAc where
  k:Nat
  p:Nat
  l:Cells
  a:Option Addr
  c:Nat
  xs:List DGrant
theorem Zlh :∀{fs:List DFolder},Zgu fs=true→fs.Pairwise fun a b=>ZbY a b=true
  | [],_=>.nil
  | [_],_=>.cons (by simp) .nil
  | a :: b :: r,h=>by
    simp only [Zgu,Bool.and_eq_true] at h
    have ih:=Zlh (fs:=b :: r) h.2
    have tr :∀c,c∈b :: r→ZbY a c=true:=by
      intro c hc
      rcases List.mem_cons.1 hc with rfl | hc
      · exact h.1
      · have h2:ZbY b c=true:=by cases ih with | cons h3 _=>exact h3 c hc
        have h1:=h.1
        simp only [ZbY,Bool.or_eq_true,Bool.and_eq_true,decide_eq_true_eq] at h1 h2 ⊢
        rcases h1 with h1 | ⟨e1,h1⟩
        · rcases h2 with h2 | ⟨e2,h2⟩
          · exact .inl (Zdf h1 h2)
          · exact .inl (e2 ▸ h1)
        · rcases h2 with h2 | ⟨e2,h2⟩
          · exact .inl (e1 ▸ h2)
          · exact .inr ⟨e1.trans e2,Zdf h1 h2⟩
    exact .cons tr ih
theorem ZrU {a b:DFolder} (h:ZbY a b=true) : ¬ (a.owner=b.owner∧a.name=b.name):=by
  rintro ⟨e1,e2⟩
  simp only [ZbY,e1,e2,ZcS,Bool.and_false,Bool.or_false] at h
  cases h
theorem ZnD :∀{fs:List DFolder},fs.Pairwise (fun a b=>ZbY a b=true)→∀f,f∈fs→fs.find? (inF f.owner f.name)=some f
  | [],_,f,h=>by cases h
  | a :: fs,hp,f,h=>by
    cases hp with
    | cons h1 h2=>
      rw [List.find?_cons]
      rcases List.mem_cons.1 h with rfl | h
      · simp [inF]
      · have:=ZrU (h1 f h)
        have e:inF f.owner f.name a=false:=by
          rw [Bool.eq_false_iff];intro hc
          simp only [inF,Bool.and_eq_true,decide_eq_true_eq] at hc
          exact this hc
        rw [e]
        exact ZnD h2 f h
theorem ZdS {x:DHost} (h:Zz x=true) {f:DFolder} (hf:f∈x.folders):ZL x f.owner f.name=(f,true):=by
  rw [ZL,if_pos h,ZnD (Zlh (ZaJ.1 h).2.1.2.1) f hf]
end Go.BL
namespace Go.BL
open Go
set_option linter.unusedVariables false
set_option linter.unusedSimpArgs false
def Zb1 (gs:List DGrant) (o u:Str):Int:=
  if ¬ (ZbR gs=true∧Zaq o=true∧Zaq u=true) then -1 else if u=o then 63 else orI ((mget (ZeB gs) u).getD 0) ((mget (ZeB gs) anyone).getD 0)
theorem ZkH {gs:List DGrant} {o u:Str} (h : ¬ (ZbR gs=true∧Zaq o=true∧Zaq u=true)):Zb1 gs o u = -1:=by rw [Zb1,if_pos h]
theorem ZsH {gs:List DGrant} {o u:Str} (h1:ZbR gs=true) (h2:Zaq o=true) (h3:Zaq u=true):Zb1 gs o u=if u=o then 63 else orI ((mget (ZeB gs) u).getD 0) ((mget (ZeB gs) anyone).getD 0):=by rw [Zb1,if_neg (fun h=>h ⟨h1,h2,h3⟩)]
def Zmv (us:List DUser) (f:DFolder) (u:Str) (r:Int):Bool:=(ZaX us u).2 && (decide (0≤Zb1 f.grants f.owner u) && !decide (Zvq (Zb1 f.grants f.owner u) r=0))
theorem ZoW {gs:List DGrant} (h:ZbR gs=true):gs.Pairwise fun x y=>Op.bytesLess x.user y.user=true:=by
  simp only [ZbR,Bool.and_eq_true] at h
  exact (ZfK (p:=Zcs) (f:=fun u=>u.user) (fun b x hq=>by simp only [Zcs,Bool.and_eq_true] at hq;exact hq.2) gs [] (ZcZ gs).2 (Prod.ext h.1 rfl)).2
def Zhp (r b:Int):Bool:=decide (Int.tmod (Int.tdiv r b) 2=1)
theorem Zkb (u:Str) (b:Int) (h0:Zhp 0 b=false) :∀{gs:List DGrant},gs.Pairwise (fun x y=>Op.bytesLess x.user y.user=true)→(gs.any fun g=>decide (g.user=u) && Zhp g.rights b)=Zhp ((mget (ZeB gs) u).getD 0) b
  | [],_=>by simp [ZeB,mget,h0]
  | g :: gs,hp=>by
    obtain ⟨h1,h2⟩:=List.pairwise_cons.1 hp
    have ih:=Zkb u b h0 h2
    simp only [ZeB,List.map_cons,mget,List.any_cons] at ih ⊢
    by_cases hu:u=g.user
    · subst hu
      have hn:(gs.any fun x=>decide (x.user=g.user) && Zhp x.rights b)=false:=by
        rw [List.any_eq_false]
        intro x hx hc
        simp only [Bool.and_eq_true,decide_eq_true_eq] at hc
        have:=h1 x hx
        rw [hc.1,ZcS] at this;cases this
      simp [hn]
    · rw [if_neg hu,decide_eq_false (Ne.symm hu),← ih];simp
theorem Zik (u:Str) :∀{gs:List DGrant},(∀y,y∈gs→0≤y.rights∧y.rights≤63)→0≤(mget (ZeB gs) u).getD 0∧(mget (ZeB gs) u).getD 0≤63
  | [],_=>by simp [ZeB,mget]
  | g :: gs,h=>by
    have ih:=Zik u (gs:=gs) fun y hy=>h y (List.mem_cons_of_mem _ hy)
    simp only [ZeB,List.map_cons,mget] at ih ⊢
    by_cases hu:u=g.user
    · rw [if_pos hu];exact h g (List.mem_cons_self ..)
    · rw [if_neg hu];exact ih
theorem ZsZ :∀a,a<64→∀b,b<64→0≤orI (a:Nat) (b:Nat)∧orI (a:Nat) (b:Nat)≤63∧(∀k,k<6→(!decide (Zvq (orI (a:Nat) (b:Nat)) (Zbz k)=0))=(Zhp (a:Nat) (Zbz k) || Zhp (b:Nat) (Zbz k)))∧(!decide (Int.tmod (orI (a:Nat) (b:Nat)) 2=0))=(Zhp (a:Nat) 1 || Zhp (b:Nat) 1)∧(!decide (Int.tmod (Int.tdiv (orI (a:Nat) (b:Nat)) 2) 2=0))=(Zhp (a:Nat) 2 || Zhp (b:Nat) 2):=by
  decide +kernel
theorem Ztw :∀k,k<6→(!decide (Zvq 63 (Zbz k)=0))=true:=by decide +kernel
def Zxn (b0 b1 b2 b3 b4 b5:Bool):Int:=
  let s0:Int:=if b0=true then 0+Zbz 0 else 0
  let s1:=if b1=true then s0+Zbz 1 else s0
  let s2:=if b2=true then s1+Zbz 2 else s1
  let s3:=if b3=true then s2+Zbz 3 else s2
  let s4:=if b4=true then s3+Zbz 4 else s3
  if b5=true then s4+Zbz 5 else s4
theorem Zsv :∀b0 b1 b2 b3 b4 b5:Bool,∀k,k<6→Zhp (Zxn b0 b1 b2 b3 b4 b5) (Zbz k)=[b0,b1,b2,b3,b4,b5].getD k false:=by decide +kernel
theorem Zn9 {gs:List DGrant} {u:Str} {k:Nat} (hk:k<6):Zhp (ZbL gs u) (Zbz k)=gs.any (onB u (Zbz k)):=by
  have e:ZbL gs u=Zxn (gs.any (onB u (Zbz 0))) (gs.any (onB u (Zbz 1))) (gs.any (onB u (Zbz 2))) (gs.any (onB u (Zbz 3))) (gs.any (onB u (Zbz 4))) (gs.any (onB u (Zbz 5))):=rfl
  rw [e,Zsv _ _ _ _ _ _ k hk]
  have:k=0∨k=1∨k=2∨k=3∨k=4∨k=5:=by omega
  rcases this with rfl | rfl | rfl | rfl | rfl | rfl <;> rfl
theorem Zty {gs:List DGrant} {u:Str} {b:Int} : gs.any (onB u b)=((gs.any fun g=>decide (g.user=u) && Zhp g.rights b) || (gs.any fun g=>decide (g.user=anyone) && Zhp g.rights b)):=by
  induction gs with
  | nil=>rfl
  | cons g gs ih=>
    simp only [List.any_cons,ih,onB,Zhp]
    cases decide (g.user=u) <;> cases decide (g.user=anyone) <;> cases decide (Int.tmod (Int.tdiv g.rights b) 2=1) <;> simp
theorem Zm7 {k:Nat} (hk:k<6):Zhp 0 (Zbz k)=false:=by
  have:k=0∨k=1∨k=2∨k=3∨k=4∨k=5:=by omega
  rcases this with rfl | rfl | rfl | rfl | rfl | rfl <;> rfl
theorem Zlc {gs:List DGrant} {u:Str} (h:ZbR gs=true) {k:Nat} (hk:k<6):(!decide (Zvq (orI ((mget (ZeB gs) u).getD 0) ((mget (ZeB gs) anyone).getD 0)) (Zbz k)=0))=Zhp (ZbL gs u) (Zbz k)∧0≤orI ((mget (ZeB gs) u).getD 0) ((mget (ZeB gs) anyone).getD 0)∧orI ((mget (ZeB gs) u).getD 0) ((mget (ZeB gs) anyone).getD 0)≤63∧(!decide (Int.tmod (orI ((mget (ZeB gs) u).getD 0) ((mget (ZeB gs) anyone).getD 0)) 2=0))=Zhp (ZbL gs u) 1∧(!decide (Int.tmod (Int.tdiv (orI ((mget (ZeB gs) u).getD 0) ((mget (ZeB gs) anyone).getD 0)) 2) 2=0))=Zhp (ZbL gs u) 2:=by
  obtain ⟨a0,a1⟩:=Zik u (Zfa h)
  obtain ⟨b0,b1⟩:=Zik anyone (Zfa h)
  have hs:=ZoW h
  have e1 :∀k,k<6→Zhp (ZbL gs u) (Zbz k)=(Zhp ((mget (ZeB gs) u).getD 0) (Zbz k) || Zhp ((mget (ZeB gs) anyone).getD 0) (Zbz k)):=fun k hk=>by
    rw [Zn9 hk,Zty,Zkb u _ (Zm7 hk) hs,Zkb anyone _ (Zm7 hk) hs]
  generalize (mget (ZeB gs) u).getD 0=a at *
  generalize (mget (ZeB gs) anyone).getD 0=b at *
  obtain ⟨n,rfl⟩:=Int.eq_ofNat_of_zero_le a0
  obtain ⟨m,rfl⟩:=Int.eq_ofNat_of_zero_le b0
  obtain ⟨t1,t2,t3,t4,t5⟩:=ZsZ n (by omega) m (by omega)
  have h0:=e1 0 (by omega)
  exact ⟨by rw [t3 k hk,e1 k hk],t1,t2,by rw [t4];exact h0.symm,by rw [t5];exact (e1 1 (by omega)).symm⟩
theorem ZhX {x:DHost} {u:Str} (h:Zz x=true) (hu:0≤ZcC x.users u):Zaq u=true:=by
  obtain ⟨w,hw,rfl⟩:=ZbB.1 hu
  have:=Zg4 (Zhc h) hw
  simp only [Zcu,Bool.and_eq_true] at this
  exact this.1.1.1
theorem ZnS {x:DHost} {f:DFolder} {u:Str} (h:Zz x=true) (hf:f∈x.folders) (hu:0≤ZcC x.users u):Zb1 f.grants f.owner u=if u=f.owner then 63 else orI ((mget (ZeB f.grants) u).getD 0) ((mget (ZeB f.grants) anyone).getD 0):=by
  have hi:=(ZaJ.1 h).2.1.1 f hf
  simp only [Z6,Bool.and_eq_true,decide_eq_true_eq] at hi
  rw [Zb1,if_neg (fun hc=>hc ⟨hi.1.2,ZhX h hi.1.1.1,ZhX h hu⟩)]
theorem Zta {x:DHost} {f:DFolder} (h:Zz x=true) (hf:f∈x.folders):ZbR f.grants=true:=by
  have hi:=(ZaJ.1 h).2.1.1 f hf
  simp only [Z6,Bool.and_eq_true] at hi
  exact hi.1.2
theorem Zil {x:DHost} {f:DFolder} {u:Str} {k:Nat} (h:Zz x=true) (hf:f∈x.folders) (hk:k<6):Zmv x.users f u (Zbz k)=(decide (0≤ZcC x.users u) && Zgv f u (Zbz k)):=by
  rw [Zmv,ZmI h]
  by_cases hu:0≤ZcC x.users u
  · rw [ZnS h hf hu,Zgv]
    obtain ⟨r1,r2,r3,r4,r5⟩:=Zlc (gs:=f.grants) (u:=u) (Zta h hf) hk
    by_cases ho:u=f.owner
    · rw [if_pos ho,decide_eq_true ho,Ztw k hk];simp
    · rw [if_neg ho,decide_eq_false ho,r1,decide_eq_true r2];simp [Zhp]
  · simp [hu]
theorem Zmk {x:DHost} {f:DFolder} {u:Str} (h:Zz x=true) (hf:f∈x.folders) (hu:0≤ZcC x.users u):(!decide (Int.tmod (Zb1 f.grants f.owner u) 2=0))=Zgv f u 1∧(!decide (Int.tmod (Int.tdiv (Zb1 f.grants f.owner u) 2) 2=0))=Zgv f u 2∧0≤Zb1 f.grants f.owner u∧Zb1 f.grants f.owner u≤63:=by
  rw [ZnS h hf hu,Zgv,Zgv]
  obtain ⟨r1,r2,r3,r4,r5⟩:=Zlc (gs:=f.grants) (u:=u) (Zta h hf) (k:=0) (by omega)
  by_cases ho:u=f.owner
  · rw [if_pos ho,decide_eq_true ho];exact ⟨rfl,rfl,by omega,by omega⟩
  · rw [if_neg ho,decide_eq_false ho,r4,r5];exact ⟨by simp [Zhp],by simp [Zhp],r2,r3⟩
theorem ZsG (gs:List DGrant) (o u:Str) (h :∀y,y∈gs→0≤y.rights∧y.rights≤63) : -1≤Zb1 gs o u∧Zb1 gs o u≤63:=by
  unfold Zb1
  split
  · omega
  · split
    · omega
    · obtain ⟨a0,a1⟩:=Zik u h
      obtain ⟨b0,b1⟩:=Zik anyone h
      generalize (mget (ZeB gs) u).getD 0=a at *
      generalize (mget (ZeB gs) anyone).getD 0=b at *
      obtain ⟨n,rfl⟩:=Int.eq_ofNat_of_zero_le a0
      obtain ⟨m,rfl⟩:=Int.eq_ofNat_of_zero_le b0
      obtain ⟨t1,t2,_⟩:=ZsZ n (by omega) m (by omega)
      omega
def ZjV:Nat→Int→Int→Bool
  | 0,_,_=>true
  | n+1,a,b=>if b≤0 then true else if Int.tmod b 2=1∧Int.tmod a 2=0 then false else ZjV n (Int.tdiv a 2) (Int.tdiv b 2)
theorem ZhK (a:Int):ZjV 1 a 1 = !decide (Int.tmod a 2=0):=by
  rw [ZjV,if_neg (by decide)]
  by_cases h:Int.tmod a 2=0
  · rw [if_pos ⟨by decide,h⟩,decide_eq_true h];rfl
  · rw [if_neg (fun hc=>h hc.2),decide_eq_false h];rfl
theorem ZsC (a:Int):ZjV 2 a 2 = !decide (Int.tmod (Int.tdiv a 2) 2=0):=by
  rw [ZjV,if_neg (by decide),if_neg (fun hc=>absurd hc.1 (by decide)),show Int.tdiv 2 2=1 from rfl,ZhK]
def Zje (f:DFolder):DFolder:=⟨f.owner,f.name,[],0,[]⟩
def Zhl (f:DFolder):DFolder:=⟨f.owner,f.name,[],f.next,f.mail⟩
def ZgG (x:DHost) (u:Str):List DFolder:=if Zz x=true then (x.folders.filter fun f=>Zmv x.users f u 1).map Zje else []
def ZeG (x:DHost) (u:Str):List DFolder:=if Zz x=true then (x.folders.filter fun f=>Zmv x.users f u 1 && Zmv x.users f u 2).map Zhl else []
def Zkc (x:DHost) (u:Str):List DFolder:=if Zz x=true∧0≤ZcC x.users u then (x.folders.filter fun f=>Zgv f u 1).map Zje else []
def ZjY (x:DHost) (u:Str):List DFolder:=if Zz x=true∧0≤ZcC x.users u then (x.folders.filter fun f=>Zgv f u 1 && Zgv f u 2).map Zhl else []
theorem Zlf {α β:Type} {p:α→Bool} {g:α→β} {xs:List α} {k:Nat} {x:α} (hx:xs[k]? = some x):((xs.take (k+1)).filter p).map g=((xs.take k).filter p).map g ++ (if p x=true then [g x] else []):=by
  rw [Zas hx,List.filter_append,List.map_append]
  congr 1
  by_cases hp:p x=true
  · simp [hp]
  · simp [hp]
theorem ZrS {x:DHost} {u:Str} (h:Zz x=false):ZgG x u=[]:=by simp [ZgG,h]
theorem Zrr {x:DHost} {u:Str} (h:Zz x=false):ZeG x u=[]:=by simp [ZeG,h]
theorem Zem (x:DHost) (u:Str):ZgG x u=Zkc x u:=by
  unfold ZgG Zkc
  by_cases h:Zz x=true
  · rw [if_pos h]
    by_cases hu:0≤ZcC x.users u
    · rw [if_pos ⟨h,hu⟩]
      congr 1
      refine List.filter_congr fun f hf=>?_
      have:=Zil (u:=u) (k:=0) h hf (by omega)
      rw [show Zbz 0=1 from rfl] at this
      rw [this,decide_eq_true hu,Bool.true_and]
    · rw [if_neg (fun hc=>hu hc.2)]
      have:(x.folders.filter fun f=>Zmv x.users f u 1)=[]:=by
        rw [List.filter_eq_nil_iff]
        intro f hf hc
        have:=Zil (u:=u) (k:=0) h hf (by omega)
        rw [show Zbz 0=1 from rfl] at this
        rw [this,decide_eq_false hu] at hc;cases hc
      rw [this];rfl
  · rw [if_neg h,if_neg (fun hc=>h hc.1)]
theorem Zeh (x:DHost) (u:Str):ZeG x u=ZjY x u:=by
  unfold ZeG ZjY
  by_cases h:Zz x=true
  · rw [if_pos h]
    by_cases hu:0≤ZcC x.users u
    · rw [if_pos ⟨h,hu⟩]
      congr 1
      refine List.filter_congr fun f hf=>?_
      have h1:=Zil (u:=u) (k:=0) h hf (by omega)
      have h2:=Zil (u:=u) (k:=1) h hf (by omega)
      rw [show Zbz 0=1 from rfl] at h1
      rw [show Zbz 1=2 from rfl] at h2
      rw [h1,h2,decide_eq_true hu,Bool.true_and,Bool.true_and]
    · rw [if_neg (fun hc=>hu hc.2)]
      have:(x.folders.filter fun f=>Zmv x.users f u 1 && Zmv x.users f u 2)=[]:=by
        rw [List.filter_eq_nil_iff]
        intro f hf hc
        have:=Zil (u:=u) (k:=0) h hf (by omega)
        rw [show Zbz 0=1 from rfl] at this
        rw [this,decide_eq_false hu] at hc;cases hc
      rw [this];rfl
  · rw [if_neg h,if_neg (fun hc=>h hc.1)]
theorem ZrR {x:DHost} {u:Str} {n:Nat} (h:Zz x=true) (hu:0≤ZcC x.users u) (hn:n=x.folders.countP fun f=>ZjV 1 (Zb1 f.grants f.owner u) 1):n=(ZgG x u).length:=by
  rw [hn,Zem,Zkc,if_pos ⟨h,hu⟩,List.length_map,List.countP_eq_length_filter]
  congr 1
  exact List.filter_congr fun f hf=>by rw [ZhK];exact (Zmk h hf hu).1
theorem ZpL {f:DFolder} {u:Str} {r:Int} (h:f.owner=u):Zgv f u r=true:=by rw [Zgv,decide_eq_true h.symm,Bool.true_or]
theorem Zrp {x:DHost} {u:Str} (h:Zz x=true) (hu:0≤ZcC x.users u):((ZeG x u).countP fun f=>decide (f.owner=u))=x.folders.countP fun f=>decide (f.owner=u):=by
  rw [Zeh,ZjY,if_pos ⟨h,hu⟩,List.countP_map,List.countP_filter]
  refine List.countP_congr fun f hf=>?_
  simp only [Function.comp,Zhl,Bool.and_eq_true,decide_eq_true_eq]
  exact ⟨fun a=>of_decide_eq_true a.1,fun a=>⟨decide_eq_true a,ZpL a,ZpL a⟩⟩
theorem Zrq {x:DHost} {u:Str} (h:Zz x=true) (hu:0≤ZcC x.users u):(ZeG x u).length≤(ZgG x u).length:=by
  rw [Zeh,Zem,ZjY,Zkc,if_pos ⟨h,hu⟩,if_pos ⟨h,hu⟩,List.length_map,List.length_map,← List.countP_eq_length_filter,← List.countP_eq_length_filter]
  exact List.countP_mono_left fun f _ hp=>by simp only [Bool.and_eq_true] at hp;exact hp.1
theorem ZtI {x:DHost} {u:Str} {g:DFolder} (hg:g∈ZgG x u):Zz x=true∧∃f,f∈x.folders∧g=Zje f∧ZjV 1 (Zb1 f.grants f.owner u) 1=true:=by
  rw [Zem,Zkc] at hg
  split at hg
  · rename_i h
    obtain ⟨f,hf,rfl⟩:=List.mem_map.1 hg
    obtain ⟨h1,h2⟩:=List.mem_filter.1 hf
    exact ⟨h.1,f,h1,rfl,by rw [ZhK,(Zmk h.1 h1 h.2).1];exact h2⟩
  · cases hg
theorem Zti {x:DHost} {u:Str} {g:DFolder} (hg:g∈ZeG x u):Zz x=true∧∃f,f∈x.folders∧g=Zhl f∧ZjV 1 (Zb1 f.grants f.owner u) 1=true∧ZjV 2 (Zb1 f.grants f.owner u) 2=true:=by
  rw [Zeh,ZjY] at hg
  split at hg
  · rename_i h
    obtain ⟨f,hf,rfl⟩:=List.mem_map.1 hg
    obtain ⟨h1,h2⟩:=List.mem_filter.1 hf
    simp only [Bool.and_eq_true] at h2
    obtain ⟨s1,s2,_⟩:=Zmk h.1 h1 h.2
    exact ⟨h.1,f,h1,rfl,by rw [ZhK,s1];exact h2.1,by rw [ZsC,s2];exact h2.2⟩
  · cases hg
theorem Zqn {a:Int} (h1 : -100≤a) (h2:a≤100) : -100≤Int.tdiv a 2∧Int.tdiv a 2≤100∧(0≤a→0≤Int.tdiv a 2)∧(0<a→Int.tdiv a 2≤a - 1):=by
  rcases Int.le_total 0 a with h | h
  · rw [Int.tdiv_eq_ediv_of_nonneg h];omega
  · have e:Int.tdiv a 2 = -((-a) / 2):=by
      rw [← Int.tdiv_eq_ediv_of_nonneg (by omega:0≤-a),Int.neg_tdiv,Int.neg_neg]
    rw [e];omega
theorem ZsE {n:Nat} {a b:Int} (h:b≤0):ZjV n a b=true:=by
  cases n with
  | zero=>rfl
  | succ n=>rw [ZjV,if_pos h]
theorem ZsD {n:Nat} {a b:Int} (h:0<b) (hn:b≤n) (h1:Int.tmod b 2=1) (h2:Int.tmod a 2=0):ZjV n a b=false:=by
  obtain ⟨k,rfl⟩ :∃k,n=k+1:=⟨n - 1,by omega⟩
  rw [ZjV,if_neg (by omega),if_pos ⟨h1,h2⟩]
theorem ZlV {n:Nat} {a b:Int} (h:0<b) (hn:b≤n) (h1 : ¬ (Int.tmod b 2=1∧Int.tmod a 2=0)):ZjV n a b=ZjV (n - 1) (Int.tdiv a 2) (Int.tdiv b 2):=by
  obtain ⟨k,rfl⟩ :∃k,n=k+1:=⟨n - 1,by omega⟩
  rw [ZjV,if_neg (by omega),if_neg h1];rfl
theorem Zqb {us:List DUser} {u:Str} (h :∀z,z∈us→z.name≠u) : ¬ 0≤ZcC us u:=fun hc=>by
  obtain ⟨w,hw,he⟩:=ZbB.1 hc
  exact h w hw he
theorem ZtB {α:Type} {p:α→Prop} {xs:List α} {k:Nat} {x:α} (hx:xs[k]? = some x) (h :∀z,z∈xs.take k→p z) (h2:p x) :∀z,z∈xs.take (k+1)→p z:=fun z hz=>by
  rw [Zas hx,List.mem_append,List.mem_singleton] at hz
  rcases hz with hz | rfl
  · exact h z hz
  · exact h2
def Zd1 {α β:Type} (b:Bool) (p:α→Bool) (g:α→β) (xs:List α) (k:Nat):List β:=if b=true then ((xs.take k).filter p).map g else []
theorem Zff {α β:Type} {b:Bool} {p:α→Bool} {g:α→β} {xs:List α} : []=Zd1 b p g xs 0:=by simp [Zd1]
theorem ZdZ {α β:Type} {b:Bool} {p:α→Bool} {g:α→β} {xs:List α} {k:Nat} {x:α} {ys:List β} (hy:ys=Zd1 b p g xs k) (hb:b=true) (hx:xs[k]? = some x) (hp:p x=true):ys ++ [g x]=Zd1 b p g xs (k+1):=by
  rw [hy,Zd1,Zd1,if_pos hb,if_pos hb,Zlf hx,if_pos hp]
theorem Zd0 {α β:Type} {b:Bool} {p:α→Bool} {g:α→β} {xs:List α} {k:Nat} {x:α} {ys:List β} (hy:ys=Zd1 b p g xs k) (hb:b=true) (hx:xs[k]? = some x) (hp:p x=false):ys=Zd1 b p g xs (k+1):=by
  rw [hy,Zd1,Zd1,if_pos hb,if_pos hb,Zlf hx,if_neg (by rw [hp];exact Bool.false_ne_true),List.append_nil]
theorem Zgi {α β:Type} {b:Bool} {p:α→Bool} {g:α→β} {xs:List α} {k:Nat} {ys:List β} (hy:ys=Zd1 b p g xs k) (h:xs.length≤k∨b=false):ys=if b=true then (xs.filter p).map g else []:=by
  rw [hy,Zd1]
  rcases h with h | h
  · rw [List.take_of_length_le h]
  · rw [h];rfl
def okU (x:DHost) (u:Str):Bool:=Zz x && decide (0≤ZcC x.users u)
def Zv5 (x:DHost) (u:Str) (f:DFolder):Bool:=Zmv x.users f u 1
def Zod (x:DHost) (u:Str) (f:DFolder):Bool:=Zmv x.users f u 1 && Zmv x.users f u 2
def Zv4 (u:Str) (f:DFolder):Bool:=Zgv f u 1
def ZrA (u:Str) (f:DFolder):Bool:=Zgv f u 1 && Zgv f u 2
theorem Zp7 {x:DHost} {u:Str} {k:Nat} {ys:List DFolder} (hy:ys=Zd1 (Zz x) (Zv5 x u) Zje x.folders k) (h:x.folders.length≤k):ys=ZgG x u:=Zgi hy (.inl h)
theorem Zph {x:DHost} {u:Str} {k:Nat} {ys:List DFolder} (hy:ys=Zd1 (Zz x) (Zod x u) Zhl x.folders k) (h:x.folders.length≤k):ys=ZeG x u:=Zgi hy (.inl h)
theorem Zin {x:DHost} {u:Str} {k:Nat} {ys:List DFolder} (hy:ys=Zd1 (okU x u) (Zv4 u) Zje x.folders k) (h:x.folders.length≤k∨okU x u=false):ys=Zkc x u:=by
  rw [Zgi hy h,Zkc,okU];simp only [Bool.and_eq_true,decide_eq_true_eq];rfl
theorem ZhT {x:DHost} {u:Str} {k:Nat} {ys:List DFolder} (hy:ys=Zd1 (okU x u) (ZrA u) Zhl x.folders k) (h:x.folders.length≤k∨okU x u=false):ys=ZjY x u:=by
  rw [Zgi hy h,ZjY,okU];simp only [Bool.and_eq_true,decide_eq_true_eq];rfl
theorem ZpN {x:DHost} {u:Str} (h:Zz x=false):okU x u=false:=by simp [okU,h]
theorem ZpM {x:DHost} {u:Str} (h : ¬ 0≤ZcC x.users u):okU x u=false:=by simp [okU,h]
theorem Zid {x:DHost} {u:Str} (h:Zz x=true) (h2:0≤ZcC x.users u):okU x u=true:=by simp [okU,h,h2]
theorem ZnP {x:DHost} {u:Str} {k:Nat} {f:DFolder} (hu:0≤ZcC x.users u) (hf:x.folders[k]? = some f):decide (Zi4 x.users x.folders u k 2=0)=ZrA u f:=by
  rw [ZqT (f:=f) (by omega) (by simpa using hf),ZrA]
  cases Zgv f u 1 <;> cases Zgv f u 2 <;> simp
def ZeN (x:DHost) (u o n:Str):Int:=if (ZL x o n).2=true then Zb1 (ZL x o n).1.grants o u else 0
theorem Zoa {x:DHost} {u o n:Str} (h:(ZL x o n).2=false):ZeN x u o n=0:=by rw [ZeN,if_neg (by rw [h];exact Bool.false_ne_true)]
theorem Zia {x:DHost} {u o n:Str} (h:(ZL x o n).2=true):ZeN x u o n=Zb1 (ZL x o n).1.grants o u:=by rw [ZeN,if_pos h]
theorem Zml {x:DHost} {f:DFolder} {u:Str} (h:Zz x=true) (hf:f∈x.folders):ZeN x u f.owner f.name=Zb1 f.grants f.owner u:=by
  rw [Zia (by rw [ZdS h hf]),ZdS h hf]
theorem Zi1 {x:DHost} {f:DFolder} {u:Str} (h:Zz x=true) (hf:f∈x.folders) : -1≤Zb1 f.grants f.owner u∧Zb1 f.grants f.owner u≤63:=ZsG _ _ _ (Zbf h f hf)
theorem ZkB {α:Type} {p:α→Bool} {xs:List α} {k n:Nat} {x:α} (hx:xs[k]? = some x) (hn:n=(xs.take k).countP p) (hp:p x=true):n+1=(xs.take (k+1)).countP p:=by
  rw [Zas hx,List.countP_append,hn];simp [hp]
theorem ZkA {α:Type} {p:α→Bool} {xs:List α} {k n:Nat} {x:α} (hx:xs[k]? = some x) (hn:n=(xs.take k).countP p) (hp:p x=false):n=(xs.take (k+1)).countP p:=by
  rw [Zas hx,List.countP_append,hn];simp [hp]
theorem ZmY {α:Type} {p:α→Bool} {xs:List α} {k n:Nat} (hn:n=(xs.take k).countP p) (hk:xs.length≤k):n=xs.countP p:=by rwa [List.take_of_length_le hk] at hn
theorem ZpK {x:DHost} {f:DFolder} (h:Zz x=true) (hf:f∈x.folders):f.owner.length≤2000000:=by
  have hi:=(ZaJ.1 h).2.1.1 f hf
  simp only [Z6,Bool.and_eq_true,decide_eq_true_eq] at hi
  have h8:=ZhX h hi.1.1.1
  simp only [Zaq,Bool.and_eq_true,decide_eq_true_eq] at h8
  omega
end Go.BL
namespace Go.BL
section
variable {P:PJ} {n:Nat} {ops:Array Oper} {i:Nat} {K:ZaF} {S:Env} {D:List Deferred} {B:Kn} {L:List Cells}
variable {dst:Option Tmp} {ty:TypeId} {pos:String} {after:Array Edge} {g:Option (Nat × Bool)}
end
end Go.BL
