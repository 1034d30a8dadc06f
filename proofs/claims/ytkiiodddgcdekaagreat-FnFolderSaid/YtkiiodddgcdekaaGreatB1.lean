/-
  THE WALK'S LOGIC: owned cells and known cells, goroutines started and awaited, calls, loops, data, and plain laws on lists: no program in sight.
-/
import Derived.Test.YtkiiodddgcdekaaGreatB0
set_option linter.unusedVariables false
set_option linter.unusedSimpArgs false
set_option linter.unusedSectionVars false
namespace Go.BL
theorem om {p:Prop} (h:p:=by first | omega | (simp;done) | (simp;omega)):p:=h
theorem om2 {p:Prop} (h:p:=by first | assumption | omega | (simp;done) | (simp;omega)):p:=h
theorem oz {p:Prop} (h:p:=by omega):p:=h
theorem kr {p:Prop} (h:p:=by kernel_rfl):p:=h
theorem so {p:Prop} (h:p:=by simp only [];omega):p:=h
theorem so2 {p:Prop} (h:p:=by first | omega | (simp only [];omega)):p:=h
theorem oa {p:Prop} (h:p:=by first | assumption | omega):p:=h
theorem oy {p:Prop} (h:p:=by assumption):p:=h
theorem om3 {p:Prop} (h:p:=by first | omega | decide | (simp;done) | (simp;omega)):p:=h
theorem ob {p:Prop} (h:p:=by first | assumption | omega | (simp only [];omega) | (simp only [];assumption) | (simp;done) | (simp;omega)):p:=h
theorem ol {p:Prop} (h:p:=by first | rfl | (simp only [List.length_set];rfl)):p:=h
theorem t1 {α0:Sort _} {a0:α0} : a0=a0∧True:=⟨rfl,trivial⟩
theorem t2 {α0 α1:Sort _} {a0:α0} {a1:α1} : a0=a0∧a1=a1∧True:=⟨rfl,rfl,trivial⟩
theorem t3 {α0 α1 α2:Sort _} {a0:α0} {a1:α1} {a2:α2} : a0=a0∧a1=a1∧a2=a2∧True:=⟨rfl,rfl,rfl,trivial⟩
theorem t4 {α0 α1 α2 α3:Sort _} {a0:α0} {a1:α1} {a2:α2} {a3:α3} : a0=a0∧a1=a1∧a2=a2∧a3=a3∧True:=⟨rfl,rfl,rfl,rfl,trivial⟩
theorem t5 {α0 α1 α2 α3 α4:Sort _} {a0:α0} {a1:α1} {a2:α2} {a3:α3} {a4:α4} : a0=a0∧a1=a1∧a2=a2∧a3=a3∧a4=a4∧True:=⟨rfl,rfl,rfl,rfl,rfl,trivial⟩
theorem t6 {α0 α1 α2 α3 α4 α5:Sort _} {a0:α0} {a1:α1} {a2:α2} {a3:α3} {a4:α4} {a5:α5} : a0=a0∧a1=a1∧a2=a2∧a3=a3∧a4=a4∧a5=a5∧True:=⟨rfl,rfl,rfl,rfl,rfl,rfl,trivial⟩
theorem t7 {α0 α1 α2 α3 α4 α5 α6:Sort _} {a0:α0} {a1:α1} {a2:α2} {a3:α3} {a4:α4} {a5:α5} {a6:α6} : a0=a0∧a1=a1∧a2=a2∧a3=a3∧a4=a4∧a5=a5∧a6=a6∧True:=⟨rfl,rfl,rfl,rfl,rfl,rfl,rfl,trivial⟩
theorem t8 {α0 α1 α2 α3 α4 α5 α6 α7:Sort _} {a0:α0} {a1:α1} {a2:α2} {a3:α3} {a4:α4} {a5:α5} {a6:α6} {a7:α7} : a0=a0∧a1=a1∧a2=a2∧a3=a3∧a4=a4∧a5=a5∧a6=a6∧a7=a7∧True:=⟨rfl,rfl,rfl,rfl,rfl,rfl,rfl,rfl,trivial⟩
theorem t9 {α0 α1 α2 α3 α4 α5 α6 α7 α8:Sort _} {a0:α0} {a1:α1} {a2:α2} {a3:α3} {a4:α4} {a5:α5} {a6:α6} {a7:α7} {a8:α8} : a0=a0∧a1=a1∧a2=a2∧a3=a3∧a4=a4∧a5=a5∧a6=a6∧a7=a7∧a8=a8∧True:=⟨rfl,rfl,rfl,rfl,rfl,rfl,rfl,rfl,rfl,trivial⟩
theorem t10 {α0 α1 α2 α3 α4 α5 α6 α7 α8 α9:Sort _} {a0:α0} {a1:α1} {a2:α2} {a3:α3} {a4:α4} {a5:α5} {a6:α6} {a7:α7} {a8:α8} {a9:α9} : a0=a0∧a1=a1∧a2=a2∧a3=a3∧a4=a4∧a5=a5∧a6=a6∧a7=a7∧a8=a8∧a9=a9∧True:=⟨rfl,rfl,rfl,rfl,rfl,rfl,rfl,rfl,rfl,rfl,trivial⟩
theorem t11 {α0 α1 α2 α3 α4 α5 α6 α7 α8 α9 α10:Sort _} {a0:α0} {a1:α1} {a2:α2} {a3:α3} {a4:α4} {a5:α5} {a6:α6} {a7:α7} {a8:α8} {a9:α9} {a10:α10} : a0=a0∧a1=a1∧a2=a2∧a3=a3∧a4=a4∧a5=a5∧a6=a6∧a7=a7∧a8=a8∧a9=a9∧a10=a10∧True:=⟨rfl,rfl,rfl,rfl,rfl,rfl,rfl,rfl,rfl,rfl,rfl,trivial⟩
theorem t12 {α0 α1 α2 α3 α4 α5 α6 α7 α8 α9 α10 α11:Sort _} {a0:α0} {a1:α1} {a2:α2} {a3:α3} {a4:α4} {a5:α5} {a6:α6} {a7:α7} {a8:α8} {a9:α9} {a10:α10} {a11:α11} : a0=a0∧a1=a1∧a2=a2∧a3=a3∧a4=a4∧a5=a5∧a6=a6∧a7=a7∧a8=a8∧a9=a9∧a10=a10∧a11=a11∧True:=⟨rfl,rfl,rfl,rfl,rfl,rfl,rfl,rfl,rfl,rfl,rfl,rfl,trivial⟩
theorem t13 {α0 α1 α2 α3 α4 α5 α6 α7 α8 α9 α10 α11 α12:Sort _} {a0:α0} {a1:α1} {a2:α2} {a3:α3} {a4:α4} {a5:α5} {a6:α6} {a7:α7} {a8:α8} {a9:α9} {a10:α10} {a11:α11} {a12:α12} : a0=a0∧a1=a1∧a2=a2∧a3=a3∧a4=a4∧a5=a5∧a6=a6∧a7=a7∧a8=a8∧a9=a9∧a10=a10∧a11=a11∧a12=a12∧True:=⟨rfl,rfl,rfl,rfl,rfl,rfl,rfl,rfl,rfl,rfl,rfl,rfl,rfl,trivial⟩
theorem t17 {α0 α1 α2 α3 α4 α5 α6 α7 α8 α9 α10 α11 α12 α13 α14 α15 α16:Sort _} {a0:α0} {a1:α1} {a2:α2} {a3:α3} {a4:α4} {a5:α5} {a6:α6} {a7:α7} {a8:α8} {a9:α9} {a10:α10} {a11:α11} {a12:α12} {a13:α13} {a14:α14} {a15:α15} {a16:α16} : a0=a0∧a1=a1∧a2=a2∧a3=a3∧a4=a4∧a5=a5∧a6=a6∧a7=a7∧a8=a8∧a9=a9∧a10=a10∧a11=a11∧a12=a12∧a13=a13∧a14=a14∧a15=a15∧a16=a16∧True:=⟨rfl,rfl,rfl,rfl,rfl,rfl,rfl,rfl,rfl,rfl,rfl,rfl,rfl,rfl,rfl,rfl,rfl,trivial⟩
section
variable {P:PJ} {n:Nat} {ops:Array Oper} {i:Nat} {K:ZaI} {S:Env} {D:List Deferred} {B:Kn} {L:List Cells}
variable {dst:Option Tmp} {ty:TypeId} {pos:String} {after:Array Edge} {g:Option (Nat × Bool)} {t u:TypeId} {x y:Operand}
theorem xM {x:Operand} {v:Value} (hg:Zr ops S g=some true:=by exact rfl) (hd:ZH n dst=true:=by exact rfl) (hx:ev S x=some v:=by exact rfl) (h:K (Zb1 S dst v) D B L):opW P n ops i ⟨dst,.move x,ty,pos,after,g⟩ K S D B L:=Zo (Zss hg hd hx h)
theorem xA {x:Operand} {v:Value} (hg:Zr ops S g=some true:=by exact rfl) (hd:ZH n dst=true:=by exact rfl) (hx:ev S x=some v:=by exact rfl) (h:K (Zb1 S dst v) D B L):opW P n ops i ⟨dst,.assign x,ty,pos,after,g⟩ K S D B L:=Zo (Zna hg hd hx h)
theorem xP  {dst:Option Tmp} {op:Op} {t:TypeId} {pos:String} {after:Array Edge} {g:Option (Nat × Bool)}   (hg:Zr ops S g=some false:=by exact rfl) (hd:ZH n dst=true:=by exact rfl) (h:K (Zb1 S dst undef) D B L):opW P n ops i ⟨dst,op,t,pos,after,g⟩ K S D B L:=Zo (Zsp  hg hd h)
theorem xT  {c:Operand} {a:Operand} {b:Operand} {v:Value}   (hg:Zr ops S g=some true:=by exact rfl) (hd:ZH n dst=true:=by exact rfl) (hc:ev S c=some (.bool true):=by exact rfl) (hx:ev S a=some v:=by exact rfl) (h:K (Zb1 S dst v) D B L):opW P n ops i ⟨dst,.pick c a b,ty,pos,after,g⟩ K S D B L:=Zo (Zo6  hg hd hc hx h)
theorem xF  {c:Operand} {a:Operand} {b:Operand} {v:Value}   (hg:Zr ops S g=some true:=by exact rfl) (hd:ZH n dst=true:=by exact rfl) (hc:ev S c=some (.bool false):=by exact rfl) (hx:ev S b=some v:=by exact rfl) (h:K (Zb1 S dst v) D B L):opW P n ops i ⟨dst,.pick c a b,ty,pos,after,g⟩ K S D B L:=Zo (Zo7  hg hd hc hx h)
theorem xE  {x:Operand} {ix:Nat} {vs:List Value} {v:Value}   (hg:Zr ops S g=some true:=by exact rfl) (hd:ZH n dst=true:=by exact rfl) (hx:ev S x=some (.tuple vs.toArray):=by exact rfl) (hi:vs[ix]? = some v:=by exact rfl) (h:K (Zb1 S dst v) D B L):opW P n ops i ⟨dst,.extract x ix,ty,pos,after,g⟩ K S D B L:=Zo (ZkQ  hg hd hx hi h)
theorem xN  {x:Operand} {b:Bool} {t:TypeId}   (hg:Zr ops S g=some true:=by exact rfl) (hd:ZH n dst=true:=by exact rfl) (hx:ev S x=some (.bool b):=by exact rfl) (h:K (Zb1 S dst (.bool (!b))) D B L):opW P n ops i ⟨dst,.unOp .not t x,ty,pos,after,g⟩ K S D B L:=Zo (Zt4  hg hd hx h)
theorem xW  {s:TypeId} {x:Operand} {fi:Nat} {off:Nat} {a:Addr}  (hf:ZV P s fi=some off) (hg:Zr ops S g=some true:=by exact rfl) (hd:ZH n dst=true:=by exact rfl) (hx:ev S x=some (ptr a):=by exact rfl) (h:K (Zb1 S dst (ptr (a.add off))) D B L):opW P n ops i ⟨dst,.fieldAddr s x fi,ty,pos,after,g⟩ K S D B L:=Zo (ZhX  hg hd hf hx h)
theorem xD  {k:IntKind} {a b r:Int}   (hg:Zr ops S g=some true:=by exact rfl) (hd:ZH n dst=true:=by exact rfl) (hx:ev S x=some (.int k a):=by exact rfl) (hy:ev S y=some (.int k b):=by exact rfl) (hr:k.wrap (a+b)=r:=by first | exact ZaY (by first | omega | (simp;done) | (simp;omega)) (by first | omega | (simp;done) | (simp;omega)) | exact rfl) (h:K (Zb1 S dst (.int k r)) D B L):opW P n ops i ⟨dst,.binOp .add t x y u,ty,pos,after,g⟩ K S D B L:=Zo (ZeL  hg hd hx hy hr h)
theorem xU  {k:IntKind} {a b r:Int}   (hg:Zr ops S g=some true:=by exact rfl) (hd:ZH n dst=true:=by exact rfl) (hx:ev S x=some (.int k a):=by exact rfl) (hy:ev S y=some (.int k b):=by exact rfl) (hr:k.wrap (a - b)=r:=by first | exact ZaY (by first | omega | (simp;done) | (simp;omega)) (by first | omega | (simp;done) | (simp;omega)) | exact rfl) (h:K (Zb1 S dst (.int k r)) D B L):opW P n ops i ⟨dst,.binOp .sub t x y u,ty,pos,after,g⟩ K S D B L:=Zo (Zi6  hg hd hx hy hr h)
theorem xY  {k:IntKind} {a b r:Int}   (hg:Zr ops S g=some true:=by exact rfl) (hd:ZH n dst=true:=by exact rfl) (hx:ev S x=some (.int k a):=by exact rfl) (hy:ev S y=some (.int k b):=by exact rfl) (hr:k.wrap (a*b)=r:=by first | exact ZaY (by first | omega | (simp;done) | (simp;omega)) (by first | omega | (simp;done) | (simp;omega)) | exact rfl) (h:K (Zb1 S dst (.int k r)) D B L):opW P n ops i ⟨dst,.binOp .mul t x y u,ty,pos,after,g⟩ K S D B L:=Zo (ZkN  hg hd hx hy hr h)
theorem Zaf  {k:IntKind} {a b:Int}   (hg:Zr ops S g=some true:=by exact rfl) (hd:ZH n dst=true:=by exact rfl) (hx:ev S x=some (.int k a):=by exact rfl) (hy:ev S y=some (.int k b):=by exact rfl) (h:K (Zb1 S dst (.bool (decide (a<b)))) D B L):opW P n ops i ⟨dst,.binOp .lss t x y u,ty,pos,after,g⟩ K S D B L:=Zo (Zt6  hg hd hx hy h)
theorem ZcF  {k:IntKind} {a b:Int}   (hg:Zr ops S g=some true:=by exact rfl) (hd:ZH n dst=true:=by exact rfl) (hx:ev S x=some (.int k a):=by exact rfl) (hy:ev S y=some (.int k b):=by exact rfl) (h:K (Zb1 S dst (.bool (decide (a≤b)))) D B L):opW P n ops i ⟨dst,.binOp .leq t x y u,ty,pos,after,g⟩ K S D B L:=Zo (Zt7  hg hd hx hy h)
theorem Zbf  {k:IntKind} {a b:Int}   (hg:Zr ops S g=some true:=by exact rfl) (hd:ZH n dst=true:=by exact rfl) (hx:ev S x=some (.int k a):=by exact rfl) (hy:ev S y=some (.int k b):=by exact rfl) (h:K (Zb1 S dst (.bool (decide (b<a)))) D B L):opW P n ops i ⟨dst,.binOp .gtr t x y u,ty,pos,after,g⟩ K S D B L:=Zo (Zt9  hg hd hx hy h)
theorem Zd2  {k:IntKind} {a b:Int}   (hg:Zr ops S g=some true:=by exact rfl) (hd:ZH n dst=true:=by exact rfl) (hx:ev S x=some (.int k a):=by exact rfl) (hy:ev S y=some (.int k b):=by exact rfl) (h:K (Zb1 S dst (.bool (decide (b≤a)))) D B L):opW P n ops i ⟨dst,.binOp .geq t x y u,ty,pos,after,g⟩ K S D B L:=Zo (Zua  hg hd hx hy h)
theorem ZI  {k:IntKind} {a b:Int}   (hg:Zr ops S g=some true:=by exact rfl) (hd:ZH n dst=true:=by exact rfl) (hx:ev S x=some (.int k a):=by exact rfl) (hy:ev S y=some (.int k b):=by exact rfl) (h:K (Zb1 S dst (.bool (decide (a=b)))) D B L):opW P n ops i ⟨dst,.binOp .eql t x y u,ty,pos,after,g⟩ K S D B L:=Zo (Zsw  hg hd hx hy h)
theorem Zdq  {k:IntKind} {a b:Int}   (hg:Zr ops S g=some true:=by exact rfl) (hd:ZH n dst=true:=by exact rfl) (hx:ev S x=some (.int k a):=by exact rfl) (hy:ev S y=some (.int k b):=by exact rfl) (h:K (Zb1 S dst (.bool (decide (a≠b)))) D B L):opW P n ops i ⟨dst,.binOp .neq t x y u,ty,pos,after,g⟩ K S D B L:=Zo (Zsr  hg hd hx hy h)
theorem Zcs  {a b:List UInt8}   (hg:Zr ops S g=some true:=by exact rfl) (hd:ZH n dst=true:=by exact rfl) (hx:ev S x=some (str a):=by exact rfl) (hy:ev S y=some (str b):=by exact rfl) (h:K (Zb1 S dst (.bool (decide (a=b)))) D B L):opW P n ops i ⟨dst,.binOp .eql t x y u,ty,pos,after,g⟩ K S D B L:=Zo (Zsv  hg hd hx hy h)
theorem Zjf  {a b:List UInt8}   (hg:Zr ops S g=some true:=by exact rfl) (hd:ZH n dst=true:=by exact rfl) (hx:ev S x=some (str a):=by exact rfl) (hy:ev S y=some (str b):=by exact rfl) (h:K (Zb1 S dst (.bool (decide (a≠b)))) D B L):opW P n ops i ⟨dst,.binOp .neq t x y u,ty,pos,after,g⟩ K S D B L:=Zo (Zsq  hg hd hx hy h)
theorem Zsn  {a b:List UInt8}   (hg:Zr ops S g=some true:=by exact rfl) (hd:ZH n dst=true:=by exact rfl) (hx:ev S x=some (str a):=by exact rfl) (hy:ev S y=some (str b):=by exact rfl) (h:K (Zb1 S dst (.bool (Op.bytesLess a b))) D B L):opW P n ops i ⟨dst,.binOp .lss t x y u,ty,pos,after,g⟩ K S D B L:=Zo (Zt5  hg hd hx hy h)
theorem Zt0  {a b:List UInt8}   (hg:Zr ops S g=some true:=by exact rfl) (hd:ZH n dst=true:=by exact rfl) (hx:ev S x=some (str a):=by exact rfl) (hy:ev S y=some (str b):=by exact rfl) (h:K (Zb1 S dst (.bool (!Op.bytesLess a b))) D B L):opW P n ops i ⟨dst,.binOp .geq t x y u,ty,pos,after,g⟩ K S D B L:=Zo (Zpb  hg hd hx hy h)
theorem xV  {x:Operand} {t:TypeId} {e:TypeId} {p:Option Addr} {len:Nat} {cap:Nat}  (hu:P.underlying t=some (.slice e)) (hg:Zr ops S g=some true:=by exact rfl) (hd:ZH n dst=true:=by exact rfl) (hx:ev S x=some (.slice p len cap):=by exact rfl) (h:K (Zb1 S dst (.int .i64 len)) D B L):opW P n ops i ⟨dst,.call ⟨.builtin .len,#[x],#[t]⟩,ty,pos,after,g⟩ K S D B L:=Zo (Zsu  hg hd hu hx h)
theorem xVs  {x:Operand} {t:TypeId} {l:List UInt8}  (hu:P.underlying t=some .string) (hg:Zr ops S g=some true:=by exact rfl) (hd:ZH n dst=true:=by exact rfl) (hx:ev S x=some (str l):=by exact rfl) (h:K (Zb1 S dst (.int .i64 l.length)) D B L):opW P n ops i ⟨dst,.call ⟨.builtin .len,#[x],#[t]⟩,ty,pos,after,g⟩ K S D B L:=Zo (Zpa  hg hd hu hx h)
theorem xNc  {x:Operand} {a:Addr}   (hg:Zr ops S g=some true:=by exact rfl) (hd:ZH n dst=true:=by exact rfl) (hx:ev S x=some (.pointer (some a)):=by exact rfl) (h:K (Zb1 S dst (.pointer (some a))) D B L):opW P n ops i ⟨dst,.nilCheck x,ty,pos,after,g⟩ K S D B L:=Zo (Zjj  hg hd hx h)
theorem x1  {t:TypeId} {x:Operand} {a:Addr} {v:Value} {l:List Value} {T:TypeId} {fr:Nat × Nat} {r:Cells}  (hl:lk P t=some none) (j:Nat) (hg:Zr ops S g=some true:=by exact rfl) (hd:ZH n dst=true:=by exact rfl) (hx:ev S x=some (ptr a):=by exact rfl) (hj:L[j]? = some ((a.block,.cells l.toArray T fr) :: r):=by exact rfl) (hs:a.spot=none:=by exact rfl) (hv:l[a.off]? = some v:=by exact rfl) (h:K (Zb1 S dst v) D B L):opW P n ops i ⟨dst,.load t x,ty,pos,after,g⟩ K S D B L:=Zo (Zl  hg hd hl hx (atL j hj hs hv) h)
theorem xL  {t:TypeId} {x:Operand} {a:Addr} {l:List Value} {T:TypeId} {fr:Nat × Nat} {r:Cells}  (vs:List Value) (hl:lk P t=some (some vs.length)) (j:Nat) (hg:Zr ops S g=some true:=by exact rfl) (hd:ZH n dst=true:=by exact rfl) (hx:ev S x=some (ptr a):=by exact rfl) (hj:L[j]? = some ((a.block,.cells l.toArray T fr) :: r):=by exact rfl) (hs:a.spot=none:=by exact rfl) (hv:(l.drop a.off).take vs.length=vs:=by exact rfl) (h:K (Zb1 S dst (.agg vs.toArray)) D B L):opW P n ops i ⟨dst,.load t x,ty,pos,after,g⟩ K S D B L:=Zo (Z5  vs hg hd hl hx (Zae j hj hs hv) h)
theorem y1  {t:TypeId} {x:Operand} {a:Addr} {v:Value} {b o:Nat} {row:List Value}  (hl:lk P t=some none) (hc:Zbx B b o row) (off:Nat) (hg:Zr ops S g=some true:=by exact rfl) (hd:ZH n dst=true:=by exact rfl) (hx:ev S x=some (ptr a):=by exact rfl) (ha:a=⟨b,o+off,none⟩:=by exact rfl) (hv:row[off]? = some v:=by exact rfl) (h:K (Zb1 S dst v) D B L):opW P n ops i ⟨dst,.load t x,ty,pos,after,g⟩ K S D B L:=Zo (Zl  hg hd hl hx (by subst ha;exact hc _ off _ hv) h)
theorem yL  {t:TypeId} {x:Operand} {a:Addr} {b o:Nat} {row:List Value}  (vs:List Value) (hl:lk P t=some (some vs.length)) (hc:Zbx B b o row) (off:Nat) (hg:Zr ops S g=some true:=by exact rfl) (hd:ZH n dst=true:=by exact rfl) (hx:ev S x=some (ptr a):=by exact rfl) (ha:a=⟨b,o+off,none⟩:=by exact rfl) (hv:(row.drop off).take vs.length=vs:=by exact rfl) (h:K (Zb1 S dst (.agg vs.toArray)) D B L):opW P n ops i ⟨dst,.load t x,ty,pos,after,g⟩ K S D B L:=Zo (Z5  vs hg hd hl hx (Zic hc off ha hv) h)
theorem xS  {t:TypeId} {x:Operand} {y:Operand} {a:Addr} {v:Value} {l:List Value} {T:TypeId} {r:Cells}  (vs:List Value) (j:Nat) (l':List Value) (hsz:Zaj P t=some vs.length) (hg:Zr ops S g=some true:=by exact rfl) (hd:ZH n dst=true:=by exact rfl) (hx:ev S x=some (ptr a):=by exact rfl) (hy:ev S y=some v:=by exact rfl) (hv:v.cells=vs.toArray:=by exact rfl) (ho:vs.all Zhr=true:=by exact rfl) (hj:L[j]? = some ((a.block,.cells l.toArray T (0,0)) :: r):=by exact rfl) (hs:a.spot=none:=by exact rfl) (hlen:Nat.ble (a.off+vs.length) l.length=true:=by exact rfl) (hl':Zbq l a.off vs=l':=by exact rfl) (h:K (Zb1 S dst undef) D B (L.set j ((a.block,.cells l'.toArray T (0,0)) :: r))):opW P n ops i ⟨dst,.store t x y,ty,pos,after,g⟩ K S D B L:=Zo (ZN  vs j l' hg hd hsz hx hy hv ho hj hs hlen hl' h)
theorem xB  {t:TypeId} {z:Value} {pl:List (Nat × Nat)} {vs:List Value} (parts:List (Nat × Operand)) (zl l':List Value) (hpl:Zbh P t=some pl) (hz:ZaX P t=some z) (hg:Zr ops S g=some true:=by exact rfl) (hd:ZH n dst=true:=by exact rfl) (hzl:z.cells.toList=zl:=by exact rfl) (ha:evs S (parts.map (·.2))=some vs:=by exact rfl) (hf:Zjc (fun i=>pl[i]?) zl ((parts.map (·.1)).zip vs)=some l':=by exact rfl) (h:K (Zb1 S dst (.agg l'.toArray)) D B L):opW P n ops i ⟨dst,.build t parts.toArray,ty,pos,after,g⟩ K S D B L:=Zo (ZaL (parts:=parts) zl l' hg hd hpl hz hzl ha hf h)
theorem xAl  {t:TypeId} {z:Value} (l:List Value) (hz:ZaX P t=some z) (hg:Zr ops S g=some true:=by exact rfl) (hd:ZH n dst=true:=by exact rfl) (hl:z.cells=l.toArray:=by exact rfl) (h :∀b,K (Zb1 S dst (ptr ⟨b,0,none⟩)) D B (L ++ [Zbn b l t])):opW P n ops i ⟨dst,.alloc t,ty,pos,after,g⟩ K S D B L:=Zo (Zak (l:=l) hg hd hz hl h)
theorem xBx  {t:TypeId} {x:Operand} {v:Value} (l:List Value)  (hg:Zr ops S g=some true:=by exact rfl) (hd:ZH n dst=true:=by exact rfl) (hx:ev S x=some v:=by exact rfl) (hl:v.cells=l.toArray:=by exact rfl) (h :∀b,K (Zb1 S dst (ptr ⟨b,0,none⟩)) D B (L ++ [Zbn b l t])):opW P n ops i ⟨dst,.box t x,ty,pos,after,g⟩ K S D B L:=Zo (Zvn (l:=l) hg hd hx hl h)
theorem xIx  {t:TypeId} {e:TypeId} {x:Operand} {y:Operand} {k:IntKind} {b:Nat} {o:Nat} {len:Nat} {cap:Nat} {sz:Nat} {ix:Int}  (hu:P.underlying t=some (.slice e)) (hsz:Zaj P e=some sz) (hg:Zr ops S g=some true:=by exact rfl) (hd:ZH n dst=true:=by exact rfl) (hx:ev S x=some (.slice (some ⟨b,o,none⟩) len cap):=by exact rfl) (hy:ev S y=some (.int k ix):=by exact rfl) (h0:0≤ix:=by first | omega | (simp;done) | (simp;omega)) (h1:ix<len:=by first | omega | (simp;done) | (simp;omega)) (h:K (Zb1 S dst (ptr ⟨b,o+ix.toNat*sz,none⟩)) D B L):opW P n ops i ⟨dst,.indexAddr t x y,ty,pos,after,g⟩ K S D B L:=Zo (Zt8  hg hd hu hsz hx hy h0 h1 h)
theorem xIp  {t:TypeId} {e:TypeId} {x:Operand} {y:Operand} {k:IntKind} {p:Option Addr} {b:Nat} {len:Nat} {cap:Nat} {sz:Nat} {ix:Int}  (hp:p=some ⟨b,0,none⟩) (hu:P.underlying t=some (.slice e)) (hsz:Zaj P e=some sz) (hg:Zr ops S g=some true:=by exact rfl) (hd:ZH n dst=true:=by exact rfl) (hx:ev S x=some (.slice p len cap):=by exact rfl) (hy:ev S y=some (.int k ix):=by exact rfl) (h0:0≤ix:=by first | omega | (simp;done) | (simp;omega)) (h1:ix<len:=by first | omega | (simp;done) | (simp;omega)) (h:K (Zb1 S dst (ptr ⟨b,ix.toNat*sz,none⟩)) D B L):opW P n ops i ⟨dst,.indexAddr t x y,ty,pos,after,g⟩ K S D B L:=Zo (Zga  hp hg hd hu hsz hx hy h0 h1 h)
theorem xX  {f:FuncId} {xs:List Operand} {vs:List Value} {ats:Array TypeId} {Q:Value→Cells→Prop} {s:Cells}  (j:Nat) (hj:L[j]? = some s) (he:enters P f=true) (ha:evs S xs=some vs) (hc:Ex1 P f vs B s Q) (hg:Zr ops S g=some true:=by exact rfl) (hd:ZH n dst=true:=by exact rfl) (h :∀v s',Q v s'→K (Zb1 S dst v) D B (L.set j s')):opW P n ops i ⟨dst,.call ⟨.value (.func f),xs.toArray,ats⟩,ty,pos,after,g⟩ K S D B L:=Zo (Zci  j hj hg hd he ha hc h)
theorem xR  {f:FuncId} {xs:List Operand} {vs:List Value} {ats:Array TypeId} {v:Value}  (he:enters P f=true) (ha:evs S xs=some vs) (hc:Za6 P f vs B v) (hg:Zr ops S g=some true:=by exact rfl) (hd:ZH n dst=true:=by exact rfl) (h:K (Zb1 S dst v) D B L):opW P n ops i ⟨dst,.call ⟨.value (.func f),xs.toArray,ats⟩,ty,pos,after,g⟩ K S D B L:=Zo (ZaS  hg hd he ha hc h)
theorem xBs  {t:TypeId} {e:TypeId} {len:Nat} {sz:Nat} {z:Value} {vs:List Value} (parts:List (Nat × Operand)) (l':List Value) (hu:P.underlying t=some (.slice e)) (hsz:Zaj P e=some sz) (hz:ZaX P e=some z) (hg:Zr ops S g=some true:=by exact rfl) (hd:ZH n dst=true:=by exact rfl) (hbig:Nat.ble (len*sz) 1024=true:=by exact rfl) (hidx:parts.map (·.1)=List.range len:=by exact rfl) (ha:evs S (parts.map (·.2))=some vs:=by exact rfl) (hall:vs.all (fun v=>Nat.beq v.cells.toList.length sz)=true:=by exact rfl) (hl':(vs.map fun v=>v.cells.toList).flatten=l':=by exact rfl) (h :∀b,K (Zb1 S dst (.slice (some ⟨b,0,none⟩) len len)) D B (L ++ [Zbn b l' e])):opW P n ops i ⟨dst,.buildSlice t len parts.toArray,ty,pos,after,g⟩ K S D B L:=Zo (Zw (parts:=parts) l' hg hd hu hsz hz hbig hidx ha hall hl' h)
end
section
variable {P:PJ} {n:Nat} {ops:Array Oper} {K:ZaI} {S:Env} {D:List Deferred} {B:Kn} {L:List Cells}
variable {dst:Option Tmp} {ty:TypeId} {pos:String} {after:Array Edge} {g:Option (Nat × Bool)} {t u:TypeId} {x y:Operand}
theorem aT {C:Cx P} {k':List Item} {I:Kn→List Cells→Prop} {ℓ:List Nat} (i:Nat) {o:Oper} {v:Value} (hi:ops[i]? = some o) (hq:quiet P n ops I i o v (sel (o.looksAt ops) S)) (hr:(Za3 ops ℓ).contains i=true:=by kernel_rfl) (hd:ZH n o.dst=true:=by exact rfl) (hp:ZjK o=false:=by rfl) (h:ZbR C k' n ops I (i :: ℓ) K (Zb1 S o.dst v) D B L):ZbR C k' n ops I ℓ K S D B L:=Zsd i hi hr hd hq h hp
theorem r4 {α β γ δ:Type} {a:α} {b:β} {c:γ} {d:δ} : a=a∧b=b∧c=c∧d=d:=⟨rfl,rfl,rfl,rfl⟩
variable {C:Cx P} {k':List Item} {I:Kn→List Cells→Prop} {ℓ:List Nat}
theorem aM  {x:Operand} {v:Value} (i:Nat) (hii:ops[i]? = some ⟨dst,.move x,ty,pos,after,g⟩)  (hrr:(Za3 ops ℓ).contains i=true:=by kernel_rfl) (hdd:ZH n dst=true:=by exact rfl) (hg:Zr ops (sel ((⟨dst,.move x,ty,pos,after,g⟩:Oper).looksAt ops) S) g=some true:=by exact rfl) (hd:ZH n dst=true:=by exact rfl) (hx:ev (sel ((⟨dst,.move x,ty,pos,after,g⟩:Oper).looksAt ops) S) x=some v:=by exact rfl) (h:ZbR C k' n ops I (i :: ℓ) K (Zb1 S dst v) D B L):ZbR C k' n ops I ℓ K S D B L:=Zax i hii hrr hdd (fun _ _ _=>Zss hg hd hx ⟨rfl,rfl,rfl,rfl⟩) h
theorem aA  {x:Operand} {v:Value} (i:Nat) (hii:ops[i]? = some ⟨dst,.assign x,ty,pos,after,g⟩)  (hrr:(Za3 ops ℓ).contains i=true:=by kernel_rfl) (hdd:ZH n dst=true:=by exact rfl) (hg:Zr ops (sel ((⟨dst,.assign x,ty,pos,after,g⟩:Oper).looksAt ops) S) g=some true:=by exact rfl) (hd:ZH n dst=true:=by exact rfl) (hx:ev (sel ((⟨dst,.assign x,ty,pos,after,g⟩:Oper).looksAt ops) S) x=some v:=by exact rfl) (h:ZbR C k' n ops I (i :: ℓ) K (Zb1 S dst v) D B L):ZbR C k' n ops I ℓ K S D B L:=Zax i hii hrr hdd (fun _ _ _=>Zna hg hd hx ⟨rfl,rfl,rfl,rfl⟩) h
theorem aZ  {dst:Option Tmp} {op:Op} {t:TypeId} {pos:String} {after:Array Edge} {g:Option (Nat × Bool)} (i:Nat) (hii:ops[i]? = some ⟨dst,op,t,pos,after,g⟩)  (hrr:(Za3 ops ℓ).contains i=true:=by kernel_rfl) (hdd:ZH n dst=true:=by exact rfl) (hg:Zr ops (sel ((⟨dst,op,t,pos,after,g⟩:Oper).looksAt ops) S) g=some false:=by exact rfl) (hd:ZH n dst=true:=by exact rfl) (h:ZbR C k' n ops I (i :: ℓ) K (Zb1 S dst undef) D B L):ZbR C k' n ops I ℓ K S D B L:=Zax i hii hrr hdd (fun _ _ _=>Zsp hg hd ⟨rfl,rfl,rfl,rfl⟩) h
theorem aPT  {c:Operand} {a:Operand} {b:Operand} {v:Value} (i:Nat) (hii:ops[i]? = some ⟨dst,.pick c a b,ty,pos,after,g⟩)  (hrr:(Za3 ops ℓ).contains i=true:=by kernel_rfl) (hdd:ZH n dst=true:=by exact rfl) (hg:Zr ops (sel ((⟨dst,.pick c a b,ty,pos,after,g⟩:Oper).looksAt ops) S) g=some true:=by exact rfl) (hd:ZH n dst=true:=by exact rfl) (hc:ev (sel ((⟨dst,.pick c a b,ty,pos,after,g⟩:Oper).looksAt ops) S) c=some (.bool true):=by exact rfl) (hx:ev (sel ((⟨dst,.pick c a b,ty,pos,after,g⟩:Oper).looksAt ops) S) a=some v:=by exact rfl) (h:ZbR C k' n ops I (i :: ℓ) K (Zb1 S dst v) D B L):ZbR C k' n ops I ℓ K S D B L:=Zax i hii hrr hdd (fun _ _ _=>Zo6 hg hd hc hx ⟨rfl,rfl,rfl,rfl⟩) h
theorem aPF  {c:Operand} {a:Operand} {b:Operand} {v:Value} (i:Nat) (hii:ops[i]? = some ⟨dst,.pick c a b,ty,pos,after,g⟩)  (hrr:(Za3 ops ℓ).contains i=true:=by kernel_rfl) (hdd:ZH n dst=true:=by exact rfl) (hg:Zr ops (sel ((⟨dst,.pick c a b,ty,pos,after,g⟩:Oper).looksAt ops) S) g=some true:=by exact rfl) (hd:ZH n dst=true:=by exact rfl) (hc:ev (sel ((⟨dst,.pick c a b,ty,pos,after,g⟩:Oper).looksAt ops) S) c=some (.bool false):=by exact rfl) (hx:ev (sel ((⟨dst,.pick c a b,ty,pos,after,g⟩:Oper).looksAt ops) S) b=some v:=by exact rfl) (h:ZbR C k' n ops I (i :: ℓ) K (Zb1 S dst v) D B L):ZbR C k' n ops I ℓ K S D B L:=Zax i hii hrr hdd (fun _ _ _=>Zo7 hg hd hc hx ⟨rfl,rfl,rfl,rfl⟩) h
theorem aE  {x:Operand} {ix:Nat} {vs:List Value} {v:Value} (i:Nat) (hii:ops[i]? = some ⟨dst,.extract x ix,ty,pos,after,g⟩)  (hrr:(Za3 ops ℓ).contains i=true:=by kernel_rfl) (hdd:ZH n dst=true:=by exact rfl) (hg:Zr ops (sel ((⟨dst,.extract x ix,ty,pos,after,g⟩:Oper).looksAt ops) S) g=some true:=by exact rfl) (hd:ZH n dst=true:=by exact rfl) (hx:ev (sel ((⟨dst,.extract x ix,ty,pos,after,g⟩:Oper).looksAt ops) S) x=some (.tuple vs.toArray):=by exact rfl) (hi:vs[ix]? = some v:=by exact rfl) (h:ZbR C k' n ops I (i :: ℓ) K (Zb1 S dst v) D B L):ZbR C k' n ops I ℓ K S D B L:=Zax i hii hrr hdd (fun _ _ _=>ZkQ hg hd hx hi ⟨rfl,rfl,rfl,rfl⟩) h
theorem aW  {s:TypeId} {x:Operand} {fi:Nat} {off:Nat} {a:Addr} (i:Nat) (hii:ops[i]? = some ⟨dst,.fieldAddr s x fi,ty,pos,after,g⟩) (hf:ZV P s fi=some off) (hrr:(Za3 ops ℓ).contains i=true:=by kernel_rfl) (hdd:ZH n dst=true:=by exact rfl) (hg:Zr ops (sel ((⟨dst,.fieldAddr s x fi,ty,pos,after,g⟩:Oper).looksAt ops) S) g=some true:=by exact rfl) (hd:ZH n dst=true:=by exact rfl) (hx:ev (sel ((⟨dst,.fieldAddr s x fi,ty,pos,after,g⟩:Oper).looksAt ops) S) x=some (ptr a):=by exact rfl) (h:ZbR C k' n ops I (i :: ℓ) K (Zb1 S dst (ptr (a.add off))) D B L):ZbR C k' n ops I ℓ K S D B L:=Zax i hii hrr hdd (fun _ _ _=>ZhX hg hd hf hx ⟨rfl,rfl,rfl,rfl⟩) h
theorem aN  {x:Operand} {b:Bool} {t:TypeId} (i:Nat) (hii:ops[i]? = some ⟨dst,.unOp .not t x,ty,pos,after,g⟩)  (hrr:(Za3 ops ℓ).contains i=true:=by kernel_rfl) (hdd:ZH n dst=true:=by exact rfl) (hg:Zr ops (sel ((⟨dst,.unOp .not t x,ty,pos,after,g⟩:Oper).looksAt ops) S) g=some true:=by exact rfl) (hd:ZH n dst=true:=by exact rfl) (hx:ev (sel ((⟨dst,.unOp .not t x,ty,pos,after,g⟩:Oper).looksAt ops) S) x=some (.bool b):=by exact rfl) (h:ZbR C k' n ops I (i :: ℓ) K (Zb1 S dst (.bool (!b))) D B L):ZbR C k' n ops I ℓ K S D B L:=Zax i hii hrr hdd (fun _ _ _=>Zt4 hg hd hx ⟨rfl,rfl,rfl,rfl⟩) h
theorem aNc  {x:Operand} {a:Addr} (i:Nat) (hii:ops[i]? = some ⟨dst,.nilCheck x,ty,pos,after,g⟩)  (hrr:(Za3 ops ℓ).contains i=true:=by kernel_rfl) (hdd:ZH n dst=true:=by exact rfl) (hg:Zr ops (sel ((⟨dst,.nilCheck x,ty,pos,after,g⟩:Oper).looksAt ops) S) g=some true:=by exact rfl) (hd:ZH n dst=true:=by exact rfl) (hx:ev (sel ((⟨dst,.nilCheck x,ty,pos,after,g⟩:Oper).looksAt ops) S) x=some (.pointer (some a)):=by exact rfl) (h:ZbR C k' n ops I (i :: ℓ) K (Zb1 S dst (.pointer (some a))) D B L):ZbR C k' n ops I ℓ K S D B L:=Zax i hii hrr hdd (fun _ _ _=>Zjj hg hd hx ⟨rfl,rfl,rfl,rfl⟩) h
theorem aV  {x:Operand} {t:TypeId} {e:TypeId} {p:Option Addr} {len:Nat} {cap:Nat} (i:Nat) (hii:ops[i]? = some ⟨dst,.call ⟨.builtin .len,#[x],#[t]⟩,ty,pos,after,g⟩) (hu:P.underlying t=some (.slice e)) (hrr:(Za3 ops ℓ).contains i=true:=by kernel_rfl) (hdd:ZH n dst=true:=by exact rfl) (hg:Zr ops (sel ((⟨dst,.call ⟨.builtin .len,#[x],#[t]⟩,ty,pos,after,g⟩:Oper).looksAt ops) S) g=some true:=by exact rfl) (hd:ZH n dst=true:=by exact rfl) (hx:ev (sel ((⟨dst,.call ⟨.builtin .len,#[x],#[t]⟩,ty,pos,after,g⟩:Oper).looksAt ops) S) x=some (.slice p len cap):=by exact rfl) (h:ZbR C k' n ops I (i :: ℓ) K (Zb1 S dst (.int .i64 len)) D B L):ZbR C k' n ops I ℓ K S D B L:=Zax i hii hrr hdd (fun _ _ _=>Zsu hg hd hu hx ⟨rfl,rfl,rfl,rfl⟩) h
theorem ZqR  {k:IntKind} {a b:Int} (i:Nat) (hii:ops[i]? = some ⟨dst,.binOp .lss t x y u,ty,pos,after,g⟩)  (hrr:(Za3 ops ℓ).contains i=true:=by kernel_rfl) (hdd:ZH n dst=true:=by exact rfl) (hg:Zr ops (sel ((⟨dst,.binOp .lss t x y u,ty,pos,after,g⟩:Oper).looksAt ops) S) g=some true:=by exact rfl) (hd:ZH n dst=true:=by exact rfl) (hx:ev (sel ((⟨dst,.binOp .lss t x y u,ty,pos,after,g⟩:Oper).looksAt ops) S) x=some (.int k a):=by exact rfl) (hy:ev (sel ((⟨dst,.binOp .lss t x y u,ty,pos,after,g⟩:Oper).looksAt ops) S) y=some (.int k b):=by exact rfl) (h:ZbR C k' n ops I (i :: ℓ) K (Zb1 S dst (.bool (decide (a<b)))) D B L):ZbR C k' n ops I ℓ K S D B L:=Zax i hii hrr hdd (fun _ _ _=>Zt6 hg hd hx hy ⟨rfl,rfl,rfl,rfl⟩) h
theorem ZtU  {k:IntKind} {a b:Int} (i:Nat) (hii:ops[i]? = some ⟨dst,.binOp .leq t x y u,ty,pos,after,g⟩)  (hrr:(Za3 ops ℓ).contains i=true:=by kernel_rfl) (hdd:ZH n dst=true:=by exact rfl) (hg:Zr ops (sel ((⟨dst,.binOp .leq t x y u,ty,pos,after,g⟩:Oper).looksAt ops) S) g=some true:=by exact rfl) (hd:ZH n dst=true:=by exact rfl) (hx:ev (sel ((⟨dst,.binOp .leq t x y u,ty,pos,after,g⟩:Oper).looksAt ops) S) x=some (.int k a):=by exact rfl) (hy:ev (sel ((⟨dst,.binOp .leq t x y u,ty,pos,after,g⟩:Oper).looksAt ops) S) y=some (.int k b):=by exact rfl) (h:ZbR C k' n ops I (i :: ℓ) K (Zb1 S dst (.bool (decide (a≤b)))) D B L):ZbR C k' n ops I ℓ K S D B L:=Zax i hii hrr hdd (fun _ _ _=>Zt7 hg hd hx hy ⟨rfl,rfl,rfl,rfl⟩) h
theorem Zm4  {k:IntKind} {a b:Int} (i:Nat) (hii:ops[i]? = some ⟨dst,.binOp .gtr t x y u,ty,pos,after,g⟩)  (hrr:(Za3 ops ℓ).contains i=true:=by kernel_rfl) (hdd:ZH n dst=true:=by exact rfl) (hg:Zr ops (sel ((⟨dst,.binOp .gtr t x y u,ty,pos,after,g⟩:Oper).looksAt ops) S) g=some true:=by exact rfl) (hd:ZH n dst=true:=by exact rfl) (hx:ev (sel ((⟨dst,.binOp .gtr t x y u,ty,pos,after,g⟩:Oper).looksAt ops) S) x=some (.int k a):=by exact rfl) (hy:ev (sel ((⟨dst,.binOp .gtr t x y u,ty,pos,after,g⟩:Oper).looksAt ops) S) y=some (.int k b):=by exact rfl) (h:ZbR C k' n ops I (i :: ℓ) K (Zb1 S dst (.bool (decide (b<a)))) D B L):ZbR C k' n ops I ℓ K S D B L:=Zax i hii hrr hdd (fun _ _ _=>Zt9 hg hd hx hy ⟨rfl,rfl,rfl,rfl⟩) h
theorem ZuX  {k:IntKind} {a b:Int} (i:Nat) (hii:ops[i]? = some ⟨dst,.binOp .geq t x y u,ty,pos,after,g⟩)  (hrr:(Za3 ops ℓ).contains i=true:=by kernel_rfl) (hdd:ZH n dst=true:=by exact rfl) (hg:Zr ops (sel ((⟨dst,.binOp .geq t x y u,ty,pos,after,g⟩:Oper).looksAt ops) S) g=some true:=by exact rfl) (hd:ZH n dst=true:=by exact rfl) (hx:ev (sel ((⟨dst,.binOp .geq t x y u,ty,pos,after,g⟩:Oper).looksAt ops) S) x=some (.int k a):=by exact rfl) (hy:ev (sel ((⟨dst,.binOp .geq t x y u,ty,pos,after,g⟩:Oper).looksAt ops) S) y=some (.int k b):=by exact rfl) (h:ZbR C k' n ops I (i :: ℓ) K (Zb1 S dst (.bool (decide (b≤a)))) D B L):ZbR C k' n ops I ℓ K S D B L:=Zax i hii hrr hdd (fun _ _ _=>Zua hg hd hx hy ⟨rfl,rfl,rfl,rfl⟩) h
theorem ZqT  {k:IntKind} {a b:Int} (i:Nat) (hii:ops[i]? = some ⟨dst,.binOp .eql t x y u,ty,pos,after,g⟩)  (hrr:(Za3 ops ℓ).contains i=true:=by kernel_rfl) (hdd:ZH n dst=true:=by exact rfl) (hg:Zr ops (sel ((⟨dst,.binOp .eql t x y u,ty,pos,after,g⟩:Oper).looksAt ops) S) g=some true:=by exact rfl) (hd:ZH n dst=true:=by exact rfl) (hx:ev (sel ((⟨dst,.binOp .eql t x y u,ty,pos,after,g⟩:Oper).looksAt ops) S) x=some (.int k a):=by exact rfl) (hy:ev (sel ((⟨dst,.binOp .eql t x y u,ty,pos,after,g⟩:Oper).looksAt ops) S) y=some (.int k b):=by exact rfl) (h:ZbR C k' n ops I (i :: ℓ) K (Zb1 S dst (.bool (decide (a=b)))) D B L):ZbR C k' n ops I ℓ K S D B L:=Zax i hii hrr hdd (fun _ _ _=>Zsw hg hd hx hy ⟨rfl,rfl,rfl,rfl⟩) h
theorem ZuW  {k:IntKind} {a b:Int} (i:Nat) (hii:ops[i]? = some ⟨dst,.binOp .neq t x y u,ty,pos,after,g⟩)  (hrr:(Za3 ops ℓ).contains i=true:=by kernel_rfl) (hdd:ZH n dst=true:=by exact rfl) (hg:Zr ops (sel ((⟨dst,.binOp .neq t x y u,ty,pos,after,g⟩:Oper).looksAt ops) S) g=some true:=by exact rfl) (hd:ZH n dst=true:=by exact rfl) (hx:ev (sel ((⟨dst,.binOp .neq t x y u,ty,pos,after,g⟩:Oper).looksAt ops) S) x=some (.int k a):=by exact rfl) (hy:ev (sel ((⟨dst,.binOp .neq t x y u,ty,pos,after,g⟩:Oper).looksAt ops) S) y=some (.int k b):=by exact rfl) (h:ZbR C k' n ops I (i :: ℓ) K (Zb1 S dst (.bool (decide (a≠b)))) D B L):ZbR C k' n ops I ℓ K S D B L:=Zax i hii hrr hdd (fun _ _ _=>Zsr hg hd hx hy ⟨rfl,rfl,rfl,rfl⟩) h
theorem ZqS  {a b:List UInt8} (i:Nat) (hii:ops[i]? = some ⟨dst,.binOp .eql t x y u,ty,pos,after,g⟩)  (hrr:(Za3 ops ℓ).contains i=true:=by kernel_rfl) (hdd:ZH n dst=true:=by exact rfl) (hg:Zr ops (sel ((⟨dst,.binOp .eql t x y u,ty,pos,after,g⟩:Oper).looksAt ops) S) g=some true:=by exact rfl) (hd:ZH n dst=true:=by exact rfl) (hx:ev (sel ((⟨dst,.binOp .eql t x y u,ty,pos,after,g⟩:Oper).looksAt ops) S) x=some (str a):=by exact rfl) (hy:ev (sel ((⟨dst,.binOp .eql t x y u,ty,pos,after,g⟩:Oper).looksAt ops) S) y=some (str b):=by exact rfl) (h:ZbR C k' n ops I (i :: ℓ) K (Zb1 S dst (.bool (decide (a=b)))) D B L):ZbR C k' n ops I ℓ K S D B L:=Zax i hii hrr hdd (fun _ _ _=>Zsv hg hd hx hy ⟨rfl,rfl,rfl,rfl⟩) h
theorem ZsM  {a b:List UInt8} (i:Nat) (hii:ops[i]? = some ⟨dst,.binOp .neq t x y u,ty,pos,after,g⟩)  (hrr:(Za3 ops ℓ).contains i=true:=by kernel_rfl) (hdd:ZH n dst=true:=by exact rfl) (hg:Zr ops (sel ((⟨dst,.binOp .neq t x y u,ty,pos,after,g⟩:Oper).looksAt ops) S) g=some true:=by exact rfl) (hd:ZH n dst=true:=by exact rfl) (hx:ev (sel ((⟨dst,.binOp .neq t x y u,ty,pos,after,g⟩:Oper).looksAt ops) S) x=some (str a):=by exact rfl) (hy:ev (sel ((⟨dst,.binOp .neq t x y u,ty,pos,after,g⟩:Oper).looksAt ops) S) y=some (str b):=by exact rfl) (h:ZbR C k' n ops I (i :: ℓ) K (Zb1 S dst (.bool (decide (a≠b)))) D B L):ZbR C k' n ops I ℓ K S D B L:=Zax i hii hrr hdd (fun _ _ _=>Zsq hg hd hx hy ⟨rfl,rfl,rfl,rfl⟩) h
theorem aD  {k:IntKind} {a b r:Int} (i:Nat) (hii:ops[i]? = some ⟨dst,.binOp .add t x y u,ty,pos,after,g⟩)  (hrr:(Za3 ops ℓ).contains i=true:=by kernel_rfl) (hdd:ZH n dst=true:=by exact rfl) (hg:Zr ops (sel ((⟨dst,.binOp .add t x y u,ty,pos,after,g⟩:Oper).looksAt ops) S) g=some true:=by exact rfl) (hd:ZH n dst=true:=by exact rfl) (hx:ev (sel ((⟨dst,.binOp .add t x y u,ty,pos,after,g⟩:Oper).looksAt ops) S) x=some (.int k a):=by exact rfl) (hy:ev (sel ((⟨dst,.binOp .add t x y u,ty,pos,after,g⟩:Oper).looksAt ops) S) y=some (.int k b):=by exact rfl) (hr:k.wrap (a+b)=r:=by first | exact ZaY (by first | omega | (simp;done) | (simp;omega)) (by first | omega | (simp;done) | (simp;omega)) | exact rfl) (h:ZbR C k' n ops I (i :: ℓ) K (Zb1 S dst (.int k r)) D B L):ZbR C k' n ops I ℓ K S D B L:=Zax i hii hrr hdd (fun _ _ _=>ZeL hg hd hx hy hr ⟨rfl,rfl,rfl,rfl⟩) h
theorem aU  {k:IntKind} {a b r:Int} (i:Nat) (hii:ops[i]? = some ⟨dst,.binOp .sub t x y u,ty,pos,after,g⟩)  (hrr:(Za3 ops ℓ).contains i=true:=by kernel_rfl) (hdd:ZH n dst=true:=by exact rfl) (hg:Zr ops (sel ((⟨dst,.binOp .sub t x y u,ty,pos,after,g⟩:Oper).looksAt ops) S) g=some true:=by exact rfl) (hd:ZH n dst=true:=by exact rfl) (hx:ev (sel ((⟨dst,.binOp .sub t x y u,ty,pos,after,g⟩:Oper).looksAt ops) S) x=some (.int k a):=by exact rfl) (hy:ev (sel ((⟨dst,.binOp .sub t x y u,ty,pos,after,g⟩:Oper).looksAt ops) S) y=some (.int k b):=by exact rfl) (hr:k.wrap (a - b)=r:=by first | exact ZaY (by first | omega | (simp;done) | (simp;omega)) (by first | omega | (simp;done) | (simp;omega)) | exact rfl) (h:ZbR C k' n ops I (i :: ℓ) K (Zb1 S dst (.int k r)) D B L):ZbR C k' n ops I ℓ K S D B L:=Zax i hii hrr hdd (fun _ _ _=>Zi6 hg hd hx hy hr ⟨rfl,rfl,rfl,rfl⟩) h
theorem aIx  {t:TypeId} {e:TypeId} {x:Operand} {y:Operand} {k:IntKind} {b:Nat} {o:Nat} {len:Nat} {cap:Nat} {sz:Nat} {ix:Int} (i:Nat) (hii:ops[i]? = some ⟨dst,.indexAddr t x y,ty,pos,after,g⟩) (hu:P.underlying t=some (.slice e)) (hsz:Zaj P e=some sz) (hrr:(Za3 ops ℓ).contains i=true:=by kernel_rfl) (hdd:ZH n dst=true:=by exact rfl) (hg:Zr ops (sel ((⟨dst,.indexAddr t x y,ty,pos,after,g⟩:Oper).looksAt ops) S) g=some true:=by exact rfl) (hd:ZH n dst=true:=by exact rfl) (hx:ev (sel ((⟨dst,.indexAddr t x y,ty,pos,after,g⟩:Oper).looksAt ops) S) x=some (.slice (some ⟨b,o,none⟩) len cap):=by exact rfl) (hy:ev (sel ((⟨dst,.indexAddr t x y,ty,pos,after,g⟩:Oper).looksAt ops) S) y=some (.int k ix):=by exact rfl) (h0:0≤ix:=by first | omega | (simp;done) | (simp;omega)) (h1:ix<len:=by first | omega | (simp;done) | (simp;omega)) (h:ZbR C k' n ops I (i :: ℓ) K (Zb1 S dst (ptr ⟨b,o+ix.toNat*sz,none⟩)) D B L):ZbR C k' n ops I ℓ K S D B L:=Zax i hii hrr hdd (fun _ _ _=>Zt8 hg hd hu hsz hx hy h0 h1 ⟨rfl,rfl,rfl,rfl⟩) h
end
end Go.BL
namespace Go.BL
open Go
set_option linter.unusedVariables false
set_option linter.unusedSimpArgs false
def ZbH (c:UInt8):Bool:=(decide (97≤c.toNat) && decide (c.toNat≤122)) || (decide (48≤c.toNat) && decide (c.toNat≤57))
def Zay (l:List UInt8):Bool:=l.all ZbH && decide (1≤l.length) && decide (l.length≤8)
theorem Zse {l:List UInt8} {k:Nat} {c:UInt8} (hc:l[k]? = some c) (h:ZbH c=false):l.all ZbH=false:=by
  rw [Bool.eq_false_iff];intro ha
  have:=List.all_eq_true.1 ha c (List.mem_of_getElem? hc)
  rw [h] at this;cases this
theorem ZnQ {l:List UInt8} {k:Nat} {c:UInt8} (hc:l[k]? = some c) (h:ZbH c=true) (ha:(l.take k).all ZbH=true):(l.take (k+1)).all ZbH=true:=by
  rw [List.take_add_one,hc];simp only [Option.toList_some,List.all_append,ha,List.all_cons,h,List.all_nil];rfl
def word (l:List UInt8) (i:Nat):List UInt8:=(l.drop i).takeWhile ZbH
def ZdK (w:List UInt8):Bool:=decide (1≤w.length) && decide (w.length≤8)
theorem Zpy {o:Option UInt8} {f:UInt8→Bool} (h:(match o with | some c=>f c | none=>false)=true) :∃c,o=some c∧f c=true:=by
  cases o with
  | none=>cases h
  | some c=>exact ⟨c,rfl,h⟩
theorem Zcb {α:Type} {l:List α} {k:Nat} {c:α} (h:l[k]? = some c):k<l.length:=(List.getElem?_eq_some_iff.1 h).1
theorem Zge {p:UInt8→Bool} :∀{m:List UInt8} {k:Nat},(m.take k).all p=true→(∀c,m[k]? = some c→p c=false)→m.takeWhile p=m.take k
  | [],k,_,_=>by simp
  | c :: m,0,_,h=>by simp [List.takeWhile,h c rfl]
  | c :: m,k+1,ha,h=>by
    simp only [List.take_succ_cons,List.all_cons,Bool.and_eq_true] at ha
    simp only [List.takeWhile,ha.1,List.take_succ_cons]
    rw [Zge ha.2 (fun c hc=>h c (by simpa using hc))]
theorem Zq1 {l:List UInt8} {i k:Nat} (ha:((l.drop i).take k).all ZbH=true) (h :∀c,l[i+k]? = some c→ZbH c=false):word l i=(l.drop i).take k:=
  Zge ha (fun c hc=>h c (by simpa using hc))
theorem ZfD {l:List UInt8} {i k:Nat} : (l.take (i+k)).drop i=(l.drop i).take k:=by
  rw [List.drop_take,Nat.add_sub_cancel_left]
theorem Zjn {a b c d:Value} (h:a=c) (h':b=d):Value.tuple #[a,b]=Value.tuple #[c,d]:=by rw [h,h']
def more:Nat→List UInt8→Nat→Bool × Nat
  | 0,_,i=>(true,i)
  | n+1,l,i=>if l[i]? = some 46 then (if ZdK (word l (i+1))=true then more n l (i+1+(word l (i+1)).length) else (false,i+1+(word l (i+1)).length)) else (true,i)
def dom (l:List UInt8) (i:Nat):Bool × Nat:=if ZdK (word l i)=true then more 2 l (i+(word l i).length) else (false,i+(word l i).length)
def ZiR (l:List UInt8) (i:Nat):List UInt8:=if (dom l i).1=true then (l.take (dom l i).2).drop i else []
def ZmU (l:List UInt8) (i:Nat):Bool:=(dom l i).1 && decide ((dom l i).2 - i≤20)
theorem ZmT {l:List UInt8} {i:Nat} (h:ZdK (word l i)=false):dom l i=(false,i+(word l i).length):=by simp [dom,h]
theorem Zr5 {l:List UInt8} {i:Nat} (h:ZdK (word l i)=true):dom l i=more 2 l (i+(word l i).length):=by simp [dom,h]
theorem ZhS {l:List UInt8} {i:Nat} (h:i≤l.length):i+(word l i).length≤l.length:=by
  have:=List.IsPrefix.length_le (List.takeWhile_prefix ZbH (l:=l.drop i))
  rw [List.length_drop] at this
  unfold word;omega
theorem Zik {l:List UInt8} {n j:Nat} (h : ¬ l[j]? = some 46):more n l j=(true,j):=by
  cases n with
  | zero=>rfl
  | succ n=>rw [more,if_neg h]
theorem Zrs {l:List UInt8} {n j:Nat} (hn:1≤n) (h:l[j]? = some 46) (hw:ZdK (word l (j+1))=false):more n l j=(false,j+1+(word l (j+1)).length):=by
  cases n with
  | zero=>omega
  | succ n=>rw [more,if_pos h,if_neg (by simp [hw])]
theorem ZpV {l:List UInt8} {n j:Nat} (hn:1≤n) (h:l[j]? = some 46) (hw:ZdK (word l (j+1))=true):more n l j=more (n - 1) l (j+1+(word l (j+1)).length):=by
  cases n with
  | zero=>omega
  | succ n=>rw [more,if_pos h,if_pos hw];rfl
theorem Zen {p:UInt8→Bool} :∀l:List UInt8,(l.takeWhile p).length=l.length↔l.all p=true
  | []=>by simp
  | c :: l=>by
    have h:=Zen (p:=p) l
    cases hc:p c with
    | true=>simp [List.takeWhile,hc] at h ⊢;exact h
    | false=>simp [List.takeWhile,hc]
theorem Zdv {l:List UInt8} : Zay l=(ZdK (word l 0) && decide ((word l 0).length=l.length)):=by
  have h:=Zen (p:=ZbH) l
  have e:word l 0=l.takeWhile ZbH:=by simp [word]
  rw [Bool.eq_iff_iff]
  simp only [Zay,ZdK,e,Bool.and_eq_true,decide_eq_true_eq]
  constructor
  · rintro ⟨⟨h1,h2⟩,h3⟩
    have:=h.2 h1
    omega
  · rintro ⟨⟨h1,h2⟩,h3⟩
    exact ⟨⟨h.1 h3,by omega⟩,by omega⟩
theorem ZpU {l:List UInt8} :∀(n j:Nat),j≤l.length→(more n l j).2≤l.length
  | 0,j,h=>h
  | n+1,j,h=>by
    rw [more]
    split
    · rename_i e
      have:=Zcb e
      have h2:=ZhS (l:=l) (i:=j+1) (by omega)
      split
      · exact ZpU n _ h2
      · exact h2
    · exact h
theorem ZuL {l:List UInt8} {i:Nat} (h:i≤l.length):(dom l i).2≤l.length:=by
  unfold dom
  have h2:=ZhS h
  split
  · exact ZpU 2 _ h2
  · exact h2
def glue (a:List UInt8):List (List UInt8)→List (List UInt8)
  | []=>[a]
  | p :: ps=>(a ++ p) :: ps
def cut (x:UInt8):List UInt8→List (List UInt8)
  | []=>[[]]
  | c :: r=>if c=x then [] :: cut x r else glue [c] (cut x r)
theorem ZnO (x:UInt8) :∀l,cut x l≠[]
  | []=>by simp [cut]
  | c :: r=>by
    rw [cut]
    split
    · simp
    · cases cut x r <;> simp [glue]
theorem ZnB {m:List (List UInt8)} (h:m≠[]):glue [] m=m:=by
  cases m with
  | nil=>exact absurd rfl h
  | cons p ps=>rfl
theorem Zqg (a b:List UInt8) (m:List (List UInt8)):glue a (glue b m)=glue (a ++ b) m:=by
  cases m <;> simp [glue]
structure CutSt where
  i:Nat
  f:Nat
  m:Nat
  ps:List (List UInt8)
  q:Option Addr
  cp:Nat
  s:Cells
theorem Zvp {a b:UInt8} (h:(a.toNat:Int)=b.toNat):a=b:=UInt8.toNat_inj.1 (by exact_mod_cast h)
theorem ZtO {l:List UInt8} {x c:UInt8} {i:Nat} (h:l[i]? = some c) (e:c=x):cut x (l.drop i)=[] :: cut x (l.drop (i+1)):=by
  obtain ⟨hlt,he⟩:=List.getElem?_eq_some_iff.1 h
  rw [List.drop_eq_getElem_cons hlt,he,cut,if_pos e]
theorem Zr7 {l:List UInt8} {x c:UInt8} {i:Nat} (h:l[i]? = some c) (e:c≠x):cut x (l.drop i)=glue [c] (cut x (l.drop (i+1))):=by
  obtain ⟨hlt,he⟩:=List.getElem?_eq_some_iff.1 h
  rw [List.drop_eq_getElem_cons hlt,he,cut,if_neg e]
theorem Zvo {a b:UInt8} (h : ¬ (a.toNat:Int)=b.toNat):a≠b:=fun e=>h (by rw [e])
theorem Zpl {l:List UInt8} {c:UInt8} {i f:Nat} (h:l[i]? = some c) (hf:f≤i):(l.take i).drop f ++ [c]=(l.take (i+1)).drop f:=by
  have hlt:=Zcb h
  rw [List.take_add_one,h]
  simp only [Option.toList_some]
  rw [List.drop_append_of_le_length (by rw [List.length_take];omega)]
theorem ZrS (a:List UInt8) (m:List (List UInt8)):glue a ([] :: m)=a :: m:=by simp [glue]
def Zcj (l:List UInt8):Bool:=(cut 46 l).all Zay && decide ((cut 46 l).length≤3) && decide (l.length≤20)
theorem ZrR {a:List UInt8} {m:List (List UInt8)} {n:Nat} (h :∀p,p∈m→p.length≤n) :∀p,p∈glue a m→p.length≤a.length+n:=by
  cases m with
  | nil=>intro p hp;simp [glue] at hp;subst hp;omega
  | cons q qs=>
    intro p hp
    simp only [glue,List.mem_cons] at hp
    rcases hp with rfl | hp
    · rw [List.length_append];have:=h q (List.mem_cons_self ..);omega
    · have:=h p (List.mem_cons_of_mem _ hp);omega
theorem ZmV (x:UInt8) :∀(l p:List UInt8),p∈cut x l→p.length≤l.length
  | [],p,h=>by simp [cut] at h;subst h;simp
  | c :: r,p,h=>by
    rw [cut] at h
    split at h
    · rcases List.mem_cons.1 h with rfl | h
      · simp
      · have:=ZmV x r p h;simp;omega
    · have:=ZrR (ZmV x r) p h;simp at this ⊢;omega
theorem ZlX {l:List (List UInt8)} {k:Nat} {c:List UInt8} (hc:l[k]? = some c) (h:Zay c=false):l.all Zay=false:=by
  rw [Bool.eq_false_iff];intro ha
  have:=List.all_eq_true.1 ha c (List.mem_of_getElem? hc)
  rw [h] at this;cases this
theorem Zi0 {l:List (List UInt8)} {k:Nat} {c:List UInt8} (hc:l[k]? = some c) (h:Zay c=true) (ha:(l.take k).all Zay=true):(l.take (k+1)).all Zay=true:=by
  rw [List.take_add_one,hc];simp only [Option.toList_some,List.all_append,ha,List.all_cons,h,List.all_nil];rfl
theorem ZlN (x:UInt8) :∀l:List UInt8,(cut x l).length≤l.length+1
  | []=>by simp [cut]
  | c :: r=>by
    have h:=ZlN x r
    rw [cut]
    split
    · simp;omega
    · cases hq:cut x r with
      | nil=>exact absurd hq (ZnO x r)
      | cons p ps=>rw [hq] at h;simp [glue] at h ⊢;omega
end Go.BL
namespace Go.BL
open Go
set_option linter.unusedVariables false
set_option linter.unusedSimpArgs false
theorem ZkE {x:UInt8} :∀{l:List UInt8},x ∉ l→cut x l=[l]
  | [],_=>rfl
  | c :: r,h=>by
    rw [cut,if_neg (fun e=>h (by rw [e];exact List.mem_cons_self ..)),ZkE (fun hm=>h (List.mem_cons_of_mem _ hm))]
    rfl
theorem ZiS {x:UInt8} {b:List UInt8} :∀{a:List UInt8},x ∉ a→cut x (a ++ x :: b)=a :: cut x b
  | [],_=>by simp [cut]
  | c :: r,h=>by
    rw [List.cons_append,cut,if_neg (fun e=>h (by rw [e];exact List.mem_cons_self ..)),ZiS (fun hm=>h (List.mem_cons_of_mem _ hm))]
    rfl
theorem ZfM {x:UInt8} :∀{l:List UInt8},x∈l→∃a b,l=a ++ x :: b∧x ∉ a
  | c :: r,h=>by
    by_cases e:c=x
    · exact ⟨[],r,by simp [e],by simp⟩
    · have hr:x∈r:=(List.mem_cons.1 h).resolve_left (Ne.symm e)
      obtain ⟨a,b,h1,h2⟩:=ZfM hr
      exact ⟨c :: a,b,by simp [h1],by simp [Ne.symm e,h2]⟩
theorem Zjg (l:List UInt8) (i j:Nat):word l (i+j)=word (l.drop i) j:=by
  unfold word;rw [List.drop_drop]
theorem ZjE (l:List UInt8) (i:Nat) :∀n j,more n l (i+j)=((more n (l.drop i) j).1,i+(more n (l.drop i) j).2)
  | 0,j=>rfl
  | n+1,j=>by
    simp only [more,List.getElem?_drop]
    rw [show i+j+1=i+(j+1) from by omega,Zjg]
    split
    · split
      · rw [show i+(j+1)+(word (l.drop i) (j+1)).length=i+(j+1+(word (l.drop i) (j+1)).length) from by omega,ZjE l i n]
      · simp only [Prod.mk.injEq,true_and];omega
    · rfl
theorem Zq2 {l:List UInt8} (h:l.all ZbH=true):word l 0=l:=by
  have:=(Zen (p:=ZbH) l).2 h
  have h2:=List.takeWhile_prefix ZbH (l:=l)
  simp only [word,List.drop_zero]
  exact List.IsPrefix.eq_of_length h2 this
theorem Zg1 {a b:List UInt8} {x:UInt8} (hx:ZbH x=false) (h:a.all ZbH=true):word (a ++ x :: b) 0=a:=by
  simp only [word,List.drop_zero]
  induction a with
  | nil=>simp [List.takeWhile,hx]
  | cons c a ih=>
    simp only [List.all_cons,Bool.and_eq_true] at h
    simp only [List.cons_append,List.takeWhile,h.1,ih h.2]
theorem Zg0 {a:List UInt8} (b:List UInt8) (h:a.all ZbH=false):(word (a ++ b) 0).length<a.length∧word (a ++ b) 0=word a 0:=by
  simp only [word,List.drop_zero]
  induction a with
  | nil=>simp at h
  | cons c a ih=>
    cases hc:ZbH c with
    | false=>simp [List.takeWhile,hc]
    | true=>
      have h':a.all ZbH=false:=by simpa [hc] using h
      have:=ih h'
      simp only [List.cons_append,List.takeWhile,hc,List.length_cons]
      exact ⟨by omega,by rw [this.2]⟩
theorem Ztv {a:List UInt8} (b:List UInt8) {k:Nat} (h:k<a.length):(a ++ b)[k]? = a[k]?:=List.getElem?_append_left h
theorem ZiF {x:UInt8} {a:List UInt8} (h:x ∉ a) (k:Nat):a[k]?≠some x:=fun e=>h (List.mem_of_getElem? e)
theorem ZpP :∀(n:Nat) (b:List UInt8),(ZdK (word b 0)=true∧more n b (word b 0).length=(true,b.length))↔((cut 46 b).all Zay=true∧(cut 46 b).length≤n+1):=by
  intro n
  induction n with
  | zero=>
    intro b
    by_cases hd:(46:UInt8)∈b
    · obtain ⟨a,r,rfl,ha⟩:=ZfM hd
      rw [ZiS ha]
      have hlen:(word (a ++ 46 :: r) 0).length≤a.length:=by
        cases hna:a.all ZbH with
        | true=>rw [Zg1 (by decide) hna];exact Nat.le_refl _
        | false=>exact Nat.le_of_lt (Zg0 _ hna).1
      constructor
      · rintro ⟨_,h2⟩
        simp only [more,Prod.mk.injEq,true_and] at h2
        rw [List.length_append,List.length_cons] at h2
        omega
      · rintro ⟨_,h2⟩
        have:=ZnO 46 r
        simp only [List.length_cons] at h2
        exact absurd (List.eq_nil_of_length_eq_zero (by omega)) this
    · rw [ZkE hd]
      simp only [more,List.all_cons,List.all_nil,Bool.and_true,List.length_cons,List.length_nil,Nat.zero_add,Nat.le_refl,and_true,Prod.mk.injEq,true_and,Zdv,Bool.and_eq_true,decide_eq_true_eq]
  | succ n ih=>
    intro b
    by_cases hd:(46:UInt8)∈b
    · obtain ⟨a,r,rfl,ha⟩:=ZfM hd
      rw [ZiS ha]
      cases hna:a.all ZbH with
      | true=>
        rw [Zg1 (by decide) hna]
        have hg:(a ++ 46 :: r)[a.length]? = some 46:=by simp
        have hdr:(a ++ 46 :: r).drop (a.length+1)=r:=by rw [List.drop_append];simp
        have hw:word (a ++ 46 :: r) (a.length+1)=word r 0:=by
          have:=Zjg (a ++ 46 :: r) (a.length+1) 0
          rw [Nat.add_zero,hdr] at this;exact this
        have hm:more n (a ++ 46 :: r) (a.length+1+(word r 0).length)=((more n r (word r 0).length).1,a.length+1+(more n r (word r 0).length).2):=by
          rw [ZjE,hdr]
        simp only [more,hg,if_true,hw,hm,List.all_cons,Bool.and_eq_true,List.length_cons]
        have hna':Zay a=ZdK a:=by rw [Zdv,Zq2 hna];simp
        have hi:=ih r
        constructor
        · rintro ⟨h1,h2⟩
          split at h2
          · rename_i h3
            simp only [Prod.mk.injEq,List.length_append,List.length_cons] at h2
            have:=hi.1 ⟨h3,by ext1;exact h2.1;simp only [];omega⟩
            exact ⟨⟨by rw [hna'];exact h1,this.1⟩,by omega⟩
          · simp at h2
        · rintro ⟨⟨h1,h2⟩,h3⟩
          obtain ⟨h4,h5⟩:=hi.2 ⟨h2,by omega⟩
          refine ⟨by rw [← hna'];exact h1,?_⟩
          rw [if_pos h4,h5]
          simp;omega
      | false=>
        obtain ⟨h1,h2⟩:=Zg0 (46 :: r) hna
        have hne:Zay a=false:=by simp [Zay,hna]
        constructor
        · rintro ⟨_,h3⟩
          rw [Zik (by rw [Ztv _ h1];exact ZiF ha _)] at h3
          simp only [Prod.mk.injEq,true_and,List.length_append,List.length_cons] at h3
          omega
        · rintro ⟨h3,_⟩
          simp [hne] at h3
    · rw [ZkE hd]
      rw [Zik (ZiF hd _)]
      simp only [List.all_cons,List.all_nil,Bool.and_true,List.length_cons,List.length_nil,Prod.mk.injEq,true_and,Zdv,Bool.and_eq_true,decide_eq_true_eq]
      constructor
      · rintro ⟨h1,h2⟩;exact ⟨⟨h1,h2⟩,by omega⟩
      · rintro ⟨⟨h1,h2⟩,_⟩;exact ⟨h1,h2⟩
theorem ZlL (b:List UInt8):((dom b 0).1=true∧(dom b 0).2≤20∧(dom b 0).2=b.length)↔Zcj b=true:=by
  have h:=ZpP 2 b
  simp only [Zcj,Bool.and_eq_true,decide_eq_true_eq]
  constructor
  · rintro ⟨h1,h2,h3⟩
    cases hw:ZdK (word b 0) with
    | false=>simp [dom,hw] at h1
    | true=>
      simp only [dom,hw,if_true,Nat.zero_add] at h1 h2 h3
      have:=h.1 ⟨hw,by ext1;exact h1;exact h3⟩
      exact ⟨⟨this.1,this.2⟩,by omega⟩
  · rintro ⟨⟨h1,h2⟩,h3⟩
    obtain ⟨h4,h5⟩:=h.2 ⟨h1,h2⟩
    simp only [dom,h4,if_true,Nat.zero_add,h5]
    exact ⟨trivial,h3,trivial⟩
end Go.BL
namespace Go.BL
open Go
set_option linter.unusedVariables false
set_option linter.unusedSimpArgs false
theorem Zbp {α:Type} {p:α→Prop} {l:List α} {k:Nat} {x:α} (hx:l[k]? = some x) (h :∀y,y∈l.take k→p y) (hp:p x) :∀y,y∈l.take (k+1)→p y:=by
  intro y hy
  rw [List.take_add_one,hx] at hy
  simp only [Option.toList_some,List.mem_append,List.mem_singleton] at hy
  rcases hy with hy | rfl
  · exact h y hy
  · exact hp
def Zde (us:List DUser) (u:Str):Int:=match us.findIdx? (fun x=>decide (x.name=u)) with | some i=>i | none=>-1
theorem ZrG {us:List DUser} {u:Str} {k:Nat} {x:DUser} (hx:us[k]? = some x) (he:x.name=u) (h :∀y,y∈us.take k→y.name≠u):Zde us u=k:=by
  have:us.findIdx? (fun x=>decide (x.name=u))=some k:=by
    rw [List.findIdx?_eq_some_iff_getElem]
    obtain ⟨hk,rfl⟩:=List.getElem?_eq_some_iff.1 hx
    refine ⟨hk,by simpa using he,fun j hj=>?_⟩
    have:=h us[j] (by rw [List.mem_take_iff_getElem];exact ⟨j,by omega,rfl⟩)
    simpa using this
  rw [Zde,this]
theorem Zp5 {us:List DUser} {u:Str} (h :∀y,y∈us→y.name≠u):Zde us u = -1:=by
  have:us.findIdx? (fun x=>decide (x.name=u))=none:=by
    rw [List.findIdx?_eq_none_iff]
    intro x hx
    simpa using h x hx
  rw [Zde,this]
theorem Zg4 {α:Type} {as bs:List α} {k:Nat} {x y:α} (hx:as[k]? = some x) (hy:bs[k]? = some y) (e:x=y) (h:as.take k=bs.take k):as.take (k+1)=bs.take (k+1):=by
  rw [List.take_add_one,List.take_add_one,hx,hy,e,h]
theorem Zqs {α:Type} {as bs:List α} {inst:Decidable (as=bs)} (h : ¬ (as.length:Int)=bs.length):false=decide (as=bs):=by
  symm;rw [decide_eq_false_iff_not];intro e;exact h (by rw [e])
theorem ZnJ {α:Type} {as bs:List α} {inst:Decidable (as=bs)} {k:Nat} {x y:α} (hx:as[k]? = some x) (hy:bs[k]? = some y) (e : ¬ x=y):false=decide (as=bs):=by
  symm;rw [decide_eq_false_iff_not];intro h;rw [h,hy] at hx;exact e (Option.some.inj hx).symm
theorem eqT {α:Type} {as bs:List α} {inst:Decidable (as=bs)} {k:Nat} (hl:as.length=bs.length) (hk:k=as.length) (h:as.take k=bs.take k):true=decide (as=bs):=by
  symm;rw [decide_eq_true_eq]
  rw [List.take_of_length_le (by omega),List.take_of_length_le (by omega)] at h;exact h
theorem ZwM {α:Type} {as:List α} {x:α} {inst:Decidable (x∈as)} (h :∀y,y∈as→y≠x):false=decide (x∈as):=by
  symm;rw [decide_eq_false_iff_not];intro hx;exact h x hx rfl
theorem ZwL {α:Type} {as:List α} {x y:α} {inst:Decidable (x∈as)} {k:Nat} (hy:as[k]? = some y) (e:y=x):true=decide (x∈as):=by
  symm;rw [decide_eq_true_eq];subst e;exact List.mem_of_getElem? hy
theorem ZbJ {α:Type} {p:α→Prop} {l:List α} {k:Nat} (hk : ¬ (k:Int)<l.length) (h :∀y,y∈l.take k→p y) :∀y,y∈l→p y:=by
  rwa [List.take_of_length_le (by omega)] at h
theorem ZkC {α:Type} {l:List α} {k:Nat} {x:α} (h:l[k]? = some x):l.drop k=x :: l.drop (k+1):=by
  obtain ⟨hlt,he⟩:=List.getElem?_eq_some_iff.1 h
  rw [List.drop_eq_getElem_cons hlt,he]
theorem ZqA {α:Type} {l:List α} {k:Nat} (h : ¬ (k:Int)<l.length):l.drop k=[]:=List.drop_eq_nil_of_le (by omega)
def ZcL (l:List Str):Bool:=l.all Zay && decide l.Nodup && decide (l.length≤3)
def ZaO (x:DLetter):Bool:=Zay x.fr && ZcL x.to_ && decide (0<x.to_.length) && decide (x.text.length≤20)
def Zcz (x:DItem):Bool:=ZaO ⟨x.fr,x.left,x.text⟩
def ZcX:Int→List DItem→Option Int
  | last,[]=>some last
  | last,x :: r=>if (last+1≤x.id∧x.id≤99)∧Zcz x=true then ZcX x.id r else none
def Zag (q:DQueue):Bool:=match ZcX 0 q.items with
  | some last=>decide (last+1≤q.next) && decide (q.next≤100) && decide (q.items.length≤6)
  | none=>false
theorem ZpO {α:Type} {l:List α} {k:Nat} {x:α} (hx:l[k]? = some x) (h:(l.take k).Nodup) (hn : ¬ x∈l.take k):(l.take (k+1)).Nodup:=by
  rw [List.take_add_one,hx]
  simp only [Option.toList_some]
  rw [List.nodup_append]
  exact ⟨h,by simp,fun a ha b hb=>by rw [List.mem_singleton.1 hb];exact fun e=>hn (e ▸ ha)⟩
theorem Ztc {α:Type} {l:List α} {k:Nat} {x:α} (hx:l[k]? = some x) (h:x∈l.take k) : ¬ l.Nodup:=by
  intro hn
  have e:l=l.take k ++ l.drop k:=(List.take_append_drop k l).symm
  rw [e,ZkC hx,List.nodup_append] at hn
  exact hn.2.2 x h x (List.mem_cons_self ..) rfl
theorem Zhd {l:List Str} {k:Nat} {x:Str} (hx:l[k]? = some x) (h:Zay x=false):false=ZcL l:=by
  simp [ZcL,ZlX hx h]
theorem Zhc {l:List Str} {k:Nat} {x:Str} (hx:l[k]? = some x) (h:x∈l.take k):false=ZcL l:=by
  simp [ZcL,Ztc hx h]
theorem Zij {l:List Str} {k:Nat} (hk : ¬ (k:Int)<l.length) (ha:(l.take k).all Zay=true) (hn:(l.take k).Nodup):decide ((l.length:Int)≤3)=ZcL l:=by
  rw [List.take_of_length_le (by omega)] at ha hn
  rw [Bool.eq_iff_iff];simp only [ZcL,ha,decide_eq_true hn,Bool.true_and,decide_eq_true_eq];omega
def Za0 {α:Type} (p:α→Bool) (xs:List α):Int:=match xs.findIdx? p with | some i=>i | none=>-1
theorem ZhI {α:Type} {p:α→Bool} {xs:List α} {k:Nat} {x:α} (hx:xs[k]? = some x) (he:p x=true) (h :∀y,y∈xs.take k→p y=false):Za0 p xs=k:=by
  have:xs.findIdx? p=some k:=by
    rw [List.findIdx?_eq_some_iff_getElem]
    obtain ⟨hk,rfl⟩:=List.getElem?_eq_some_iff.1 hx
    refine ⟨hk,he,fun j hj=>?_⟩
    have:=h xs[j] (by rw [List.mem_take_iff_getElem];exact ⟨j,by omega,rfl⟩)
    simpa using this
  rw [Za0,this]
theorem ZeZ {α:Type} {p:α→Bool} {xs:List α} (h :∀y,y∈xs→p y=false):Za0 p xs = -1:=by
  have:xs.findIdx? p=none:=by
    rw [List.findIdx?_eq_none_iff]
    intro x hx
    simpa using h x hx
  rw [Za0,this]
theorem Zch {α:Type} {p:α→Bool} {xs:List α} : (0≤Za0 p xs)↔∃x,x∈xs∧p x=true:=by
  cases h:xs.findIdx? p with
  | none=>
    rw [List.findIdx?_eq_none_iff] at h
    simp only [Za0,List.findIdx?_eq_none_iff.2 h]
    refine ⟨fun e=>absurd e (by omega),fun ⟨x,hx,hp⟩=>?_⟩
    rw [h x hx] at hp;cases hp
  | some i=>
    simp only [Za0,h]
    rw [List.findIdx?_eq_some_iff_getElem] at h
    obtain ⟨hi,hp,_⟩:=h
    exact ⟨fun _=>⟨_,List.getElem_mem hi,hp⟩,fun _=>by omega⟩
def ZvC (xs:List Str) (v:Str):Int:=Za0 (fun x=>decide (x=v)) xs
theorem ZrH {xs:List Str} {v:Str} : (0≤ZvC xs v)↔v∈xs:=by
  rw [ZvC,Zch];simp
theorem Znm {q:DQueue} (h:ZcX 0 q.items=none):false=Zag q:=by simp [Zag,h]
theorem Znl {q:DQueue} {last:Int} (h:ZcX 0 q.items=some last):(decide (last+1≤q.next) && decide (q.next≤100) && decide (q.items.length≤6))=Zag q:=by simp [Zag,h]
theorem ZpA {q:DQueue} {k:Nat} {last:Int} {x:DItem} (hs:ZcX 0 q.items=ZcX last (q.items.drop k)) (hx:q.items[k]? = some x):ZcX 0 q.items=if (last+1≤x.id∧x.id≤99)∧Zcz x=true then ZcX x.id (q.items.drop (k+1)) else none:=by
  rw [hs,ZkC hx,ZcX]
def rep (l:Str) (n:Nat):Str:=(List.replicate n l).flatten
theorem Zka (l:Str) (n:Nat):(rep l n).length=n*l.length:=by simp [rep]
theorem ZeW (x:DLetter):ZaO x=(Zay x.fr && (decide (1≤x.to_.length) && ZcL x.to_) && decide ((x.text.length:Int)≤20)):=by
  rw [Bool.eq_iff_iff];simp only [ZaO,Bool.and_eq_true,decide_eq_true_eq]
  constructor
  · rintro ⟨⟨⟨a,b⟩,c⟩,d⟩;exact ⟨⟨a,by omega,b⟩,by omega⟩
  · rintro ⟨⟨a,c,b⟩,d⟩;exact ⟨⟨⟨a,b⟩,by omega⟩,by omega⟩
theorem Zac.mono {B B':Kn} {q:Option Addr} {m:Nat} (h:Zac B q m) (hle:B.le B'):Zac B' q m:=fun j hj=>by
  obtain ⟨a,c,h1,h2,h3⟩:=h j hj
  exact ⟨a,c,h1,h2,h3.mono hle⟩
theorem Zs1 (l:Str) (n:Nat) (h:n % 2=1):rep l n=l ++ rep (l ++ l) (n / 2):=by
  obtain ⟨k,rfl⟩ :∃k,n=2*k+1:=⟨n / 2,by omega⟩
  have e:(2*k+1) / 2=k:=by omega
  rw [e]
  clear h e
  induction k with
  | zero=>simp [rep]
  | succ k ih=>
    rw [show 2*(k+1)+1=(2*k+1)+1+1 from by omega]
    simp only [rep,List.replicate_succ,List.flatten_cons] at ih ⊢
    rw [ih];simp
theorem Zrd (l:Str) (n:Nat) (h:n % 2=0):rep l n=rep (l ++ l) (n / 2):=by
  obtain ⟨k,rfl⟩ :∃k,n=2*k:=⟨n / 2,by omega⟩
  have e:2*k / 2=k:=by omega
  rw [e]
  clear h e
  induction k with
  | zero=>simp [rep]
  | succ k ih=>
    rw [show 2*(k+1)=(2*k)+1+1 from by omega]
    simp only [rep,List.replicate_succ,List.flatten_cons] at ih ⊢
    rw [ih];simp
structure Gh (α:Type) where
  k:Nat
  p:Nat
  l:Cells
  a:Option Addr
  c:Nat
  xs:List α
theorem ZaD {α:Type} {l:List α} {k:Nat} {x:α} (hx:l[k]? = some x):l.take (k+1)=l.take k ++ [x]:=by
  rw [List.take_add_one,hx];rfl
def ZhQ (q:DQueue) (x:DLetter):DQueue × Bool:=
  if Zag q=true∧ZaO x=true then
    (if 6≤q.items.length∨99<q.next then (q,false) else (⟨q.next+1,q.items ++ [⟨q.next,x.fr,x.text,x.to_⟩]⟩,true))
  else (⟨0,[]⟩,false)
theorem ZqP {q:DQueue} {x:DLetter} (h:Zag q=false):ZhQ q x=(⟨0,[]⟩,false):=by simp [ZhQ,h]
theorem ZqO {q:DQueue} {x:DLetter} (h:ZaO x=false):ZhQ q x=(⟨0,[]⟩,false):=by simp [ZhQ,h]
theorem ZlZ {q:DQueue} {x:DLetter} (h:Zag q=true) (h':ZaO x=true) (hf:6≤q.items.length∨99<q.next):ZhQ q x=(q,false):=by rw [ZhQ,if_pos ⟨h,h'⟩,if_pos hf]
theorem ZtR {q:DQueue} {x:DLetter} (h:Zag q=true) (h':ZaO x=true) (h1 : ¬ 6≤q.items.length) (h2 : ¬ 99<q.next):ZhQ q x=(⟨q.next+1,q.items ++ [⟨q.next,x.fr,x.text,x.to_⟩]⟩,true):=by
  rw [ZhQ,if_pos ⟨h,h'⟩,if_neg (by omega)]
theorem ZpB :∀{xs:List DItem} {l r:Int},ZcX l xs=some r→l≤r
  | [],l,r,h=>by simp only [ZcX,Option.some.injEq] at h;omega
  | x :: xs,l,r,h=>by
    rw [ZcX] at h
    split at h
    · rename_i e;have:=ZpB h;omega
    · cases h
theorem ZeQ {q:DQueue} (h:Zag q=true):1≤q.next∧q.next≤100∧q.items.length≤6:=by
  unfold Zag at h
  split at h
  · rename_i last e
    have:=ZpB e
    simp only [Bool.and_eq_true,decide_eq_true_eq] at h
    omega
  · cases h
structure Gh2 (α β:Type) where
  k:Nat
  p:Nat
  l:Cells
  a:Option Addr
  c:Nat
  xs:List α
  e:β
def without (xs:List Str) (u:Str):List Str:=xs.filter fun x=>decide (x≠u)
theorem ZkL {xs:List Str} {u:Str} {k:Nat} {x:Str} (hx:xs[k]? = some x) (h : ¬ x=u):without (xs.take (k+1)) u=without (xs.take k) u ++ [x]:=by
  rw [ZaD hx,without,without,List.filter_append];simp [h]
theorem ZkK {xs:List Str} {u:Str} {k:Nat} {x:Str} (hx:xs[k]? = some x) (h:x=u):without (xs.take (k+1)) u=without (xs.take k) u:=by
  rw [ZaD hx,without,without,List.filter_append];simp [h]
theorem ZhT (xs:List Str) (u:Str):(without xs u).length≤xs.length:=List.length_filter_le _ _
def ZbK (id:Int) (u:Str) (x:DItem):DItem:=if x.id=id∧u∈x.left then ⟨x.id,x.fr,x.text,without x.left u⟩ else x
def ZeF (id:Int) (u:Str) (xs:List DItem):List DItem:=(xs.map (ZbK id u)).filter fun x=>decide (0<x.left.length)
def ZbZ (id:Int) (u:Str) (s:Str × Bool) (x:DItem):Str × Bool:=if x.id=id∧u∈x.left then (x.text,true) else s
def ZfK (id:Int) (u:Str) (xs:List DItem):Str × Bool:=xs.foldl (ZbZ id u) ([],false)
theorem ZeM {id:Int} {u:Str} {x:DItem} (h:x.id=id) (h':u∈x.left):ZbK id u x=⟨x.id,x.fr,x.text,without x.left u⟩:=by rw [ZbK,if_pos ⟨h,h'⟩]
theorem Zg7 {id:Int} {u:Str} {x:DItem} (h : ¬ x.id=id):ZbK id u x=x:=by rw [ZbK,if_neg (fun e=>h e.1)]
theorem Zg6 {id:Int} {u:Str} {x:DItem} (h : ¬ u∈x.left):ZbK id u x=x:=by rw [ZbK,if_neg (fun e=>h e.2)]
theorem Zh2 {id:Int} {u:Str} {xs:List DItem} {k:Nat} {x y:DItem} (hx:xs[k]? = some x) (e:ZbK id u x=y) (h:0<y.left.length):ZeF id u (xs.take (k+1))=ZeF id u (xs.take k) ++ [y]:=by
  rw [ZaD hx,ZeF,ZeF,List.map_append,List.filter_append];simp [e,h]
theorem ZgD {id:Int} {u:Str} {xs:List DItem} {k:Nat} {x y:DItem} (hx:xs[k]? = some x) (e:ZbK id u x=y) (h : ¬ 0<y.left.length):ZeF id u (xs.take (k+1))=ZeF id u (xs.take k):=by
  rw [ZaD hx,ZeF,ZeF,List.map_append,List.filter_append];simp [e,show y.left.length=0 by omega]
theorem Zk5 {id:Int} {u:Str} {xs:List DItem} {k:Nat} {x:DItem} (hx:xs[k]? = some x) (h:x.id=id) (h':u∈x.left):ZfK id u (xs.take (k+1))=(x.text,true):=by
  rw [ZaD hx,ZfK,List.foldl_append];simp [ZbZ,h,h']
theorem Zk4 {id:Int} {u:Str} {xs:List DItem} {k:Nat} {x:DItem} (hx:xs[k]? = some x) (h : ¬ x.id=id):ZfK id u (xs.take (k+1))=ZfK id u (xs.take k):=by
  rw [ZaD hx,ZfK,List.foldl_append];simp [ZbZ,h,ZfK]
theorem Zk3 {id:Int} {u:Str} {xs:List DItem} {k:Nat} {x:DItem} (hx:xs[k]? = some x) (h : ¬ u∈x.left):ZfK id u (xs.take (k+1))=ZfK id u (xs.take k):=by
  rw [ZaD hx,ZfK,List.foldl_append];simp [ZbZ,h,ZfK]
theorem Zh1 (id:Int) (u:Str) (xs:List DItem):(ZeF id u xs).length≤xs.length:=by
  unfold ZeF;exact Nat.le_trans (List.length_filter_le _ _) (by simp)
def Zca (q:DQueue) (id:Int) (u:Str):DQueue × Str × Bool:=(⟨q.next,ZeF id u q.items⟩,(ZfK id u q.items).1,(ZfK id u q.items).2)
def Zc4 (q:DQueue) (id:Int) (u:Str):DQueue × Str × Bool:=if Zag q=true then Zca q id u else (⟨0,[]⟩,[],false)
structure GQ where
  k:Nat
  p:Nat
  l:Cells
  a:Option Addr
  c:Nat
  q:DQueue
structure GM where
  b:Nat
  p:Nat
  l:Cells
  a:Option Addr
  c:Nat
  q:DQueue
  f:Bool
theorem ZhP (q:DQueue) (x:DLetter):(ZhQ q x).1.items.length≤q.items.length+1:=by
  unfold ZhQ
  split
  · split
    · exact Nat.le_succ _
    · simp
  · exact Nat.zero_le _
theorem Zlg (q:DQueue) (id:Int) (u:Str):(Zc4 q id u).1.items.length≤q.items.length:=by
  unfold Zc4
  split
  · exact Zh1 _ _ _
  · exact Nat.zero_le _
structure QOf where
  p:Option Addr
  ys:List DItem
  xs:List DItem
  l:Cells
  q:Option Addr
  c:Nat
  cells:Cells
theorem Zaa.slice0 {α:Type} {B:Kn} {l:Cells} {p:Option Addr} {c:Nat} {T:TypeId} {w sz:Nat} {R:Rel α} {xs:List α} (h:Zaa B l p c T w R xs):(if c=0 then p else p.map (fun a=>a.add (0*sz)))=p:=by
  obtain ⟨rows,_,_,_,⟨rfl,_,rfl,_⟩ | ⟨b,arr,rfl,_,_,_,_⟩⟩:=h
  · rfl
  · split
    · rfl
    · rw [Nat.zero_mul];simp [Addr.add_off]
theorem ZgG {q:DQueue} (h : ¬ (q.items.length≤6∧1≤q.next∧q.next≤100)):false=Zag q:=by
  symm;rw [Bool.eq_false_iff];intro hq
  have:=ZeQ hq
  omega
end Go.BL
namespace Go.BL
open Go
set_option linter.unusedVariables false
set_option linter.unusedSimpArgs false
def hat (xs:List Int) (k:Nat):Int:=xs.getD k 0
def swp (xs:List Int) (i j:Nat):List Int:=(xs.set i (hat xs j)).set j (hat xs i)
def ZdI (xs:List Int):Prop:=∀k,0<k→k<xs.length→hat xs ((k - 1) / 2)≤hat xs k
def Zf5 (xs:List Int) (j:Nat):Prop:=(∀k,0<k→k<xs.length→k≠j→hat xs ((k - 1) / 2)≤hat xs k)∧(∀k,0<k→k<xs.length→(k - 1) / 2=j→0<j→hat xs ((j - 1) / 2)≤hat xs k)
theorem Ztt {xs:List Int} {k:Nat} {a:Int} (h:xs[k]? = some a):hat xs k=a:=by simp [hat,List.getD,h]
theorem Zba {xs:List Int} {k:Nat} (h:k<xs.length):xs[k]? = some (hat xs k):=by simp [hat,List.getD,List.getElem?_eq_getElem h]
theorem Zds (xs:List Int) (i j:Nat):(swp xs i j).length=xs.length:=by simp [swp]
theorem Ze4 {xs:List Int} {i j:Nat} (hi:i<xs.length) (hj:j<xs.length) (k:Nat):hat (swp xs i j) k=if k=j then hat xs i else if k=i then hat xs j else hat xs k:=by
  simp only [hat,swp,List.getD,List.getElem?_set]
  by_cases h1:k=j
  · subst h1;simp [hj]
  · have h1' : ¬j=k:=fun h=>h1 h.symm
    by_cases h2:k=i
    · subst h2;simp [hi,h1,h1']
    · have h2' : ¬i=k:=fun h=>h2 h.symm
      simp [h1,h1',h2,h2']
theorem Zgg {xs:List Int} {i j:Nat} (hi:i<xs.length) (hj:j<xs.length):(swp xs i j).Perm xs:=by
  rw [List.perm_iff_count]
  intro a
  unfold swp
  rw [List.count_set (by simpa using hj),List.count_set hi]
  have e1:(xs.set i (hat xs j))[j]'(by simpa using hj)=hat xs j:=by
    rw [List.getElem_set];split
    · rfl
    · simp [hat,List.getD,List.getElem?_eq_getElem hj]
  have e2:xs[i]=hat xs i:=by simp [hat,List.getD,List.getElem?_eq_getElem hi]
  rw [e1,e2]
  have hp :∀v,(v == a)=true→v∈xs→0<List.count a xs:=fun v hv hm=>by
    rw [beq_iff_eq] at hv;subst hv;exact List.count_pos_iff.2 hm
  have hm1:hat xs i∈xs:=by rw [← e2];exact List.getElem_mem _
  by_cases h1:(hat xs i == a)=true <;> by_cases h2:(hat xs j == a)=true <;> simp [h1,h2] <;> (try have:=hp _ h1 hm1;omega)
theorem ZsU {xs:List Int} (h:Zf5 xs 0):ZdI xs:=fun k h0 hk=>h.1 k h0 hk (by omega)
theorem ZsW {xs:List Int} {j:Nat} (h:Zf5 xs j) (hj:hat xs ((j - 1) / 2)≤hat xs j):ZdI xs:=fun k h0 hk=>by
  by_cases e:k=j
  · subst e;exact hj
  · exact h.1 k h0 hk e
theorem ZsV {xs:List Int} {j:Nat} (h0:0<j) (hj:j<xs.length) (h:Zf5 xs j) (hlt:hat xs j<hat xs ((j - 1) / 2)):Zf5 (swp xs ((j - 1) / 2) j) ((j - 1) / 2):=by
  have hi:(j - 1) / 2<xs.length:=by omega
  have H:=fun k=>Ze4 hi hj k
  generalize hii:(j - 1) / 2=i at *
  refine ⟨fun k hk0 hk hne=>?_,fun k hk0 hk hpar hi0=>?_⟩
  · rw [Zds] at hk
    rw [H,H]
    by_cases e1:k=j
    · subst e1
      rw [hii];rw [if_neg (by omega),if_pos rfl,if_pos rfl];omega
    · rw [if_neg e1,if_neg hne]
      by_cases e2:(k - 1) / 2=j
      · rw [if_pos e2];have:=h.2 k hk0 hk e2 h0;rw [hii] at this;exact this
      · rw [if_neg e2]
        by_cases e3:(k - 1) / 2=i
        · rw [if_pos e3];have:=h.1 k hk0 hk e1;rw [e3] at this;omega
        · rw [if_neg e3];exact h.1 k hk0 hk e1
  · rw [Zds] at hk
    rw [H,H]
    have hpi:(i - 1) / 2≠i:=by omega
    have hpj:(i - 1) / 2≠j:=by omega
    rw [if_neg hpj,if_neg hpi]
    have hii2:=h.1 i hi0 hi (by omega)
    by_cases e1:k=j
    · rw [if_pos e1];exact hii2
    · rw [if_neg e1,if_neg (by omega)]
      have:=h.1 k hk0 hk e1;rw [hpar] at this;omega
theorem ZrL {xs:List Int} (h:ZdI xs) :∀k,k<xs.length→hat xs 0≤hat xs k:=fun k=>by
  induction k using Nat.strongRecOn with
  | ind k ih=>
    intro hk
    by_cases h0:k=0
    · subst h0;exact Int.le_refl _
    · have h1:=ih ((k - 1) / 2) (by omega) (by omega)
      have h2:=h k (by omega) hk
      omega
def Zsm (xs:List Int) (n:Nat):Prop:=∀k,0<k→k<n→hat xs ((k - 1) / 2)≤hat xs k
def Zfd (xs:List Int) (n i:Nat):Prop:=(∀k,0<k→k<n→(k - 1) / 2≠i→hat xs ((k - 1) / 2)≤hat xs k)∧(∀k,0<k→k<n→(k - 1) / 2=i→0<i→hat xs ((i - 1) / 2)≤hat xs k)
theorem ZqC {xs:List Int} {n i:Nat} (h:Zfd xs n i) (hl:n≤2*i+1):Zsm xs n:=fun k h0 hk=>h.1 k h0 hk (by omega)
theorem ZiQ {xs:List Int} {n i:Nat} (h:Zfd xs n i) (hc :∀k,0<k→k<n→(k - 1) / 2=i→hat xs i≤hat xs k):Zsm xs n:=fun k h0 hk=>by
  by_cases e:(k - 1) / 2=i
  · rw [e];exact hc k h0 hk e
  · exact h.1 k h0 hk e
theorem ZiP {xs:List Int} {n i j:Nat} (hn:n≤xs.length) (hj0:0<j) (hj:j<n) (hpj:(j - 1) / 2=i) (h:Zfd xs n i) (hmin :∀k,0<k→k<n→(k - 1) / 2=i→hat xs j≤hat xs k) (hlt:hat xs j<hat xs i):Zfd (swp xs i j) n j:=by
  have hi:i<xs.length:=by omega
  have hij:i≠j:=by omega
  have H:=fun k=>Ze4 hi (show j<xs.length by omega) k
  refine ⟨fun k hk0 hk hne=>?_,fun k hk0 hk hpar _=>?_⟩
  · rw [H,H,if_neg hne]
    by_cases e1:k=j
    · subst e1;rw [if_pos hpj,if_pos rfl];omega
    · rw [if_neg e1]
      by_cases e2:(k - 1) / 2=i
      · rw [if_pos e2,if_neg (by omega)];exact hmin k hk0 hk e2
      · rw [if_neg e2]
        by_cases e3:k=i
        · rw [if_pos e3];subst e3;exact h.2 j hj0 hj hpj hk0
        · rw [if_neg e3];exact h.1 k hk0 hk e2
  · rw [H,H,hpj,if_neg hij,if_pos rfl,if_neg (by omega),if_neg (by omega)]
    have:=h.1 k hk0 hk (by omega)
    rwa [hpar] at this
theorem Zvq (k:Nat):Int.tdiv ((k:Int) - 1) 2=(((k - 1) / 2:Nat):Int):=by
  cases k with
  | zero=>rfl
  | succ k=>rw [show ((k+1:Nat):Int) - 1=(k:Int) from by omega,Int.tdiv_eq_ediv_of_nonneg (by omega)];simp
theorem Zqc {xs:List Int} {z:Int} {k:Nat} (h:k<xs.length):hat (xs ++ [z]) k=hat xs k:=by
  simp [hat,List.getD,List.getElem?_append_left h]
theorem Zrg {xs:List Int} {z:Int} (h:ZdI xs):Zf5 (xs ++ [z]) xs.length:=by
  refine ⟨fun k h0 hk hne=>?_,fun k h0 hk hp _=>?_⟩
  · rw [List.length_append,List.length_singleton] at hk
    rw [Zqc (by omega),Zqc (by omega)]
    exact h k h0 (by omega)
  · rw [List.length_append,List.length_singleton] at hk
    omega
theorem Zs2 {xs:List Int} (h:ZdI xs) (h0:0<xs.length):Zfd (swp xs 0 (xs.length - 1)) (xs.length - 1) 0:=by
  refine ⟨fun k hk0 hk hne=>?_,fun k hk0 hk hpar hh=>absurd hh (by omega)⟩
  rw [Ze4 h0 (by omega),Ze4 h0 (by omega),if_neg (by omega),if_neg (by omega),if_neg (by omega),if_neg (by omega)]
  exact h k hk0 (by omega)
theorem Zq8 {xs:List Int} (h0:0<xs.length):hat (swp xs 0 (xs.length - 1)) (xs.length - 1)=hat xs 0:=by rw [Ze4 h0 (by omega),if_pos rfl]
theorem ZnA {xs:List Int} {n k:Nat} (h:k<n):hat (xs.take n) k=hat xs k:=by simp [hat,List.getD,List.getElem?_take,h]
theorem ZoA {ys:List Int} {n:Nat} (h:Zsm ys n) (hn:n≤ys.length):ZdI (ys.take n):=fun k h0 hk=>by
  rw [List.length_take] at hk
  rw [ZnA (by omega),ZnA (by omega)]
  exact h k h0 (by omega)
theorem Zrj {xs ys:List Int} (h0:0<ys.length) (hp:ys.Perm xs) {z:Int} (hz:hat ys (ys.length - 1)=z):(z :: ys.take (ys.length - 1)).Perm xs:=by
  refine List.Perm.trans ?_ hp
  have e:ys=ys.take (ys.length - 1) ++ [z]:=by
    have h1:=ZaD (Zba (xs:=ys) (k:=ys.length - 1) (by omega))
    rw [show ys.length - 1+1=ys.length from by omega,List.take_length] at h1
    rw [hz] at h1;exact h1
  have h2:(z :: ys.take (ys.length - 1)).Perm (ys.take (ys.length - 1) ++ [z]):=(List.perm_append_singleton z _).symm
  rwa [← e] at h2
theorem ZrK:ZdI []:=fun k h0 hk=>by simp at hk
def asc:Int→Int→List Int→Bool
  | _,_,[]=>true
  | b,l,x :: r=>decide (b<x) && decide (x≤l) && asc x l r
theorem Zm1 :∀{r:List Int} {b l z:Int},asc b l r=true→z∈r→b<z
  | [],_,_,_,_,hz=>by cases hz
  | x :: r,b,l,z,h,hz=>by
    simp only [asc,Bool.and_eq_true,decide_eq_true_eq] at h
    rcases List.mem_cons.1 hz with rfl | hz
    · exact h.1.1
    · have:=Zm1 h.2 hz;omega
theorem Zts {xs:List Int} {k:Nat} (h:k<xs.length):hat xs k∈xs:=List.mem_of_getElem? (Zba h)
theorem Zsc {b l x:Int} {r ys:List Int} (hp:ys.Perm (x :: r)) (hh:ZdI ys) (hne:hat ys 0≠x):false=asc b l (x :: r):=by
  symm;rw [Bool.eq_false_iff]
  intro h
  have h0:0<ys.length:=by rw [hp.length_eq];simp
  have hm:=hp.mem_iff.1 (Zts h0)
  simp only [asc,Bool.and_eq_true,decide_eq_true_eq] at h
  rcases List.mem_cons.1 hm with e | hm
  · exact hne e
  · have h1:=Zm1 h.2 hm
    obtain ⟨k,hk⟩:=List.mem_iff_getElem?.1 (hp.mem_iff.2 (List.mem_cons_self (a:=x) (l:=r)))
    have h2:=ZrL hh k (List.getElem?_eq_some_iff.1 hk).1
    rw [Ztt hk] at h2
    omega
theorem Zsb {b l x:Int} {r:List Int} (h:x≤b):false=asc b l (x :: r):=by simp [asc,show ¬ b<x from by omega]
theorem Zsa {b l x:Int} {r:List Int} (h:l<x):false=asc b l (x :: r):=by simp [asc,show ¬ x≤l from by omega]
theorem ZuR {b l x:Int} {r:List Int} (h : ¬ x≤b) (h2 : ¬ l<x):asc b l (x :: r)=asc x l r:=by simp [asc,show b<x from by omega,show x≤l from by omega]
theorem Znh :∀{xs:List DItem} {b:Int} {l:Int},l≤99→(match ZcX b xs with | some r=>decide (r≤l) | none=>false)=(decide (b≤l) && xs.all Zcz && asc b l (xs.map (·.id)))
  | [],b,l,_=>by simp [ZcX,asc]
  | x :: xs,b,l,hl=>by
    have ih:=Znh (xs:=xs) (b:=x.id) hl
    rw [ZcX,List.map_cons,List.all_cons,asc]
    by_cases h1:b+1≤x.id
    · by_cases h2:Zcz x=true
      · by_cases h3:x.id≤99
        · rw [if_pos ⟨⟨h1,h3⟩,h2⟩,ih,h2]
          by_cases h4:x.id≤l
          · simp [h4,show b≤l from by omega,show b<x.id from by omega]
          · simp [h4]
        · rw [if_neg (fun h=>h3 h.1.2)]
          simp [show ¬ x.id≤l from by omega]
      · rw [if_neg (fun h=>h2 h.2)]
        simp [h2]
    · rw [if_neg (fun h=>h1 h.1.1)]
      simp [show ¬ b<x.id from by omega]
theorem ZcK (q:DQueue):Zag q=(decide (q.items.length≤6) && decide (1≤q.next) && decide (q.next≤100) && q.items.all Zcz && asc 0 (q.next - 1) (q.items.map (·.id))):=by
  by_cases h:q.next≤100
  · have:=Znh (xs:=q.items) (b:=0) (l:=q.next - 1) (by omega)
    unfold Zag
    cases hs:ZcX 0 q.items with
    | none=>
      rw [hs] at this
      simp only at this
      rw [Bool.eq_iff_iff]
      simp only [Bool.and_eq_true,decide_eq_true_eq,Bool.false_eq_true,false_iff]
      rintro ⟨⟨⟨⟨_,h1⟩,_⟩,h2⟩,h3⟩
      rw [h2,h3] at this
      simp at this;omega
    | some r=>
      rw [hs] at this
      simp only at this
      rw [Bool.eq_iff_iff] at this ⊢
      simp only [Bool.and_eq_true,decide_eq_true_eq] at this ⊢
      constructor
      · rintro ⟨⟨h1,h2⟩,h3⟩
        obtain ⟨⟨a,b⟩,c⟩:=this.1 (by omega)
        exact ⟨⟨⟨⟨h3,by omega⟩,h⟩,b⟩,c⟩
      · rintro ⟨⟨⟨⟨h1,h2⟩,h3⟩,h4⟩,h5⟩
        have:=this.2 ⟨⟨by omega,h4⟩,h5⟩
        omega
  · unfold Zag
    cases ZcX 0 q.items <;> simp [h]
theorem ZuT {α:Type} {p:α→Bool} {l:List α} {k:Nat} {x:α} (hx:l[k]? = some x) (h:p x=false):l.all p=false:=by
  rw [Bool.eq_false_iff];intro hp
  rw [List.all_eq_true] at hp
  have:=hp x (List.mem_of_getElem? hx)
  rw [h] at this;cases this
theorem ZuS {α:Type} {p:α→Bool} {l:List α} {k:Nat} {x:α} (hx:l[k]? = some x) (h:p x=true) (ha:(l.take k).all p=true):(l.take (k+1)).all p=true:=by
  rw [ZaD hx,List.all_append,ha];simp [h]
theorem Zmv {q:DQueue} {k:Nat} {x:DItem} (hx:q.items[k]? = some x) (h:Zcz x=false):false=Zag q:=by
  rw [ZcK,ZuT hx h];simp
theorem Zmu {q:DQueue} {k:Nat} (hk : ¬ (k:Int)<q.items.length) (ha:(q.items.take k).all Zcz=true) (h6:q.items.length≤6) (h1:1≤q.next) (h2:q.next≤100):asc 0 (q.next - 1) (q.items.map (·.id))=Zag q:=by
  rw [List.take_of_length_le (by omega)] at ha
  rw [ZcK,ha];simp [h6,h1,h2]
theorem ZlY {q:DQueue} {x:DLetter} (h:(ZhQ q x).2=true):(ZhQ q x).1=⟨q.next+1,q.items ++ [⟨q.next,x.fr,x.text,x.to_⟩]⟩∧Zag q=true∧ZaO x=true∧q.items.length<6∧q.next≤99:=by
  unfold ZhQ at h ⊢
  by_cases h1:Zag q=true∧ZaO x=true
  · rw [if_pos h1] at h ⊢
    by_cases h2:6≤q.items.length∨99<q.next
    · rw [if_pos h2] at h;cases h
    · rw [if_neg h2];exact ⟨rfl,h1.1,h1.2,by omega,by omega⟩
  · rw [if_neg h1] at h;cases h
theorem Zni :∀{xs:List DItem} {b r:Int} {y:DItem},ZcX b xs=some r→r+1≤y.id→y.id≤99→Zcz y=true→ZcX b (xs ++ [y])=some y.id
  | [],b,r,y,h,h1,h2,h3=>by
    simp only [ZcX,Option.some.injEq] at h;subst h
    simp only [List.nil_append,ZcX,if_pos (And.intro (And.intro h1 h2) h3)]
  | x :: xs,b,r,y,h,h1,h2,h3=>by
    rw [ZcX] at h
    split at h
    · rename_i hc
      rw [List.cons_append,ZcX,if_pos hc];exact Zni h h1 h2 h3
    · cases h
theorem ZoR {q:DQueue} {x:DLetter} (h:(ZhQ q x).2=true):Zag (ZhQ q x).1=true:=by
  obtain ⟨he,hq,hx,h6,h9⟩:=ZlY h
  rw [he]
  unfold Zag at hq ⊢
  split at hq
  · rename_i last hs
    simp only [Bool.and_eq_true,decide_eq_true_eq] at hq
    have:=Zni (y:=⟨q.next,x.fr,x.text,x.to_⟩) hs (by simp only [];omega) h9 hx
    rw [this]
    simp only [Bool.and_eq_true,decide_eq_true_eq,List.length_append,List.length_singleton]
    omega
  · cases hq
structure QLf where
  p:Option Addr
  ys:List DItem
  xs:List DItem
  cells:Cells
theorem ZsL :∀{ids:List Int} {b l:Int},asc b l ids=true→ids.Nodup
  | [],_,_,_=>by simp
  | x :: r,b,l,h=>by
    simp only [asc,Bool.and_eq_true,decide_eq_true_eq] at h
    rw [List.nodup_cons]
    exact ⟨fun hm=>by have:=Zm1 h.2 hm;omega,ZsL h.2⟩
theorem Zmt {q:DQueue} (h:Zag q=true):(q.items.map (·.id)).Nodup:=by
  rw [ZcK] at h
  simp only [Bool.and_eq_true] at h
  exact ZsL h.2
theorem ZdQ {q:DQueue} (h:Zag q=true) {x:DItem} (hx:x∈q.items):Zcz x=true:=by
  rw [ZcK] at h
  simp only [Bool.and_eq_true] at h
  exact List.all_eq_true.1 h.1.2 x hx
theorem Ziu {x:DItem} (h:Zcz x=true):0<x.left.length∧x.left.Nodup:=by
  simp only [Zcz,ZaO,ZcL,Bool.and_eq_true,decide_eq_true_eq] at h
  exact ⟨h.1.2,h.1.1.2.1.2⟩
theorem Zk2 {id:Int} {u:Str} {x:DItem} (h : ¬ (x.id=id∧u∈x.left)):ZbK id u x=x:=by rw [ZbK,if_neg h]
theorem Zgf {id:Int} {u:Str} :∀{xs:List DItem} {s:Str × Bool},(∀x,x∈xs→¬ (x.id=id∧u∈x.left))→xs.foldl (ZbZ id u) s=s
  | [],_,_=>rfl
  | x :: xs,s,h=>by
    rw [List.foldl_cons,ZbZ,if_neg (h x (List.mem_cons_self ..))]
    exact Zgf fun y hy=>h y (List.mem_cons_of_mem _ hy)
theorem Zh0 {id:Int} {u:Str} {xs:List DItem} (h :∀x,x∈xs→¬ (x.id=id∧u∈x.left)) (hl :∀x,x∈xs→0<x.left.length):ZeF id u xs=xs:=by
  have e:xs.map (ZbK id u)=xs:=by
    conv=>rhs;rw [← List.map_id xs]
    exact List.map_congr_left fun x hx=>Zk2 (h x hx)
  rw [ZeF,e]
  exact List.filter_eq_self.2 fun x hx=>by simpa using hl x hx
theorem Zq7 {q:DQueue} {id:Int} {u:Str} (hq:Zag q=true) (h :∀x,x∈q.items→¬ (x.id=id∧u∈x.left)):Zc4 q id u=(q,[],false):=by
  rw [Zc4,if_pos hq,Zca,Zh0 h (fun x hx=>(Ziu (ZdQ hq hx)).1),ZfK,Zgf h]
theorem Zp6 {q:DQueue} (hq:Zag q=true) {pre ys:List DItem} {y:DItem} (hs:pre ++ y :: ys=q.items):(∀x,x∈pre→x.id≠y.id)∧∀x,x∈ys→x.id≠y.id:=by
  have h:=Zmt hq
  rw [← hs,List.map_append,List.map_cons,List.nodup_append] at h
  obtain ⟨_,h2,h3⟩:=h
  rw [List.nodup_cons] at h2
  refine ⟨fun x hx=>h3 _ (List.mem_map.2 ⟨x,hx,rfl⟩) _ (List.mem_cons_self ..),fun x hx e=>h2.1 (List.mem_map.2 ⟨x,hx,e⟩)⟩
theorem Zmh {q:DQueue} (hq:Zag q=true) {pre ys:List DItem} {y:DItem} (hs:pre ++ y :: ys=q.items) {u:Str} (hu:u∈y.left) :
    Zc4 q y.id u=(⟨q.next,pre ++ (if 0<(without y.left u).length then ⟨y.id,y.fr,y.text,without y.left u⟩ :: ys else ys)⟩,y.text,true):=by
  obtain ⟨h1,h2⟩:=Zp6 hq hs
  have hl :∀x,x∈q.items→0<x.left.length:=fun x hx=>(Ziu (ZdQ hq hx)).1
  have n1 :∀x,x∈pre→¬ (x.id=y.id∧u∈x.left):=fun x hx e=>h1 x hx e.1
  have n2 :∀x,x∈ys→¬ (x.id=y.id∧u∈x.left):=fun x hx e=>h2 x hx e.1
  have l1:=Zh0 n1 (fun x hx=>hl x (by rw [← hs];exact List.mem_append_left _ hx))
  have l2:=Zh0 n2 (fun x hx=>hl x (by rw [← hs];exact List.mem_append_right _ (List.mem_cons_of_mem _ hx)))
  rw [Zc4,if_pos hq,Zca,← hs]
  unfold ZeF at l1 l2 ⊢
  unfold ZfK
  rw [List.foldl_append,Zgf n1,List.foldl_cons,Zgf n2,ZbZ,if_pos ⟨rfl,hu⟩,List.map_append,List.map_cons,List.filter_append,l1,ZeM rfl hu,List.filter_cons,l2]
  simp only [decide_eq_true_eq]
theorem Zpk {q:DQueue} {id:Int} {u:Str} (h:(Zc4 q id u).2.2=true):Zag q=true∧∃pre y ys,pre ++ y :: ys=q.items∧y.id=id∧u∈y.left∧
    Zc4 q id u=(⟨q.next,pre ++ (if 0<(without y.left u).length then ⟨y.id,y.fr,y.text,without y.left u⟩ :: ys else ys)⟩,y.text,true):=by
  have hq:Zag q=true:=by
    cases hq:Zag q with
    | true=>rfl
    | false=>simp [Zc4,hq] at h
  refine ⟨hq,?_⟩
  by_cases hx :∀x,x∈q.items→¬ (x.id=id∧u∈x.left)
  · rw [Zq7 hq hx] at h;cases h
  · simp only [Classical.not_forall,Classical.not_not] at hx
    obtain ⟨y,hy,hi,hu⟩:=hx
    obtain ⟨pre,ys,hs⟩:=List.append_of_mem hy
    exact ⟨pre,y,ys,hs.symm,hi,hu,by rw [← hi];exact Zmh hq hs.symm hu⟩
theorem Zr9 :∀{ids:List Int} {b b' l:Int},b'≤b→asc b l ids=true→asc b' l ids=true
  | [],_,_,_,_,_=>rfl
  | x :: r,b,b',l,hb,h=>by
    simp only [asc,Bool.and_eq_true,decide_eq_true_eq] at h ⊢
    exact ⟨⟨by omega,h.1.2⟩,h.2⟩
theorem ZqM :∀{a c:List Int} {b l x:Int},asc b l (a ++ x :: c)=true→asc b l (a ++ c)=true
  | [],c,b,l,x,h=>by
    simp only [List.nil_append,asc,Bool.and_eq_true,decide_eq_true_eq] at h ⊢
    exact Zr9 (by omega) h.2
  | y :: a,c,b,l,x,h=>by
    simp only [List.cons_append,asc,Bool.and_eq_true,decide_eq_true_eq] at h ⊢
    exact ⟨h.1,ZqM h.2⟩
theorem Zi7 {y:DItem} {u:Str} (h:Zcz y=true) (h0:0<(without y.left u).length):Zcz ⟨y.id,y.fr,y.text,without y.left u⟩=true:=by
  simp only [Zcz,ZaO,ZcL,Bool.and_eq_true,decide_eq_true_eq,List.all_eq_true] at h ⊢
  obtain ⟨⟨⟨h1,⟨h2,h3⟩,h4⟩,h5⟩,h6⟩:=h
  have:=ZhT y.left u
  exact ⟨⟨⟨h1,⟨fun x hx=>h2 x (List.mem_filter.1 hx).1,h3.filter _⟩,by omega⟩,h0⟩,h6⟩
theorem ZnW {q:DQueue} {id:Int} {u:Str} (h:(Zc4 q id u).2.2=true):Zag (Zc4 q id u).1=true:=by
  obtain ⟨hq,pre,y,ys,hs,hi,hu,he⟩:=Zpk h
  rw [he]
  have hq':=hq
  rw [ZcK,← hs] at hq'
  rw [ZcK]
  simp only [Bool.and_eq_true,decide_eq_true_eq,List.length_append,List.length_cons,List.all_append,List.all_cons,List.map_append,List.map_cons] at hq' ⊢
  obtain ⟨⟨⟨⟨h6,h1⟩,h2⟩,h3,h4,h5⟩,ha⟩:=hq'
  by_cases h0:0<(without y.left u).length
  · rw [if_pos h0]
    simp only [List.length_cons,List.all_cons,List.map_cons,Bool.and_eq_true]
    exact ⟨⟨⟨⟨by omega,h1⟩,h2⟩,h3,Zi7 h4 h0,h5⟩,ha⟩
  · rw [if_neg h0]
    exact ⟨⟨⟨⟨by omega,h1⟩,h2⟩,h3,h5⟩,ZqM ha⟩
structure QN where
  k:Nat
  a:Option Addr
  c:Nat
end Go.BL
namespace Go.BL
open Go
set_option linter.unusedVariables false
set_option linter.unusedSimpArgs false
def ZbB (m:DMail):Bool:=(decide (1≤m.uid) && decide (m.uid≤99)) && (decide (0≤m.flags) && decide (m.flags≤31)) && decide (m.text.length≤20)
def scn {α β:Type} (p:β→α→Bool) (nx:β→α→β) (b0:β) (xs:List α):Bool × β:=xs.foldl (fun s x=>(s.1 && p s.2 x,nx s.2 x)) (true,b0)
theorem ZeP {α β:Type} {p:β→α→Bool} {nx:β→α→β} {b0:β} {xs:List α} : scn p nx b0 (xs.take 0)=(true,b0):=by simp [scn]
theorem Znf {α β:Type} {p:β→α→Bool} {nx:β→α→β} {b0:β} {xs:List α} {k:Nat} {x:α} (hx:xs[k]? = some x):scn p nx b0 (xs.take (k+1))=((scn p nx b0 (xs.take k)).1 && p (scn p nx b0 (xs.take k)).2 x,nx (scn p nx b0 (xs.take k)).2 x):=by
  have:xs.take (k+1)=xs.take k ++ [x]:=by rw [List.take_add_one,hx];rfl
  rw [this,scn,List.foldl_append];rfl
theorem ZbT {α β:Type} {p:β→α→Bool} {nx:β→α→β} :∀(xs:List α) (b:β),(xs.foldl (fun (s:Bool × β) x=>(s.1 && p s.2 x,nx s.2 x)) (false,b)).1=false
  | [],_=>rfl
  | x :: xs,b=>by simp only [List.foldl_cons,Bool.false_and];exact ZbT xs _
theorem ZsY {α β:Type} {p:β→α→Bool} {nx:β→α→β} {b0:β} {xs:List α} {k:Nat} (h:(scn p nx b0 (xs.take k)).1=false):(scn p nx b0 xs).1=false:=by
  have e:xs=xs.take k ++ xs.drop k:=(List.take_append_drop k xs).symm
  have:scn p nx b0 xs=(xs.drop k).foldl (fun s x=>(s.1 && p s.2 x,nx s.2 x)) (scn p nx b0 (xs.take k)):=by
    conv=>lhs;rw [e,scn,List.foldl_append]
    rfl
  rw [this]
  rcases hs:scn p nx b0 (xs.take k) with ⟨b,c⟩
  rw [hs] at h
  simp only at h
  subst h
  exact ZbT _ _
theorem ZfR {α β:Type} {p:β→α→Bool} {nx:β→α→β} {b0:β} {xs:List α} {k:Nat} {x:α} (hx:xs[k]? = some x) (h:p (scn p nx b0 (xs.take k)).2 x=false):(scn p nx b0 xs).1=false:=
  ZsY (k:=k+1) (by rw [Znf hx,h,Bool.and_false])
theorem Zcf {α β:Type} {p:β→α→Bool} {nx:β→α→β} {b0 b:β} {xs:List α} {k:Nat} {x:α} (hx:xs[k]? = some x) (hs:scn p nx b0 (xs.take k)=(true,b)) (h:p b x=true):scn p nx b0 (xs.take (k+1))=(true,nx b x):=by
  rw [Znf hx,hs];simp [h]
theorem ZdX {α β:Type} {p:β→α→Bool} {nx:β→α→β} {b0 b:β} {xs:List α} {k:Nat} (hs:scn p nx b0 (xs.take k)=(true,b)) (hk:xs.length≤k):scn p nx b0 xs=(true,b):=by
  rwa [List.take_of_length_le hk] at hs
def ZbQ (b:Int) (m:DMail):Bool:=ZbB m && decide (b<m.uid)
def Zcg (ms:List DMail):Bool × Int:=scn ZbQ (fun _ m=>m.uid) 0 ms
def Zbm (b:DBox):Bool:=(Zcg b.mail).1 && (decide ((Zcg b.mail).2+1≤b.next) && decide (b.next≤100)) && decide (b.mail.length≤10)
def Zao (ms:List DMail):Nat:=(ms.map (·.text.length)).sum
theorem Zh7 {ms:List DMail} {k:Nat} {x:DMail} (hx:ms[k]? = some x):Zao (ms.take (k+1))=Zao (ms.take k)+x.text.length:=by
  have:ms.take (k+1)=ms.take k ++ [x]:=by rw [List.take_add_one,hx];rfl
  simp [Zao,this]
theorem Zgz {b:DBox} (h:(Zcg b.mail).1=false):Zbm b=false:=by simp [Zbm,h]
theorem ZdE {b:DBox} {l:Int} (h:Zcg b.mail=(true,l)):Zbm b=((decide (l+1≤b.next) && decide (b.next≤100)) && decide (b.mail.length≤10)):=by simp [Zbm,h]
theorem ZjH {m:DMail} (h:ZbB m=true):0≤m.uid∧m.uid≤99:=by
  simp only [ZbB,Bool.and_eq_true,decide_eq_true_eq] at h;omega
theorem Zjs {ms:List DMail} {k n:Nat} (h:n=Zao (ms.take k)) (hk:ms.length≤k):n=Zao ms:=by rwa [List.take_of_length_le hk] at h
def ZdC (b:DBox):Int:=if Zbm b then (Zao b.mail:Int) else -1
def anyone:Str:=[97,110,121,111,110,101]
def ZbI (u:DUser):Bool:=Zay u.name && decide (u.name≠anyone) && Zay u.pass && (decide (0≤u.quota) && decide (u.quota≤200))
theorem Zbr :∀(a b:Str),Op.bytesLess a b = !(Op.bytesLess b a || decide (b=a))
  | [],[]=>by simp [Op.bytesLess]
  | [],_ :: _=>by simp [Op.bytesLess]
  | _ :: _,[]=>by simp [Op.bytesLess]
  | a :: x,b :: y=>by
    have ih:=Zbr x y
    simp only [Op.bytesLess,ih]
    rcases UInt8.lt_or_lt_of_ne (a:=a) (b:=b) with h
    by_cases e:a=b
    · subst e
      have : ¬ a<a:=UInt8.lt_irrefl a
      simp [this,ih]
    · rcases h e with h | h
      · have h2 : ¬ b<a:=UInt8.lt_asymm h
        simp [h,h2,e,Ne.symm e]
      · have h2 : ¬ a<b:=UInt8.lt_asymm h
        simp [h,h2,e]
def Zb9 (b:Str) (u:DUser):Bool:=ZbI u && Op.bytesLess b u.name
def Zc8 (us:List DUser):Bool × Str:=scn Zb9 (fun _ u=>u.name) [] us
def Zas (us:List DUser):Bool:=(Zc8 us).1 && (decide (1≤us.length) && decide (us.length≤4))
theorem ZfJ {us:List DUser} (h:(Zc8 us).1=false):Zas us=false:=by simp [Zas,h]
theorem ZhY {us:List DUser} {b:Str} (h:Zc8 us=(true,b)):Zas us=(decide (1≤us.length) && decide (us.length≤4)):=by simp [Zas,h]
def Zns:DUser:=⟨[],[],0⟩
def Zfq (t:DUser→Bool) (us:List DUser):DUser × Bool:=match us.find? t with | some x=>(x,true) | none=>(Zns,false)
theorem ZlI {α:Type} {t:α→Bool} {xs:List α} (h :∀y,y∈xs→t y=false):xs.find? t=none:=List.find?_eq_none.2 fun y hy=>by simp [h y hy]
theorem ZrV {α:Type} {t:α→Bool} {xs:List α} {k:Nat} {x:α} (hx:xs[k]? = some x) (ht:t x=true) (h :∀y,y∈xs.take k→t y=false):xs.find? t=some x:=by
  have hlt:=(List.getElem?_eq_some_iff.1 hx).1
  have e:xs=xs.take k ++ (x :: xs.drop (k+1)):=by
    rw [← (List.getElem?_eq_some_iff.1 hx).2,← List.drop_eq_getElem_cons hlt,List.take_append_drop]
  rw [e,List.find?_append,ZlI h];simp [ht]
theorem Zqp {t:DUser→Bool} {us:List DUser} {k:Nat} {x:DUser} (hx:us[k]? = some x) (ht:t x=true) (h :∀y,y∈us.take k→t y=false):Zfq t us=(x,true):=by simp [Zfq,ZrV hx ht h]
theorem ZjT {t:DUser→Bool} {us:List DUser} (h :∀y,y∈us→t y=false):Zfq t us=(Zns,false):=by simp [Zfq,ZlI h]
theorem Zj9 {B:Kn} {b:Nat} {T:TypeId} {vs:List Value} (h :∀p,p∈Zbn b vs T→B.mem p.1=some p.2):Zbx B b 0 vs:=fun L j u hu=>
  ⟨rfl,vs.toArray,T,(0,0),.inl (h (b,.cells vs.toArray T) (List.mem_singleton.2 rfl)),by simpa using hu⟩
def Zan (us:List DUser) (n:Str):DUser × Bool:=if Zas us then Zfq (fun y=>decide (y.name=n)) us else (Zns,false)
def inF (o n:Str) (f:DFolder):Bool:=decide (f.owner=o) && decide (f.name=n)
def Zdd (us:List DUser) (x:DItem):Bool:=(Zan us x.fr).2 && x.left.all fun n=>(Zan us n).2
theorem ZcW {α:Type} {p:α→Bool} {xs:List α} {k:Nat} {x:α} (hx:xs[k]? = some x) (h:p x=false):xs.all p=false:=by
  rw [List.all_eq_false];exact ⟨x,List.mem_of_getElem? hx,by simp [h]⟩
theorem Zey {α:Type} {p:α→Bool} {xs:List α} (h :∀y,y∈xs→p y=true):xs.all p=true:=List.all_eq_true.2 h
def ZbW (a b:DFolder):Bool:=Op.bytesLess a.owner b.owner || (decide (a.owner=b.owner) && Op.bytesLess a.name b.name)
theorem Zdb (a:Str):Op.bytesLess a a=false:=by
  have:=Zbr a a
  cases h:Op.bytesLess a a with
  | false=>rfl
  | true=>rw [h] at this;simp at this
end Go.BL
namespace Go.BL
open Go
set_option linter.unusedVariables false
set_option linter.unusedSimpArgs false
inductive Prev {α β:Type} (f:α→β) (z:β) (xs:List α):Nat→β→Prop
  | zero:Prev f z xs 0 z
  | succ {k:Nat} {x:α} : xs[k]? = some x→Prev f z xs (k+1) (f x)
theorem Prev.at {α β:Type} {f:α→β} {z:β} {xs:List α} {k:Nat} {b:β} {y:α} (h:Prev f z xs k b) (hy:xs[((k:Int) - 1).toNat]? = some y) (hk:0<(k:Int)):b=f y:=by
  cases h with
  | zero=>omega
  | succ hx=>
    rename_i k x
    rw [show (((k+1:Nat):Int) - 1).toNat=k from by omega,hx] at hy
    cases hy;rfl
theorem Prev.at0 {α β:Type} {f:α→β} {z:β} {xs:List α} {k:Nat} {b:β} (h:Prev f z xs k b) (hk:(k:Int)≤0):b=z:=by
  cases h with
  | zero=>rfl
  | succ hx=>omega
theorem Zhz {α β:Type} {p:β→α→Bool} {nx:β→α→β} {b0 b:β} {xs:List α} {k:Nat} {x:α} (hx:xs[k]? = some x) (hs:scn p nx b0 (xs.take k)=(true,b)) (h:p b x=false):(scn p nx b0 xs).1=false:=
  ZfR hx (by rw [congrArg Prod.snd hs];exact h)
theorem Zdr {us:List DUser} {k:Nat} {x:DUser} {nm:Str} (hx:us[k]? = some x) (hs:Zc8 (us.take k)=(true,nm)) (h:Zb9 nm x=false):Zas us=false:=
  ZfJ (Zhz hx hs h)
theorem Znt {s:Str} (h:0<s.length):Op.bytesLess [] s=true:=by
  cases s with
  | nil=>cases h
  | cons a s=>rfl
theorem ZjD {s:Str} (h:Zay s=true):0<s.length:=by
  cases s with
  | nil=>simp [Zay] at h
  | cons a s=>simp
def ZcG (b:Str) (g:DGrant):Bool:=Zay g.user && (decide (1≤g.rights) && decide (g.rights≤63)) && Op.bytesLess b g.user
def Zdy (gs:List DGrant):Bool × Str:=scn ZcG (fun _ g=>g.user) [] gs
def ZcE (gs:List DGrant):Bool:=(Zdy gs).1 && decide (gs.length≤4)
theorem ZdG {gs:List DGrant} {k:Nat} {x:DGrant} {nm:Str} (hx:gs[k]? = some x) (hs:Zdy (gs.take k)=(true,nm)) (h:ZcG nm x=false):ZcE gs=false:=by
  rw [ZcE,show (Zdy gs).1=false from Zhz hx hs h,Bool.false_and]
theorem Zl3 {gs:List DGrant} {b:Str} (h:Zdy gs=(true,b)):ZcE gs=decide (gs.length≤4):=by rw [ZcE,h,Bool.true_and]
def DFolder.box (f:DFolder):DBox:=⟨f.next,f.mail⟩
def inbox:Str:=[105,110,98,111,120]
def Z8 (us:List DUser) (f:DFolder):Bool:=decide (0≤Zde us f.owner) && Zay f.name && ZcE f.grants && Zbm f.box
def ZbX (us:List DUser) (b:Option DFolder) (f:DFolder):Bool:=Z8 us f && (match b with | none=>true | some y=>ZbW y f)
def Zdn (us:List DUser) (fs:List DFolder):Bool × Option DFolder:=scn (ZbX us) (fun _ f=>some f) none fs
def Zcd (us:List DUser) (fs:List DFolder):Bool:=(Zdn us fs).1 && decide (fs.length≤8)
theorem ZcC {us:List DUser} {fs:List DFolder} {k:Nat} {x:DFolder} {b:Option DFolder} (hx:fs[k]? = some x) (hs:Zdn us (fs.take k)=(true,b)) (h:ZbX us b x=false):Zcd us fs=false:=by
  rw [Zcd,show (Zdn us fs).1=false from Zhz hx hs h,Bool.false_and]
theorem Zku {us:List DUser} {fs:List DFolder} {b:Option DFolder} (h:Zdn us fs=(true,b)):Zcd us fs=decide (fs.length≤8):=by rw [Zcd,h,Bool.true_and]
def ZaC (fs:List DFolder) (u:Str):Nat:=(fs.map fun f=>if f.owner=u then Zao f.mail else 0).sum
theorem Zjm {fs:List DFolder} {u:Str} {k:Nat} {x:DFolder} (hx:fs[k]? = some x):ZaC (fs.take (k+1)) u=ZaC (fs.take k) u+if x.owner=u then Zao x.mail else 0:=by
  have:fs.take (k+1)=fs.take k ++ [x]:=by rw [List.take_add_one,hx];rfl
  simp [ZaC,this]
theorem Zph {fs:List DFolder} {u:Str} {k n:Nat} (h:n=ZaC (fs.take k) u) (hk:fs.length≤k):n=ZaC fs u:=by rwa [List.take_of_length_le hk] at h
def Zfx (us:List DUser) (ns:List Str):Bool:=ns.all fun n=>decide (0≤Zde us n)
def Zat (fs:List DFolder) (u:DUser):Bool:=decide (0≤Za0 (inF u.name inbox) fs) && decide ((ZaC fs u.name:Int)≤u.quota)
def ZaE (us:List DUser) (x:DItem):Bool:=decide (0≤Zde us x.fr) && Zfx us x.left
def Zx (h:DHost):Bool:=Zcj h.domain && Zas h.users && Zag h.queue && Zcd h.users h.folders && h.users.all (Zat h.folders) && h.queue.items.all (ZaE h.users)
theorem ZX {B:Kn} {q:Option Addr} {cp:Nat} {ms:List DMail} (h:SlK B q cp 3 ZF ms):Zao ms≤4000000000000:=by
  have h1 :∀m,m∈ms→m.text.length≤2000000:=fun m hm=>by
    obtain ⟨i,hi⟩:=List.mem_iff_getElem?.1 hm
    obtain ⟨b,o,row,_,h2,_⟩:=h.rows i m hi
    exact h2.2
  have h2 :∀l:List DMail,(∀m,m∈l→m.text.length≤2000000)→Zao l≤l.length*2000000:=by
    intro l
    induction l with
    | nil=>intro _;simp [Zao]
    | cons m l ih=>
      intro hl
      have:=ih fun y hy=>hl y (List.mem_cons_of_mem _ hy)
      have:=hl m (List.mem_cons_self ..)
      simp only [Zao,List.map_cons,List.sum_cons,List.length_cons] at *
      omega
  have:=h2 ms h1
  have:=h.len
  omega
theorem Zix {h:DHost} {k:Nat} {u:DUser} (hu:h.users[k]? = some u) (hf:Zat h.folders u=false):Zx h=false:=by
  rw [Zx,ZcW hu hf,Bool.and_false,Bool.false_and]
theorem Ziz {h:DHost} {k:Nat} {y:DItem} (hy:h.queue.items[k]? = some y) (hf:ZaE h.users y=false):Zx h=false:=by
  rw [Zx,ZcW hy hf,Bool.and_false]
theorem Zow {h:DHost} (h1:Zcj h.domain=true) (h2:Zas h.users=true) (h3:Zag h.queue=true) (h4:Zcd h.users h.folders=true) (h5:h.users.all (Zat h.folders)=true) (h6:h.queue.items.all (ZaE h.users)=true):Zx h=true:=by
  rw [Zx,h1,h2,h3,h4,h5,h6];rfl
theorem ZkW {fs:List DFolder} {u:DUser} (h:Za0 (inF u.name inbox) fs<0):Zat fs u=false:=by
  rw [Zat,decide_eq_false (by omega),Bool.false_and]
theorem ZkV {fs:List DFolder} {u:DUser} (h:u.quota<ZaC fs u.name):Zat fs u=false:=by
  rw [Zat,decide_eq_false (p:=(ZaC fs u.name:Int)≤u.quota) (by omega),Bool.and_false]
theorem ZkU {fs:List DFolder} {u:DUser} (h:0≤Za0 (inF u.name inbox) fs) (h':(ZaC fs u.name:Int)≤u.quota):Zat fs u=true:=by
  rw [Zat,decide_eq_true h,decide_eq_true h'];rfl
theorem Zkm {us:List DUser} {x:DItem} (h:Zde us x.fr<0):ZaE us x=false:=by rw [ZaE,decide_eq_false (by omega),Bool.false_and]
theorem Zkl {us:List DUser} {x:DItem} (h:Zfx us x.left=false):ZaE us x=false:=by rw [ZaE,h,Bool.and_false]
theorem Zkk {us:List DUser} {x:DItem} (h:0≤Zde us x.fr) (h':Zfx us x.left=true):ZaE us x=true:=by rw [ZaE,decide_eq_true h,h'];rfl
theorem Zdl :∀{a b c:Str},Op.bytesLess a b=true→Op.bytesLess b c=true→Op.bytesLess a c=true
  | [],[],_,h,_=>by simp [Op.bytesLess] at h
  | _ :: _,[],_,h,_=>by simp [Op.bytesLess] at h
  | _,_ :: _,[],_,h=>by simp [Op.bytesLess] at h
  | [],_ :: _,_ :: _,_,_=>by simp [Op.bytesLess]
  | a :: x,b :: y,c :: z,h,h'=>by
    simp only [Op.bytesLess,Bool.or_eq_true,decide_eq_true_eq,Bool.and_eq_true,beq_iff_eq] at h h' ⊢
    rcases h with h | ⟨rfl,h⟩
    · rcases h' with h' | ⟨rfl,h'⟩
      · exact .inl (UInt8.lt_trans h h')
      · exact .inl h
    · rcases h' with h' | ⟨rfl,h'⟩
      · exact .inl h'
      · exact .inr ⟨rfl,Zdl h h'⟩
def ZsF (gs:List DGrant):List (Str × Int):=gs.map fun g=>(g.user,g.rights)
theorem Zhj :∀(xs:List DGrant) (b0 b:Str),xs.foldl (fun s x=>(s.1 && ZcG s.2 x,x.user)) (true,b0)=(true,b)→(∀y,y∈xs→y.user=b∨Op.bytesLess y.user b=true)∧(b=b0∨Op.bytesLess b0 b=true)
  | [],b0,b,h=>by
    cases h;exact ⟨by simp,.inl rfl⟩
  | x :: xs,b0,b,h=>by
    simp only [List.foldl_cons,Bool.true_and] at h
    cases hp:ZcG b0 x with
    | false=>
      rw [hp] at h
      have:=ZbT (p:=ZcG) (nx:=fun _ g=>g.user) xs x.user
      rw [h] at this;cases this
    | true=>
      rw [hp] at h
      obtain ⟨h1,h2⟩:=Zhj xs x.user b h
      have hl:Op.bytesLess b0 x.user=true:=by
        simp only [ZcG,Bool.and_eq_true] at hp;exact hp.2
      refine ⟨fun y hy=>?_,.inr ?_⟩
      · rcases List.mem_cons.1 hy with rfl | hy
        · rcases h2 with h2 | h2
          · exact .inl h2.symm
          · exact .inr h2
        · exact h1 y hy
      · rcases h2 with rfl | h2
        · exact hl
        · exact Zdl hl h2
theorem Zrr {kvs:List (Str × Int)} {k:Str} {v:Int} (h:k ∉ kvs.map (·.1)):mput kvs k v=kvs ++ [(k,v)]:=by
  induction kvs with
  | nil=>rfl
  | cons p r ih=>
    simp only [List.map_cons,List.mem_cons,not_or] at h
    simp only [mput,if_neg h.1,ih h.2,List.cons_append]
theorem Ztl {gs:List DGrant} {k:Nat} {m:DGrant} {nm:Str} (hm:gs[k]? = some m) (hs:Zdy (gs.take k)=(true,nm)) (hl:Op.bytesLess nm m.user=true):mput (ZsF (gs.take k)) m.user m.rights=ZsF (gs.take (k+1)):=by
  have h1:=(Zhj _ _ _ hs).1
  rw [Zrr]
  · rw [ZsF,ZsF,List.take_add_one,hm];simp
  · intro hc
    simp only [ZsF,List.map_map,List.mem_map,Function.comp] at hc
    obtain ⟨y,hy,e⟩:=hc
    rcases h1 y hy with h | h
    · rw [← e,h,Zdb] at hl;cases hl
    · rw [e] at h
      have:=Zdl hl h
      rw [Zdb] at this;cases this
def Zm5 (gs:List DGrant) (B:Kn):Value→Kn→List Cells→Prop:=fun v B' Ls=>∃m l,v = .tuple #[.map m,.bool (ZcE gs)]∧Ls=[l]∧B'=B∧(ZcE gs=true→∃b,m=some b∧ZtY l b (ZsF gs))
theorem ZiO {P:PJ} {S:Env} {B:Kn} {L:List Cells} {rs:List ResultVar} {gs:List DGrant} (e:Exit) (he:e = .ret∨e = .normal) (vs:List Value) (hr:ZeB P S B L rs vs) (h:ZcE gs=false) (hv:Zd4 vs = .tuple #[.map none,.bool false]:=by rfl):Zfr P rs (Zm5 gs B) e S [] B L:=
  ZtD e he vs hr ⟨none,[],by rw [hv,h],rfl,rfl,fun hc=>by rw [h] at hc;cases hc⟩
theorem ZtC {P:PJ} {S:Env} {B:Kn} {L:List Cells} {rs:List ResultVar} {gs:List DGrant} (e:Exit) (he:e = .ret∨e = .normal) (vs:List Value) {b:Nat} {l:Cells} {r:List Cells} (hp:ZbU L [0]=some ([l],r)) (hr:ZeB P S B L rs vs) (h:ZcE gs=true) (hm:ZtY l b (ZsF gs)) (hv:Zd4 vs = .tuple #[.map (some b),.bool true]:=by rfl):Zfr P rs (Zm5 gs B) e S [] B L:=
  Zah e he vs [0] hp hr ⟨some b,l,by rw [hv,h],rfl,rfl,fun _=>⟨b,rfl,hm⟩⟩
def ZuM (f:DFolder) (ow nm:Str):Int:=if Lib.compareBytes f.owner ow≠0 then Lib.compareBytes f.owner ow else Lib.compareBytes f.name nm
theorem ZlO (f g:DFolder):0≤ZuM f g.owner g.name↔ZbW f g=false:=by
  have h1:=ZmY f.owner g.owner
  have h2:=ZmY f.name g.name
  unfold ZuM ZbW
  by_cases e:f.owner=g.owner
  · have e0:=h1.2.2 e
    have e1:Op.bytesLess f.owner g.owner=false:=by rw [e];exact Zdb _
    rw [if_neg (fun h=>h e0),e1,decide_eq_true e,Bool.true_and,Bool.false_or,Bool.eq_false_iff,ne_eq,← h2.1];omega
  · have e0:Lib.compareBytes f.owner g.owner≠0:=fun h=>e (h1.2.1 h)
    rw [if_pos e0,decide_eq_false e,Bool.false_and,Bool.or_false,Bool.eq_false_iff,ne_eq,← h1.1];omega
def ZeE (fs:List DFolder) (u:Str):Int:=(fs.map fun f=>if f.owner=u then ZdC ⟨f.next,f.mail⟩ else 0).sum
theorem Zfg {fs:List DFolder} {u:Str} {k:Nat} {x:DFolder} (hx:fs[k]? = some x):ZeE (fs.take (k+1)) u=ZeE (fs.take k) u+if x.owner=u then ZdC ⟨x.next,x.mail⟩ else 0:=by
  have:fs.take (k+1)=fs.take k ++ [x]:=by rw [List.take_add_one,hx];rfl
  simp [ZeE,this]
theorem Zk0 {fs:List DFolder} {u:Str} {k:Nat} {n:Int} (h:n=ZeE (fs.take k) u) (hk:fs.length≤k):n=ZeE fs u:=by rwa [List.take_of_length_le hk] at h
theorem Znu :∀(xs:List DMail) (b0 b:Int),xs.foldl (fun s x=>(s.1 && ZbQ s.2 x,x.uid)) (true,b0)=(true,b)→∀y,y∈xs→ZbB y=true
  | [],_,_,_,_,h=>by cases h
  | x :: xs,b0,b,h,y,hy=>by
    simp only [List.foldl_cons,Bool.true_and] at h
    cases hp:ZbQ b0 x with
    | false=>
      rw [hp] at h
      have:=ZbT (p:=ZbQ) (nx:=fun _ m=>m.uid) xs x.uid
      rw [h] at this;cases this
    | true=>
      rw [hp] at h
      rcases List.mem_cons.1 hy with rfl | hy
      · simp only [ZbQ,Bool.and_eq_true] at hp;exact hp.1
      · exact Znu xs x.uid b h y hy
theorem ZdD {b:DBox} (h:Zbm b=true):(∀y,y∈b.mail→ZbB y=true)∧b.mail.length≤10:=by
  simp only [Zbm,Bool.and_eq_true,decide_eq_true_eq] at h
  exact ⟨Znu b.mail 0 (Zcg b.mail).2 (Prod.ext h.1.1 rfl),h.2⟩
theorem ZfP :∀l:List DMail,(∀m,m∈l→ZbB m=true)→Zao l≤l.length*20
  | [],_=>by simp [Zao]
  | m :: l,h=>by
    have h1:=ZfP l fun y hy=>h y (List.mem_cons_of_mem _ hy)
    have h2:=h m (List.mem_cons_self ..)
    simp only [ZbB,Bool.and_eq_true,decide_eq_true_eq] at h2
    simp only [Zao,List.map_cons,List.sum_cons,List.length_cons] at *
    omega
theorem ZgT (b:DBox) : -1≤ZdC b∧ZdC b≤200:=by
  unfold ZdC
  split
  · rename_i h
    obtain ⟨h1,h2⟩:=ZdD h
    have:=ZfP _ h1
    omega
  · omega
theorem Zq6 (fs:List DFolder) (u:Str) : -1*fs.length≤ZeE fs u∧ZeE fs u≤fs.length*200:=by
  induction fs with
  | nil=>simp [ZeE]
  | cons f fs ih=>
    have:=ZgT ⟨f.next,f.mail⟩
    simp only [ZeE,List.map_cons,List.sum_cons,List.length_cons] at *
    split <;> omega
def Zew (x:DHost) (u:Str) (more:Int):Bool:=!(Zan x.users u).2 || decide ((Zan x.users u).1.quota<ZeE x.folders u+more)
def ZcT (x:DHost) (w:DUser):Bool:=decide (0≤Za0 (inF w.name inbox) x.folders) && !Zew x w.name 0
theorem ZkZ {x:DHost} {w:DUser} (h:Za0 (inF w.name inbox) x.folders<0):ZcT x w=false:=by rw [ZcT,decide_eq_false (by omega),Bool.false_and]
theorem ZkY {x:DHost} {w:DUser} (h:Zew x w.name 0=true):ZcT x w=false:=by rw [ZcT,h];simp
theorem ZkX {x:DHost} {w:DUser} (h:0≤Za0 (inF w.name inbox) x.folders) (h':Zew x w.name 0=false):ZcT x w=true:=by rw [ZcT,h',decide_eq_true h];rfl
def ZhZ (x:DHost):Bool:=x.users.all (ZcT x)
def Zm6:Rel Bool:=fun _ row x=>row=[.bool x]
theorem Zm6.mono:Mono Zm6:=fun _ _ _ h=>h
theorem Zm6.one {B:Kn} :∀row y,Zm6 B row y→row.all Zhr=true∧row.length=1:=by rintro _ y rfl;exact ⟨rfl,rfl⟩
def Za1 (us:List DUser) (f:DFolder):Bool:=(Zan us f.owner).2 && Zay f.name && ZcE f.grants && Zbm f.box
theorem ZhB (C i:Nat):(some (ptr (Addr.add ⟨C,0,none⟩ ((i:Int).toNat*1))):Option Value)=some (ptr ⟨C,i,none⟩):=by
  rw [Addr.add_off _ _ rfl];simp
def ZqY (x:DHost) (i:Nat):Value:=.bool (match x.folders[i]? with | some m=>Za1 x.users m | none=>false)
theorem Znc {x:DHost} {i:Nat} {m:DFolder} (h:x.folders[i]? = some m):ZqY x i = .bool (Za1 x.users m):=by simp [ZqY,h]
theorem Zpd {B:Kn} {x:DHost} {C:Nat} {T:TypeId} (hm :∀p,p∈[(C,Obj.cells ((List.range x.folders.length).map (ZqY x)).toArray T (0,0))]→B.mem p.1=some p.2) (hl:x.folders.length≤2000000):SlK B (some ⟨C,0,none⟩) (x.folders.map (Za1 x.users)).length 1 Zm6 (x.folders.map (Za1 x.users)):=by
  refine ⟨fun i y hy=>⟨C,0,[.bool y],rfl,rfl,fun j u hu=>?_⟩,by simp,by simpa using hl⟩
  have hj:j=0:=by
    cases j with
    | zero=>rfl
    | succ j=>simp at hu
  subst hj
  simp only [List.getElem?_cons_zero,Option.some.injEq] at hu
  subst hu
  rw [List.getElem?_map] at hy
  obtain ⟨m,hm',rfl⟩:=Option.map_eq_some_iff.1 hy
  have hi:i<x.folders.length:=(List.getElem?_eq_some_iff.1 hm').1
  refine ⟨rfl,_,T,(0,0),.inl (hm _ (List.mem_singleton.2 rfl)),?_⟩
  simp only [Nat.mul_one,Nat.zero_add,Nat.add_zero,List.getElem?_toArray,List.getElem?_map,List.getElem?_range hi,Option.map_some,Znc hm']
theorem ZkI {us:List DUser} {fs:List DFolder} : (!decide (0≤Za0 (fun y=>decide (false=y)) (fs.map (Za1 us))))=fs.all (Za1 us):=by
  by_cases h :∀f,f∈fs→Za1 us f=true
  · rw [List.all_eq_true.2 h,ZeZ (fun y hy=>by
      obtain ⟨f,hf,rfl⟩:=List.mem_map.1 hy
      simp [h f hf])]
    rfl
  · have h2:fs.all (Za1 us)=false:=by
      rw [Bool.eq_false_iff,ne_eq,List.all_eq_true];exact h
    rw [h2]
    have h3 :∃k,(fs.map (Za1 us)).findIdx? (fun y=>decide (false=y))=some k:=by
      cases hk:(fs.map (Za1 us)).findIdx? (fun y=>decide (false=y)) with
      | some k=>exact ⟨k,rfl⟩
      | none=>
        exfalso;apply h
        intro f hf
        have:=List.findIdx?_eq_none_iff.1 hk (Za1 us f) (List.mem_map_of_mem hf)
        cases hq:Za1 us f with
        | true=>rfl
        | false=>rw [hq] at this;simp at this
    obtain ⟨k,hk⟩:=h3
    have e:Za0 (fun y=>decide (false=y)) (fs.map (Za1 us))=(k:Int):=by unfold Za0;rw [hk]
    rw [e];simp
def Zf6:List DFolder→Bool
  | []=>true
  | [_]=>true
  | a :: b :: r=>ZbW a b && Zf6 (b :: r)
def Zdx (x:DHost):Bool:=Zcj x.domain && Zas x.users && Zag x.queue && decide (x.folders.length≤8) && Zf6 x.folders && (x.folders.all (Za1 x.users) && ZhZ x && x.queue.items.all (Zdd x.users))
def Zsj (fs:List DFolder) (k:Nat):Prop:=∀i a b,i<k→fs[i]? = some a→fs[i+1]? = some b→ZbW a b=true
theorem Zoe {fs:List DFolder} : Zsj fs 0:=fun i a b h=>by omega
theorem Zof {fs:List DFolder} {k:Nat} {x y:DFolder} (h:Zsj fs k) (hx:fs[k]? = some x) (hy:fs[k+1]? = some y) (hl:ZbW x y=true):Zsj fs (k+1):=fun i a b hi ha hb=>by
  rcases Nat.lt_or_ge i k with h' | h'
  · exact h i a b h' ha hb
  · obtain rfl:i=k:=by omega
    rw [hx] at ha;rw [hy] at hb
    cases ha;cases hb;exact hl
theorem ZhC :∀(fs:List DFolder),Zf6 fs=true↔∀i a b,fs[i]? = some a→fs[i+1]? = some b→ZbW a b=true
  | []=>by simp [Zf6]
  | [_]=>by simp [Zf6]
  | x :: y :: r=>by
    rw [Zf6,Bool.and_eq_true,ZhC (y :: r)]
    constructor
    · rintro ⟨h1,h2⟩ i a b ha hb
      cases i with
      | zero=>simp at ha hb;rw [← ha,← hb];exact h1
      | succ i=>exact h2 i a b (by simpa using ha) (by simpa using hb)
    · intro h
      exact ⟨h 0 x y rfl rfl,fun i a b ha hb=>h (i+1) a b (by simpa using ha) (by simpa using hb)⟩
theorem Zro {fs:List DFolder} {k:Nat} {x y:DFolder} (hx:fs[k]? = some x) (hy:fs[k+1]? = some y) (hl:ZbW x y=false):Zf6 fs=false:=by
  rw [Bool.eq_false_iff,ne_eq,ZhC]
  intro h
  have:=h k x y hx hy
  rw [hl] at this;cases this
theorem Zrn {fs:List DFolder} (h :∀i a b,i<fs.length - 1→fs[i]? = some a→fs[i+1]? = some b→ZbW a b=true):Zf6 fs=true:=
  (ZhC fs).2 fun i a b ha hb=>h i a b (by have:=(List.getElem?_eq_some_iff.1 hb).1;omega) ha hb
theorem Zib {α:Type} {p:Str→α→Bool} {f:α→Str} (hp :∀b x,p b x=true→Op.bytesLess b (f x)=true) :∀(xs:List α) (b0 b:Str),xs.foldl (fun s x=>(s.1 && p s.2 x,f x)) (true,b0)=(true,b)→(∀y,y∈xs→Op.bytesLess b0 (f y)=true)∧xs.Pairwise (fun x y=>Op.bytesLess (f x) (f y)=true)
  | [],_,_,_=>⟨by simp,.nil⟩
  | x :: xs,b0,b,h=>by
    simp only [List.foldl_cons,Bool.true_and] at h
    cases hq:p b0 x with
    | false=>
      rw [hq] at h
      have:=ZbT (p:=p) (nx:=fun _ g=>f g) xs (f x)
      rw [h] at this;cases this
    | true=>
      rw [hq] at h
      obtain ⟨h1,h2⟩:=Zib hp xs (f x) b h
      refine ⟨fun y hy=>?_,.cons h1 h2⟩
      rcases List.mem_cons.1 hy with rfl | hy
      · exact hp _ _ hq
      · exact Zdl (hp _ _ hq) (h1 y hy)
theorem ZdV {us:List DUser} (h:Zas us=true):us.Pairwise fun x y=>Op.bytesLess x.name y.name=true:=by
  simp only [Zas,Bool.and_eq_true] at h
  exact (Zib (p:=Zb9) (f:=fun u=>u.name) (fun b x hq=>by simp only [Zb9,Bool.and_eq_true] at hq;exact hq.2) us [] (Zc8 us).2 (Prod.ext h.1 rfl)).2
theorem Zby {us:List DUser} {u:Str} : 0≤Zde us u↔∃x,x∈us∧x.name=u:=by
  unfold Zde
  cases h:us.findIdx? (fun x=>decide (x.name=u)) with
  | none=>
    have:=List.findIdx?_eq_none_iff.1 h
    simp only [decide_eq_false_iff_not] at this
    exact ⟨fun hc=>absurd hc (by simp only [];omega),fun ⟨x,hx,e⟩=>absurd e (this x hx)⟩
  | some i=>
    rw [List.findIdx?_eq_some_iff_getElem] at h
    obtain ⟨hi,h1,_⟩:=h
    exact ⟨fun _=>⟨us[i],List.getElem_mem hi,by simpa using h1⟩,fun _=>by simp only [];omega⟩
theorem Zqo {us:List DUser} {t:DUser→Bool} : (Zfq t us).2=true↔∃x,x∈us∧t x=true:=by
  unfold Zfq
  cases h:us.find? t with
  | none=>simp only [Bool.false_eq_true,false_iff];rintro ⟨x,hx,e⟩;have:=List.find?_eq_none.1 h x hx;exact this e
  | some x=>simp only [true_iff];exact ⟨x,List.mem_of_find?_eq_some h,List.find?_some h⟩
theorem ZdM {us:List DUser} (h:Zas us=true) (n:Str):(Zan us n).2=decide (0≤Zde us n):=by
  rw [Zan,if_pos h,Bool.eq_iff_iff,Zqo,decide_eq_true_eq,Zby];simp
theorem Zf2 :∀{us:List DUser},us.Pairwise (fun x y=>Op.bytesLess x.name y.name=true)→∀w,w∈us→us.find? (fun y=>decide (y.name=w.name))=some w
  | [],_,w,h=>by cases h
  | x :: us,hp,w,h=>by
    cases hp with
    | cons h1 h2=>
      rw [List.find?_cons]
      rcases List.mem_cons.1 h with rfl | h
      · simp
      · have hne:x.name≠w.name:=fun e=>by
          have:=h1 w h
          rw [e,Zdb] at this;cases this
        simp only [hne,decide_false]
        exact Zf2 h2 w h
theorem Zgd {us:List DUser} (h:Zas us=true) {w:DUser} (hw:w∈us):Zan us w.name=(w,true):=by
  rw [Zan,if_pos h,Zfq,Zf2 (ZdV h) w hw]
theorem ZoG {us:List DUser} (h:Zas us=true) (f:DFolder):Za1 us f=Z8 us f:=by
  rw [Za1,Z8,ZdM h]
theorem ZeD {us:List DUser} :∀(fs:List DFolder) (b0:Option DFolder),(fs.foldl (fun s x=>(s.1 && ZbX us s.2 x,some x)) (true,b0)).1=(fs.all (Z8 us) && Zf6 ((match b0 with | none=>[] | some y=>[y]) ++ fs))
  | [],none=>rfl
  | [],some y=>rfl
  | x :: fs,b0=>by
    simp only [List.foldl_cons,Bool.true_and]
    have hstep:(fs.foldl (fun (s:Bool × Option DFolder) x=>(s.1 && ZbX us s.2 x,some x)) (ZbX us b0 x,some x)).1=(ZbX us b0 x && (fs.all (Z8 us) && Zf6 (x :: fs))):=by
      cases hq:ZbX us b0 x with
      | false=>rw [Bool.false_and];exact ZbT (p:=ZbX us) (nx:=fun _ f=>some f) fs (some x)
      | true=>rw [Bool.true_and];exact ZeD fs (some x)
    rw [hstep]
    cases b0 with
    | none=>
      simp only [ZbX,Bool.and_true,List.all_cons,List.nil_append]
      cases Z8 us x <;> simp
    | some y=>
      simp only [ZbX,List.all_cons,List.cons_append,List.nil_append,Zf6]
      cases Z8 us x <;> cases ZbW y x <;> simp
theorem ZcB {us:List DUser} {fs:List DFolder} : Zcd us fs=(fs.all (Z8 us) && Zf6 fs && decide (fs.length≤8)):=by
  rw [Zcd,show (Zdn us fs).1=_ from ZeD fs none];rfl
theorem Zj4 {us:List DUser} {u:Str} :∀{fs:List DFolder},fs.all (Z8 us)=true→ZeE fs u=(ZaC fs u:Int)
  | [],_=>rfl
  | f :: fs,h=>by
    simp only [List.all_cons,Bool.and_eq_true] at h
    have ih:=Zj4 (u:=u) h.2
    have hb:Zbm ⟨f.next,f.mail⟩=true:=by
      have:=h.1;simp only [Z8,Bool.and_eq_true] at this;exact this.2
    simp only [ZeE,ZaC,List.map_cons,List.sum_cons] at ih ⊢
    rw [ih]
    by_cases he:f.owner=u
    · simp [he,ZdC,hb]
    · simp [he]
theorem Zmg {x:DHost} (hu:Zas x.users=true) (hf:x.folders.all (Z8 x.users)=true) {w:DUser} (hw:w∈x.users):ZcT x w=Zat x.folders w:=by
  rw [ZcT,Zat,Zew,Zgd hu hw,Zj4 hf]
  simp only [Bool.not_true,Bool.false_or,Int.add_zero]
  congr 1
  rw [Bool.eq_iff_iff];simp
theorem ZmF {us:List DUser} (h:Zas us=true) (y:DItem):Zdd us y=ZaE us y:=by
  rw [Zdd,ZaE,ZdM h,Zfx]
  simp only [ZdM h]
theorem ZqN {α:Type} {p q:α→Bool} {xs:List α} (h :∀x,x∈xs→p x=q x):xs.all p=xs.all q:=by
  rw [Bool.eq_iff_iff,List.all_eq_true,List.all_eq_true]
  exact ⟨fun a x hx=>h x hx ▸ a x hx,fun a x hx=>(h x hx).symm ▸ a x hx⟩
theorem Zox (x:DHost):Zdx x=Zx x:=by
  cases hu:Zas x.users with
  | false=>simp [Zdx,Zx,hu]
  | true=>
    have e1:x.folders.all (Za1 x.users)=x.folders.all (Z8 x.users):=ZqN fun f _=>ZoG hu f
    have e2:x.queue.items.all (Zdd x.users)=x.queue.items.all (ZaE x.users):=ZqN fun y _=>ZmF hu y
    rw [Zdx,Zx,hu,e1,e2,ZcB]
    cases hf:x.folders.all (Z8 x.users) with
    | false=>simp
    | true=>
      have e3:ZhZ x=x.users.all (Zat x.folders):=ZqN fun w hw=>Zmg hu hf hw
      rw [e3]
      cases Zcj x.domain <;> cases Zag x.queue <;> cases Zf6 x.folders <;> cases decide (x.folders.length≤8) <;> simp
end Go.BL
namespace Go.BL
open Go
set_option linter.unusedVariables false
set_option linter.unusedSimpArgs false
def Zbo (x:DHost) (u:Str):Int:=if Zx x=true∧0≤Zde x.users u then (ZaC x.folders u:Int) else -1
theorem Zhg {x:DHost} {u:Str} (h:Zx x=false):Zbo x u = -1:=by simp [Zbo,h]
theorem Zhf {x:DHost} {u:Str} (h : ¬0≤Zde x.users u):Zbo x u = -1:=by rw [Zbo,if_neg (fun a=>h a.2)]
theorem Ze0 {x:DHost} {u:Str} (h:Zx x=true) (h2:0≤Zde x.users u):Zbo x u=ZaC x.folders u:=by rw [Zbo,if_pos ⟨h,h2⟩]
theorem Zhh {x:DHost} (h:Zx x=true):Zas x.users=true:=by
  simp only [Zx,Bool.and_eq_true] at h;exact h.1.1.1.1.2
theorem Zi9 {x:DHost} (h:Zx x=true):x.folders.all (Z8 x.users)=true:=by
  simp only [Zx,Bool.and_eq_true,ZcB] at h;exact h.1.1.2.1.1
theorem Ziy {x:DHost} (h:Zx x=true) (n:Str):(Zan x.users n).2=decide (0≤Zde x.users n):=ZdM (Zhh h) n
theorem Zhi {x:DHost} (h:Zx x=true) (u:Str):ZeE x.folders u=ZaC x.folders u:=Zj4 (Zi9 h)
theorem ZnG {us:List DUser} {n:Str} (h:0≤Zde us n) {x:DUser} (hx:us[(Zde us n).toNat]? = some x):Zfq (fun y=>decide (y.name=n)) us=(x,true):=by
  unfold Zde at h hx
  cases hf:us.findIdx? (fun x=>decide (x.name=n)) with
  | none=>rw [hf] at h;simp at h
  | some i=>
    rw [hf] at hx
    simp only [Int.toNat_natCast] at hx
    rw [List.findIdx?_eq_some_iff_getElem] at hf
    obtain ⟨hi,h1,h2⟩:=hf
    rw [List.getElem?_eq_getElem hi] at hx
    cases hx
    have:us.find? (fun y=>decide (y.name=n))=some us[i]:=by
      rw [List.find?_eq_some_iff_getElem]
      exact ⟨h1,i,hi,rfl,fun j hj=>by simpa using h2 j hj⟩
    rw [Zfq,this]
theorem ZmQ {us:List DUser} {n:Str} (h : ¬0≤Zde us n):Zfq (fun y=>decide (y.name=n)) us=(Zns,false):=by
  refine ZjT fun y hy=>?_
  rw [Zby] at h
  rw [decide_eq_false_iff_not]
  exact fun e=>h ⟨y,hy,e⟩
def ZbS (us:List DUser) (n p:Str):Bool:=(Zan us n).2 && decide ((Zan us n).1.pass=p)
structure DSess where
  user:Str
  owner:Str
  name:Str
deriving DecidableEq
def Zbg (x:DHost) (n p:Str):DSess × Bool:=if Zx x=true∧ZbS x.users n p=true then (⟨n,n,inbox⟩,true) else (⟨[],[],[]⟩,false)
theorem Zeq {x:DHost} {n p:Str} (h : ¬(Zx x=true∧ZbS x.users n p=true)):Zbg x n p=(⟨[],[],[]⟩,false):=by rw [Zbg,if_neg h]
theorem Zg9 {x:DHost} {n p:Str} (h:Zx x=true∧ZbS x.users n p=true):Zbg x n p=(⟨n,n,inbox⟩,true):=by rw [Zbg,if_pos h]
theorem Zko (us:List DUser) (n:Str):Zde us n<us.length∧Zde us n ≥ -1:=by
  unfold Zde
  cases hf:us.findIdx? (fun x=>decide (x.name=n)) with
  | none=>simp only [];omega
  | some i=>
    rw [List.findIdx?_eq_some_iff_getElem] at hf
    obtain ⟨hi,_⟩:=hf
    simp only [];omega
end Go.BL
namespace Go.BL
open Go
set_option linter.unusedVariables false
set_option linter.unusedSimpArgs false
def Zkc (n:Str):DFolder:=⟨n,inbox,[],1,[]⟩
def ZpN (d:Str) (us:List DUser):DHost:=⟨d,us,us.map fun u=>Zkc u.name,⟨1,[]⟩⟩
def Za8:DHost:=⟨[],[],[],⟨0,[]⟩⟩
def Zcl (d:Str) (us:List DUser):DHost × Bool:=if Zcj d=true∧Zas us=true then (ZpN d us,true) else (Za8,false)
theorem Zj6 {α β:Type} {p:β→α→Bool} {nx:β→α→β} :∀(xs:List α) (b:β),(xs.foldl (fun (s:Bool × β) x=>(s.1 && p s.2 x,nx s.2 x)) (true,b)).1=true→∀x,x∈xs→∃b',p b' x=true
  | [],_,_,x,hx=>by cases hx
  | x :: xs,b,h,y,hy=>by
    simp only [List.foldl_cons,Bool.true_and] at h
    cases hq:p b x with
    | false=>
      rw [hq] at h
      have:=ZbT (p:=p) (nx:=nx) xs (nx b x)
      rw [this] at h;cases h
    | true=>
      rw [hq] at h
      rcases List.mem_cons.1 hy with rfl | hy
      · exact ⟨b,hq⟩
      · exact Zj6 xs _ h y hy
theorem Zg3 {us:List DUser} (h:Zas us=true) {u:DUser} (hu:u∈us):ZbI u=true:=by
  simp only [Zas,Bool.and_eq_true] at h
  obtain ⟨b,hb⟩:=Zj6 (p:=Zb9) (nx:=fun _ u=>u.name) us [] h.1 u hu
  simp only [Zb9,Bool.and_eq_true] at hb;exact hb.1
theorem Znp :∀{us:List DUser},us.Pairwise (fun x y=>Op.bytesLess x.name y.name=true)→Zf6 (us.map fun u=>Zkc u.name)=true
  | [],_=>rfl
  | [_],_=>rfl
  | a :: b :: r,h=>by
    cases h with
    | cons h1 h2=>
      have h3:=h1 b (List.mem_cons_self ..)
      show (ZbW (Zkc a.name) (Zkc b.name) && Zf6 ((b :: r).map fun u=>Zkc u.name))=true
      rw [Znp h2,Bool.and_true,ZbW]
      simp only [Zkc,h3,Bool.true_or]
theorem Zpf (us:List DUser) (n:Str):ZaC (us.map fun u=>Zkc u.name) n=0:=by
  induction us with
  | nil=>rfl
  | cons u us ih=>
    simp only [ZaC,List.map_cons,List.sum_cons] at ih ⊢
    rw [ih]
    simp [Zkc,Zao]
theorem Ztb {us:List DUser} {u:DUser} (h:u∈us):0≤Za0 (inF u.name inbox) (us.map fun u=>Zkc u.name):=
  Zch.2 ⟨Zkc u.name,List.mem_map.2 ⟨u,h,rfl⟩,by simp [inF,Zkc]⟩
theorem Zmy (d:Str) (us:List DUser):Zx (ZpN d us)=(Zcj d && Zas us):=by
  cases hu:Zas us with
  | false=>simp [Zx,ZpN,hu]
  | true=>
    have h1:Zcd us (us.map fun u=>Zkc u.name)=true:=by
      rw [ZcB,Znp (ZdV hu)]
      have h2:(us.map fun u=>Zkc u.name).all (Z8 us)=true:=by
        rw [List.all_eq_true]
        intro f hf
        obtain ⟨u,hm,rfl⟩:=List.mem_map.1 hf
        have e1:Zay inbox=true:=by decide
        have e2:ZcE []=true:=by decide
        have e3:Zbm ⟨1,[]⟩=true:=by decide
        simp only [Z8,Zkc,DFolder.box,e1,e2,e3,Bool.and_true]
        exact decide_eq_true (Zby.2 ⟨u,hm,rfl⟩)
      have h3:us.length≤4:=by simp only [Zas,Bool.and_eq_true,decide_eq_true_eq] at hu;exact hu.2.2
      rw [h2];simp;omega
    have h4:us.all (Zat (us.map fun u=>Zkc u.name))=true:=by
      rw [List.all_eq_true]
      intro u hm
      have:=Zg3 hu hm
      simp only [ZbI,Bool.and_eq_true,decide_eq_true_eq] at this
      simp only [Zat,Zpf,Bool.and_eq_true,decide_eq_true_eq]
      exact ⟨Ztb hm,by omega⟩
    have h5:Zag ⟨1,[]⟩=true:=by decide
    simp only [Zx,ZpN,hu,h1,h4,h5,List.all_nil,Bool.and_true]
theorem ZiA {d:Str} {us:List DUser} (h:Zx (ZpN d us)=true):Zcl d us=(ZpN d us,true):=by
  rw [Zmy,Bool.and_eq_true] at h;rw [Zcl,if_pos h]
theorem Zoy {d:Str} {us:List DUser} (h:Zx (ZpN d us)=false):Zcl d us=(Za8,false):=by
  rw [Zmy] at h;rw [Zcl,if_neg (by rw [← Bool.and_eq_true,h];exact Bool.false_ne_true)]
def ZhD:DFolder:=⟨[],[],[],0,[]⟩
def ZP (x:DHost) (o n:Str):DFolder × Bool:=if Zx x=true then (match x.folders.find? (inF o n) with | some f=>(f,true) | none=>(ZhD,false)) else (ZhD,false)
theorem Zfz {x:DHost} {o n:Str} (h:Zx x=false):ZP x o n=(ZhD,false):=by simp [ZP,h]
theorem Ze3 {x:DHost} {o n:Str} (h:Za0 (inF o n) x.folders<0):ZP x o n=(ZhD,false):=by
  have:x.folders.find? (inF o n)=none:=List.find?_eq_none.2 fun y hy hp=>by have:=Zch.2 ⟨y,hy,hp⟩;omega
  rw [ZP,this];split <;> rfl
theorem Ze2 {x:DHost} {o n:Str} (hx:Zx x=true) (h:0≤Za0 (inF o n) x.folders) {f:DFolder} (hf:x.folders[(Za0 (inF o n) x.folders).toNat]? = some f):ZP x o n=(f,true):=by
  unfold Za0 at h hf
  cases hq:x.folders.findIdx? (inF o n) with
  | none=>rw [hq] at h;simp at h
  | some i=>
    rw [hq] at hf
    simp only [Int.toNat_natCast] at hf
    rw [List.findIdx?_eq_some_iff_getElem] at hq
    obtain ⟨hi,h1,h2⟩:=hq
    rw [List.getElem?_eq_getElem hi] at hf
    cases hf
    have:x.folders.find? (inF o n)=some x.folders[i]:=by
      rw [List.find?_eq_some_iff_getElem]
      exact ⟨h1,i,hi,rfl,fun j hj=>by simpa using h2 j hj⟩
    rw [ZP,if_pos hx,this]
theorem Zdw {α:Type} (p:α→Bool) (xs:List α):Za0 p xs<xs.length∧Za0 p xs ≥ -1:=by
  unfold Za0
  cases hf:xs.findIdx? p with
  | none=>simp only [];omega
  | some i=>
    rw [List.findIdx?_eq_some_iff_getElem] at hf
    obtain ⟨hi,_⟩:=hf
    simp only [];omega
end Go.BL
namespace Go.BL
open Go
set_option linter.unusedVariables false
set_option linter.unusedSimpArgs false
end Go.BL
namespace Go.BL
open Go
set_option linter.unusedVariables false
set_option linter.unusedSimpArgs false
def Zdk (k:Nat):Int:=([1,2,4,8,16,32]:List Int).getD k 0
theorem ZqK {k:Nat} (h:k<6):(k=0∧Zdk k=1)∨(k=1∧Zdk k=2)∨(k=2∧Zdk k=4)∨(k=3∧Zdk k=8)∨(k=4∧Zdk k=16)∨(k=5∧Zdk k=32):=by
  have:k=0∨k=1∨k=2∨k=3∨k=4∨k=5:=by omega
  rcases this with rfl | rfl | rfl | rfl | rfl | rfl <;> simp [Zdk]
theorem ZkG {k:Nat} (h:k<6):0<Zdk k∧Zdk k≤32:=by rcases ZqK h with h | h | h | h | h | h <;> omega
theorem ZcV {α:Type} {p:α→Bool} {xs:List α} {k:Nat} {x:α} (hx:xs[k]? = some x):(xs.take (k+1)).any p=((xs.take k).any p || p x):=by
  rw [ZaD hx,List.any_append];simp
theorem Zm3 {α:Type} {p:α→Bool} {xs:List α} {k:Nat} {b:Bool} (h:b=(xs.take k).any p) (hk:xs.length≤k):b=xs.any p:=by rwa [List.take_of_length_le hk] at h
def onB (u:Str) (b:Int) (g:DGrant):Bool:=(decide (g.user=u) || decide (g.user=anyone)) && decide (Int.tmod (Int.tdiv g.rights b) 2=1)
def ZfF (gs:List DGrant) (u:Str):Nat→Int
  | 0=>0
  | k+1=>if gs.any (onB u (Zdk k))=true then ZfF gs u k+Zdk k else ZfF gs u k
theorem ZiY (gs:List DGrant) (u:Str) :∀k,k≤6→0≤ZfF gs u k∧ZfF gs u k≤100*k
  | 0,_=>by simp [ZfF]
  | k+1,h=>by
    have:=ZiY gs u k (by omega)
    have:=ZkG (k:=k) (by omega)
    simp only [ZfF]
    split <;> omega
def ZdP (gs:List DGrant) (u:Str):Int:=ZfF gs u 6
def ZoZ (f:DFolder) (u:Str) (r:Int):Bool:=decide (u=f.owner) || decide (Int.tmod (Int.tdiv (ZdP f.grants u) r) 2=1)
def Zjd (us:List DUser) (fs:List DFolder) (u:Str) (k:Int) (r:Int):Int:=
  if Zde us u<0∨k<0 then 1 else match fs[k.toNat]? with
    | none=>1
    | some f=>if ZoZ f u 1=false then 1 else if ZoZ f u r=false then 2 else 0
theorem ZqI {us:List DUser} {fs:List DFolder} {u:Str} {k r:Int} (h:Zde us u<0∨k<0):Zjd us fs u k r=1:=by rw [Zjd,if_pos h]
theorem ZtP {us:List DUser} {fs:List DFolder} {u:Str} {k r:Int} {f:DFolder} (h : ¬ (Zde us u<0∨k<0)) (hf:fs[k.toNat]? = some f):Zjd us fs u k r=if ZoZ f u 1=false then 1 else if ZoZ f u r=false then 2 else 0:=by
  rw [Zjd,if_neg h,hf]
theorem Zei {us:List DUser} {fs:List DFolder} {u:Str} {k r:Int} (h:Zjd us fs u k r=0):0≤Zde us u∧0≤k∧∃f,fs[k.toNat]? = some f∧ZoZ f u 1=true∧ZoZ f u r=true:=by
  unfold Zjd at h
  split at h
  · cases h
  · split at h
    · cases h
    · rename_i f hf
      split at h
      · cases h
      · split at h
        · cases h
        · rename_i h1 h2 h3
          exact ⟨by omega,by omega,f,hf,by simpa using h2,by simpa using h3⟩
def ZgW (b:DBox) (fl:Int) (t:Str):DBox × Bool:=if 10≤b.mail.length∨99<b.next then (b,false) else (⟨b.next+1,b.mail ++ [⟨b.next,fl,t⟩]⟩,true)
theorem Zl0 {b:DBox} {fl:Int} {t:Str} (h:10≤b.mail.length∨99<b.next):ZgW b fl t=(b,false):=by rw [ZgW,if_pos h]
theorem ZtS {b:DBox} {fl:Int} {t:Str} (h : ¬ (10≤b.mail.length∨99<b.next)):ZgW b fl t=(⟨b.next+1,b.mail ++ [⟨b.next,fl,t⟩]⟩,true):=by rw [ZgW,if_neg h]
def DFolder.withBox (f:DFolder) (b:DBox):DFolder:=⟨f.owner,f.name,f.grants,b.next,b.mail⟩
def DHost.withFolders (x:DHost) (fs:List DFolder):DHost:=⟨x.domain,x.users,fs,x.queue⟩
def DHost.withQueue (x:DHost) (q:DQueue):DHost:=⟨x.domain,x.users,x.folders,q⟩
def ZdY (us:List DUser) (n:Str):Int:=match us[(Zde us n).toNat]? with | some w=>w.quota | none=>0
def ZbP (x:DHost) (k:Nat) (fl:Int) (t:Str):DHost × Int:=
  match x.folders[k]? with
  | none=>(x,0)
  | some f=>if ZdY x.users f.owner<(ZaC x.folders f.owner:Int)+t.length then (x,3)
    else if (ZgW f.box fl t).2=true then (x.withFolders (x.folders.set k (f.withBox (ZgW f.box fl t).1)),0) else (x,4)
theorem Zmx {x:DHost} {k:Nat} {fl:Int} {t:Str} {f:DFolder} (hf:x.folders[k]? = some f) (h:ZdY x.users f.owner<(ZaC x.folders f.owner:Int)+t.length):ZbP x k fl t=(x,3):=by simp only [ZbP,hf,if_pos h]
theorem Zob {x:DHost} {k:Nat} {fl:Int} {t:Str} {f:DFolder} (hf:x.folders[k]? = some f) (h : ¬ ZdY x.users f.owner<(ZaC x.folders f.owner:Int)+t.length) (h2:(ZgW f.box fl t).2=false):ZbP x k fl t=(x,4):=by simp only [ZbP,hf,if_neg h,h2];rfl
theorem Zoc {x:DHost} {k:Nat} {fl:Int} {t:Str} {f:DFolder} (hf:x.folders[k]? = some f) (h : ¬ ZdY x.users f.owner<(ZaC x.folders f.owner:Int)+t.length) (h2:(ZgW f.box fl t).2=true):ZbP x k fl t=(x.withFolders (x.folders.set k (f.withBox (ZgW f.box fl t).1)),0):=by simp only [ZbP,hf,if_neg h,h2,if_true]
def ZaW (n:Int):Bool:=decide (0≤n) && decide (n≤31)
def Zkr (x:DHost) (by_ o n:Str) (fl:Int) (t:Str):DHost × Int:=
  if ¬ (Zx x=true∧ZaW fl=true∧t.length≤20) then (Za8,5)
  else if Zjd x.users x.folders by_ (Za0 (inF o n) x.folders) 8≠0 then (x,Zjd x.users x.folders by_ (Za0 (inF o n) x.folders) 8)
  else ZbP x (Za0 (inF o n) x.folders).toNat fl t
def ZeV (o n:Str):DFolder:=⟨o,n,[],1,[]⟩
def ZgK (fs:List DFolder) (f:DFolder):Nat:=(fs.takeWhile fun y=>ZbW y f).length
def Zhs (fs:List DFolder) (f:DFolder):List DFolder:=fs.take (ZgK fs f) ++ [f] ++ fs.drop (ZgK fs f)
def Zbl (x:DHost) (u n:Str):DHost × Int:=
  if ¬ (Zx x=true∧Zay n=true) then (Za8,5)
  else if Zde x.users u<0 then (x,1)
  else if 0≤Za0 (inF u n) x.folders∨8≤x.folders.length then (x,4)
  else (x.withFolders (Zhs x.folders (ZeV u n)),0)
def Zfc (u:Str) (r:Int) (s:Bool × List DGrant) (g:DGrant):Bool × List DGrant:=
  let s1:Bool × List DGrant:=if s.1=false∧Op.bytesLess g.user u=false then (true,s.2 ++ [⟨u,r⟩]) else s
  if g.user≠u then (s1.1,s1.2 ++ [g]) else s1
def Zez (u:Str) (r:Int) (gs:List DGrant):Bool × List DGrant:=gs.foldl (Zfc u r) (decide (r=0),[])
theorem Zcr {u:Str} {r:Int} {gs:List DGrant} {k:Nat} {x:DGrant} (hx:gs[k]? = some x):Zez u r (gs.take (k+1))=Zfc u r (Zez u r (gs.take k)) x:=by
  rw [ZaD hx,Zez,List.foldl_append];rfl
def ZgB (gs:List DGrant) (u:Str) (r:Int):List DGrant:=if (Zez u r gs).1=true then (Zez u r gs).2 else (Zez u r gs).2 ++ [⟨u,r⟩]
def ZdO (r:Int):Bool:=decide (0≤r) && decide (r≤63)
def Zb6 (gs:List DGrant) (u:Str) (r:Int):List DGrant × Bool:=
  if ¬ (ZcE gs=true∧Zay u=true∧ZdO r=true) then ([],false)
  else if ZcE (ZgB gs u r)=true then (ZgB gs u r,true) else (gs,false)
def DFolder.withGrants (f:DFolder) (gs:List DGrant):DFolder:=⟨f.owner,f.name,gs,f.next,f.mail⟩
def Ze5 (x:DHost) (k:Nat) (u:Str) (r:Int):DHost × Int:=
  match x.folders[k]? with
  | none=>(x,0)
  | some f=>if (Zb6 f.grants u r).2=true then (x.withFolders (x.folders.set k (f.withGrants (Zb6 f.grants u r).1)),0) else (x,4)
def Zb5 (x:DHost) (by_ o n u:Str) (r:Int):DHost × Int:=
  if ¬ (Zx x=true∧ZdO r=true) then (Za8,5)
  else if Zjd x.users x.folders by_ (Za0 (inF o n) x.folders) 32≠0 then (x,Zjd x.users x.folders by_ (Za0 (inF o n) x.folders) 32)
  else if u≠anyone∧Zde x.users u<0 then (x,1)
  else Ze5 x (Za0 (inF o n) x.folders).toNat u r
def Zbs (x:DHost) (l:DLetter):DHost × Int:=
  if ¬ (Zx x=true∧ZaO l=true) then (Za8,5)
  else if Zde x.users l.fr<0∨Zfx x.users l.to_=false then (x,1)
  else if (ZhQ x.queue l).2=true then (x.withQueue (ZhQ x.queue l).1,0) else (x,4)
def ZaU (x:DHost) (id:Int) (u:Str):DHost × Int:=
  if Zx x=false then (Za8,5)
  else if (Zca x.queue id u).2.2=false then (x,1)
  else if (ZbP x (Za0 (inF u inbox) x.folders).toNat 0 (Zca x.queue id u).2.1).2≠4 then
    ((ZbP x (Za0 (inF u inbox) x.folders).toNat 0 (Zca x.queue id u).2.1).1.withQueue (Zca x.queue id u).1,(ZbP x (Za0 (inF u inbox) x.folders).toNat 0 (Zca x.queue id u).2.1).2)
  else ZbP x (Za0 (inF u inbox) x.folders).toNat 0 (Zca x.queue id u).2.1
def Zla (s:DSpan):Bool:=(decide (0≤s.low) && decide (s.low≤99)) && (decide (0≤s.high) && decide (s.high≤99))
def Zh8 (s:List DSpan):Bool:=s.all Zla && (decide (1≤s.length) && decide (s.length≤6))
def ZdW (last n:Int) (s:DSpan):Bool:=decide (min (if s.low=0 then last else s.low) (if s.high=0 then last else s.high)≤n) && decide (n≤max (if s.low=0 then last else s.low) (if s.high=0 then last else s.high))
def Zgl (s:List DSpan) (last n:Int):Bool:=s.any (ZdW last n)
def Zc0 (s:List DSpan) (last:Int):Nat→List Int
  | 0=>[]
  | n+1=>if Zgl s last (n+1:Nat)=true then Zc0 s last n ++ [((n+1:Nat):Int)] else Zc0 s last n
def ZaH (s:List DSpan) (last:Int):List Int:=if Zh8 s=true then Zc0 s (min last 99) (min last 99).toNat else []
def Zj1 (n:Int) (k:Nat):Int:=Int.tmod (Int.tdiv n (Zdk k)) 2
def Ze9 (fl how ot:Int) (k:Nat):Bool:=(decide (how=1) && decide (0<Zj1 fl k+Zj1 ot k)) || (decide (how = -1) && decide (Zj1 fl k=1) && decide (Zj1 ot k=0)) || (decide (how=0) && decide (Zj1 ot k=1))
def ZiV (fl how ot:Int):Nat→Int
  | 0=>0
  | k+1=>if Ze9 fl how ot k=true then ZiV fl how ot k+Zdk k else ZiV fl how ot k
theorem ZnP (fl how ot:Int) :∀k,k≤5→0≤ZiV fl how ot k∧ZiV fl how ot k≤100*k
  | 0,_=>by simp [ZiV]
  | k+1,h=>by
    have:=ZnP fl how ot k (by omega)
    have:=ZkG (k:=k) (by omega)
    simp only [ZiV]
    split <;> omega
def chg (fl how ot:Int):Int:=ZiV fl how ot 5
theorem ZsJ (fl how ot:Int):0≤chg fl how ot∧chg fl how ot≤31:=by
  unfold chg
  simp only [ZiV,show Zdk 0=1 from rfl,show Zdk 1=2 from rfl,show Zdk 2=4 from rfl,show Zdk 3=8 from rfl,show Zdk 4=16 from rfl]
  split <;> split <;> split <;> split <;> split <;> omega
def ZpM (n:Nat) (b x:Int):Bool:=(decide (1≤x) && decide (x≤n)) && decide (b<x)
def ZdR (n:Nat) (xs:List Int):Bool × Int:=scn (ZpM n) (fun _ x=>x) 0 xs
def Zd7 (n:Nat) (xs:List Int):Bool:=(ZdR n xs).1
def ZgQ (ms:List DMail) (how fl:Int) (acc:List DMail) (n:Int):List DMail:=
  match acc[(n - 1).toNat]?,ms[(n - 1).toNat]? with
  | some a,some m=>acc.set (n - 1).toNat ⟨a.uid,chg m.flags how fl,a.text⟩
  | _,_=>acc
def Zd1 (ms:List DMail) (how fl:Int) (ns:List Int):List DMail:=ns.foldl (ZgQ ms how fl) ms
def Zkp (how:Int):Bool:=decide (-1≤how) && decide (how≤1)
def Zbk (b:DBox) (ns:List Int) (how fl:Int):DBox × Bool:=
  if Zbm b=true∧Zd7 b.mail.length ns=true∧Zkp how=true∧ZaW fl=true then (⟨b.next,Zd1 b.mail how fl ns⟩,true) else (⟨0,[]⟩,false)
def ZoY (m:DMail):Bool:=decide (Int.tmod (Int.tdiv m.flags 8) 2=1)
def Zcy (ms:List DMail):List DMail:=ms.filter fun m=>!ZoY m
def Zdf (s:Nat × List Int) (m:DMail):Nat × List Int:=if ZoY m=true then (s.1,s.2 ++ [((s.1+1:Nat):Int)]) else (s.1+1,s.2)
def Zks (ms:List DMail):Nat × List Int:=ms.foldl Zdf (0,[])
def expunge (b:DBox):DBox × List Int:=if Zbm b=true then (⟨b.next,Zcy b.mail⟩,(Zks b.mail).2) else (⟨0,[]⟩,[])
def atF (x:DHost) (s:DSess) (r:Int):Int × Int:=
  if Zjd x.users x.folders s.user (Za0 (inF s.owner s.name) x.folders) 2≠0 then (Za0 (inF s.owner s.name) x.folders,Zjd x.users x.folders s.user (Za0 (inF s.owner s.name) x.folders) 2)
  else (Za0 (inF s.owner s.name) x.folders,Zjd x.users x.folders s.user (Za0 (inF s.owner s.name) x.folders) r)
def Zhu (x:DHost) (k:Nat):DBox:=match x.folders[k]? with | some f=>f.box | none=>⟨0,[]⟩
def Zjt (x:DHost) (k:Nat) (b:DBox):DHost:=match x.folders[k]? with | some f=>x.withFolders (x.folders.set k (f.withBox b)) | none=>x
def Zcc (x:DHost) (s:DSess) (set:List DSpan) (how fl:Int):DHost × Int:=
  if ¬ (Zx x=true∧Zh8 set=true∧ZaW fl=true∧Zkp how=true) then (Za8,5)
  else if (atF x s 4).2≠0 then (x,(atF x s 4).2)
  else (Zjt x (atF x s 4).1.toNat (Zbk (Zhu x (atF x s 4).1.toNat) (ZaH set (Zhu x (atF x s 4).1.toNat).mail.length) how fl).1,0)
def ZaP (x:DHost) (s:DSess):DHost × List Int × Int:=
  if Zx x=false then (Za8,[],5)
  else if (atF x s 16).2≠0 then (x,[],(atF x s 16).2)
  else (Zjt x (atF x s 16).1.toNat (expunge (Zhu x (atF x s 16).1.toNat)).1,(expunge (Zhu x (atF x s 16).1.toNat)).2,0)
def ZbO (to:Nat) (s:DHost × Int) (m:DMail):DHost × Int:=if s.2=0 then ZbP s.1 to m.flags m.text else s
def ZiT (x:DHost) (ms:List DMail) (to:Nat):DHost × Int:=ms.foldl (ZbO to) (x,0)
def Zc6 (ms:List DMail) (n:Int):DMail:=match ms[(n - 1).toNat]? with | some m=>m | none=>⟨0,0,[]⟩
def Zev (x:DHost) (s:DSess) (set:List DSpan) (o n:Str):DHost × Int:=
  if ¬ (Zx x=true∧Zh8 set=true) then (Za8,5)
  else if (atF x s 2).2≠0 then (x,(atF x s 2).2)
  else if Zjd x.users x.folders s.user (Za0 (inF o n) x.folders) 8≠0 then (x,Zjd x.users x.folders s.user (Za0 (inF o n) x.folders) 8)
  else
    let ms:=(ZaH set (Zhu x (atF x s 2).1.toNat).mail.length).map (Zc6 (Zhu x (atF x s 2).1.toNat).mail)
    if (ZiT x ms (Za0 (inF o n) x.folders).toNat).2=0 then ZiT x ms (Za0 (inF o n) x.folders).toNat else (x,(ZiT x ms (Za0 (inF o n) x.folders).toNat).2)
structure DEvent where
  kind:Int
  by_:Str
  owner:Str
  name:Str
  to_:Str
  text:Str
  a:Int
  b:Int
deriving DecidableEq
def ZhM (x:DHost) (e:DEvent):DHost × Int:=
  if e.kind=1 then Zbl x e.by_ e.name
  else if e.kind=2 then Zb5 x e.by_ e.owner e.name e.to_ e.a
  else if e.kind=3 then Zkr x e.by_ e.owner e.name e.a e.text
  else if e.kind=4 then Zbs x ⟨e.by_,[e.to_],e.text⟩
  else if e.kind=5 then ZaU x e.a e.to_
  else if e.kind=6 then Zcc x ⟨e.by_,e.owner,e.name⟩ [⟨e.a,e.a⟩] 1 e.b
  else if e.kind=7 then ((ZaP x ⟨e.by_,e.owner,e.name⟩).1,(ZaP x ⟨e.by_,e.owner,e.name⟩).2.2)
  else if e.kind=8 then Zev x ⟨e.by_,e.owner,e.name⟩ [⟨e.a,e.a⟩] e.to_ inbox
  else (Za8,5)
def hDo (x:DHost) (e:DEvent):DHost × Int:=if Zx x=false then (Za8,5) else if (ZhM x e).2=5 then (x,5) else ZhM x e
end Go.BL
namespace Go.BL
open Go
set_option linter.unusedVariables false
set_option linter.unusedSimpArgs false
theorem Zau {x:DHost} : Zx x=true↔(Zcj x.domain=true∧Zas x.users=true∧Zag x.queue=true)∧((∀f,f∈x.folders→Z8 x.users f=true)∧Zf6 x.folders=true∧x.folders.length≤8)∧(∀u,u∈x.users→Zat x.folders u=true)∧(∀y,y∈x.queue.items→ZaE x.users y=true):=by
  simp only [Zx,ZcB,Bool.and_eq_true,decide_eq_true_eq,List.all_eq_true]
  constructor
  · rintro ⟨⟨⟨⟨⟨h1,h2⟩,h3⟩,⟨h4,h5⟩,h6⟩,h7⟩,h8⟩
    exact ⟨⟨h1,h2,h3⟩,⟨h4,h5,h6⟩,h7,h8⟩
  · rintro ⟨⟨h1,h2,h3⟩,⟨h4,h5,h6⟩,h7,h8⟩
    exact ⟨⟨⟨⟨⟨h1,h2⟩,h3⟩,⟨h4,h5⟩,h6⟩,h7⟩,h8⟩
theorem ZgN {α:Type} {fs:List α} {k i:Nat} {y g:α} (h:(fs.set k y)[i]? = some g):(i=k∧g=y∧k<fs.length)∨(i≠k∧fs[i]? = some g):=by
  have hi:=(List.getElem?_eq_some_iff.1 h).1
  rw [List.length_set] at hi
  rw [List.getElem?_set] at h
  split at h
  · rename_i e
    subst e
    simp [hi] at h
    exact .inl ⟨rfl,h.symm,hi⟩
  · rename_i e
    exact .inr ⟨fun e'=>e e'.symm,h⟩
theorem Zk1 :∀{fs:List DFolder} {k:Nat} {f:DFolder} (f':DFolder) (u:Str),fs[k]? = some f→ZaC (fs.set k f') u+(if f.owner=u then Zao f.mail else 0)=ZaC fs u+(if f'.owner=u then Zao f'.mail else 0)
  | [],_,_,_,_,h=>by simp at h
  | g :: fs,0,f,f',u,h=>by
    simp only [List.getElem?_cons_zero,Option.some.injEq] at h
    subst h
    simp only [List.set_cons_zero,ZaC,List.map_cons,List.sum_cons]
    omega
  | g :: fs,k+1,f,f',u,h=>by
    have:=Zk1 (fs:=fs) (k:=k) f' u (by simpa using h)
    simp only [ZaC] at this
    simp only [List.set_cons_succ,ZaC,List.map_cons,List.sum_cons]
    omega
theorem Zlp {a b a' b':DFolder} (h1:a.owner=a'.owner) (h2:a.name=a'.name) (h3:b.owner=b'.owner) (h4:b.name=b'.name):ZbW a b=ZbW a' b':=by simp only [ZbW,h1,h2,h3,h4]
theorem Zrm {fs:List DFolder} {k:Nat} {f f':DFolder} (h:Zf6 fs=true) (hf:fs[k]? = some f) (ho:f'.owner=f.owner) (hn:f'.name=f.name):Zf6 (fs.set k f')=true:=by
  rw [ZhC] at h ⊢
  intro i a b ha hb
  rcases ZgN ha with ⟨e1,e2,_⟩ | ⟨hi,ha'⟩
  · rcases ZgN hb with ⟨e,_,_⟩ | ⟨_,hb'⟩
    · omega
    · rw [e2,Zlp ho hn rfl rfl];exact h i _ _ (by rw [e1];exact hf) hb'
  · rcases ZgN hb with ⟨e,e2,_⟩ | ⟨_,hb'⟩
    · rw [e2,Zlp rfl rfl ho hn];exact h i _ _ ha' (by rw [e];exact hf)
    · exact h _ _ _ ha' hb'
theorem Ztq {fs:List DFolder} {k:Nat} {f f':DFolder} {o n:Str} (hf:fs[k]? = some f) (ho:f'.owner=f.owner) (hn:f'.name=f.name) (h:0≤Za0 (inF o n) fs):0≤Za0 (inF o n) (fs.set k f'):=by
  rw [Zch] at h ⊢
  obtain ⟨y,hy,hp⟩:=h
  obtain ⟨i,hi⟩:=List.mem_iff_getElem?.1 hy
  by_cases e:i=k
  · subst e
    rw [hf] at hi;cases hi
    refine ⟨f',List.mem_iff_getElem?.2 ⟨i,?_⟩,by simp only [inF,ho,hn] at hp ⊢;exact hp⟩
    have:=(List.getElem?_eq_some_iff.1 hf).1
    simp [List.getElem?_set,this]
  · exact ⟨y,List.mem_iff_getElem?.2 ⟨i,by rw [List.getElem?_set,if_neg (fun e'=>e e'.symm)];exact hi⟩,hp⟩
theorem ZrI {α:Type} {p:α→Bool} :∀{fs:List α} {k:Nat} {f f':α},fs[k]? = some f→p f'=p f→Za0 p (fs.set k f')=Za0 p fs:=by
  intro fs k f f' hf hp
  have :∀(fs:List α) (k:Nat),fs[k]? = some f→(fs.set k f').findIdx? p=fs.findIdx? p:=by
    intro fs
    induction fs with
    | nil=>intro k h;simp at h
    | cons g fs ih=>
      intro k h
      cases k with
      | zero=>
        simp only [List.getElem?_cons_zero,Option.some.injEq] at h
        subst h
        simp only [List.set_cons_zero,List.findIdx?_cons,hp]
      | succ k=>
        simp only [List.set_cons_succ,List.findIdx?_cons]
        rw [ih k (by simpa using h)]
  unfold Za0
  rw [this fs k hf]
theorem Zoa {us:List DUser} (h:Zas us=true) {w:DUser} (hw:w∈us):ZdY us w.name=w.quota:=by
  have h0:0≤Zde us w.name:=Zby.2 ⟨w,hw,rfl⟩
  have h1:=Zko us w.name
  obtain ⟨v,hv⟩ :∃v,us[(Zde us w.name).toNat]? = some v:=⟨_,List.getElem?_eq_getElem (by omega)⟩
  have h2:=ZnG h0 hv
  rw [Zfq,Zf2 (ZdV h) w hw] at h2
  cases h2
  simp only [ZdY,hv]
theorem Zno {us:List DUser} {f:DFolder} (h:Z8 us f=true) :∃w,w∈us∧w.name=f.owner:=by
  simp only [Z8,Bool.and_eq_true,decide_eq_true_eq] at h
  exact Zby.1 h.1.1.1
theorem ZgL {x:DHost} {k:Nat} {f f':DFolder} (h:Zx x=true) (hf:x.folders[k]? = some f) (ho:f'.owner=f.owner) (hn:f'.name=f.name) (hi:Z8 x.users f'=true)
    (hq:(ZaC x.folders f.owner:Int)+Zao f'.mail≤ZdY x.users f.owner+Zao f.mail∨Zao f'.mail≤Zao f.mail):Zx (x.withFolders (x.folders.set k f'))=true:=by
  rw [Zau] at h ⊢
  obtain ⟨⟨h1,h2,h3⟩,⟨h4,h5,h6⟩,h7,h8⟩:=h
  refine ⟨⟨h1,h2,h3⟩,⟨?_,Zrm h5 hf ho hn,by simpa [DHost.withFolders] using h6⟩,?_,h8⟩
  · intro g hg
    obtain ⟨i,hg⟩:=List.mem_iff_getElem?.1 hg
    rcases ZgN hg with ⟨_,rfl,_⟩ | ⟨_,hg⟩
    · exact hi
    · exact h4 g (List.mem_of_getElem? hg)
  · intro w hw
    have:=h7 w hw
    simp only [Zat,Bool.and_eq_true,decide_eq_true_eq] at this ⊢
    refine ⟨Ztq hf ho hn this.1,?_⟩
    have hu:=Zk1 f' w.name hf
    simp only [DHost.withFolders]
    by_cases e:f.owner=w.name
    · rw [if_pos e,if_pos (ho.trans e)] at hu
      rw [e,Zoa h2 hw] at hq
      omega
    · rw [if_neg e,if_neg (fun e'=>e (ho ▸ e'))] at hu
      omega
theorem Znq :∀{fs:List DFolder} {f:DFolder},Zf6 fs=true→(∀g,g∈fs→¬ (g.owner=f.owner∧g.name=f.name))→Zf6 (Zhs fs f)=true
  | [],f,_,_=>rfl
  | a :: r,f,h,hk=>by
    cases hl:ZbW a f with
    | true=>
      have e:Zhs (a :: r) f=a :: Zhs r f:=by simp [Zhs,ZgK,hl]
      have ih:=Znq (fs:=r) (f:=f) (by cases r with | nil=>rfl | cons b r=>simp only [Zf6,Bool.and_eq_true] at h;exact h.2) (fun g hg=>hk g (List.mem_cons_of_mem _ hg))
      rw [e]
      cases r with
      | nil=>simp [Zhs,ZgK,Zf6,hl]
      | cons b r=>
        simp only [Zf6,Bool.and_eq_true] at h
        cases hb:ZbW b f with
        | true=>
          have e2:Zhs (b :: r) f=b :: Zhs r f:=by simp [Zhs,ZgK,hb]
          rw [e2] at ih ⊢
          simp only [Zf6,h.1,Bool.true_and];exact ih
        | false=>
          have e2:Zhs (b :: r) f=f :: b :: r:=by simp [Zhs,ZgK,hb]
          rw [e2] at ih ⊢
          simp only [Zf6,hl,Bool.true_and] at ih ⊢;exact ih
    | false=>
      have e:Zhs (a :: r) f=f :: a :: r:=by simp [Zhs,ZgK,hl]
      rw [e]
      have hne:=hk a (List.mem_cons_self ..)
      have:ZbW f a=true:=by
        unfold ZbW at hl ⊢
        rw [Zbr f.owner a.owner,Zbr f.name a.name]
        simp only [Bool.or_eq_false_iff,Bool.and_eq_false_iff,decide_eq_false_iff_not] at hl
        by_cases e:a.owner=f.owner
        · have e2:a.name≠f.name:=fun e2=>hne ⟨e,e2⟩
          rcases hl.2 with h2 | h2
          · exact absurd e h2
          · simp [e,Zdb,h2,e2]
        · simp [hl.1,e]
      simp only [Zf6,this,Bool.true_and];exact h
theorem ZpW {fs:List DFolder} {f g:DFolder} : g∈Zhs fs f↔g∈fs∨g=f:=by
  have e:fs=fs.take (ZgK fs f) ++ fs.drop (ZgK fs f):=(List.take_append_drop _ _).symm
  constructor
  · intro h
    simp only [Zhs,List.mem_append,List.mem_singleton] at h
    rcases h with (h | h) | h
    · exact .inl (List.mem_of_mem_take h)
    · exact .inr h
    · exact .inl (List.mem_of_mem_drop h)
  · intro h
    simp only [Zhs,List.mem_append,List.mem_singleton]
    rcases h with h | h
    · rw [e,List.mem_append] at h
      rcases h with h | h
      · exact .inl (.inl h)
      · exact .inr h
    · exact .inl (.inr h)
theorem Zd3 (as bs:List DFolder) (u:Str):ZaC (as ++ bs) u=ZaC as u+ZaC bs u:=by simp [ZaC]
theorem Zpg (fs:List DFolder) (f:DFolder) (u:Str):ZaC (Zhs fs f) u=ZaC fs u+(if f.owner=u then Zao f.mail else 0):=by
  have e:ZaC fs u=ZaC (fs.take (ZgK fs f)) u+ZaC (fs.drop (ZgK fs f)) u:=by rw [← Zd3,List.take_append_drop]
  rw [Zhs,Zd3,Zd3,e]
  simp only [ZaC,List.map_cons,List.map_nil,List.sum_cons,List.sum_nil];omega
theorem Zto (fs:List DFolder) (f:DFolder):(Zhs fs f).length=fs.length+1:=by
  have:=congrArg List.length (List.take_append_drop (ZgK fs f) fs)
  simp only [List.length_append] at this
  simp only [Zhs,List.length_append,List.length_cons,List.length_nil];omega
theorem Zkq {x:DHost} {u n:Str} (h:Zx x=true) (hn:Zay n=true) (hu : ¬ Zde x.users u<0) (hk : ¬ (0≤Za0 (inF u n) x.folders∨8≤x.folders.length)):Zx (x.withFolders (Zhs x.folders (ZeV u n)))=true:=by
  rw [Zau] at h ⊢
  obtain ⟨⟨h1,h2,h3⟩,⟨h4,h5,h6⟩,h7,h8⟩:=h
  refine ⟨⟨h1,h2,h3⟩,⟨?_,Znq h5 ?_,by show (Zhs x.folders _).length≤8;rw [Zto];omega⟩,?_,h8⟩
  · intro g hg
    rcases ZpW.1 hg with hg | rfl
    · exact h4 g hg
    · have e2:ZcE []=true:=by decide
      have e3:Zbm ⟨1,[]⟩=true:=by decide
      simp only [Z8,ZeV,DFolder.box,e2,e3,hn,Bool.and_true]
      exact decide_eq_true (by simp only [DHost.withFolders];omega)
  · rintro g hg ⟨e1,e2⟩
    exact hk (.inl (Zch.2 ⟨g,hg,by simp [inF,e1,e2,ZeV]⟩))
  · intro w hw
    have:=h7 w hw
    simp only [Zat,Bool.and_eq_true,decide_eq_true_eq] at this ⊢
    have e:ZaC (Zhs x.folders (ZeV u n)) w.name=ZaC x.folders w.name:=by
      rw [Zpg];simp [ZeV,Zao]
    obtain ⟨g,hg,hp⟩:=Zch.1 this.1
    refine ⟨Zch.2 ⟨g,ZpW.2 (.inl hg),hp⟩,?_⟩
    show ((ZaC (Zhs x.folders (ZeV u n)) w.name:Nat):Int)≤w.quota
    rw [e];exact this.2
theorem ZoF {x:DHost} {u n:Str} (h:Zx x=true):(Zbl x u n).2=5∨Zx (Zbl x u n).1=true:=by
  unfold Zbl
  split
  · exact .inl rfl
  · rename_i h1
    split
    · exact .inr h
    · rename_i h2
      split
      · exact .inr h
      · rename_i h3
        exact .inr (Zkq h (by simp only [h,true_and,Decidable.not_not] at h1;exact h1) h2 h3)
theorem Zln {ms:List DMail} {b:Int} {m:DMail} (h:Zcg ms=(true,b)) (hm:ZbQ b m=true):Zcg (ms ++ [m])=(true,m.uid):=by
  rw [Zcg,scn,List.foldl_append]
  have:ms.foldl (fun (s:Bool × Int) x=>(s.1 && ZbQ s.2 x,x.uid)) (true,0)=(true,b):=h
  rw [this];simp [hm]
theorem Zfn {b:DBox} (h:Zbm b=true) :∃l,Zcg b.mail=(true,l)∧l+1≤b.next∧b.next≤100∧b.mail.length≤10:=by
  simp only [Zbm,Bool.and_eq_true,decide_eq_true_eq] at h
  exact ⟨(Zcg b.mail).2,Prod.ext h.1.1 rfl,h.1.2.1,h.1.2.2,h.2⟩
theorem Zj7 :∀(xs:List DMail) (b0 b:Int),xs.foldl (fun (s:Bool × Int) x=>(s.1 && ZbQ s.2 x,x.uid)) (true,b0)=(true,b)→b0≤b
  | [],b0,b,h=>by cases h;omega
  | x :: xs,b0,b,h=>by
    simp only [List.foldl_cons,Bool.true_and] at h
    cases hp:ZbQ b0 x with
    | false=>
      rw [hp] at h
      have:=ZbT (p:=ZbQ) (nx:=fun _ m=>m.uid) xs x.uid
      rw [h] at this;cases this
    | true=>
      rw [hp] at h
      have:=Zj7 xs x.uid b h
      simp only [ZbQ,Bool.and_eq_true,decide_eq_true_eq] at hp
      omega
theorem ZoS {b:DBox} {fl:Int} {t:Str} (h:Zbm b=true) (hf:ZaW fl=true) (ht:t.length≤20) (h2:(ZgW b fl t).2=true):Zbm (ZgW b fl t).1=true∧Zao (ZgW b fl t).1.mail=Zao b.mail+t.length:=by
  obtain ⟨l,hs,hl,hn,hk⟩:=Zfn h
  have h0:=Zj7 b.mail 0 l hs
  unfold ZgW at h2 ⊢
  split at h2
  · cases h2
  · rename_i hc
    rw [if_neg hc]
    simp only [ZaW,Bool.and_eq_true,decide_eq_true_eq] at hf
    have hm:ZbQ l ⟨b.next,fl,t⟩=true:=by
      simp only [ZbQ,ZbB,Bool.and_eq_true,decide_eq_true_eq];omega
    refine ⟨?_,by simp [Zao]⟩
    rw [ZdE (Zln hs hm)]
    simp only [Bool.and_eq_true,decide_eq_true_eq,List.length_append,List.length_cons,List.length_nil]
    omega
theorem Zhk {us:List DUser} {f:DFolder} {b:DBox} (h:Z8 us f=true) (hb:Zbm b=true):Z8 us (f.withBox b)=true:=by
  simp only [Z8,Bool.and_eq_true,decide_eq_true_eq] at h ⊢
  exact ⟨⟨⟨h.1.1.1,h.1.1.2⟩,h.1.2⟩,hb⟩
theorem Zbt {x:DHost} {k:Nat} {f:DFolder} (h:Zx x=true) (hf:x.folders[k]? = some f):Z8 x.users f=true:=(Zau.1 h).2.1.1 f (List.mem_of_getElem? hf)
theorem Zb4 {us:List DUser} {f:DFolder} (h:Z8 us f=true):Zbm f.box=true:=by simp only [Z8,Bool.and_eq_true] at h;exact h.2
theorem ZhA {x:DHost} {k:Nat} {fl:Int} {t:Str} (h:Zx x=true) (hf:ZaW fl=true) (ht:t.length≤20):Zx (ZbP x k fl t).1=true:=by
  unfold ZbP
  split
  · exact h
  · rename_i f hk
    split
    · exact h
    · rename_i hq
      split
      · rename_i h2
        obtain ⟨h3,h4⟩:=ZoS (Zb4 (Zbt h hk)) hf ht h2
        refine ZgL h hk rfl rfl (Zhk (Zbt h hk) h3) (.inl ?_)
        show (ZaC x.folders f.owner:Int)+Zao (ZgW f.box fl t).1.mail≤ZdY x.users f.owner+Zao f.mail
        rw [h4,show f.box.mail=f.mail from rfl];omega
      · exact h
theorem ZU {x:DHost} {k:Nat} {fl:Int} {t:Str} : (ZbP x k fl t).1.users=x.users∧(ZbP x k fl t).1.queue=x.queue∧(ZbP x k fl t).1.domain=x.domain∧(ZbP x k fl t).1.folders.length=x.folders.length:=by
  unfold ZbP
  split
  · exact ⟨rfl,rfl,rfl,rfl⟩
  · split
    · exact ⟨rfl,rfl,rfl,rfl⟩
    · split
      · exact ⟨rfl,rfl,rfl,by simp [DHost.withFolders]⟩
      · exact ⟨rfl,rfl,rfl,rfl⟩
theorem Ztu {x:DHost} {b o n:Str} {fl:Int} {t:Str} (h:Zx x=true):(Zkr x b o n fl t).2=5∨Zx (Zkr x b o n fl t).1=true:=by
  unfold Zkr
  split
  · exact .inl rfl
  · rename_i h1
    simp only [h,true_and,Decidable.not_not] at h1
    split
    · exact .inr h
    · exact .inr (ZhA h h1.1 h1.2)
theorem ZqQ {gs:List DGrant} {u:Str} {r:Int} (h:(Zb6 gs u r).2=true):ZcE (Zb6 gs u r).1=true:=by
  unfold Zb6 at h ⊢
  split
  · rename_i h1;rw [if_pos h1] at h;cases h
  · rename_i h1
    rw [if_neg h1] at h
    split
    · assumption
    · rename_i h2;rw [if_neg h2] at h;cases h
theorem Zqe {x:DHost} {b o n u:Str} {r:Int} (h:Zx x=true):(Zb5 x b o n u r).2=5∨Zx (Zb5 x b o n u r).1=true:=by
  unfold Zb5
  split
  · exact .inl rfl
  · split
    · exact .inr h
    · split
      · exact .inr h
      · right
        unfold Ze5
        split
        · exact h
        · rename_i f hk
          split
          · rename_i h2
            refine ZgL h hk rfl rfl ?_ (.inr (Nat.le_refl _))
            have:=Zbt h hk
            simp only [Z8,Bool.and_eq_true,decide_eq_true_eq] at this ⊢
            exact ⟨⟨⟨this.1.1.1,this.1.1.2⟩,ZqQ h2⟩,this.2⟩
          · exact h
theorem Ze1 {x:DHost} {q:DQueue} (h:Zx x=true) (hq:Zag q=true) (hi :∀y,y∈q.items→ZaE x.users y=true):Zx (x.withQueue q)=true:=by
  rw [Zau] at h ⊢
  exact ⟨⟨h.1.1,h.1.2.1,hq⟩,h.2.1,h.2.2.1,hi⟩
theorem ZhJ {x:DHost} (h:Zx x=true):Zag x.queue=true:=(Zau.1 h).1.2.2
theorem ZoE {x:DHost} {l:DLetter} (h:Zx x=true):(Zbs x l).2=5∨Zx (Zbs x l).1=true:=by
  unfold Zbs
  split
  · exact .inl rfl
  · split
    · exact .inr h
    · rename_i h2
      split
      · rename_i h3
        refine .inr (Ze1 h (ZoR h3) fun y hy=>?_)
        rw [(ZlY h3).1] at hy
        simp only [List.mem_append,List.mem_singleton] at hy
        rcases hy with hy | rfl
        · exact (Zau.1 h).2.2.2 y hy
        · simp only [not_or,Bool.not_eq_false] at h2
          simp only [ZaE,h2.2,Bool.and_true]
          exact decide_eq_true (by omega)
      · exact .inr h
theorem ZnX {id:Int} {u:Str} {xs:List DItem} {y:DItem} (h:y∈ZeF id u xs) :∃z,z∈xs∧y.fr=z.fr∧(∀n,n∈y.left→n∈z.left):=by
  simp only [ZeF,List.mem_filter,List.mem_map] at h
  obtain ⟨⟨z,hz,rfl⟩,_⟩:=h
  refine ⟨z,hz,?_,?_⟩
  · unfold ZbK;split <;> rfl
  · intro n hn
    unfold ZbK at hn
    split at hn
    · exact (List.mem_filter.1 hn).1
    · exact hn
theorem Zjo :∀(xs:List DItem) {id:Int} {u:Str} (s:Str × Bool),(xs.foldl (ZbZ id u) s).2=true→s.2=true∨∃y,y∈xs∧u∈y.left
  | [],_,_,s,h=>.inl h
  | x :: xs,id,u,s,h=>by
    rcases Zjo xs (ZbZ id u s x) h with h | ⟨y,hy,hu⟩
    · unfold ZbZ at h
      split at h
      · rename_i hc;exact .inr ⟨x,List.mem_cons_self ..,hc.2⟩
      · exact .inl h
    · exact .inr ⟨y,List.mem_cons_of_mem _ hy,hu⟩
theorem ZoJ {x:DHost} {id:Int} {u:Str} (h:Zx x=true) (hf:(Zca x.queue id u).2.2=true):0≤Za0 (inF u inbox) x.folders:=by
  obtain ⟨_,_,h7,h8⟩:=Zau.1 h
  rcases Zjo x.queue.items (id:=id) (u:=u) ([],false) hf with h0 | ⟨y,hy,hu⟩
  · cases h0
  · have:=h8 y hy
    simp only [ZaE,Zfx,Bool.and_eq_true,List.all_eq_true,decide_eq_true_eq] at this
    obtain ⟨w,hw,rfl⟩:=Zby.1 (this.2 u hu)
    have:=h7 w hw
    simp only [Zat,Bool.and_eq_true,decide_eq_true_eq] at this
    exact this.1
theorem Znd :∀(xs:List DItem) {id:Int} {u:Str} (s:Str × Bool),s.1.length≤20→(∀y,y∈xs→Zcz y=true)→(xs.foldl (ZbZ id u) s).1.length≤20
  | [],_,_,s,h,_=>h
  | x :: xs,id,u,s,h,ha=>by
    refine Znd xs (ZbZ id u s x) ?_ fun y hy=>ha y (List.mem_cons_of_mem _ hy)
    unfold ZbZ
    split
    · have:=ha x (List.mem_cons_self ..)
      simp only [Zcz,ZaO,Bool.and_eq_true,decide_eq_true_eq] at this
      exact this.2
    · exact h
theorem Zhq {x:DHost} {id:Int} {u:Str} (h:Zx x=true):(Zca x.queue id u).2.1.length≤20:=
  Znd x.queue.items ([],false) (by simp) fun y hy=>ZdQ (ZhJ h) hy
theorem ZmM {x:DHost} {id:Int} {u:Str} (h:Zx x=true):(ZaU x id u).2=5∨Zx (ZaU x id u).1=true:=by
  right
  unfold ZaU
  rw [if_neg (show ¬ Zx x=false by simp [h])]
  split
  · exact h
  · rename_i hf
    have hp:Zx (ZbP x (Za0 (inF u inbox) x.folders).toNat 0 (Zca x.queue id u).2.1).1=true:=ZhA h (by decide) (Zhq h)
    split
    · have e:=ZU (x:=x) (k:=(Za0 (inF u inbox) x.folders).toNat) (fl:=0) (t:=(Zca x.queue id u).2.1)
      have hq:Zc4 x.queue id u=Zca x.queue id u:=by rw [Zc4,if_pos (ZhJ h)]
      refine Ze1 hp ?_ fun y hy=>?_
      · rw [← hq];exact ZnW (by rw [hq];simpa using hf)
      · obtain ⟨z,hz,e1,e2⟩:=ZnX (show y∈ZeF id u x.queue.items from hy)
        have:=(Zau.1 h).2.2.2 z hz
        simp only [ZaE,Zfx,Bool.and_eq_true,List.all_eq_true,e.1,e1] at this ⊢
        exact ⟨this.1,fun n hn=>this.2 n (e2 n hn)⟩
    · exact hp
theorem Zlb {x:DHost} {k:Nat} {b:DBox} (h:Zx x=true) (hb :∀f,x.folders[k]? = some f→Zbm b=true∧Zao b.mail≤Zao f.mail):Zx (Zjt x k b)=true:=by
  unfold Zjt
  split
  · rename_i f hf
    exact ZgL h hf rfl rfl (Zhk (Zbt h hf) (hb f hf).1) (.inr (hb f hf).2)
  · exact h
def Like (ms ms':List DMail):Prop:=ms'.length=ms.length∧∀(i:Nat) (a b:DMail),ms[i]? = some a→ms'[i]? = some b→b.uid=a.uid∧b.text=a.text∧(b.flags=a.flags∨(0≤b.flags∧b.flags≤31))
theorem Like.refl (ms:List DMail):Like ms ms:=⟨rfl,fun i a b h1 h2=>by rw [h1] at h2;cases h2;exact ⟨rfl,rfl,.inl rfl⟩⟩
theorem Like.set {ms acc:List DMail} {k:Nat} {a:DMail} {fl:Int} (h:Like ms acc) (ha:acc[k]? = some a) (hf:0≤fl∧fl≤31):Like ms (acc.set k ⟨a.uid,fl,a.text⟩):=by
  refine ⟨by rw [List.length_set];exact h.1,fun i c d hc hd=>?_⟩
  rcases ZgN hd with ⟨rfl,rfl,_⟩ | ⟨_,hd⟩
  · have:=h.2 _ _ _ hc ha
    exact ⟨this.1,this.2.1,.inr hf⟩
  · exact h.2 _ _ _ hc hd
theorem ZlH {ms acc:List DMail} {how fl n:Int} (h:Like ms acc):Like ms (ZgQ ms how fl acc n):=by
  unfold ZgQ
  split
  · rename_i a m ha hm;exact h.set ha (ZsJ _ _ _)
  · exact h
theorem Zho {ms:List DMail} {how fl:Int} :∀(ns:List Int) {acc:List DMail},Like ms acc→Like ms (ns.foldl (ZgQ ms how fl) acc)
  | [],_,h=>h
  | n :: ns,_,h=>Zho ns (ZlH h)
theorem Zlo :∀{ms ms':List DMail} (b0 b:Int),Like ms ms'→ms.foldl (fun (s:Bool × Int) x=>(s.1 && ZbQ s.2 x,x.uid)) (true,b0)=(true,b)→ms'.foldl (fun (s:Bool × Int) x=>(s.1 && ZbQ s.2 x,x.uid)) (true,b0)=(true,b)∧Zao ms'=Zao ms
  | [],ms',b0,b,h,hs=>by
    have:ms'=[]:=List.length_eq_zero_iff.1 h.1
    subst this;exact ⟨hs,rfl⟩
  | x :: ms,[],b0,b,h,hs=>by cases h.1
  | x :: ms,y :: ms',b0,b,h,hs=>by
    obtain ⟨h1,h2⟩:=h
    obtain ⟨e1,e2,e3⟩:=h2 0 x y rfl rfl
    simp only [List.foldl_cons,Bool.true_and] at hs ⊢
    cases hp:ZbQ b0 x with
    | false=>
      rw [hp] at hs
      have:=ZbT (p:=ZbQ) (nx:=fun _ m=>m.uid) ms x.uid
      rw [hs] at this;cases this
    | true=>
      rw [hp] at hs
      have hq:ZbQ b0 y=true:=by
        simp only [ZbQ,ZbB,Bool.and_eq_true,decide_eq_true_eq] at hp ⊢
        rw [e1,e2]
        rcases e3 with e3 | e3
        · rw [e3];exact hp
        · omega
      rw [hq,e1]
      obtain ⟨h3,h4⟩:=Zlo (ms:=ms) (ms':=ms') x.uid b ⟨by simpa using h1,fun i a c ha hc=>h2 (i+1) a c (by simpa using ha) (by simpa using hc)⟩ hs
      refine ⟨h3,?_⟩
      simp only [Zao,List.map_cons,List.sum_cons,e2] at h4 ⊢
      omega
theorem Zrv {b:DBox} {ms:List DMail} (h:Zbm b=true) (hl:Like b.mail ms):Zbm ⟨b.next,ms⟩=true∧Zao ms=Zao b.mail:=by
  obtain ⟨l,hs,h1,h2,h3⟩:=Zfn h
  obtain ⟨h4,h5⟩:=Zlo 0 l hl hs
  refine ⟨?_,h5⟩
  rw [ZdE (b:=⟨b.next,ms⟩) h4]
  simp only [Bool.and_eq_true,decide_eq_true_eq,hl.1];omega
theorem Zit :∀(ms:List DMail) (b0 b1 b:Int),b1≤b0→ms.foldl (fun (s:Bool × Int) x=>(s.1 && ZbQ s.2 x,x.uid)) (true,b0)=(true,b)→∃c,c≤b∧(Zcy ms).foldl (fun (s:Bool × Int) x=>(s.1 && ZbQ s.2 x,x.uid)) (true,b1)=(true,c)∧Zao (Zcy ms)≤Zao ms
  | [],b0,b1,b,hb,h=>by cases h;exact ⟨b1,hb,rfl,Nat.le_refl _⟩
  | x :: ms,b0,b1,b,hb,h=>by
    simp only [List.foldl_cons,Bool.true_and] at h
    cases hp:ZbQ b0 x with
    | false=>
      rw [hp] at h
      have:=ZbT (p:=ZbQ) (nx:=fun _ m=>m.uid) ms x.uid
      rw [h] at this;cases this
    | true=>
      rw [hp] at h
      have hx:b0<x.uid:=by simp only [ZbQ,Bool.and_eq_true,decide_eq_true_eq] at hp;exact hp.2
      cases hd:ZoY x with
      | true=>
        obtain ⟨c,h1,h2,h3⟩:=Zit ms x.uid b1 b (by omega) h
        have e:Zcy (x :: ms)=Zcy ms:=by simp [Zcy,hd]
        rw [e]
        refine ⟨c,h1,h2,?_⟩
        simp only [Zao,List.map_cons,List.sum_cons] at h3 ⊢;omega
      | false=>
        obtain ⟨c,h1,h2,h3⟩:=Zit ms x.uid x.uid b (by omega) h
        have e:Zcy (x :: ms)=x :: Zcy ms:=by simp [Zcy,hd]
        rw [e]
        have hq:ZbQ b1 x=true:=by
          simp only [ZbQ,Bool.and_eq_true,decide_eq_true_eq] at hp ⊢
          exact ⟨hp.1,by omega⟩
        refine ⟨c,h1,?_,?_⟩
        · simp only [List.foldl_cons,Bool.true_and,hq];exact h2
        · simp only [Zao,List.map_cons,List.sum_cons] at h3 ⊢;omega
theorem ZrC {b:DBox} (h:Zbm b=true):Zbm ⟨b.next,Zcy b.mail⟩=true∧Zao (Zcy b.mail)≤Zao b.mail:=by
  obtain ⟨l,hs,h1,h2,h3⟩:=Zfn h
  obtain ⟨c,h4,h5,h6⟩:=Zit b.mail 0 0 l (by omega) hs
  refine ⟨?_,h6⟩
  have:(Zcy b.mail).length≤b.mail.length:=List.length_filter_le _ _
  rw [ZdE (b:=⟨b.next,Zcy b.mail⟩) h5]
  simp only [Bool.and_eq_true,decide_eq_true_eq];omega
theorem Zdp {x:DHost} {k:Nat} {f:DFolder} (h:x.folders[k]? = some f):Zhu x k=f.box:=by simp only [Zhu,h]
theorem ZhN {x:DHost} {s:DSess} {r:Int} (h:(atF x s r).2=0):(atF x s r).1=Za0 (inF s.owner s.name) x.folders∧0≤(atF x s r).1∧0≤Zde x.users s.user∧∃f,x.folders[(atF x s r).1.toNat]? = some f∧ZoZ f s.user 1=true∧ZoZ f s.user 2=true∧ZoZ f s.user r=true:=by
  unfold atF at h ⊢
  split at h
  · rename_i h1;exact absurd h h1
  · rename_i h1
    rw [if_neg h1]
    obtain ⟨h2,h3,f,hf,h4,h5⟩:=Zei h
    obtain ⟨_,_,f',hf',_,h6⟩:=Zei (Decidable.not_not.1 h1)
    rw [hf] at hf';cases hf'
    exact ⟨rfl,h3,h2,f,hf,h4,h6,h5⟩
theorem Zqd {x:DHost} {s:DSess} {set:List DSpan} {how fl:Int} (h:Zx x=true):(Zcc x s set how fl).2=5∨Zx (Zcc x s set how fl).1=true∨(Zd7 (Zhu x (atF x s 4).1.toNat).mail.length (ZaH set (Zhu x (atF x s 4).1.toNat).mail.length)=false):=by
  unfold Zcc
  split
  · exact .inl rfl
  · rename_i h1
    split
    · exact .inr (.inl h)
    · rename_i h2
      cases hn:Zd7 (Zhu x (atF x s 4).1.toNat).mail.length (ZaH set (Zhu x (atF x s 4).1.toNat).mail.length) with
      | false=>exact .inr (.inr rfl)
      | true=>
        refine .inr (.inl (Zlb h fun f hf=>?_))
        simp only [h,true_and,Decidable.not_not] at h1
        have hb:=Zb4 (Zbt h hf)
        rw [Zdp hf] at hn ⊢
        rw [Zbk,if_pos ⟨hb,hn,h1.2.2,h1.2.1⟩]
        obtain ⟨h4,h5⟩:=Zrv hb (Zho (how:=how) (fl:=fl) (ZaH set f.box.mail.length) (Like.refl f.box.mail))
        exact ⟨h4,Nat.le_of_eq h5⟩
theorem ZmL {x:DHost} {s:DSess} (h:Zx x=true):(ZaP x s).2.2=5∨Zx (ZaP x s).1=true:=by
  unfold ZaP
  split
  · exact .inl rfl
  · split
    · exact .inr h
    · refine .inr (Zlb h fun f hf=>?_)
      have hb:=Zb4 (Zbt h hf)
      rw [Zdp hf,expunge,if_pos hb]
      exact ZrC hb
theorem ZgH (s:List DSpan) (last:Int) :∀(n:Nat) (y:Int),y∈Zc0 s last n→1≤y∧y≤n
  | 0,y,h=>by cases h
  | n+1,y,h=>by
    simp only [Zc0] at h
    split at h
    · rw [List.mem_append,List.mem_singleton] at h
      rcases h with h | rfl
      · have:=ZgH s last n y h;omega
      · omega
    · have:=ZgH s last n y h;omega
theorem Zlk {m:Nat} {xs:List Int} {b y:Int} (h:ZdR m xs=(true,b)) (hy:ZpM m b y=true):ZdR m (xs ++ [y])=(true,y):=by
  rw [ZdR,scn,List.foldl_append]
  have:xs.foldl (fun (s:Bool × Int) x=>(s.1 && ZpM m s.2 x,x)) (true,0)=(true,b):=h
  rw [this];simp [hy]
theorem Zih (s:List DSpan) (last:Int) (m:Nat) :∀n,n≤m→∃b,ZdR m (Zc0 s last n)=(true,b)∧b≤n
  | 0,_=>⟨0,rfl,by simp⟩
  | n+1,h=>by
    obtain ⟨b,h1,h2⟩:=Zih s last m n (by omega)
    simp only [Zc0]
    split
    · exact ⟨_,Zlk h1 (by simp only [ZpM,Bool.and_eq_true,decide_eq_true_eq];omega),by omega⟩
    · exact ⟨b,h1,by omega⟩
theorem ZpL (s:List DSpan) (m:Nat):Zd7 m (ZaH s m)=true:=by
  unfold ZaH
  split
  · obtain ⟨b,h,_⟩:=Zih s (min (m:Int) 99) m (min (m:Int) 99).toNat (by omega)
    rw [Zd7,h]
  · rfl
theorem ZjA {s:List DSpan} {m:Nat} {y:Int} (h:y∈ZaH s m):1≤y∧y≤m:=by
  unfold ZaH at h
  split at h
  · have:=ZgH _ _ _ _ h;omega
  · cases h
theorem Zjy (s:List DSpan) (last:Int) :∀n,(Zc0 s last n).length≤n
  | 0=>by simp [Zc0]
  | n+1=>by
    have:=Zjy s last n
    simp only [Zc0]
    split
    · simp;omega
    · omega
theorem ZmW {to:Nat} {s:DHost × Int} {m:DMail} (h:Zx s.1=true) (hm:ZbB m=true):Zx (ZbO to s m).1=true:=by
  unfold ZbO
  simp only [ZbB,Bool.and_eq_true,decide_eq_true_eq] at hm
  split
  · exact ZhA h (by simp only [ZaW,Bool.and_eq_true,decide_eq_true_eq];exact hm.1.2) hm.2
  · exact h
theorem ZiU {to:Nat} :∀(ms:List DMail) (s:DHost × Int),Zx s.1=true→(∀m,m∈ms→ZbB m=true)→Zx (ms.foldl (ZbO to) s).1=true
  | [],_,h,_=>h
  | m :: ms,s,h,hm=>ZiU ms _ (ZmW h (hm m (List.mem_cons_self ..))) fun y hy=>hm y (List.mem_cons_of_mem _ hy)
theorem ZpX {b:DBox} (h:Zbm b=true) {y:Int} (hy:1≤y∧y≤b.mail.length):ZbB (Zc6 b.mail y)=true:=by
  unfold Zc6
  have :∃m,b.mail[(y - 1).toNat]? = some m:=⟨_,List.getElem?_eq_getElem (by omega)⟩
  obtain ⟨m,hm⟩:=this
  simp only [hm]
  exact (ZdD h).1 m (List.mem_of_getElem? hm)
theorem ZrO {x:DHost} {s:DSess} {set:List DSpan} {o n:Str} (h:Zx x=true):(Zev x s set o n).2=5∨Zx (Zev x s set o n).1=true:=by
  unfold Zev
  split
  · exact .inl rfl
  · split
    · exact .inr h
    · rename_i h2
      split
      · exact .inr h
      · obtain ⟨_,_,_,f,hf,_⟩:=ZhN (Decidable.not_not.1 h2)
        have hb:=Zb4 (Zbt h hf)
        simp only []
        split
        · refine .inr (ZiU _ _ h fun m hm=>?_)
          obtain ⟨y,hy,rfl⟩:=List.mem_map.1 hm
          rw [Zdp hf] at hy ⊢
          exact ZpX hb (ZjA hy)
        · exact .inr h
theorem ZtA {x:DHost} {e:DEvent} (h:Zx x=true):(ZhM x e).2=5∨Zx (ZhM x e).1=true:=by
  unfold ZhM
  split
  · exact ZoF h
  · split
    · exact Zqe h
    · split
      · exact Ztu h
      · split
        · exact ZoE h
        · split
          · exact ZmM h
          · split
            · rcases Zqd (x:=x) (s:=⟨e.by_,e.owner,e.name⟩) (set:=[⟨e.a,e.a⟩]) (how:=1) (fl:=e.b) h with h | h | h
              · exact .inl h
              · exact .inr h
              · rw [ZpL] at h;cases h
            · split
              · exact ZmL h
              · split
                · exact ZrO h
                · exact .inl rfl
theorem Zur {x:DHost} {e:DEvent} (h:Zx x=true):Zx (hDo x e).1=true:=by
  unfold hDo
  rw [h]
  simp only [Bool.true_eq_false,if_false]
  split
  · exact h
  · rename_i h2
    rcases ZtA (e:=e) h with h3 | h3
    · exact absurd h3 h2
    · exact h3
end Go.BL
namespace Go.BL
open Go
set_option linter.unusedVariables false
set_option linter.unusedSimpArgs false
theorem Zri {k:Nat} {e:Int} (h:([1,2,4,8,16,32]:List Int)[k]? = some e):e=Zdk k:=by rw [Zdk,List.getD_eq_getElem?_getD,h];rfl
theorem ZpH {k:Nat} {e:Int} (h:([1,2,4,8,16]:List Int)[k]? = some e):e=Zdk k:=by
  have hk:=(List.getElem?_eq_some_iff.1 h).1
  simp only [List.length_cons,List.length_nil] at hk
  have:k=0∨k=1∨k=2∨k=3∨k=4:=by omega
  rcases this with rfl | rfl | rfl | rfl | rfl <;> simp at h <;> rw [← h] <;> rfl
theorem Zjx {a b:Int} (h0:0≤a) (h1:a≤1000000) (hb:0<b):IntKind.i64.wrap (Int.tdiv a b)=Int.tdiv a b:=
  ZaY (Int.le_trans (by decide) (Int.tdiv_nonneg h0 (by omega))) (Int.le_trans (Int.tdiv_le_self _ h0) (by omega))
theorem Zl2 {gs:List DGrant} (h:ZcE gs=true) :∀y,y∈gs→0≤y.rights∧y.rights≤63:=by
  intro y hy
  simp only [ZcE,Bool.and_eq_true] at h
  obtain ⟨b,hb⟩:=Zj6 (p:=ZcG) (nx:=fun _ g=>g.user) gs [] h.1 y hy
  simp only [ZcG,Bool.and_eq_true,decide_eq_true_eq] at hb;omega
def ZhR (fs:List DFolder):Prop:=∀f,f∈fs→∀y,y∈f.grants→0≤y.rights∧y.rights≤63
theorem ZcA {x:DHost} (h:Zx x=true):ZhR x.folders:=fun f hf=>by
  have:=(Zau.1 h).2.1.1 f hf
  simp only [Z8,Bool.and_eq_true] at this
  exact Zl2 this.1.2
theorem Zmr (gs:List DGrant) (u:Str):0≤ZdP gs u∧ZdP gs u≤600:=ZiY gs u 6 (Nat.le_refl _)
theorem Zpe :∀{fs:List DFolder} (us:List DUser) (u:Str),(∀f,f∈fs→Z8 us f=true)→ZaC fs u≤fs.length*200
  | [],_,_,_=>by simp [ZaC]
  | f :: fs,us,u,h=>by
    have ih:=Zpe us u fun g hg=>h g (List.mem_cons_of_mem _ hg)
    obtain ⟨h1,h2⟩:=ZdD (Zb4 (h f (List.mem_cons_self ..)))
    have h3:Zao f.mail≤f.mail.length*20:=ZfP _ h1
    have h4:f.mail.length≤10:=h2
    simp only [ZaC,List.map_cons,List.sum_cons,List.length_cons] at ih ⊢
    split <;> omega
theorem ZfZ {x:DHost} (h:Zx x=true) (u:Str):ZaC x.folders u≤1600:=by
  obtain ⟨_,⟨h4,_,h6⟩,_⟩:=Zau.1 h
  have:=Zpe x.users u h4
  omega
theorem Zdo {b:DBox} (h:Zbm b=true):1≤b.next∧b.next≤100∧b.mail.length≤10:=by
  obtain ⟨l,hs,h1,h2,h3⟩:=Zfn h
  have:=Zj7 b.mail 0 l hs
  omega
structure GHC where
  q1:Option Addr
  c1:Nat
  q3:Option Addr
  c3:Nat
  b:Nat
theorem Zg5 {α:Type} {p:α→Bool} :∀{fs:List α} {k:Nat},(∀y,y∈fs.take k→p y=true)→(fs.length≤k∨∃z,fs[k]? = some z∧p z=false)→k≤fs.length→(fs.takeWhile p).length=k
  | [],k,_,_,hk=>by simp at hk;subst hk;rfl
  | a :: fs,0,_,he,_=>by
    rcases he with he | ⟨z,hz,hp⟩
    · simp at he
    · simp at hz;subst hz;simp [hp]
  | a :: fs,k+1,ha,he,hk=>by
    have h1:p a=true:=ha a (by simp)
    have ih:=Zg5 (fs:=fs) (k:=k) (fun y hy=>ha y (by simp [hy])) (by
      rcases he with he | ⟨z,hz,hp⟩
      · exact .inl (by simpa using he)
      · exact .inr ⟨z,by simpa using hz,hp⟩) (by simpa using hk)
    simp [h1,ih]
theorem Zcp {x:DHost} {u n:Str} {k:Nat} (h1:Zx x=true) (h2:Zay n=true) (h3 : ¬ Zde x.users u<0) (h4 : ¬ 0≤Za0 (inF u n) x.folders) (h5 : ¬ 8≤x.folders.length) (hk:k≤x.folders.length)
    (ha :∀y,y∈x.folders.take k→ZbW y (ZeV u n)=true) (he:x.folders.length≤k∨∃z,x.folders[k]? = some z∧ZbW z (ZeV u n)=false) :
    Zbl x u n=(x.withFolders (((x.folders.take k).drop 0 ++ [⟨u,n,[],1,[]⟩]) ++ (x.folders.take x.folders.length).drop k),0):=by
  rw [Zbl,if_neg (fun h=>h ⟨h1,h2⟩),if_neg h3,if_neg (fun h=>h.elim h4 h5),Zhs,show ZgK x.folders (ZeV u n)=k from Zg5 ha he hk,List.drop_zero,List.take_length]
  rfl
theorem ZgX {gs:List DGrant} {u:Str} {r:Int} (h : ¬ (ZcE gs=true∧Zay u=true∧ZdO r=true)):Zb6 gs u r=([],false):=by rw [Zb6,if_pos h]
theorem Zl1 {gs:List DGrant} {u:Str} {r:Int} (h:ZcE gs=true∧Zay u=true∧ZdO r=true) (h2:ZcE (ZgB gs u r)=false):Zb6 gs u r=(gs,false):=by rw [Zb6,if_neg (fun a=>a h),if_neg (by rw [h2];exact Bool.false_ne_true)]
theorem Zj2 {gs:List DGrant} {u:Str} {r:Int} (h:ZcE gs=true∧Zay u=true∧ZdO r=true) (h2:ZcE (ZgB gs u r)=true):Zb6 gs u r=(ZgB gs u r,true):=by rw [Zb6,if_neg (fun a=>a h),if_pos h2]
theorem ZgY {gs xs:List DGrant} {u:Str} {r:Int} (h:(true,xs)=Zez u r gs):ZgB gs u r=xs:=by rw [ZgB,← h];rfl
theorem ZgZ {gs xs:List DGrant} {u:Str} {r:Int} (h:(false,xs)=Zez u r gs):ZgB gs u r=xs ++ [⟨u,r⟩]:=by rw [ZgB,← h];rfl
theorem Zi1 {gs:List DGrant} (h:ZcE gs=true):gs.length≤4:=by simp only [ZcE,Bool.and_eq_true,decide_eq_true_eq] at h;exact h.2
theorem ZjO {x:DHost} {k:Nat} {f:DFolder} {u:Str} {r:Int} (hf:x.folders[k]? = some f) (h:(Zb6 f.grants u r).2=false):Ze5 x k u r=(x,4):=by simp only [Ze5,hf,h];rfl
theorem ZiE {x:DHost} {k:Nat} {f:DFolder} {u:Str} {r:Int} (hf:x.folders[k]? = some f) (h:(Zb6 f.grants u r).2=true):Ze5 x k u r=(x.withFolders (x.folders.set k (f.withGrants (Zb6 f.grants u r).1)),0):=by simp only [Ze5,hf,h,if_true]
theorem Zjz {n:Nat} {xs:List Int} {k:Nat} {x b:Int} (hx:xs[k]? = some x) (hs:ZdR n (xs.take k)=(true,b)) (h:ZpM n b x=false):Zd7 n xs=false:=Zhz hx hs h
theorem Zoj {n:Nat} {xs:List Int} {b:Int} (h:ZdR n xs=(true,b)):Zd7 n xs=true:=by rw [Zd7,h]
theorem Zoi {n:Nat} {xs:List Int} (h:Zd7 n xs=true) :∀y,y∈xs→1≤y∧y≤n:=by
  intro y hy
  obtain ⟨b,hb⟩:=Zj6 (p:=ZpM n) (nx:=fun _ x=>x) xs 0 h y hy
  simp only [ZpM,Bool.and_eq_true,decide_eq_true_eq] at hb;omega
theorem ZlG {ms:List DMail} {how fl:Int} {ns:List Int} {k:Nat} {y:Int} {a m:DMail} (hy:ns[k]? = some y) (ha:(Zd1 ms how fl (ns.take k))[(y - 1).toNat]? = some a) (hm:ms[(y - 1).toNat]? = some m) :
    Zd1 ms how fl (ns.take (k+1))=(Zd1 ms how fl (ns.take k)).set (y - 1).toNat ⟨a.uid,chg m.flags how fl,a.text⟩:=by
  have e:Zd1 ms how fl (ns.take (k+1))=ZgQ ms how fl (Zd1 ms how fl (ns.take k)) y:=by rw [ZaD hy,Zd1,List.foldl_append];rfl
  rw [e,ZgQ,ha,hm]
theorem Zf3 {b:DBox} (h:Zbm b=true) {m:DMail} (hm:m∈b.mail):0≤m.flags∧m.flags≤31:=by
  have:=(ZdD h).1 m hm
  simp only [ZbB,Bool.and_eq_true,decide_eq_true_eq] at this;exact this.1.2
theorem ZrA {ms:List DMail} {k:Nat} {x:DMail} (hx:ms[k]? = some x) (h:ZoY x=false):Zcy (ms.take (k+1))=Zcy (ms.take k) ++ [x]:=by
  rw [ZaD hx,Zcy,List.filter_append];simp [Zcy,h]
theorem Ztm {ms:List DMail} {k:Nat} {x:DMail} (hx:ms[k]? = some x) (h:ZoY x=true):Zcy (ms.take (k+1))=Zcy (ms.take k):=by
  rw [ZaD hx,Zcy,List.filter_append];simp [Zcy,h]
theorem ZjP {ms:List DMail} {k:Nat} {x:DMail} (hx:ms[k]? = some x):Zks (ms.take (k+1))=Zdf (Zks (ms.take k)) x:=by
  rw [ZaD hx,Zks,List.foldl_append];rfl
theorem Zqf (ms:List DMail):(Zks ms).1=(Zcy ms).length:=by
  have key :∀(ms:List DMail) (s:Nat × List Int),(ms.foldl Zdf s).1=s.1+(Zcy ms).length:=by
    intro ms
    induction ms with
    | nil=>intro s;rfl
    | cons m ms ih=>
      intro s
      rw [List.foldl_cons,ih,Zdf]
      cases hd:ZoY m with
      | true=>simp [Zcy,hd]
      | false=>simp [Zcy,hd];omega
  rw [Zks,key];simp
theorem ZrB (ms:List DMail) (k:Nat):(Zcy (ms.take k)).length≤k:=Nat.le_trans (List.length_filter_le _ _) (by rw [List.length_take];omega)
theorem Zoh {s:List DSpan} {last:Int} {n:Nat} (h:Zgl s last (n+1:Nat)=true):Zc0 s last (n+1)=Zc0 s last n ++ [((n+1:Nat):Int)]:=by simp only [Zc0,h,if_true]
theorem ZpK {s:List DSpan} {last:Int} {n:Nat} (h:Zgl s last (n+1:Nat)=false):Zc0 s last (n+1)=Zc0 s last n:=by simp only [Zc0,h];rfl
theorem Zh9 {x:DHost} {k:Nat} {b:DBox} {f:DFolder} (h:x.folders[k]? = some f):Zjt x k b=x.withFolders (x.folders.set k (f.withBox b)):=by simp only [Zjt,h]
theorem Zex {b:DBox} {ns:List Int} {how fl:Int} (h : ¬ (Zbm b=true∧Zd7 b.mail.length ns=true∧Zkp how=true∧ZaW fl=true)):Zbk b ns how fl=(⟨0,[]⟩,false):=by rw [Zbk,if_neg h]
theorem ZlS {b:DBox} {ns:List Int} {how fl:Int} (h:Zbm b=true∧Zd7 b.mail.length ns=true∧Zkp how=true∧ZaW fl=true):Zbk b ns how fl=(⟨b.next,Zd1 b.mail how fl ns⟩,true):=by rw [Zbk,if_pos h]
structure GEx where
  k:Nat
  m:Gh DMail
  n:Gh Int
structure GCp where
  k:Nat
  x:DHost
  c:Int
  q1:Option Addr
  c1:Nat
  q2:Option Addr
  c2:Nat
  q3:Option Addr
  c3:Nat
theorem ZqH {ns:List Int} {ms:List DMail} {to k:Nat} {y:Int} {s:DHost × Int} (hy:ns[k]? = some y):((ns.take (k+1)).map (Zc6 ms)).foldl (ZbO to) s=ZbO to (((ns.take k).map (Zc6 ms)).foldl (ZbO to) s) (Zc6 ms y):=by
  rw [ZaD hy,List.map_append,List.foldl_append];rfl
theorem ZgS {to:Nat} :∀(ms:List DMail) (s:DHost × Int),s.2≠0→ms.foldl (ZbO to) s=s
  | [],_,_=>rfl
  | m :: ms,s,h=>by rw [List.foldl_cons,ZbO,if_neg h];exact ZgS ms s h
theorem ZqG {ns:List Int} {ms:List DMail} {to k:Nat} {s:DHost × Int} {y:DHost} {c:Int} (h:(y,c)=((ns.take k).map (Zc6 ms)).foldl (ZbO to) s) (hc : ¬ c=0):(y,c)=(ns.map (Zc6 ms)).foldl (ZbO to) s:=by
  have e:ns=ns.take k ++ ns.drop k:=(List.take_append_drop k ns).symm
  conv=>rhs;rw [e,List.map_append,List.foldl_append,← h,ZgS _ _ hc]
theorem ZlB {x:DHost} {s:DSess} {set:List DSpan} {o n:Str} {f:DFolder} {y:DHost} {c:Int} (h : ¬ ¬ (Zx x=true∧Zh8 set=true)) (ha:(atF x s 2).2=0) (hf:x.folders[(atF x s 2).1.toNat]? = some f)
    (hr:(y,c)=((ZaH set f.mail.length).map (Zc6 f.mail)).foldl (ZbO (Za0 (inF o n) x.folders).toNat) (x,Zjd x.users x.folders s.user (Za0 (inF o n) x.folders) 8)):Zev x s set o n=if c=0 then (y,0) else (x,c):=by
  rw [Zev,if_neg h,if_neg (fun h=>h ha),Zdp hf]
  by_cases h8:Zjd x.users x.folders s.user (Za0 (inF o n) x.folders) 8=0
  · rw [if_neg (fun h=>h h8)]
    rw [h8] at hr
    have e:ZiT x ((ZaH set f.mail.length).map (Zc6 f.mail)) (Za0 (inF o n) x.folders).toNat=(y,c):=hr.symm
    show (if (ZiT x ((ZaH set f.mail.length).map (Zc6 f.mail)) (Za0 (inF o n) x.folders).toNat).2=0 then ZiT x ((ZaH set f.mail.length).map (Zc6 f.mail)) (Za0 (inF o n) x.folders).toNat else (x,(ZiT x ((ZaH set f.mail.length).map (Zc6 f.mail)) (Za0 (inF o n) x.folders).toNat).2))=_
    rw [e]
    by_cases hc:c=0
    · simp only [hc,if_true]
    · simp only [hc,if_false]
  · rw [if_pos h8]
    rw [ZgS _ _ h8] at hr
    cases hr
    rw [if_neg h8]
theorem Zok (s:List DSpan) (m:Nat):(ZaH s m).length≤m:=by
  unfold ZaH
  split
  · have:=Zjy s (min (m:Int) 99) (min (m:Int) 99).toNat
    omega
  · simp
theorem Zfo (gs:List DGrant) (u:Str) (r:Int):(Zb6 gs u r).1.length≤gs.length+4:=by
  unfold Zb6
  split
  · simp
  · split
    · rename_i h;have:=Zi1 h;simp only [];omega
    · simp only [];omega
theorem Zsf (b:DBox) (fl:Int) (t:Str):(ZgW b fl t).1.mail.length≤b.mail.length+1:=by
  unfold ZgW;split <;> simp
theorem ZmR (b:DBox):(expunge b).1.mail.length≤b.mail.length∧(expunge b).2.length≤b.mail.length:=by
  unfold expunge
  split
  · have key :∀(ms:List DMail) (s:Nat × List Int),(ms.foldl Zdf s).2.length≤s.2.length+ms.length:=by
      intro ms
      induction ms with
      | nil=>intro s;simp
      | cons m ms ih=>
        intro s
        rw [List.foldl_cons]
        cases hd:ZoY m with
        | true=>
          have:=ih (s.1,s.2 ++ [((s.1+1:Nat):Int)])
          rw [Zdf,if_pos hd]
          simp only [List.length_append,List.length_cons,List.length_nil] at this ⊢;omega
        | false=>
          have:=ih (s.1+1,s.2)
          rw [Zdf,if_neg (by simp [hd])]
          simp only [List.length_cons] at this ⊢;omega
    have:=key b.mail (0,[])
    exact ⟨List.length_filter_le _ _,by simpa [Zks] using this⟩
  · simp
def ZQ (b:DBox) (fl:Int) (t:Str):DBox × Bool:=if Zbm b=true∧ZaW fl=true∧t.length≤20 then ZgW b fl t else (⟨0,[]⟩,false)
theorem Zfa {b:DBox} {fl:Int} {t:Str} (h : ¬ (Zbm b=true∧ZaW fl=true∧t.length≤20)):ZQ b fl t=(⟨0,[]⟩,false):=by rw [ZQ,if_neg h]
theorem ZkF {b:DBox} {fl:Int} {t:Str} (h:Zbm b=true∧ZaW fl=true∧t.length≤20):ZQ b fl t=ZgW b fl t:=by rw [ZQ,if_pos h]
theorem ZdT (b:DBox) (fl:Int) (t:Str):0≤(ZQ b fl t).1.next∧(ZQ b fl t).1.next≤101∧(ZQ b fl t).1.mail.length≤11:=by
  unfold ZQ
  split
  · rename_i h
    have:=Zdo h.1
    unfold ZgW
    split
    · simp only [];omega
    · simp;omega
  · simp
theorem ZG (b:DBox):0≤(expunge b).1.next∧(expunge b).1.next≤101∧(expunge b).1.mail.length≤10:=by
  unfold expunge
  split
  · rename_i h
    have:=Zdo h
    have:=List.length_filter_le (fun m=>!ZoY m) b.mail
    simp only [Zcy];omega
  · simp
theorem Zgv {us:List DUser} {f:DFolder} (h:Z8 us f=true):f.grants.length≤4:=by
  simp only [Z8,Bool.and_eq_true] at h;exact Zi1 h.1.2
theorem ZmJ {x:DHost} (h:Zx x=true) :∀y,y∈x.queue.items→0<y.left.length:=fun y hy=>by
  have:=ZdQ (ZhJ h) hy
  simp only [Zcz,ZaO,Bool.and_eq_true,decide_eq_true_eq] at this
  exact this.1.2
theorem ZgM {x:DHost} (h:Zx x=true):0<x.folders.length∧0<x.users.length:=by
  obtain ⟨⟨_,h2,_⟩,_,h7,_⟩:=Zau.1 h
  simp only [Zas,Bool.and_eq_true,decide_eq_true_eq] at h2
  have hu:0<x.users.length:=by omega
  refine ⟨?_,hu⟩
  have:=h7 _ (List.getElem_mem hu)
  simp only [Zat,Bool.and_eq_true,decide_eq_true_eq] at this
  obtain ⟨f,hf,_⟩:=Zch.1 this.1
  exact List.length_pos_of_mem hf
def ZfE (a b:Int):List DUser:=[⟨[97,109,121],[97,49],60⟩,⟨[98,111,98],[98,50],20+a⟩,⟨[99,121,100],[99,51],100+b⟩]
theorem ZqB {a b:Int} (h1:0≤a) (h2:a<60) (h3:0≤b) (h4:b<100):Zcl [104,111,115,116,46,111,114,103] (ZfE a b)=(ZpN [104,111,115,116,46,111,114,103] (ZfE a b),true)∧Zx (ZpN [104,111,115,116,46,111,114,103] (ZfE a b))=true:=by
  have hd:Zcj [104,111,115,116,46,111,114,103]=true:=by decide
  have hu:Zas (ZfE a b)=true:=by
    have e1:Zb9 [] ⟨[97,109,121],[97,49],60⟩=true:=by decide
    have e2:Zb9 [97,109,121] ⟨[98,111,98],[98,50],20+a⟩=true:=by
      have:(decide (0≤20+a) && decide (20+a≤200))=true:=by simp;omega
      simp only [Zb9,ZbI,this,Bool.and_true];rfl
    have e3:Zb9 [98,111,98] ⟨[99,121,100],[99,51],100+b⟩=true:=by
      have:(decide (0≤100+b) && decide (100+b≤200))=true:=by simp;omega
      simp only [Zb9,ZbI,this,Bool.and_true];rfl
    simp [Zas,Zc8,scn,ZfE,e1,e2,e3]
  have:=Zmy [104,111,115,116,46,111,114,103] (ZfE a b)
  rw [hd,hu] at this
  exact ⟨ZiA this,this⟩
structure GHo where
  k:Nat
  p:Nat
  x:DHost
  q1:Option Addr
  c1:Nat
  q2:Option Addr
  c2:Nat
  q3:Option Addr
  c3:Nat
structure GBo where
  k:Nat
  p:Nat
  l:Cells
  a:Option Addr
  c:Nat
  x:DBox
structure GAc where
  k:Nat
  p:Nat
  l:Cells
  a:Option Addr
  c:Nat
  xs:List DGrant
theorem Zlz {x:DHost} {u:Str} (h : ¬ Zbo x u<0):Zx x=true∧0≤Zde x.users u∧Zbo x u=ZaC x.folders u:=by
  unfold Zbo at h ⊢
  split at h
  · rename_i hc;rw [if_pos hc];exact ⟨hc.1,hc.2,rfl⟩
  · omega
theorem ZnV {x:DHost} {u:Str} (h:Zx x=true) (hu:0≤Zde x.users u):(Zan x.users u).2=true∧(ZaC x.folders u:Int)≤(Zan x.users u).1.quota:=by
  obtain ⟨w,hw,rfl⟩:=Zby.1 hu
  rw [Zgd (Zhh h) hw]
  refine ⟨rfl,?_⟩
  have:=(Zau.1 h).2.2.1 w hw
  simp only [Zat,Bool.and_eq_true,decide_eq_true_eq] at this
  exact this.2
theorem Zlc {x:DHost} {n p:Str} (h:(Zbg x n p).2=true):Zx x=true∧ZbS x.users n p=true∧(Zbg x n p).1=⟨n,n,inbox⟩:=by
  unfold Zbg at h ⊢
  split at h
  · rename_i hc;rw [if_pos hc];exact ⟨hc.1,hc.2,rfl⟩
  · cases h
theorem Zha {x:DHost} {n p:Str} : (Zbg x n p).2=(Zx x && ZbS x.users n p):=by
  unfold Zbg
  split
  · rename_i h;rw [h.1,h.2];rfl
  · rename_i h
    rw [← Bool.and_eq_true,Bool.not_eq_true] at h
    rw [h]
theorem Zja {x:DHost} {o n:Str} (h:(ZP x o n).2=true):Zx x=true∧(ZP x o n).1∈x.folders∧(ZP x o n).1.owner=o∧(ZP x o n).1.name=n:=by
  unfold ZP at h ⊢
  split at h
  · rename_i hx
    rw [if_pos hx]
    split at h
    · rename_i f hf
      have h1:=List.mem_of_find?_eq_some hf
      have h2:=List.find?_some hf
      simp only [inF,Bool.and_eq_true,decide_eq_true_eq] at h2
      simp only [hf]
      exact ⟨hx,h1,h2.1,h2.2⟩
    · cases h
  · cases h
theorem Zie :∀{fs:List DFolder},Zf6 fs=true→fs.Pairwise fun a b=>ZbW a b=true
  | [],_=>.nil
  | [_],_=>.cons (by simp) .nil
  | a :: b :: r,h=>by
    simp only [Zf6,Bool.and_eq_true] at h
    have ih:=Zie (fs:=b :: r) h.2
    have tr :∀c,c∈b :: r→ZbW a c=true:=by
      intro c hc
      rcases List.mem_cons.1 hc with rfl | hc
      · exact h.1
      · have h2:ZbW b c=true:=by cases ih with | cons h3 _=>exact h3 c hc
        have h1:=h.1
        simp only [ZbW,Bool.or_eq_true,Bool.and_eq_true,decide_eq_true_eq] at h1 h2 ⊢
        rcases h1 with h1 | ⟨e1,h1⟩
        · rcases h2 with h2 | ⟨e2,h2⟩
          · exact .inl (Zdl h1 h2)
          · exact .inl (e2 ▸ h1)
        · rcases h2 with h2 | ⟨e2,h2⟩
          · exact .inl (e1 ▸ h2)
          · exact .inr ⟨e1.trans e2,Zdl h1 h2⟩
    exact .cons tr ih
theorem Znw {a b:DFolder} (h:ZbW a b=true) : ¬ (a.owner=b.owner∧a.name=b.name):=by
  rintro ⟨e1,e2⟩
  simp only [ZbW,e1,e2,Zdb,Bool.and_false,Bool.or_false] at h
  cases h
theorem ZhL :∀{fs:List DFolder},fs.Pairwise (fun a b=>ZbW a b=true)→∀f,f∈fs→fs.find? (inF f.owner f.name)=some f
  | [],_,f,h=>by cases h
  | a :: fs,hp,f,h=>by
    cases hp with
    | cons h1 h2=>
      rw [List.find?_cons]
      rcases List.mem_cons.1 h with rfl | h
      · simp [inF]
      · have:=Znw (h1 f h)
        have e:inF f.owner f.name a=false:=by
          rw [Bool.eq_false_iff];intro hc
          simp only [inF,Bool.and_eq_true,decide_eq_true_eq] at hc
          exact this hc
        rw [e]
        exact ZhL h2 f h
theorem Zfy {x:DHost} (h:Zx x=true) {f:DFolder} (hf:f∈x.folders):ZP x f.owner f.name=(f,true):=by
  rw [ZP,if_pos h,ZhL (Zie (Zau.1 h).2.1.2.1) f hf]
theorem Zht {x:DHost} (h:Zx x=true) {w:DUser} (hw:w∈x.users):(ZP x w.name inbox).2=true:=by
  have:=(Zau.1 h).2.2.1 w hw
  simp only [Zat,Bool.and_eq_true,decide_eq_true_eq] at this
  obtain ⟨f,hf,hp⟩:=Zch.1 this.1
  simp only [inF,Bool.and_eq_true,decide_eq_true_eq] at hp
  rw [← hp.1,← hp.2,Zfy h hf]
theorem Zlj {α:Type} {R:α→α→Prop} {xs:List α} (h:xs.Pairwise R) (k:Nat):(xs.take k ++ xs.drop (k+1)).Pairwise R:=by
  have e:xs.drop (k+1)=(xs.drop k).drop 1:=by rw [List.drop_drop]
  have h2:(xs.take k ++ xs.drop k).Pairwise R:=by rw [List.take_append_drop];exact h
  rw [e]
  exact h2.sublist (List.Sublist.append_left (List.drop_sublist 1 _) _)
theorem ZpJ :∀{fs:List DFolder},fs.Pairwise (fun a b=>ZbW a b=true)→Zf6 fs=true
  | [],_=>rfl
  | [_],_=>rfl
  | a :: b :: r,h=>by
    cases h with
    | cons h1 h2=>simp only [Zf6,h1 b (List.mem_cons_self ..),Bool.true_and];exact ZpJ h2
theorem ZqF {α:Type} {xs:List α} {k:Nat} {y:α} (h:y∈xs.take k ++ xs.drop (k+1)):y∈xs:=by
  rcases List.mem_append.1 h with h | h
  · exact List.mem_of_mem_take h
  · exact List.mem_of_mem_drop h
theorem Zte {α:Type} {xs:List α} {k:Nat} {f y:α} (hf:xs[k]? = some f) (h:y∈xs) (hne:y≠f):y∈xs.take k ++ xs.drop (k+1):=by
  obtain ⟨i,hi⟩:=List.mem_iff_getElem?.1 h
  rw [List.mem_append]
  rcases Nat.lt_trichotomy i k with h1 | h1 | h1
  · exact .inl (List.mem_of_getElem? (i:=i) (by rw [List.getElem?_take,if_pos h1];exact hi))
  · subst h1;rw [hf] at hi;cases hi;exact absurd rfl hne
  · exact .inr (List.mem_of_getElem? (i:=i - (k+1)) (by rw [List.getElem?_drop,show k+1+(i - (k+1))=i from by omega];exact hi))
theorem Zs8 {α:Type} {R:α→α→Prop} (hR :∀a b,R a b→a≠b) {xs:List α} (h:xs.Pairwise R) {k:Nat} {f:α} (hf:xs[k]? = some f):f ∉ xs.take k ++ xs.drop (k+1):=by
  intro hc
  have h0:=h
  have e:xs=xs.take k ++ f :: xs.drop (k+1):=by
    have hlt:=(List.getElem?_eq_some_iff.1 hf).1
    rw [← (List.getElem?_eq_some_iff.1 hf).2,← List.drop_eq_getElem_cons hlt,List.take_append_drop]
  rw [e,List.pairwise_append] at h
  obtain ⟨h1,h2,h3⟩:=h
  rcases List.mem_append.1 hc with hc | hc
  · exact hR _ _ (h3 f hc f (List.mem_cons_self ..)) rfl
  · cases h2 with
    | cons h4 _=>exact hR _ _ (h4 f hc) rfl
theorem Zpi {xs:List DFolder} (u:Str) (k:Nat):ZaC (xs.take k ++ xs.drop (k+1)) u≤ZaC xs u:=by
  have e:ZaC xs u=ZaC (xs.take k) u+ZaC (xs.drop k) u:=by rw [← Zd3,List.take_append_drop]
  have e2:ZaC (xs.drop k) u=ZaC ((xs.drop k).take 1) u+ZaC ((xs.drop k).drop 1) u:=by rw [← Zd3,List.take_append_drop]
  rw [Zd3,e,e2,List.drop_drop];omega
theorem Zs7 {x:DHost} {k:Nat} {f:DFolder} (h:Zx x=true) (hf:x.folders[k]? = some f):Zx (⟨x.domain,x.users,(x.folders.take k).drop 0 ++ (x.folders.take x.folders.length).drop (k+1),⟨x.queue.next,x.queue.items⟩⟩:DHost)=decide (f.name≠inbox):=by
  rw [List.drop_zero,List.take_length]
  have hx:=h
  rw [Zau] at h
  obtain ⟨⟨h1,h2,h3⟩,⟨h4,h5,h6⟩,h7,h8⟩:=h
  have hp:=Zie h5
  by_cases hn:f.name=inbox
  · rw [decide_eq_false (by simp [hn]),Bool.eq_false_iff]
    intro hc
    rw [Zau] at hc
    obtain ⟨_,_,c7,_⟩:=hc
    obtain ⟨w,hw,hwo⟩:=Zno (h4 f (List.mem_of_getElem? hf))
    have:=c7 w hw
    simp only [Zat,Bool.and_eq_true,decide_eq_true_eq] at this
    obtain ⟨g,hg,hpg⟩:=Zch.1 this.1
    simp only [inF,Bool.and_eq_true,decide_eq_true_eq] at hpg
    have e1:=ZhL hp f (List.mem_of_getElem? hf)
    have e2:=ZhL hp g (ZqF hg)
    rw [hpg.1,hpg.2,hwo,← hn,e1] at e2
    cases e2
    exact Zs8 (fun a b hab e=>by rw [e] at hab;exact Znw hab ⟨rfl,rfl⟩) hp hf hg
  · rw [decide_eq_true hn,Zau]
    refine ⟨⟨h1,h2,h3⟩,⟨fun g hg=>h4 g (ZqF hg),ZpJ (Zlj hp k),?_⟩,fun w hw=>?_,h8⟩
    · have:(x.folders.take k ++ x.folders.drop (k+1)).length≤x.folders.length:=by
        simp only [List.length_append,List.length_take,List.length_drop]
        have:=(List.getElem?_eq_some_iff.1 hf).1
        omega
      show (x.folders.take k ++ x.folders.drop (k+1)).length≤8
      omega
    · have:=h7 w hw
      simp only [Zat,Bool.and_eq_true,decide_eq_true_eq] at this ⊢
      obtain ⟨g,hg,hpg⟩:=Zch.1 this.1
      refine ⟨Zch.2 ⟨g,Zte hf hg ?_,hpg⟩,?_⟩
      · rintro rfl
        simp only [inF,Bool.and_eq_true,decide_eq_true_eq] at hpg
        exact hn hpg.2
      · have hu:=Zpi (xs:=x.folders) w.name k
        show ((ZaC (x.folders.take k ++ x.folders.drop (k+1)) w.name:Nat):Int)≤w.quota
        omega
theorem ZjC {x:DHost} (h:Zx x=true):Zx (⟨x.domain,x.users,x.folders,⟨1,[]⟩⟩:DHost)=true:=
  Ze1 (q:=⟨1,[]⟩) h (by decide) (by simp)
theorem ZrF {us:List DUser} {k:Nat} {w w':DUser} (hw:us[k]? = some w) (hn:w'.name=w.name) (n:Str):Zde (us.set k w') n=Zde us n:=
  ZrI (p:=fun x:DUser=>decide (x.name=n)) hw (by simp only [hn])
theorem Zgc :∀{us:List DUser} {k:Nat} {w w':DUser} (b0:Str),us[k]? = some w→w'.name=w.name→ZbI w'=ZbI w→(us.set k w').foldl (fun (s:Bool × Str) x=>(s.1 && Zb9 s.2 x,x.name)) (true,b0)=us.foldl (fun (s:Bool × Str) x=>(s.1 && Zb9 s.2 x,x.name)) (true,b0)
  | [],_,_,_,_,h,_,_=>by simp at h
  | u :: us,0,w,w',b0,h,hn,ho=>by
    simp only [List.getElem?_cons_zero,Option.some.injEq] at h
    subst h
    simp only [List.set_cons_zero,List.foldl_cons,Zb9,hn,ho]
  | u :: us,k+1,w,w',b0,h,hn,ho=>by
    simp only [List.set_cons_succ,List.foldl_cons,Bool.true_and]
    cases hp:Zb9 b0 u with
    | true=>exact Zgc u.name (by simpa using h) hn ho
    | false=>
      have hf :∀(l:List DUser) (b:Str),l.foldl (fun (s:Bool × Str) x=>(s.1 && Zb9 s.2 x,x.name)) (false,b)=(false,(l.foldl (fun (s:Bool × Str) x=>(s.1 && Zb9 s.2 x,x.name)) (false,b)).2):=by
        intro l b
        exact Prod.ext (ZbT (p:=Zb9) (nx:=fun _ u=>u.name) l b) rfl
      have hl :∀(l l':List DUser) (b:Str),l.map (·.name)=l'.map (·.name)→(l.foldl (fun (s:Bool × Str) x=>(s.1 && Zb9 s.2 x,x.name)) (false,b)).2=(l'.foldl (fun (s:Bool × Str) x=>(s.1 && Zb9 s.2 x,x.name)) (false,b)).2:=by
        intro l
        induction l with
        | nil=>intro l' b hm;cases l' with | nil=>rfl | cons a l'=>simp at hm
        | cons a l ih=>
          intro l' b hm
          cases l' with
          | nil=>simp at hm
          | cons a' l'=>
            simp only [List.map_cons,List.cons.injEq] at hm
            simp only [List.foldl_cons,Bool.false_and,hm.1]
            exact ih l' a'.name hm.2
      rw [hf,hf us u.name]
      congr 1
      refine hl _ _ _ ?_
      rw [List.map_set,hn]
      have h':us[k]? = some w:=by simpa using h
      apply List.ext_getElem?
      intro i
      rw [List.getElem?_set]
      split
      · rename_i e;subst e
        simp only [List.length_map,List.getElem?_map,h']
        rw [if_pos (List.getElem?_eq_some_iff.1 h').1];rfl
      · rfl
theorem ZpG {x:DHost} {k:Nat} {w:DUser} {q:Int} (h:Zx x=true) (hw:x.users[k]? = some w) (hq:q=ZaC x.folders w.name):Zx (⟨x.domain,x.users.set k ⟨w.name,w.pass,q⟩,x.folders,⟨x.queue.next,x.queue.items⟩⟩:DHost)=true:=by
  rw [Zau] at h ⊢
  obtain ⟨⟨h1,h2,h3⟩,⟨h4,h5,h6⟩,h7,h8⟩:=h
  have hwm:=List.mem_of_getElem? hw
  have hwo:=Zg3 h2 hwm
  have hwf:=h7 w hwm
  simp only [Zat,Bool.and_eq_true,decide_eq_true_eq] at hwf
  simp only [ZbI,Bool.and_eq_true,decide_eq_true_eq] at hwo
  have ho:ZbI ⟨w.name,w.pass,q⟩=ZbI w:=by
    have e1:(decide (0≤q) && decide (q≤200))=true:=by simp only [Bool.and_eq_true,decide_eq_true_eq];omega
    have e2:(decide (0≤w.quota) && decide (w.quota≤200))=true:=by simp only [Bool.and_eq_true,decide_eq_true_eq];omega
    simp only [ZbI,e1,e2]
  have hi:=fun n=>ZrF (w':=⟨w.name,w.pass,q⟩) hw rfl n
  refine ⟨⟨h1,?_,h3⟩,⟨fun f hf=>?_,h5,h6⟩,fun u hu=>?_,fun y hy=>?_⟩
  · simp only [Zas,Zc8,scn] at h2 ⊢
    rw [Zgc (w':=⟨w.name,w.pass,q⟩) [] hw rfl ho,List.length_set];exact h2
  · have:=h4 f hf
    simp only [Z8,hi] at this ⊢;exact this
  · obtain ⟨i,hi'⟩:=List.mem_iff_getElem?.1 hu
    rcases ZgN hi' with ⟨_,rfl,_⟩ | ⟨_,hi'⟩
    · simp only [Zat,Bool.and_eq_true,decide_eq_true_eq];exact ⟨hwf.1,by omega⟩
    · exact h7 u (List.mem_of_getElem? hi')
  · have:=h8 y hy
    simp only [ZaE,Zfx,hi] at this ⊢;exact this
theorem Zre {x:DHost} {k:Nat} {w:DUser} {q:Int} (hw:x.users[k]? = some w) (hq:q=ZaC x.folders w.name):Zx (⟨x.domain,x.users.set k ⟨w.name,w.pass,q - 1⟩,x.folders,⟨x.queue.next,x.queue.items⟩⟩:DHost)=false:=by
  rw [Bool.eq_false_iff]
  intro h
  rw [Zau] at h
  have hk:=(List.getElem?_eq_some_iff.1 hw).1
  have:=h.2.2.1 ⟨w.name,w.pass,q - 1⟩ (List.mem_iff_getElem?.2 ⟨k,by simp [List.getElem?_set,hk]⟩)
  simp only [Zat,Bool.and_eq_true,decide_eq_true_eq] at this
  omega
end Go.BL
namespace Go.BL
section
variable {P:PJ} {n:Nat} {ops:Array Oper} {i:Nat} {K:ZaI} {S:Env} {D:List Deferred} {B:Kn} {L:List Cells}
variable {dst:Option Tmp} {ty:TypeId} {pos:String} {after:Array Edge} {g:Option (Nat × Bool)}
end
end Go.BL
