/-
  WHAT THE FUNCTIONS THAT THE LAWS REACH COMPUTE: each function's contract, proved off its printed body (the text is written by program). No condition beyond those that each theorem states.
-/
import Derived.Test.YtpdpnilbhlojbaaRows
import Derived.Test.YtpdpnilbhlojbaaL0
import Derived.KernelRfl
namespace Go.Proofs.Ytpdpnilbhlojbaa
open Go Go.BL
set_option linter.unusedVariables false
set_option linter.unusedSimpArgs false
noncomputable abbrev pj (J : JoinT) : PJ := ⟨Try.prog, J⟩
theorem ZlZ : enters Try.prog 62 = true := by kernel_rfl
theorem mo : Try.prog.follows .mixedOrders = true := by kernel_rfl
theorem ZcM : ZU Try.prog 118 1 = some 1 := by kernel_rfl
theorem lk3 : lk Try.prog 3 = some none := by kernel_rfl
theorem Zgg : ZU Try.prog 118 0 = some 0 := by kernel_rfl
theorem lk9 : lk Try.prog 9 = some none := by kernel_rfl
theorem Zmi : enters Try.prog 82 = true := by kernel_rfl
theorem sz3 : ZT Try.prog 3 = some 1 := by kernel_rfl
theorem Zl4 : enters Try.prog 104 = true := by kernel_rfl
theorem ZmG : enters Try.prog 92 = true := by kernel_rfl
theorem ZlU : ZbA Try.prog 118 = some [(0, 1), (1, 1)] := by kernel_rfl
theorem ZkT : ZaL Try.prog 118 = some (.agg #[.string ⟨#[]⟩, .int .i64 0]) := by kernel_rfl
theorem ZlQ : ZT Try.prog 118 = some 2 := by kernel_rfl
theorem sz9 : ZT Try.prog 9 = some 1 := by kernel_rfl
theorem zo9 : ZaL Try.prog 9 = some (.string ⟨#[]⟩) := by kernel_rfl
theorem ZkL : Zb0 Try.prog 35 9 1 16 = true := by kernel_rfl
theorem ZkO : (match Program.underlying Try.prog 35 with | some (.slice _) => true | _ => false) = true := by kernel_rfl
theorem Zmk : enters Try.prog 70 = true := by kernel_rfl
theorem Zml : enters Try.prog 63 = true := by kernel_rfl
theorem Zei : ZU Try.prog 41 0 = some 0 := by kernel_rfl
theorem Zdf : ZU Try.prog 41 1 = some 1 := by kernel_rfl
theorem Zc9 : lk Try.prog 35 = some none := by kernel_rfl
theorem ZmL : enters Try.prog 71 = true := by kernel_rfl
theorem Zeh : ZU Try.prog 41 2 = some 2 := by kernel_rfl
theorem Zmt : enters Try.prog 35 = true := by kernel_rfl
theorem Zmj : enters Try.prog 72 = true := by kernel_rfl
theorem ZmF : enters Try.prog 93 = true := by kernel_rfl
theorem ZmK : enters Try.prog 73 = true := by kernel_rfl
theorem Zae : ZU Try.prog 28 1 = some 1 := by kernel_rfl
theorem ZdE : lk Try.prog 26 = some none := by kernel_rfl
theorem ZbU : ZT Try.prog 67 = some 4 := by kernel_rfl
theorem ZeG : lk Try.prog 67 = some (some 4) := by kernel_rfl
theorem ZdI : ZaL Try.prog 67 = some (.agg #[.int .i64 0, .string ⟨#[]⟩, .string ⟨#[]⟩, .slice none 0 0]) := by kernel_rfl
theorem Zcd : ZU Try.prog 67 0 = some 0 := by kernel_rfl
theorem Zeg : ZU Try.prog 67 1 = some 1 := by kernel_rfl
theorem ZaH : ZU Try.prog 67 3 = some 3 := by kernel_rfl
theorem Zde : ZU Try.prog 67 2 = some 2 := by kernel_rfl
theorem Zmf : ZbA Try.prog 41 = some [(0, 1), (1, 1), (2, 1)] := by kernel_rfl
theorem ZjH : ZaL Try.prog 41 = some (.agg #[.string ⟨#[]⟩, .slice none 0 0, .string ⟨#[]⟩]) := by kernel_rfl
theorem Zmr : enters Try.prog 42 = true := by kernel_rfl
theorem ZaS : ZU Try.prog 28 0 = some 0 := by kernel_rfl
theorem Za6 : ZaL Try.prog 28 = some (.agg #[.int .i64 0, .slice none 0 0]) := by kernel_rfl
theorem Zi8 : ZbA Try.prog 28 = some [(0, 1), (1, 1)] := by kernel_rfl
theorem ZaW : ZT Try.prog 28 = some 2 := by kernel_rfl
theorem Zkp : ZT Try.prog 35 = some 1 := by kernel_rfl
theorem Zj5 : Zb0 Try.prog 26 67 4 64 = true := by kernel_rfl
theorem Zkq : (match Program.underlying Try.prog 26 with | some (.slice _) => true | _ => false) = true := by kernel_rfl
theorem ZjU : ZT Try.prog 26 = some 1 := by kernel_rfl
theorem ZQ : lk Try.prog 28 = some (some 2) := by kernel_rfl
theorem Zmw : enters Try.prog 29 = true := by kernel_rfl
theorem ZfU : lk Try.prog 41 = some (some 3) := by kernel_rfl
theorem ZmT : enters Try.prog 43 = true := by kernel_rfl
theorem Zme : ZbA Try.prog 67 = some [(0, 1), (1, 1), (2, 1), (3, 1)] := by kernel_rfl
theorem ZmR : enters Try.prog 64 = true := by kernel_rfl
theorem ZmZ : enters Try.prog 30 = true := by kernel_rfl
theorem Zmc : ZaL Try.prog 63 = some (.pointer none) := by kernel_rfl
theorem ZmO : enters Try.prog 67 = true := by kernel_rfl
theorem ZmH : enters Try.prog 91 = true := by kernel_rfl
theorem Zhd : lk Try.prog 63 = some none := by kernel_rfl
theorem Zmo : enters Try.prog 46 = true := by kernel_rfl
theorem ZmA : ZbA Try.prog 69 = some [(0, 4), (4, 1)] := by kernel_rfl
theorem Zmx : ZaL Try.prog 69 = some (.agg #[.int .i64 0, .string ⟨#[]⟩, .string ⟨#[]⟩, .slice none 0 0, .pointer none]) := by kernel_rfl
theorem ZlP : ZT Try.prog 63 = some 1 := by kernel_rfl
theorem Zir : ZU Try.prog 69 0 = some 0 := by kernel_rfl
theorem Ziq : ZU Try.prog 69 1 = some 4 := by kernel_rfl
theorem Zmu : enters Try.prog 33 = true := by kernel_rfl
theorem Zl0 : enters Try.prog 37 = true := by kernel_rfl
theorem Zcu : lk Try.prog 129 = some none := by kernel_rfl
theorem zo3 : ZaL Try.prog 3 = some (.int .i64 0) := by kernel_rfl
theorem ZlX : Zb0 Try.prog 129 3 1 8 = true := by kernel_rfl
theorem ZlR : (match Program.underlying Try.prog 129 with | some (.slice _) => true | _ => false) = true := by kernel_rfl
theorem Zla : ZT Try.prog 129 = some 1 := by kernel_rfl
theorem ZbN : Ze4 Try.prog 127 "Less" 127 false = true := by kernel_rfl
theorem Ziz : enters Try.prog 127 = true := by kernel_rfl
theorem ZbM : Ze4 Try.prog 127 "Swap" 130 false = true := by kernel_rfl
theorem Ziy : enters Try.prog 130 = true := by kernel_rfl
theorem Zhb : Ze4 Try.prog 127 "Push" 129 true = true := by kernel_rfl
theorem Zl2 : enters Try.prog 129 = true := by kernel_rfl
theorem ZfB : Ze4 Try.prog 127 "Len" 126 false = true := by kernel_rfl
theorem Zlq : enters Try.prog 126 = true := by kernel_rfl
theorem Zl6 : enters Try.prog 102 = true := by kernel_rfl
theorem Zl5 : enters Try.prog 103 = true := by kernel_rfl
theorem Zh8 : Ze4 Try.prog 127 "Pop" 128 true = true := by kernel_rfl
theorem Zl3 : enters Try.prog 128 = true := by kernel_rfl
theorem ZmJ : enters Try.prog 89 = true := by kernel_rfl
theorem ZmI : enters Try.prog 90 = true := by kernel_rfl
theorem Zmp : enters Try.prog 45 = true := by kernel_rfl
theorem ZmP : enters Try.prog 66 = true := by kernel_rfl
theorem Zmv : enters Try.prog 32 = true := by kernel_rfl
theorem Zl1 : enters Try.prog 34 = true := by kernel_rfl
theorem ZmX : enters Try.prog 36 = true := by kernel_rfl
theorem Ziu : ZU Try.prog 102 1 = some 1 := by kernel_rfl
theorem Zit : ZU Try.prog 102 2 = some 2 := by kernel_rfl
theorem Zis : ZU Try.prog 102 3 = some 3 := by kernel_rfl
theorem Zms : enters Try.prog 41 = true := by kernel_rfl
theorem Zlb : ZT Try.prog 102 = some 4 := by kernel_rfl
theorem Zlk : lk Try.prog 102 = some (some 4) := by kernel_rfl
theorem ZmS : enters Try.prog 61 = true := by kernel_rfl
theorem Zj4 : ZU Try.prog 24 1 = some 1 := by kernel_rfl
theorem Zmg : lk Try.prog 22 = some none := by kernel_rfl
theorem Zm0 : enters Try.prog 28 = true := by kernel_rfl
theorem ZkK : ZU Try.prog 102 0 = some 0 := by kernel_rfl
theorem Zmq : enters Try.prog 44 = true := by kernel_rfl
theorem ZmQ : enters Try.prog 65 = true := by kernel_rfl
theorem Zlp : ZU Try.prog 24 0 = some 0 := by kernel_rfl
theorem ZmY : enters Try.prog 31 = true := by kernel_rfl
theorem Zmn : enters Try.prog 47 = true := by kernel_rfl
theorem ZmN : enters Try.prog 68 = true := by kernel_rfl
theorem ZmW : enters Try.prog 38 = true := by kernel_rfl
theorem Zcy : enters Try.prog 10 = true := by kernel_rfl
theorem sz5 : ZT Try.prog 5 = some 1 := by kernel_rfl
theorem zo5 : ZaL Try.prog 5 = some (.int .u8 0) := by kernel_rfl
theorem ZkR : enters Try.prog 57 = true := by kernel_rfl
theorem Zj3 : ZU Try.prog 37 0 = some 0 := by kernel_rfl
theorem Zj2 : ZU Try.prog 37 1 = some 1 := by kernel_rfl
theorem Zj1 : ZU Try.prog 37 2 = some 2 := by kernel_rfl
theorem Zk9 : ZT Try.prog 41 = some 3 := by kernel_rfl
theorem Zmm : enters Try.prog 48 = true := by kernel_rfl
theorem ZmV : enters Try.prog 39 = true := by kernel_rfl
theorem ZiQ : enters Try.prog 11 = true := by kernel_rfl
theorem ZmM : enters Try.prog 69 = true := by kernel_rfl
theorem ZmU : enters Try.prog 40 = true := by kernel_rfl
theorem Zes : enters Try.prog 12 = true := by kernel_rfl
theorem Ze5 : lk Try.prog 24 = some (some 2) := by kernel_rfl
theorem en6 : enters Try.prog 6 = true := by kernel_rfl
theorem en8 : enters Try.prog 8 = true := by kernel_rfl
theorem en7 : enters Try.prog 7 = true := by kernel_rfl
theorem en9 : enters Try.prog 9 = true := by kernel_rfl
theorem ZgG : lk Try.prog 37 = some (some 3) := by kernel_rfl
theorem Zm1 : enters Try.prog 13 = true := by kernel_rfl
theorem Zen : enters Try.prog 15 = true := by kernel_rfl
theorem ZlC : enters Try.prog 14 = true := by kernel_rfl
theorem ZeO : enters Try.prog 16 = true := by kernel_rfl
theorem ZlB : enters Try.prog 17 = true := by kernel_rfl
theorem ZlA : enters Try.prog 18 = true := by kernel_rfl
set_option maxRecDepth 4000
variable {J : JoinT}
abbrev cur (b : Nat) (l : List UInt8) (i : Nat) : Cells := Z0 b [str l, .int .i64 i] 118
set_option maxHeartbeats 400000 in
theorem Zig (n lo hi:Int) (B:Kn):Z8 (pj J) 62 [.int .i64 n,.int .i64 lo,.int .i64 hi] B (.bool (decide (lo≤n) && decide (n≤hi))):=by
 refine Zg 15 Try.func62 rfl rfl rfl (Nat.le_of_ble_eq_true rfl) ?_
 refine Za (xA (h:=Zam [(0,_),(1,_),(2,_),(6,_)] t4 (Za (xM (h:=xM (h:=ZdN (h:=xM (h:=Zq (d:=10) rfl (fun g1=>?_) (fun g1=>?_)))))))))
 try simp only [sQ,ne_eq] at g1
 refine xM (h:=xM (h:=Zdl (h:=xT (h:=xA (h:=Zam [(0,_),(1,_),(2,_),(6,_)] t4 (Zm ?_))))))
 exact Z4 .ret (.inl rfl) [_] t1 ⟨by exact Zr (by rw [Bool.eq_iff_iff];simp [];omega),rfl,rfl⟩
 try simp only [sQ,ne_eq] at g1
 refine xP (h:=xP (h:=xP (h:=xF (h:=xA (h:=Zam [(0,_),(1,_),(2,_),(6,_)] t4 (Zm ?_))))))
 exact Z4 .ret (.inl rfl) [_] t1 ⟨by exact Zr (by rw [Bool.eq_iff_iff];simp [];omega),rfl,rfl⟩

set_option maxHeartbeats 400000 in
theorem Zha (c:UInt8) (B:Kn):Z8 (pj J) 104 [.int .u8 c.toNat] B (.bool (Za8 c)):=by
 refine Zg 17 Try.func104 rfl rfl rfl (Nat.le_of_ble_eq_true rfl) ?_
 refine Za (xA (h:=Zam [(0,_),(2,_)] t2 (Za (xM (h:=ZdN (h:=xM (h:=Zq (d:=5) rfl (fun g1=>?_) (fun g1=>?_))))))))
 try simp only [sQ,ne_eq] at g1
 refine xM (h:=Zdl (h:=xT (h:=xM (h:=Zq (d:=9) rfl (fun g2=>?_) (fun g2=>?_)))))
 try simp only [sQ,ne_eq] at g2
 refine xP (h:=xP (h:=xP (h:=xP (h:=xP (h:=xP (h:=xT (h:=xA (h:=Zam [(0,_),(2,_)] t2 (Zm ?_)))))))))
 exact Z4 .ret (.inl rfl) [_] t1 ⟨by exact Zr (by rw [Bool.eq_iff_iff];simp [Za8];omega),rfl,rfl⟩
 try simp only [sQ,ne_eq] at g2
 refine xM (h:=ZdN (h:=xM (h:=Zq (d:=12) rfl (fun g3=>?_) (fun g3=>?_))))
 try simp only [sQ,ne_eq] at g3
 refine xM (h:=Zdl (h:=xT (h:=xF (h:=xA (h:=Zam [(0,_),(2,_)] t2 (Zm ?_))))))
 exact Z4 .ret (.inl rfl) [_] t1 ⟨by exact Zr (by rw [Bool.eq_iff_iff];simp [Za8];omega),rfl,rfl⟩
 try simp only [sQ,ne_eq] at g3
 refine xP (h:=xP (h:=xF (h:=xF (h:=xA (h:=Zam [(0,_),(2,_)] t2 (Zm ?_))))))
 exact Z4 .ret (.inl rfl) [_] t1 ⟨by exact Zr (by rw [Bool.eq_iff_iff];simp [Za8];omega),rfl,rfl⟩
 try simp only [sQ,ne_eq] at g1
 refine xP (h:=xP (h:=xF (h:=xM (h:=xM (h:=ZdN (h:=xM (h:=Zq (d:=12) rfl (fun g4=>?_) (fun g4=>?_))))))))
 try simp only [sQ,ne_eq] at g4
 refine xM (h:=Zdl (h:=xT (h:=xF (h:=xA (h:=Zam [(0,_),(2,_)] t2 (Zm ?_))))))
 exact Z4 .ret (.inl rfl) [_] t1 ⟨by exact Zr (by rw [Bool.eq_iff_iff];simp [Za8];omega),rfl,rfl⟩
 try simp only [sQ,ne_eq] at g4
 refine xP (h:=xP (h:=xF (h:=xF (h:=xA (h:=Zam [(0,_),(2,_)] t2 (Zm ?_))))))
 exact Z4 .ret (.inl rfl) [_] t1 ⟨by exact Zr (by rw [Bool.eq_iff_iff];simp [Za8];omega),rfl,rfl⟩

set_option maxHeartbeats 400000 in
theorem ZeB (l:List UInt8) (hl:l.length≤2000000) (B:Kn):Z8 (pj J) 70 [str l] B (.bool (Za7 l)):=by
 refine Zg 37 Try.func70 rfl rfl rfl (Nat.le_of_ble_eq_true rfl) ?_
 refine Za (xA (h:=Zam [(0,_),(2,_)] t2 (Zi (Za (xA (h:=Zam [(0,_),(2,_),(3,_)] t3 (Zu (ZjO (α:=Nat) (fun k=>[(0,str l),(3,.int .i64 k)]) (fun k=>[]) (fun k Bx=>Bx=B∧k≤l.length∧(l.take k).all Za8=true) (fun k=>l.length - k) 0 t2 rfl (⟨rfl,Nat.zero_le _,by simp⟩) (fun k B1 hle1 hI=>?_)))))))))
 obtain ⟨rfl,hk,ha⟩:=hI
 refine Zi (Za (xM (h:=xM (h:=xVs Try.underlying9 (h:=ZO (h:=Zam [(0,_),(3,_),(7,_)] t3 (Zc rfl (fun g1=>?_) (fun g1=>?_))))))))
 try simp only [sQ,ne_eq] at g1
 obtain ⟨c,hc⟩ :∃c,l[k]? = some c:=⟨_,List.getElem?_eq_getElem oz⟩
 refine Ze (Zd (Zi (Zu (Zg1 33 (!(Za8 c)) [0,3,7] ?_ ?_))))
 refine xM (h:=xM (h:=Zh (ZcF rfl rfl Try.underlying9 rfl rfl oz (by simpa using hc) ?_)))
 refine ZdN (h:=xM (h:=Zq (d:=14) rfl (fun g1=>?_) (fun g1=>?_)))
 try simp only [sQ,ne_eq] at g1
 refine xM (h:=xM (h:=Zh (ZcF rfl rfl Try.underlying9 rfl rfl oz (by simpa using hc) ?_)))
 refine Zdl (h:=xT (h:=xN (h:=xM (h:=Zq (d:=21) rfl (fun g2=>?_) (fun g2=>?_)))))
 try simp only [sQ,ne_eq] at g2
 refine xM (h:=xM (h:=Zh (ZcF rfl rfl Try.underlying9 rfl rfl oz (by simpa using hc) ?_)))
 refine ZdN (h:=xM (h:=Zq (d:=26) rfl (fun g3=>?_) (fun g3=>?_)))
 try simp only [sQ,ne_eq] at g3
 refine xM (h:=xM (h:=Zh (ZcF rfl rfl Try.underlying9 rfl rfl oz (by simpa using hc) ?_)))
 refine Zdl (h:=xT (h:=xN (h:=xT (h:=?_))))
 exact ⟨rfl,rfl,rfl,Zgb rfl (by rw [Bool.eq_iff_iff];simp [Za8,];omega),t3⟩
 try simp only [sQ,ne_eq] at g3
 refine xP (h:=xP (h:=xP (h:=xP (h:=xF (h:=xN (h:=xT (h:=?_)))))))
 exact ⟨rfl,rfl,rfl,Zgb rfl (by rw [Bool.eq_iff_iff];simp [Za8,];omega),t3⟩
 try simp only [sQ,ne_eq] at g2
 refine xP (h:=xP (h:=xP (h:=xP (h:=xP (h:=xP (h:=xP (h:=xP (h:=xP (h:=xP (h:=xP (h:=xF (h:=?_))))))))))))
 exact ⟨rfl,rfl,rfl,Zgb rfl (by rw [Bool.eq_iff_iff];simp [Za8,];omega),t3⟩
 try simp only [sQ,ne_eq] at g1
 refine xP (h:=xP (h:=xP (h:=xP (h:=xF (h:=xN (h:=xM (h:=xM (h:=xM (h:=Zh (ZcF rfl rfl Try.underlying9 rfl rfl oz (by simpa using hc) ?_))))))))))
 refine ZdN (h:=xM (h:=Zq (d:=26) rfl (fun g4=>?_) (fun g4=>?_)))
 try simp only [sQ,ne_eq] at g4
 refine xM (h:=xM (h:=Zh (ZcF rfl rfl Try.underlying9 rfl rfl oz (by simpa using hc) ?_)))
 refine Zdl (h:=xT (h:=xN (h:=xT (h:=?_))))
 exact ⟨rfl,rfl,rfl,Zgb rfl (by rw [Bool.eq_iff_iff];simp [Za8,];omega),t3⟩
 try simp only [sQ,ne_eq] at g4
 refine xP (h:=xP (h:=xP (h:=xP (h:=xF (h:=xN (h:=xT (h:=?_)))))))
 exact ⟨rfl,rfl,rfl,Zgb rfl (by rw [Bool.eq_iff_iff];simp [Za8,];omega),t3⟩
 refine Zam [(0,_),(3,_),(7,_),(33,_)] t4 (Zc rfl (fun g9=>?_) (fun g9=>?_))
 try simp only [sQ,ne_eq] at g9
 refine Za (xA (h:=Zam [(0,_),(2,_),(3,_),(7,_),(33,_)] t5 (Zm (ZaK (ZK (ZlT (ZaK (ZK ?_))))))))
 exact Z4 .ret (.inl rfl) [_] t1 ⟨Zr (by simp [Za7,Zjy hc g9]),rfl,rfl⟩
 try simp only [sQ,ne_eq] at g9
 refine Ze (Zaz (Zd (Zn (xM (h:=Zh (ZhF rfl rfl rfl rfl (by first | exact Zcs oz oz | rfl) ?_))))))
 refine xA (h:=?_)
 exact Zle (k+1) oz ⟨rfl,oz,ZgU hc g9 ha⟩ t2 rfl
 try simp only [sQ,ne_eq] at g1
 refine Z5 (ZaI (Zld (ZR (Zd (Za (xM (h:=xVs Try.underlying9 (h:=xR ZlZ rfl (Zig _ _ _ _) (h:=xA (h:=Zam [(0,_),(2,_),(3,_),(7,_)] t4 (Zm ?_)))))))))))
 exact Z4 .ret (.inl rfl) [_] t1 ⟨Zr (by (obtain rfl:k=l.length:=oz);rw [List.take_length] at ha;rw [Bool.eq_iff_iff];simp [Za7,ha];omega),rfl,rfl⟩

set_option maxHeartbeats 400000 in
theorem Zj6 (b:Nat) (l:List UInt8) (i:Nat) (hi:i≤l.length) (hl:l.length≤2000000) (B:Kn):ZkS (pj J) 82 [ptr ⟨b,0,none⟩] B (cur b l i) (.bool (decide (i=l.length))) (cur b l i):=by
 refine Zg 13 Try.func82 rfl rfl rfl (Nat.le_of_ble_eq_true rfl) ?_
 refine Za (xA (h:=Zam [(0,_),(2,_)] t2 (Zi (Z9 (same _ _) mo kr ⟨rfl,rfl⟩ (fun _ _=>?_)))))
 refine aM 0 rfl (h:=aNc 1 rfl (h:=aW 2 rfl ZcM (h:=aT 3 rfl (Zc2 fun D=>ZG rfl rfl lk3 rfl (atL 0 rfl rfl rfl) r4) (h:=aM 4 rfl (h:=aNc 5 rfl (h:=aW 6 rfl Zgg (h:=aT 7 rfl (Zc2 fun D=>ZG rfl rfl lk9 rfl (atL 0 rfl rfl rfl) r4) (h:=aT 8 rfl (Zc2 fun D=>ZjP rfl rfl Try.underlying9 rfl r4) (h:=Zlw 9 rfl (h:=aA 10 rfl (h:=Zv kr kr ?_)))))))))))
 refine Zd (Zam [(0,_),(2,_)] t2 (Zm ?_))
 exact ZlY .ret (.inl rfl) [_] 0 rfl t1 ⟨Zr (by rw [Bool.eq_iff_iff];simp;omega),rfl,rfl⟩

set_option maxHeartbeats 400000 in
theorem Zli (b:Nat) (l:List UInt8) (i:Nat) (hi:i≤l.length) (hl:l.length≤2000000) (B:Kn):ZkS (pj J) 92 [ptr ⟨b,0,none⟩] B (cur b l i) (.tuple #[str (word l i),.bool (ZdO (word l i))]) (cur b l (i+(word l i).length)):=by
 refine Zg 54 Try.func92 rfl rfl rfl (Nat.le_of_ble_eq_true rfl) ?_
 refine Za (xA (h:=xA (h:=Zam [(0,_),(2,_),(3,_)] t3 (Za (xM (h:=xNc (h:=xW ZcM (h:=x1 lk3 0 (h:=xA (h:=Zam [(0,_),(2,_),(3,_),(4,_)] t4 (Zi (Zu ?_))))))))))))
 refine ZjO (α:=Nat) (fun k=>[(0,ptr ⟨b,0,none⟩),(4,.int .i64 i)]) (fun k=>[cur b l (i+k)]) (fun k Bx=>Bx=B∧i+k≤l.length∧((l.drop i).take k).all Za8=true) (fun k=>l.length - i - k) 0 t2 rfl (⟨rfl,oz,by simp⟩) (fun k B1 hle1 hI=>?_)
 obtain ⟨rfl,hk,ha⟩:=hI
 refine Zi (ZfW 24 (match l[i+k]? with | some c=>Za8 c | none=>false) [0,4] (same _ _) mo kr ⟨rfl,rfl⟩ (fun _ _=>?_) ?_)
 refine aM 0 rfl (h:=aT 1 rfl (Zc2 fun D=>ZdQ 0 rfl rfl rfl Zmi rfl (Zj6 _ _ _ oz oz _) r4) (h:=?_))
 refine aN 2 rfl (h:=aM 3 rfl (h:=Zgm (d:=13) rfl (fun g1=>?_) (fun g1=>?_)))
 try simp only [sQ,ne_eq] at g1
 obtain ⟨c,hc⟩ :∃c,l[i+k]? = some c:=⟨_,List.getElem?_eq_getElem oz⟩
 refine aM 4 rfl (h:=aNc 5 rfl (h:=aW 6 rfl Zgg (h:=aT 7 rfl (Zc2 fun D=>ZG rfl rfl lk9 rfl (atL 0 rfl rfl rfl) r4) (h:=aM 8 rfl (h:=aNc 9 rfl (h:=aW 10 rfl ZcM (h:=aT 11 rfl (Zc2 fun D=>ZG rfl rfl lk3 rfl (atL 0 rfl rfl rfl) r4) (h:=aT 12 rfl (Zc2 fun D=>ZcF rfl rfl Try.underlying9 rfl rfl oz hc r4) (h:=?_)))))))))
 refine aT 13 rfl (Zc2 fun D=>Zdu rfl rfl Zl4 rfl (Zha _ _) r4) (h:=aPT 14 rfl (h:=Zv kr kr ?_))
 exact ⟨rfl,rfl,rfl,Zgb rfl (by first | (rw [hc];done) | (rw [List.getElem?_eq_none oz])),t2⟩
 try simp only [sQ,ne_eq] at g1
 refine aZ 4 rfl (h:=aZ 5 rfl (h:=aZ 6 rfl (h:=aZ 7 rfl (h:=aZ 8 rfl (h:=aZ 9 rfl (h:=aZ 10 rfl (h:=aZ 11 rfl (h:=aZ 12 rfl (h:=aZ 13 rfl (h:=aPF 14 rfl (h:=Zv kr kr ?_)))))))))))
 exact ⟨rfl,rfl,rfl,Zgb rfl (by first | (rw [hc];done) | (rw [List.getElem?_eq_none oz])),t2⟩
 refine Zam [(0,_),(4,_),(24,_)] t3 (Zc rfl (fun g2=>?_) (fun g2=>?_))
 try simp only [sQ,ne_eq] at g2
 refine Ze (Zd (Zu (Zn (xM (h:=xNc (h:=xW ZcM (h:=x1 lk3 0 (h:=Zh (ZhF rfl rfl rfl rfl (by first | exact Zcs oz oz | rfl) ?_)))))))))
 refine xNc (h:=xW ZcM (h:=xS [_] 0 [_,_] sz3 (h:=Zaz ?_)))
 obtain ⟨c,hc,hn⟩:=ZhT g2
 exact Zle (k+1) (by have:=ZaZ hc;omega) ⟨rfl,by have:=ZaZ hc;omega,ZgU (by simpa using hc) hn ha⟩ t2 rfl
 try simp only [sQ,ne_eq] at g2
 have hw:word l i=(l.drop i).take k:=ZiR ha (fun c hc=>by rw [hc] at g2;exact g2)
 have hwl:(word l i).length=k:=by rw [hw,List.length_take,List.length_drop];omega
 refine Z5 (ZaI (Zld (ZR (Zd (Za (xM (h:=xNc (h:=xW ZcM (h:=x1 lk3 0 (h:=xM (h:=Zh (Zg0 rfl rfl rfl rfl (by first | exact Zcs oz oz | rfl) ?_))))))))))))
 refine xA (h:=Zam [(0,_),(4,_),(5,_),(24,_)] t4 (Zi (Z9 (same _ _) mo kr ⟨rfl,rfl⟩ (fun _ _=>?_))))
 refine aM 0 rfl (h:=aNc 1 rfl (h:=aW 2 rfl Zgg (h:=aT 3 rfl (Zc2 fun D=>ZG rfl rfl lk9 rfl (atL 0 rfl rfl rfl) r4) (h:=aM 4 rfl (h:=aM 5 rfl (h:=aNc 6 rfl (h:=aW 7 rfl ZcM (h:=aT 8 rfl (Zc2 fun D=>ZG rfl rfl lk3 rfl (atL 0 rfl rfl rfl) r4) (h:=aT 9 rfl (Zc2 fun D=>ZiS rfl rfl Try.underlying9 rfl (a:=i) (b:=i+k) ⟨_,_,rfl,rfl⟩ ⟨_,_,rfl,oz⟩ oz oz r4) (h:=?_))))))))))
 refine aM 10 rfl (h:=Zma 11 rfl (h:=aM 12 rfl (h:=Zgm (d:=50) rfl (fun g1=>?_) (fun g1=>?_))))
 try simp only [sQ,ne_eq] at g1
 refine aM 13 rfl (h:=Zl9 14 rfl (h:=aPT 15 rfl (h:=aA 16 rfl (h:=aA 17 rfl (h:=Zv kr kr ?_)))))
 refine Zd (Zam [(0,_),(2,_),(3,_),(4,_),(5,_),(24,_)] t6 (Zm ?_))
 exact ZlY .ret (.inl rfl) [_,_] 0 rfl t2 ⟨ZjT (by rw [ZcA,hw]) (Zr (by rw [Bool.eq_iff_iff];simp [ZdO,hwl];omega)),rfl,by rw [hwl]⟩
 try simp only [sQ,ne_eq] at g1
 refine aZ 13 rfl (h:=aZ 14 rfl (h:=aPF 15 rfl (h:=aA 16 rfl (h:=aA 17 rfl (h:=Zv kr kr ?_)))))
 refine Zd (Zam [(0,_),(2,_),(3,_),(4,_),(5,_),(24,_)] t6 (Zm ?_))
 exact ZlY .ret (.inl rfl) [_,_] 0 rfl t2 ⟨ZjT (by rw [ZcA,hw]) (Zr (by rw [Bool.eq_iff_iff];simp [ZdO,hwl];omega)),rfl,by rw [hwl]⟩

set_option maxHeartbeats 400000 in
theorem ZeJ (l:List UInt8) (hl:l.length≤2000000) (B:Kn):Z8 (pj J) 72 [str l] B (.bool (Za7 l)):=by
 refine Zg 16 Try.func72 rfl rfl rfl (Nat.le_of_ble_eq_true rfl) ?_
 refine Za (xA (h:=Zam [(0,_),(2,_)] t2 (Za (xM (h:=xB [(0,_)] [_,_] [_,_] ZlU ZkT (h:=xAl [_,_] ZkT (h:=fun b0=>xS [_,_] 0 [_,_] ZlQ (h:=Zak [(0,_),(2,_),(3,_)] [_] t3 rfl (Za (Zh (ZjJ 0 rfl rfl rfl ZmG rfl (Zli _ _ 0 oz hl _) ?_)))))))))))
 refine xM (h:=xE (h:=xE (h:=xA (h:=xA (h:=Zak [(0,_),(2,_),(3,_),(5,_)] [_] t4 rfl (Za (xM (h:=xM (h:=Zq (d:=13) rfl (fun g1=>?_) (fun g1=>?_))))))))))
 try simp only [sQ,ne_eq] at g1
 refine Zh (ZdQ 0 rfl rfl rfl Zmi rfl (Zj6 _ _ (0+(word l 0).length) (Zkb (Nat.zero_le _)) oz _) ?_)
 refine xT (h:=xA (h:=Zam [(0,_),(2,_),(3,_),(5,_)] t4 (Zm ?_)))
 exact Z4 .ret (.inl rfl) [_] t1 ⟨Zr (by rw [Zd7];simp [g1];try omega),rfl,rfl⟩
 try simp only [sQ,ne_eq] at g1
 refine xP (h:=xF (h:=xA (h:=Zam [(0,_),(2,_),(3,_),(5,_)] t4 (Zm ?_))))
 exact Z4 .ret (.inl rfl) [_] t1 ⟨Zr (by rw [Zd7];simp [g1];try omega),rfl,rfl⟩

set_option maxHeartbeats 400000 in
theorem Zel (q q':Option Addr) (cp cp':Nat) (xs ys:List Str) (B:Kn) (ha:SlK B q cp 1 Zt xs) (hb:SlK B q' cp' 1 Zt ys):Z8 (pj J) 47 [.slice q xs.length cp,.slice q' ys.length cp'] B (.bool (decide (xs=ys))):=by
 refine Zg 26 Try.func47 rfl rfl rfl (Nat.le_of_ble_eq_true rfl) ?_
 have han:=ha.len
 have hbn:=hb.len
 refine Za (xA (h:=Zi (Za (xM (h:=xV Try.underlying35 (h:=xM (h:=xV Try.underlying35 (h:=Zaj (h:=Zc rfl (fun g1=>?_) (fun g1=>?_))))))))))
 try simp only [sQ,ne_eq] at g1
 refine Za (xA (h:=Zm (ZK ?_)))
 exact Z4 .ret (.inl rfl) [_] t1 ⟨Zr (Zix g1),rfl,rfl⟩
 try simp only [sQ,ne_eq] at g1
 refine Ze (Zd (Zi (Za (xA (h:=Zu (Z1 (α:=Nat) [0,1,10] (fun k=>[(5,.int .i64 k)]) [] (fun k=>[]) (fun k Bx=>Bx=B∧k≤xs.length∧xs.take k=ys.take k) (fun k=>xs.length - k) 0 t1 rfl (⟨rfl,Nat.zero_le _,by simp⟩) (fun k B1 hle1 hI=>?_)))))))
 obtain ⟨rfl,hk,he⟩:=hI
 refine Zak [(0,_),(1,_),(5,_),(10,_)] [] t4 rfl (Zi (Za (xM (h:=xM (h:=xV Try.underlying35 (h:=ZO (h:=Zc rfl (fun g2=>?_) (fun g2=>?_))))))))
 try simp only [sQ,ne_eq] at g2
 refine Ze (Zd (Zi (Zu (Zi (Z9 (same _ _) mo kr ⟨rfl,rfl⟩ (fun _ _=>?_))))))
 refine aM 0 rfl (h:=aM 1 rfl (h:=?_))
 obtain ⟨x,hx⟩:=Za2 (xs:=xs) (i:=k) om
 obtain ⟨bb3,oo3,rfl⟩:=ha.base hx
 obtain ⟨_,⟨rfl,hb4⟩,hc4⟩:=ha.elem hx
 refine aIx 2 rfl Try.underlying35 sz9 (h:=aT 3 rfl (Zc2 fun D=>ZG rfl rfl lk9 rfl (hc4 _ 0 _ rfl) r4) (h:=aM 4 rfl (h:=aM 5 rfl (h:=?_))))
 obtain ⟨y,hy⟩:=Za2 (xs:=ys) (i:=k) om
 obtain ⟨bb6,oo6,rfl⟩:=hb.base hy
 obtain ⟨_,⟨rfl,hb7⟩,hc7⟩:=hb.elem hy
 refine aIx 6 rfl Try.underlying35 sz9 (h:=aT 7 rfl (Zc2 fun D=>ZG rfl rfl lk9 rfl (hc7 _ 0 _ rfl) r4) (h:=ZgW 8 rfl (h:=Zv kr kr ?_)))
 refine Zd (Zc rfl (fun g3=>?_) (fun g3=>?_))
 try simp only [sQ,ne_eq] at g3
 refine Za (xA (h:=Zm (ZaK (ZK (Zbj (ZaK (ZK ?_)))))))
 exact Z4 .ret (.inl rfl) [_] t1 ⟨Zr (ZgR hx hy g3),rfl,rfl⟩
 try simp only [sQ,ne_eq] at g3
 refine Ze (Zaz (Zd (Zn (xM (h:=xD (h:=xA (h:=?_)))))))
 exact Z6 (k+1) [] so2 ⟨rfl,oz,Zdw hx hy g3 he⟩ t4 rfl
 try simp only [sQ,ne_eq] at g2
 refine Z5 (ZaI (Zac (ZR (Zd (Za (xA (h:=Zm ?_)))))))
 exact Z4 .ret (.inl rfl) [_] t1 ⟨Zr (eqT oz oz he),rfl,rfl⟩

set_option maxHeartbeats 400000 in
theorem ZgK (q:Option Addr) (cp:Nat) (xs:List Str) (u:Str) (B:Kn) (ha:SlK B q cp 1 Zt xs):Z8 (pj J) 63 [.slice q xs.length cp,str u] B (.bool (decide (u∈xs))):=by
 refine Zg 18 Try.func63 rfl rfl rfl (Nat.le_of_ble_eq_true rfl) ?_
 have han:=ha.len
 refine Za (xA (h:=Zi (Za (xA (h:=Zu (Z1 (α:=Nat) [0,1] (fun k=>[(5,.int .i64 k)]) [] (fun k=>[]) (fun k Bx=>Bx=B∧k≤xs.length∧∀x,x∈xs.take k→x≠u) (fun k=>xs.length - k) 0 t1 rfl (⟨rfl,Nat.zero_le _,by simp⟩) (fun k B1 hle1 hI=>?_)))))))
 obtain ⟨rfl,hk,hn⟩:=hI
 refine Zak [(0,_),(1,_),(5,_)] [] t3 rfl (Zi (Za (xM (h:=xM (h:=xV Try.underlying35 (h:=ZO (h:=Zc rfl (fun g1=>?_) (fun g1=>?_))))))))
 try simp only [sQ,ne_eq] at g1
 refine Ze (Zd (Zi (Zu (Za (xM (h:=xM (h:=?_)))))))
 obtain ⟨x,hx⟩:=Za2 (xs:=xs) (i:=k) om
 obtain ⟨bb3,oo3,rfl⟩:=ha.base hx
 obtain ⟨_,⟨rfl,hb4⟩,hc4⟩:=ha.elem hx
 refine xIx Try.underlying35 sz9 (h:=y1 lk9 hc4 0 (h:=xM (h:=ZjI (h:=Zc rfl (fun g2=>?_) (fun g2=>?_)))))
 try simp only [sQ,ne_eq] at g2
 refine Za (xA (h:=Zm (ZaK (ZK (Zbj (ZaK (ZK ?_)))))))
 exact Z4 .ret (.inl rfl) [_] t1 ⟨Zr (ZmB hx g2),rfl,rfl⟩
 try simp only [sQ,ne_eq] at g2
 refine Ze (Zaz (Zd (Zn (xM (h:=xD (h:=xA (h:=?_)))))))
 exact Z6 (k+1) [] so2 ⟨rfl,oz,ZgV hx hn g2⟩ t3 rfl
 try simp only [sQ,ne_eq] at g1
 refine Z5 (ZaI (Zac (ZR (Zd (Za (xA (h:=Zm ?_)))))))
 exact Z4 .ret (.inl rfl) [_] t1 ⟨Zr (ZmC (Zgv oz hn)),rfl,rfl⟩

set_option maxHeartbeats 400000 in
theorem Zhe (q:Option Addr) (cp:Nat) (xs:List Str) (B:Kn) (ha:SlK B q cp 1 Zt xs):Z8 (pj J) 71 [.slice q xs.length cp] B (.bool (Zbi xs)):=by
 refine Zg 29 Try.func71 rfl rfl rfl (Nat.le_of_ble_eq_true rfl) ?_
 have han:=ha.len
 refine Za (xA (h:=Zi (Za (xA (h:=Zu (Z1 (α:=Nat) [0] (fun k=>[(3,.int .i64 k)]) [] (fun k=>[]) (fun k Bx=>Bx=B∧k≤xs.length∧(xs.take k).all Za7=true∧(xs.take k).Nodup) (fun k=>xs.length - k) 0 t1 rfl (⟨rfl,Nat.zero_le _,by simp,by simp⟩) (fun k B1 hle1 hI=>?_)))))))
 obtain ⟨rfl,hk,hv,hn⟩:=hI
 refine Zak [(0,_),(3,_)] [] t2 rfl (Zi (Za (xM (h:=xM (h:=xV Try.underlying35 (h:=ZO (h:=Zc rfl (fun g1=>?_) (fun g1=>?_))))))))
 try simp only [sQ,ne_eq] at g1
 refine Ze (Zd (Zi (Zu (Zi (Z9 (same _ _) mo kr ⟨rfl,rfl⟩ (fun _ _=>?_))))))
 refine aM 0 rfl (h:=aM 1 rfl (h:=?_))
 obtain ⟨x,hx⟩:=Za2 (xs:=xs) (i:=k) om
 obtain ⟨bb3,oo3,rfl⟩:=ha.base hx
 obtain ⟨_,⟨rfl,hb4⟩,hc4⟩:=ha.elem hx
 refine aIx 2 rfl Try.underlying35 sz9 (h:=aT 3 rfl (Zc2 fun D=>ZG rfl rfl lk9 rfl (hc4 _ 0 _ rfl) r4) (h:=aT 4 rfl (Zc2 fun D=>Zdu rfl rfl Zmk rfl (ZeB _ om2 _) r4) (h:=?_)))
 refine aN 5 rfl (h:=aM 6 rfl (h:=Zgm (d:=16) rfl (fun g2=>?_) (fun g2=>?_)))
 try simp only [sQ,ne_eq] at g2
 refine aZ 7 rfl (h:=aZ 8 rfl (h:=aZ 9 rfl (h:=aZ 10 rfl (h:=aZ 11 rfl (h:=aZ 12 rfl (h:=aZ 13 rfl (h:=aZ 14 rfl (h:=aPT 15 rfl (h:=Zv kr kr ?_)))))))))
 refine Zd (Zc (t:=true) rfl (fun _=>Za (xA (h:=Zm (ZaK (ZK (Zbj (ZaK (ZK ?_)))))))) (fun h=>Bool.noConfusion h))
 exact Z4 .ret (.inl rfl) [_] t1 ⟨Zr (ZdD hx g2),rfl,rfl⟩
 try simp only [sQ,ne_eq] at g2
 refine aM 7 rfl (h:=aM 8 rfl (h:=?_))
 obtain ⟨hq6,q6,cp6,hv6,hr6⟩:=ha.cutE 0 k om om
 have hr6n:=hr6.len
 refine aT 9 rfl (Zc2 fun D=>Zgr (a:=0) (b:=k) hv6 om hq6 rfl rfl Try.underlying35 sz9 rfl rfl ⟨_,_,rfl,by first | omega | (simp;done) | (simp;omega)⟩ r4) (h:=?_)
 refine aM 10 rfl (h:=aM 11 rfl (h:=aIx 12 rfl Try.underlying35 sz9 (h:=aT 13 rfl (Zc2 fun D=>ZG rfl rfl lk9 rfl (hc4 _ 0 _ rfl) r4) (h:=aT 14 rfl (Zc2 fun D=>Zdu rfl rfl Zml rfl (ZgK _ _ _ _ _ hr6) r4) (h:=aPF 15 rfl (h:=Zv kr kr ?_))))))
 refine Zd (Zc rfl (fun g3=>?_) (fun g3=>?_))
 try simp only [sQ,ne_eq] at g3
 refine Za (xA (h:=Zm (ZaK (ZK (Zbj (ZaK (ZK ?_)))))))
 exact Z4 .ret (.inl rfl) [_] t1 ⟨Zr (ZdC hx (by simpa using g3)),rfl,rfl⟩
 try simp only [sQ,ne_eq] at g3
 refine Ze (Zaz (Zd (Zn (xM (h:=xD (h:=xA (h:=?_)))))))
 exact Z6 (k+1) [] so2 ⟨rfl,oz,ZfR hx g2 hv,Zh7 hx hn (by simpa using g3)⟩ t2 rfl
 try simp only [sQ,ne_eq] at g1
 refine Z5 (ZaI (Zac (ZR (Zd (Za (xM (h:=xV Try.underlying35 (h:=Zdl (h:=xA (h:=Zm ?_))))))))))
 exact Z4 .ret (.inl rfl) [_] t1 ⟨Zr (Zd6 oz hv hn),rfl,rfl⟩

set_option maxHeartbeats 400000 in
theorem Zdz (q:Option Addr) (cp:Nat) (x:DLetter) (B:Kn) (ha:SlK B q cp 1 Zt x.to_) (h1:x.fr.length≤2000000) (h2:x.text.length≤2000000):Z8 (pj J) 42 [.agg #[str x.fr,.slice q x.to_.length cp,str x.text]] B (.bool (ZaE x)):=by
 refine Zg 23 Try.func42 rfl rfl rfl (Nat.le_of_ble_eq_true rfl) ?_
 refine Za (xBx [_,_,_] (h:=fun b1=>xA (h:=ZF [_] rfl (Za (xW Zei (h:=x1 lk9 0 (h:=xR Zmk rfl (ZeB _ om2 _) (h:=?_))))))))
 refine xM (h:=Zq (d:=6) rfl (fun g1=>?_) (fun g1=>?_))
 try simp only [sQ,ne_eq] at g1
 refine xW Zdf (h:=x1 Zc9 0 (h:=xR ZmL rfl (Zhe _ _ _ _ ha) (h:=xT (h:=xM (h:=Zq (d:=11) rfl (fun g2=>?_) (fun g2=>?_))))))
 try simp only [sQ,ne_eq] at g2
 refine xW Zdf (h:=x1 Zc9 0 (h:=xV Try.underlying35 (h:=Zcr (h:=xT (h:=xM (h:=Zq (d:=17) rfl (fun g3=>?_) (fun g3=>?_)))))))
 try simp only [sQ,ne_eq] at g3
 refine xW Zeh (h:=x1 lk9 0 (h:=xVs Try.underlying9 (h:=Zdl (h:=xT (h:=xA (h:=Zm ?_))))))
 exact Z4 .ret (.inl rfl) [_] t1 ⟨Zr (by rw [Bool.eq_iff_iff];simp [ZaE,g1,g2,g3];try omega),rfl,rfl⟩
 try simp only [sQ,ne_eq] at g3
 refine xP (h:=xP (h:=xP (h:=xP (h:=xF (h:=xA (h:=Zm ?_))))))
 exact Z4 .ret (.inl rfl) [_] t1 ⟨Zr (by rw [Bool.eq_iff_iff];simp [ZaE,g1,g2,g3];try omega),rfl,rfl⟩
 try simp only [sQ,ne_eq] at g2
 refine xP (h:=xP (h:=xP (h:=xP (h:=xF (h:=xM (h:=xP (h:=xP (h:=xP (h:=xP (h:=xF (h:=xA (h:=Zm ?_))))))))))))
 exact Z4 .ret (.inl rfl) [_] t1 ⟨Zr (by rw [Bool.eq_iff_iff];simp [ZaE,g1,g2];try omega),rfl,rfl⟩
 try simp only [sQ,ne_eq] at g1
 refine xP (h:=xP (h:=xP (h:=xF (h:=xM (h:=xP (h:=xP (h:=xP (h:=xP (h:=xF (h:=xM (h:=xP (h:=xP (h:=?_)))))))))))))
 refine xP (h:=xP (h:=xF (h:=xA (h:=Zm ?_))))
 exact Z4 .ret (.inl rfl) [_] t1 ⟨Zr (by rw [Bool.eq_iff_iff];simp [ZaE,g1];try omega),rfl,rfl⟩

set_option maxHeartbeats 400000 in
theorem Zij (q:Option Addr) (cp:Nat) (xs:List Str) (v:Str) (B:Kn) (ha:SlK B q cp 1 Zt xs):Z8 (pj J) 35 [.slice q xs.length cp,str v] B (.int .i64 (ZkP xs v)):=by
 refine Zg 19 Try.func35 rfl rfl rfl (Nat.le_of_ble_eq_true rfl) ?_
 have han:=ha.len
 refine Za (xA (h:=Zi (Za (xM (h:=xV Try.underlying35 (h:=xM (h:=Zu (Z1 (α:=Nat) [0,1,7] (fun k=>[(8,.int .i64 k)]) [] (fun k=>[]) (fun k Bx=>Bx=B∧k≤xs.length∧∀x,x∈xs.take k→decide (x=v)=false) (fun k=>xs.length - k) 0 t1 rfl (⟨rfl,Nat.zero_le _,by simp⟩) (fun k B1 hle1 hI=>?_)))))))))
 obtain ⟨rfl,hk,hn⟩:=hI
 refine Zak [(0,_),(1,_),(7,_),(8,_)] [] t4 rfl (Za (ZO (h:=Zi (Zc rfl (fun g1=>?_) (fun g1=>?_)))))
 try simp only [sQ,ne_eq] at g1
 refine Ze (Zd (Zi (Zu (Za (xM (h:=xA (h:=Za (xM (h:=xM (h:=xM (h:=?_)))))))))))
 obtain ⟨x,hx⟩:=Za2 (xs:=xs) (i:=k) om
 obtain ⟨bb3,oo3,rfl⟩:=ha.base hx
 obtain ⟨_,⟨rfl,hb4⟩,hc4⟩:=ha.elem hx
 refine xIx Try.underlying35 sz9 (h:=y1 lk9 hc4 0 (h:=ZjI (h:=Zc rfl (fun g2=>?_) (fun g2=>?_))))
 try simp only [sQ,ne_eq] at g2
 refine Za (xM (h:=xA (h:=Zm (ZaK (ZK (Zbj (ZaK (ZK ?_))))))))
 exact Z4 .ret (.inl rfl) [_] t1 ⟨Za0 (Zjg hx (by simp [g2]) hn).symm,rfl,rfl⟩
 try simp only [sQ,ne_eq] at g2
 refine Ze (Zaz (Zd (Zn (xD (h:=xM (h:=?_))))))
 exact Z6 (k+1) [] so2 ⟨rfl,oz,ZgV hx hn (by simp [Ne.symm g2])⟩ t4 rfl
 try simp only [sQ,ne_eq] at g1
 refine Z5 (ZaI (Zac (ZR (Zd (Za (xA (h:=Zm ?_)))))))
 exact Z4 .ret (.inl rfl) [_] t1 ⟨Za0 (Zik (Zgv oz hn)).symm,rfl,rfl⟩

set_option maxHeartbeats 400000 in
theorem Zhn (q:Option Addr) (cp:Nat) (xs:List Str) (v:Str) (B:Kn) (ha:SlK B q cp 1 Zt xs):Z8 (pj J) 93 [.slice q xs.length cp,str v] B (.bool (decide (v∈xs))):=by
 refine Zg 9 Try.func93 rfl rfl rfl (Nat.le_of_ble_eq_true rfl) ?_
 refine Za (xA (h:=Za (xM (h:=xM (h:=xR Zmt rfl (Zij _ _ _ _ _ ha) (h:=ZdN (h:=xA (h:=Zm ?_))))))))
 exact Z4 .ret (.inl rfl) [_] t1 ⟨Zr (by rw [Bool.eq_iff_iff];simp [ZgL]),rfl,rfl⟩

set_option maxHeartbeats 400000 in
theorem Zf2 (q:Option Addr) (cp:Nat) (xs:List Str) (B:Kn) (ha:SlK B q cp 1 Zt xs):Z8 (pj J) 73 [.slice q xs.length cp] B (.bool (decide (1≤xs.length) && Zbi xs)):=by
 refine Zg 31 Try.func73 rfl rfl rfl (Nat.le_of_ble_eq_true rfl) ?_
 have han:=ha.len
 refine Za (xA (h:=Zi (Za (xM (h:=xV Try.underlying35 (h:=ZO (h:=xM (h:=Zq (d:=8) rfl (fun g1=>?_) (fun g1=>?_)))))))))
 try simp only [sQ,ne_eq] at g1
 refine xP (h:=xP (h:=xP (h:=xT (h:=Zc (t:=true) rfl (fun _=>Za (xA (h:=Zm (ZK ?_)))) (fun h=>Bool.noConfusion h)))))
 exact Z4 .ret (.inl rfl) [_] t1 ⟨Zr (by simp;omega),rfl,rfl⟩
 try simp only [sQ,ne_eq] at g1
 refine xM (h:=xV Try.underlying35 (h:=Zcr (h:=xF (h:=Zc rfl (fun g2=>?_) (fun g2=>?_)))))
 try simp only [sQ,ne_eq] at g2
 refine Za (xA (h:=Zm (ZK ?_)))
 exact Z4 .ret (.inl rfl) [_] t1 ⟨Zr (by simp [Zbi];omega),rfl,rfl⟩
 try simp only [sQ,ne_eq] at g2
 refine Ze (Zd (Zi (Za (xM (h:=xV Try.underlying35 (h:=xM (h:=Zu (Z1 (α:=Nat) [0,12,13,14] (fun k=>[(15,.int .i64 k)]) [] (fun k=>[]) (fun k Bx=>Bx=B∧k≤xs.length∧(xs.take k).all Za7=true∧(xs.take k).Nodup) (fun k=>xs.length - k) 0 t1 rfl (⟨rfl,Nat.zero_le _,by simp,by simp⟩) (fun k B1 hle1 hI=>?_)))))))))
 obtain ⟨rfl,hk,hv,hn⟩:=hI
 refine Zak [(0,_),(12,_),(13,_),(14,_),(15,_)] [] t5 rfl (Za (ZO (h:=Zi (Zc rfl (fun g3=>?_) (fun g3=>?_)))))
 try simp only [sQ,ne_eq] at g3
 refine Ze (Zd (Zi (Zu (Za (xM (h:=?_))))))
 obtain ⟨x,hx⟩:=Za2 (xs:=xs) (i:=k) om
 obtain ⟨bb3,oo3,rfl⟩:=ha.base hx
 obtain ⟨_,⟨rfl,hb4⟩,hc4⟩:=ha.elem hx
 refine xIx Try.underlying35 sz9 (h:=y1 lk9 hc4 0 (h:=xA (h:=xA (h:=Za (xM (h:=xR Zmj rfl (ZeJ _ om2 _) (h:=?_)))))))
 refine xN (h:=xM (h:=Zq (d:=23) rfl (fun g4=>?_) (fun g4=>?_)))
 try simp only [sQ,ne_eq] at g4
 refine xP (h:=xP (h:=xP (h:=xP (h:=xP (h:=xT (h:=Zc (t:=true) rfl (fun _=>Za (xA (h:=Zm (ZaK (ZK (Zbj (ZaK (ZK ?_)))))))) (fun h=>Bool.noConfusion h)))))))
 exact Z4 .ret (.inl rfl) [_] t1 ⟨Zr (by rw [← ZdD hx g4,Bool.and_false]),rfl,rfl⟩
 try simp only [sQ,ne_eq] at g4
 refine xM (h:=xM (h:=?_))
 obtain ⟨hq6,q6,cp6,hv6,hr6⟩:=ha.cutE 0 k om om
 have hr6n:=hr6.len
 refine Zh (Zgr (a:=0) (b:=k) hv6 om hq6 rfl rfl Try.underlying35 sz9 rfl rfl ⟨_,_,rfl,by first | omega | (simp;done) | (simp;omega)⟩ ?_)
 refine xM (h:=xR ZmF rfl (Zhn _ _ _ _ _ hr6) (h:=xF (h:=Zc rfl (fun g5=>?_) (fun g5=>?_))))
 try simp only [sQ,ne_eq] at g5
 refine Za (xA (h:=Zm (ZaK (ZK (Zbj (ZaK (ZK ?_)))))))
 exact Z4 .ret (.inl rfl) [_] t1 ⟨Zr (by rw [← ZdC hx (by simpa using g5),Bool.and_false]),rfl,rfl⟩
 try simp only [sQ,ne_eq] at g5
 refine Ze (Zaz (Zd (Zn (xD (h:=xM (h:=?_))))))
 exact Z6 (k+1) [] so2 ⟨rfl,oz,ZfR hx g4 hv,Zh7 hx hn (by simpa using g5)⟩ t5 rfl
 try simp only [sQ,ne_eq] at g3
 refine Z5 (ZaI (Zac (ZR (Zd (Za (xA (h:=Zm ?_)))))))
 exact Z4 .ret (.inl rfl) [_] t1 ⟨Zr (by rw [← Zd6 oz hv hn];simp;omega),rfl,rfl⟩

set_option maxHeartbeats 400000 in
theorem ZdF (q:Option Addr) (cp:Nat) (x:DLetter) (B:Kn) (ha:SlK B q cp 1 Zt x.to_) (h1:x.fr.length≤2000000) (h2:x.text.length≤2000000):Z8 (pj J) 45 [.agg #[str x.fr,.slice q x.to_.length cp,str x.text]] B (.bool (ZaE x)):=by
 refine Zg 17 Try.func45 rfl rfl rfl (Nat.le_of_ble_eq_true rfl) ?_
 refine Za (xBx [_,_,_] (h:=fun b1=>xA (h:=ZF [_] rfl (Za (xW Zei (h:=x1 lk9 0 (h:=xR Zmj rfl (ZeJ _ om2 _) (h:=?_))))))))
 refine xM (h:=Zq (d:=6) rfl (fun g1=>?_) (fun g1=>?_))
 try simp only [sQ,ne_eq] at g1
 refine xW Zdf (h:=x1 Zc9 0 (h:=xR ZmK rfl (Zf2 _ _ _ _ ha) (h:=xT (h:=xM (h:=Zq (d:=11) rfl (fun g2=>?_) (fun g2=>?_))))))
 try simp only [sQ,ne_eq] at g2
 refine xW Zeh (h:=x1 lk9 0 (h:=xVs Try.underlying9 (h:=Zdl (h:=xT (h:=xA (h:=Zm ?_))))))
 exact Z4 .ret (.inl rfl) [_] t1 ⟨Zr (by rw [Zcb];simp [g1,g2]),rfl,rfl⟩
 try simp only [sQ,ne_eq] at g2
 refine xP (h:=xP (h:=xP (h:=xP (h:=xF (h:=xA (h:=Zm ?_))))))
 exact Z4 .ret (.inl rfl) [_] t1 ⟨Zr (by rw [Zcb];simp [g1,g2]),rfl,rfl⟩
 try simp only [sQ,ne_eq] at g1
 refine xP (h:=xP (h:=xP (h:=xF (h:=xM (h:=xP (h:=xP (h:=xP (h:=xP (h:=xF (h:=xA (h:=Zm ?_)))))))))))
 exact Z4 .ret (.inl rfl) [_] t1 ⟨Zr (by rw [Zcb];simp [g1]),rfl,rfl⟩

set_option maxHeartbeats 400000 in
theorem ZdY (aq:Option Addr) (cq:Nat) (q:DQueue) (B:Kn) (hq:SlK B aq cq 4 Zb q.items):Z8 (pj J) 29 [.agg #[.int .i64 q.next,.slice aq q.items.length cq]] B (.bool (Z7 q)):=by
 refine Zg 48 Try.func29 rfl rfl rfl (Nat.le_of_ble_eq_true rfl) ?_
 have hqn:=hq.len
 refine Za (xBx [_,_] (h:=fun b1=>xA (h:=ZF [_] rfl (Za (xA (h:=Zi (Za (xA (h:=Zu (Z1 (α:=Nat × Int) [0,1] (fun p=>[(3,.int .i64 p.2),(4,.int .i64 p.1)]) [] (fun p=>[]) (fun p Bx=>Bx=B∧p.1≤q.items.length∧ZbK 0 q.items=ZbK p.2 (q.items.drop p.1)∧0≤p.2∧p.2≤99) (fun p=>q.items.length - p.1) (0,0) t2 rfl (⟨rfl,Nat.zero_le _,rfl,by decide,by decide⟩) (fun p B2 hle2 hI=>?_)))))))))))
 obtain ⟨rfl,hk,hs,hl0,hl1⟩:=hI
 refine Zak [(0,_),(1,_),(3,_),(4,_)] [_] t4 rfl (Zi (Za (xM (h:=xW Zae (h:=x1 ZdE 0 (h:=xV Try.underlying26 (h:=ZO (h:=Zc rfl (fun g1=>?_) (fun g1=>?_)))))))))
 try simp only [sQ,ne_eq] at g1
 refine Ze (Zd (Zi (Zu (Za (xW Zae (h:=x1 ZdE 0 (h:=xM (h:=?_))))))))
 obtain ⟨x,hx⟩:=Za2 (xs:=q.items) (i:=p.1) om
 obtain ⟨bb4,oo4,rfl⟩:=hq.base hx
 obtain ⟨_,⟨qi5,ci5,rfl,hi5,hb5,hb5b⟩,hc5⟩:=hq.elem hx
 have hi5n:=hi5.len
 refine xIx Try.underlying26 ZbU (h:=?_)
 replace hs:=ZhW hs hx
 refine yL [_,_,_,_] ZeG hc5 0 (h:=xAl [_,_,_,_] ZdI (h:=fun b6=>xS [_,_,_,_] 1 [_,_,_,_] ZbU (h:=ZF [_,_] rfl (Zi (Za (xW Zcd (h:=x1 lk3 1 (h:=xM (h:=xD (h:=xR ZlZ rfl (Zig _ _ _ _) (h:=xN (h:=xM (h:=?_)))))))))))))
 refine Zq (d:=24) rfl (fun g2=>?_) (fun g2=>?_)
 try simp only [sQ,ne_eq] at g2
 refine xP (h:=xP (h:=xP (h:=xP (h:=xP (h:=xP (h:=xP (h:=xP (h:=xP (h:=xT (h:=Zc (t:=true) rfl (fun _=>Za (xA (h:=?_))) (fun h=>Bool.noConfusion h)))))))))))
 refine Zm (ZK (ZaK (ZK (Zbj (ZaK (ZK ?_))))))
 exact Z4 .ret (.inl rfl) [_] t1 ⟨Zr (ZgD (by rw [hs,if_neg];intro h;simp [h.1] at g2)),rfl,rfl⟩
 try simp only [sQ,ne_eq] at g2
 simp only [Bool.and_eq_true,decide_eq_true_eq] at g2
 refine xW Zeg (h:=x1 lk9 1 (h:=xW ZaH (h:=x1 Zc9 1 (h:=xW Zde (h:=x1 lk9 1 (h:=xB [(0,_),(1,_),(2,_)] [_,_,_] [_,_,_] Zmf ZjH (h:=xR Zmr rfl (Zdz _ _ ⟨x.fr,x.left,x.text⟩ _ hi5 oa oa) (h:=?_))))))))
 refine xN (h:=xF (h:=Zc rfl (fun g3=>?_) (fun g3=>?_)))
 try simp only [sQ,ne_eq] at g3
 refine Za (xA (h:=Zm (ZK (ZaK (ZK (Zbj (ZaK (ZK ?_))))))))
 exact Z4 .ret (.inl rfl) [_] t1 ⟨Zr (ZgD (by rw [hs,if_neg];intro h;rw [ZbZ,g3] at h;cases h.2)),rfl,rfl⟩
 try simp only [sQ,ne_eq] at g3
 refine Ze (Zd (Zn (xW Zcd (h:=x1 lk3 1 (h:=xA (h:=Zaz (Zd (Zn (xM (h:=xD (h:=xA (h:=?_))))))))))))
 exact Z6 (p.1+1,x.id) [0] so2 ⟨rfl,so,by rw [hs,if_pos ⟨g2,g3⟩],so,so⟩ t4 rfl
 try simp only [sQ,ne_eq] at g1
 rw [ZiC oz,ZbK] at hs
 refine Z5 (ZaI (Zac (ZR (Zd (Za (xW ZaS (h:=x1 lk3 0 (h:=xM (h:=xD (h:=xR ZlZ rfl (Zig _ _ _ _) (h:=xM (h:=Zq (d:=42) rfl (fun g1=>?_) (fun g1=>?_)))))))))))))
 try simp only [sQ,ne_eq] at g1
 refine xW Zae (h:=x1 ZdE 0 (h:=xV Try.underlying26 (h:=Zdl (h:=xT (h:=xA (h:=Zm ?_))))))
 exact Z4 .ret (.inl rfl) [_] t1 ⟨Zr (by rw [← ZgC hs,Bool.eq_iff_iff];simp [g1,g1];try omega),rfl,rfl⟩
 try simp only [sQ,ne_eq] at g1
 refine xP (h:=xP (h:=xP (h:=xP (h:=xF (h:=xA (h:=Zm ?_))))))
 exact Z4 .ret (.inl rfl) [_] t1 ⟨Zr (by rw [← ZgC hs,Bool.eq_iff_iff];simp [g1,g1];try omega),rfl,rfl⟩

set_option maxHeartbeats 400000 in
theorem Zii (aq:Option Addr) (cq:Nat) (q:DQueue) (B:Kn) (hq:SlK B aq cq 4 Zb q.items):Zx (pj J) 43 [.agg #[.int .i64 q.next,.slice aq q.items.length cq]] B [] (fun v B' Ls=>∃l a cp,Ls=[l]∧v = .agg #[.int .i64 q.next,.slice a q.items.length cp]∧Zaa (B'.less B) l a cp 67 4 Zb q.items):=by
 refine Zg 34 Try.func43 rfl rfl rfl (Nat.le_of_ble_eq_true rfl) ?_
 have hqn:=hq.len
 refine Za (xBx [_,_] (h:=fun b1=>xAl [_,_] Za6 (h:=fun b2=>ZF [_,_] rfl (Za (xW ZaS (h:=x1 lk3 0 (h:=xBs [] [] Try.underlying26 ZbU ZdI (h:=fun b3=>xB [(0,_),(1,_)] [_,_] [_,_] Zi8 Za6 (h:=xAl [_,_] Za6 (h:=fun b4=>xS [_,_] 3 [_,_] ZaW (h:=ZF [_,_,_,_] rfl (Zi ?_))))))))))))
 refine Za (xA (h:=Zu (Z1 (α:=Gh DItem) [0,1,2,3] (fun g=>[(4,.int .i64 g.k)]) [2,3] (fun g=>[g.l,Z0 b4 [.int .i64 q.next,.slice g.a g.xs.length g.c] 28]) (fun g Bx=>g.k≤q.items.length∧g.xs=q.items.take g.k∧Zaa (Bx.less B) g.l g.a g.c 67 4 Zb g.xs) (fun g=>q.items.length - g.k) ⟨0,0,_,_,_,[]⟩ t1 rfl (⟨Nat.zero_le _,rfl,.lit0⟩) (fun g B5 hle5 hI=>?_))))
 obtain ⟨hk,hxs,hv⟩:=hI
 have hxn:=congrArg List.length hxs
 rw [List.length_take] at hxn
 replace hq:=hq.mono Zb.mono hle5
 refine Zak [(0,_),(1,_),(2,_),(3,_),(4,_)] [_,_,_,_] t5 rfl (Zi (Za (xM (h:=xW Zae (h:=x1 ZdE 0 (h:=xV Try.underlying26 (h:=ZO (h:=Zc rfl (fun g1=>?_) (fun g1=>?_)))))))))
 try simp only [sQ,ne_eq] at g1
 refine Ze (Zd (Zi (Zu (Za (xW Zae (h:=x1 ZdE 0 (h:=xM (h:=?_))))))))
 obtain ⟨x,hx⟩:=Za2 (xs:=q.items) (i:=g.k) om
 obtain ⟨bb7,oo7,rfl⟩:=hq.base hx
 obtain ⟨_,⟨qi8,ci8,rfl,hi8,hb8,hb8b⟩,hc8⟩:=hq.elem hx
 have hi8n:=hi8.len
 refine xIx Try.underlying26 ZbU (h:=yL [_,_,_,_] ZeG hc8 0 (h:=xAl [_,_,_,_] ZdI (h:=fun b9=>xS [_,_,_,_] 4 [_,_,_,_] ZbU (h:=ZF [_,_,_,_,_] rfl (Za (xBs [] [] Try.underlying35 sz9 zo9 (h:=fun b10=>xW ZaH (h:=x1 Zc9 4 (h:=Zh (Zgt (R:=Zt) 5 rfl (Zaa.lit0 (R:=Zt)) rfl rfl rfl ZkL ZkO rfl rfl rfl hi8.rows Zt.one rfl om (fun l11 p11 c11 hv11=>?_)))))))))))
 refine xW ZaH (h:=xS [_] 4 [_,_,_,_] Zkp (h:=ZF [_,_,_,_,_,_] rfl (ZhA 5 rfl hv11 Zt.any om3 hle5 (fun B12 hle12 hr12f=>?_))))
 have hr12:=hr12f.mono Zt.mono Kn.less_le
 replace hq:=hq.mono Zb.mono hle12
 replace hv:=hv.mono Zb.mono (Kn.less_mono hle12)
 have hr12n:=hr12.len
 refine Zn (xW Zae (h:=x1 ZdE 3 (h:=xL [_,_,_,_] ZeG 4 (h:=xBs [(0,_)] [_,_,_,_] Try.underlying26 ZbU ZdI (h:=fun b13=>Zh (ZdU (z:=⟨x.id,x.fr,x.text,x.left⟩) (R:=Zb) 2 rfl hv rfl rfl rfl Zj5 Zkq rfl rfl (Za5.box 6 rfl) rfl rfl (⟨_,_,rfl,hr12f,by first | assumption | omega | (simp;done) | (simp;omega),by first | assumption | omega | (simp;done) | (simp;omega)⟩) om (fun l14 p14 c14 hv14=>?_)))))))
 refine xW Zae (h:=xS [_] 3 [_,_] ZjU (h:=Zaz (Zd (Zn (xM (h:=xD (h:=xA (h:=?_))))))))
 exact Z6 ⟨g.k+1,0,l14,p14,c14,(g.xs ++ [⟨x.id,x.fr,x.text,x.left⟩])⟩ [0,1,2,3] so2 ⟨so,by simp only [];rw [Zau hx,hxs],hv14⟩ t5 rfl
 try simp only [sQ,ne_eq] at g1
 have hxe:g.xs=q.items:=by rw [hxs];exact List.take_of_length_le oz
 refine Z5 (ZaI (Zac (ZR (Zd (Za (xL [_,_] ZQ 3 (h:=xS [_,_] 1 [_,_] ZaW (h:=ZF [_,_,_,_] rfl (Zm ?_)))))))))
 exact ZbQ .ret (.inl rfl) [_] [2] rfl ⟨⟨_,rfl,.inr ⟨[_,_],ZQ,Za4 1 rfl rfl rfl,rfl⟩⟩,trivial⟩ ⟨_,_,_,rfl,by rw [← hxe];rfl,hxe ▸ hv⟩

set_option maxHeartbeats 400000 in
theorem ZcY (aq:Option Addr) (cq:Nat) (q:DQueue) (qx:Option Addr) (cx:Nat) (x:DLetter) (B:Kn) (hq:SlK B aq cq 4 Zb q.items) (hx:SlK B qx cx 1 Zt x.to_) (h1:x.fr.length≤2000000) (h2:x.text.length≤2000000):Zx (pj J) 14 [.agg #[.int .i64 q.next,.slice aq q.items.length cq],.agg #[str x.fr,.slice qx x.to_.length cx,str x.text]] B [] (fun v B' Ls=>(∃l a cp,Ls=[l]∧v = .tuple #[.agg #[.int .i64 (Zai q x).1.next,.slice a (Zai q x).1.items.length cp],.bool (Zai q x).2]∧Zaa (B'.less B) l a cp 67 4 Zb (Zai q x).1.items)):=by
 refine Zg 49 Try.func14 rfl rfl rfl (Nat.le_of_ble_eq_true rfl) ?_
 have hqn:=hq.len
 have hxn:=hx.len
 refine Za (xBx [_,_] (h:=fun b1=>xBx [_,_,_] (h:=fun b2=>xAl [_,_] Za6 (h:=fun b3=>xA (h:=ZF [_,_,_] rfl (Zi (Za (xL [_,_] ZQ 0 (h:=xR Zmw rfl (ZdY _ _ q _ hq) (h:=xN (h:=xM (h:=Zq (d:=10) rfl (fun g1=>?_) (fun g1=>?_)))))))))))))
 try simp only [sQ,ne_eq] at g1
 refine xP (h:=xP (h:=xP (h:=xT (h:=Zc (t:=true) rfl (fun _=>Za (xB [] [_,_] [_,_] Zi8 Za6 (h:=xS [_,_] 2 [_,_] ZaW (h:=xA (h:=ZF [_,_,_] rfl (Zm (ZK ?_))))))) (fun h=>Bool.noConfusion h)))))
 have he:=ZfT (x:=x) g1
 exact ZkQ .ret (.inl rfl) [_,_] ⟨⟨_,rfl,.inr ⟨[_,_],ZQ,Za4 2 rfl rfl rfl,rfl⟩⟩,rfl,trivial⟩ ⟨_,none,0,rfl,by rw [he];rfl,by rw [he];exact Zaa.nil⟩
 try simp only [sQ,ne_eq] at g1
 refine xL [_,_,_] ZfU 1 (h:=xR Zmr rfl (Zdz _ _ x _ hx oa oa) (h:=?_))
 refine xN (h:=xF (h:=Zc rfl (fun g2=>?_) (fun g2=>?_)))
 try simp only [sQ,ne_eq] at g2
 refine Za (xB [] [_,_] [_,_] Zi8 Za6 (h:=xS [_,_] 2 [_,_] ZaW (h:=xA (h:=ZF [_,_,_] rfl (Zm (ZK ?_))))))
 have he:=ZfS (q:=q) g2
 exact ZkQ .ret (.inl rfl) [_,_] ⟨⟨_,rfl,.inr ⟨[_,_],ZQ,Za4 2 rfl rfl rfl,rfl⟩⟩,rfl,trivial⟩ ⟨_,none,0,rfl,by rw [he];rfl,by rw [he];exact Zaa.nil⟩
 try simp only [sQ,ne_eq] at g2
 have hqb:=Zbz g1
 refine Ze (Zd (Za (xL [_,_] ZQ 0 (h:=Zh (Zs rfl rfl ZmT rfl (Zii _ _ q _ hq) ?_)))))
 rintro _ Bk _ hlek ⟨lk,ak,ck,rfl,rfl,hvk⟩
 replace hq:=hq.mono Zb.mono hlek
 replace hx:=hx.mono Zt.mono hlek
 replace hvk:=hvk.mono Zb.mono (Kn.less_up (Kn.le.refl _) (Kn.le.refl _))
 refine xAl [_,_] Za6 (h:=fun b7=>xS [_,_] 4 [_,_] ZaW (h:=ZF [_,_,_,_,_] rfl (Zi (Za (xW Zae (h:=x1 ZdE 0 (h:=xV Try.underlying26 (h:=ZdN (h:=xM (h:=Zq (d:=22) rfl (fun g3=>?_) (fun g3=>?_)))))))))))
 try simp only [sQ,ne_eq] at g3
 refine xP (h:=xP (h:=xP (h:=xT (h:=Zc (t:=true) rfl (fun _=>Za (xL [_,_] ZQ 4 (h:=xS [_,_] 2 [_,_] ZaW (h:=xA (h:=ZF [_,_,_,_,_] rfl (Zm (ZK ?_))))))) (fun h=>Bool.noConfusion h)))))
 have he:=Zdj g1 g2 (.inl oz)
 exact ZbQ .ret (.inl rfl) [_,_] [3] rfl ⟨⟨_,rfl,.inr ⟨[_,_],ZQ,Za4 2 rfl rfl rfl,rfl⟩⟩,rfl,trivial⟩ ⟨_,_,_,rfl,by rw [he];rfl,by rw [he];exact hvk⟩
 try simp only [sQ,ne_eq] at g3
 refine xW ZaS (h:=x1 lk3 0 (h:=Zcr (h:=xF (h:=Zc rfl (fun g4=>?_) (fun g4=>?_)))))
 try simp only [sQ,ne_eq] at g4
 refine Za (xL [_,_] ZQ 4 (h:=xS [_,_] 2 [_,_] ZaW (h:=xA (h:=ZF [_,_,_,_,_] rfl (Zm (ZK ?_))))))
 have he:=Zdj g1 g2 (.inr oz)
 exact ZbQ .ret (.inl rfl) [_,_] [3] rfl ⟨⟨_,rfl,.inr ⟨[_,_],ZQ,Za4 2 rfl rfl rfl,rfl⟩⟩,rfl,trivial⟩ ⟨_,_,_,rfl,by rw [he];rfl,by rw [he];exact hvk⟩
 try simp only [sQ,ne_eq] at g4
 refine Ze (Zd (Zi (Z9 (keeps _ [0,1,4] _) mo kr ⟨Kn.le.refl _,Zat.refl _ _⟩ (fun _ _=>?_))))
 refine aW 0 rfl Zae (h:=aT 1 rfl (Z2 fun D B L hI=>ZG rfl rfl ZdE rfl (atL 4 (hI.2.2.2.1.trans rfl) rfl rfl) r4) (h:=aW 2 rfl ZaS (h:=aT 3 rfl (Z2 fun D B L hI=>ZG rfl rfl lk3 rfl (atL 0 (hI.2.1.trans rfl) rfl rfl) r4) (h:=aW 4 rfl Zei (h:=aT 5 rfl (Z2 fun D B L hI=>ZG rfl rfl lk9 rfl (atL 1 (hI.2.2.1.trans rfl) rfl rfl) r4) (h:=aW 6 rfl Zeh (h:=aT 7 rfl (Z2 fun D B L hI=>ZG rfl rfl lk9 rfl (atL 1 (hI.2.2.1.trans rfl) rfl rfl) r4) (h:=aW 9 rfl Zdf (h:=aT 10 rfl (Z2 fun D B L hI=>ZG rfl rfl Zc9 rfl (atL 1 (hI.2.2.1.trans rfl) rfl rfl) r4) (h:=Zp 8 kr rfl kr (ZaP (parts:=[]) [] rfl rfl Try.underlying35 sz9 zo9 rfl rfl rfl rfl rfl (fun b8=>?_))))))))))))
 refine ⟨⟨Kn.le.refl _,t3⟩,(Zp 11 kr rfl kr (Zgt (R:=Zt) 5 rfl (Zaa.lit0 (R:=Zt)) rfl rfl rfl ZkL ZkO rfl rfl rfl hx.rows Zt.one rfl om (fun l9 p9 c9 hv9=>?_)))⟩
 refine ⟨⟨Kn.le.refl _,t3⟩,(Zlv 5 rfl hv9 Zt.any om3 hlek (fun B' hle'=>⟨hle',t3⟩) (fun B10 hle10 hr10f=>?_))⟩
 have hr10:=hr10f.mono Zt.mono Kn.less_le
 replace hq:=hq.mono Zb.mono hle10
 replace hx:=hx.mono Zt.mono hle10
 replace hvk:=hvk.mono Zb.mono (Kn.less_mono hle10)
 have hr10n:=hr10.len
 refine aT 12 rfl (Z2 fun D B L hI=>ZfX (parts:=[(0,_),(1,_),(2,_),(3,_)]) [_,_,_,_] [_,_,_,_] rfl rfl Zme ZdI rfl rfl rfl r4) (h:=Zp 13 kr rfl kr (ZaP (parts:=[(0,_)]) [_,_,_,_] rfl rfl Try.underlying26 ZbU ZdI rfl rfl rfl rfl rfl (fun b11=>?_)))
 refine ⟨⟨hle10,t3⟩,(Zp 14 kr rfl kr (ZdU (z:=⟨q.next,x.fr,x.text,x.to_⟩) (R:=Zb) 3 rfl hvk rfl rfl rfl Zj5 Zkq rfl rfl (Za5.box 6 rfl) rfl rfl (⟨_,_,rfl,hr10f,by first | assumption | omega | (simp;done) | (simp;omega),by first | assumption | omega | (simp;done) | (simp;omega)⟩) om (fun l12 p12 c12 hv12=>?_)))⟩
 refine ⟨⟨hle10,t3⟩,(aW 15 rfl Zae (h:=ZcO 16 kr rfl kr kr kr (ZV [_] 4 [_,_] rfl rfl ZjU rfl rfl rfl rfl rfl rfl rfl rfl ?_)))⟩
 refine Zd (ZF [_,_,_,_,_,_,_] rfl (Za (xW ZaS (h:=x1 lk3 0 (h:=xD (h:=xW ZaS (h:=xS [_] 4 [_,_] sz3 (h:=ZF [_,_,_,_,_,_,_] rfl (Za (xL [_,_] ZQ 4 (h:=xS [_,_] 2 [_,_] ZaW (h:=xA (h:=?_)))))))))))))
 refine ZF [_,_,_,_,_,_,_] rfl (Zm ?_)
 have he:=ZiK g1 g2 oz oz
 exact ZbQ .ret (.inl rfl) [_,_] [3] rfl ⟨⟨_,rfl,.inr ⟨[_,_],ZQ,Za4 2 rfl rfl rfl,rfl⟩⟩,rfl,trivial⟩ ⟨_,_,_,rfl,by rw [he];rfl,by rw [he];exact hv12⟩

set_option maxHeartbeats 400000 in
theorem ZfD (q:Option Addr) (cp:Nat) (xs:List Str) (u:Str) (B:Kn) (ha:SlK B q cp 1 Zt xs):Zx (pj J) 64 [.slice q xs.length cp,str u] B [] (fun v B' Ls=>Ls=[]∧∃a cp,v = .slice a (without xs u).length cp∧SlK (B'.less B) a cp 1 Zt (without xs u)):=by
 refine Zg 28 Try.func64 rfl rfl rfl (Nat.le_of_ble_eq_true rfl) ?_
 have han:=ha.len
 refine Za (xA (h:=Za (xBs [] [] Try.underlying35 sz9 zo9 (h:=fun b1=>xA (h:=ZF [_] rfl (Zi (Za (xA (h:=Zu (Z1 (α:=Gh Str) [0,1,4] (fun g=>[(5,.slice g.a g.xs.length g.c),(6,.int .i64 g.k)]) [0] (fun g=>[g.l]) (fun g Bx=>Bx=B∧g.k≤xs.length∧g.xs=without (xs.take g.k) u∧g.xs.length≤g.k∧Zaa Bx g.l g.a g.c 9 1 Zt g.xs) (fun g=>xs.length - g.k) ⟨0,0,_,_,_,[]⟩ t2 rfl (⟨rfl,Nat.zero_le _,rfl,Nat.le_refl _,.lit0⟩) (fun g B2 hle2 hI=>?_)))))))))))
 obtain ⟨rfl,hk,hxs,hgl,hv⟩:=hI
 refine Zak [(0,_),(1,_),(4,_),(5,_),(6,_)] [_] t5 rfl (Zi (Za (xM (h:=xM (h:=xV Try.underlying35 (h:=ZO (h:=Zc rfl (fun g1=>?_) (fun g1=>?_))))))))
 try simp only [sQ,ne_eq] at g1
 refine Ze (Zd (Zi (Zu (Za (xM (h:=xM (h:=?_)))))))
 obtain ⟨x,hx⟩:=Za2 (xs:=xs) (i:=g.k) om
 obtain ⟨bb4,oo4,rfl⟩:=ha.base hx
 obtain ⟨_,⟨rfl,hb5⟩,hc5⟩:=ha.elem hx
 refine xIx Try.underlying35 sz9 (h:=y1 lk9 hc5 0 (h:=xM (h:=Zdt (h:=Zc rfl (fun g2=>?_) (fun g2=>?_)))))
 try simp only [sQ,ne_eq] at g2
 refine Zn (xM (h:=xM (h:=xM (h:=xIx Try.underlying35 sz9 (h:=y1 lk9 hc5 0 (h:=xBs [(0,_)] [_] Try.underlying35 sz9 zo9 (h:=fun b6=>Zh (ZdU (z:=x) (R:=Zt) 0 rfl hv rfl rfl rfl ZkL ZkO rfl rfl (Za5.box 1 rfl) rfl rfl (⟨rfl,by first | assumption | omega | (simp;done) | (simp;omega)⟩) om (fun l7 p7 c7 hv7=>?_)))))))))
 refine xA (h:=Zaz (Zd (Zn (xM (h:=xD (h:=xA (h:=?_)))))))
 exact Z6 ⟨g.k+1,0,l7,p7,c7,(g.xs ++ [x])⟩ [0] so2 ⟨rfl,so,by simp only [];rw [Zfk hx g2,hxs],by simp;omega,hv7⟩ t5 rfl
 try simp only [sQ,ne_eq] at g2
 refine Ze (Zaz (Zd (Zn (xM (h:=xD (h:=xA (h:=?_)))))))
 exact Z6 ⟨g.k+1,0,g.l,g.a,g.c,g.xs⟩ [0] so2 ⟨rfl,so,by simp only [];rw [Zfj hx g2,hxs],so,hv⟩ t5 rfl
 try simp only [sQ,ne_eq] at g1
 have hxe:g.xs=without xs u:=by rw [hxs,List.take_of_length_le oz]
 refine Z5 (ZaI (Zac (ZR (Zd (ZhA 0 rfl hv Zt.any om3 (Kn.le.refl _) (fun B8 hle8 hr8f=>?_))))))
 have hr8:=hr8f.mono Zt.mono Kn.less_le
 replace ha:=ha.mono Zt.mono hle8
 have hr8n:=hr8.len
 refine Za (xM (h:=xA (h:=ZF [_] rfl (Zm ?_))))
 exact ZbQ .ret (.inl rfl) [_] [] rfl t1 ⟨rfl,_,_,by rw [← hxe];rfl,hxe ▸ hr8f⟩

set_option maxHeartbeats 400000 in
theorem Zih (aq:Option Addr) (cq:Nat) (q:DQueue) (id:Int) (u:Str) (B:Kn) (hq:SlK B aq cq 4 Zb q.items):Zx (pj J) 30 [.agg #[.int .i64 q.next,.slice aq q.items.length cq],.int .i64 id,str u] B [] (fun v B' Ls=>(∃l a cp,Ls=[l]∧v = .tuple #[.agg #[.int .i64 (ZcU q id u).1.next,.slice a (ZcU q id u).1.items.length cp],str (ZcU q id u).2.1,.bool (ZcU q id u).2.2]∧Zaa (B'.less B) l a cp 67 4 Zb (ZcU q id u).1.items∧(ZcU q id u).2.1.length≤2000000)):=by
 refine Zg 65 Try.func30 rfl rfl rfl (Nat.le_of_ble_eq_true rfl) ?_
 have hqn:=hq.len
 refine Za (xBx [_,_] (h:=fun b1=>xAl [_,_] Za6 (h:=fun b2=>xA (h:=xA (h:=ZF [_,_] rfl (Za (xW ZaS (h:=x1 lk3 0 (h:=xBs [] [] Try.underlying26 ZbU ZdI (h:=fun b3=>xB [(0,_),(1,_)] [_,_] [_,_] Zi8 Za6 (h:=xAl [_,_] Za6 (h:=fun b4=>xS [_,_] 3 [_,_] ZaW (h:=?_)))))))))))))
 refine ZF [_,_,_,_] rfl (Za (xA (h:=Za (xA (h:=Zi (Za (xA (h:=Zu (Z1 (α:=Gh2 DItem (Str × Bool)) [0,1,2,3,6,7,8,9] (fun g=>[(10,str g.e.1),(11,.bool g.e.2),(12,.int .i64 g.k)]) [2,3] (fun g=>[g.l,Z0 b4 [.int .i64 q.next,.slice g.a g.xs.length g.c] 28]) (fun g Bx=>g.k≤q.items.length∧g.e=ZcG id u (q.items.take g.k)∧g.e.1.length≤2000000∧g.xs=Zct id u (q.items.take g.k)∧Zaa (Bx.less B) g.l g.a g.c 67 4 Zb g.xs) (fun g=>q.items.length - g.k) ⟨0,0,_,_,_,[],([],false)⟩ t3 rfl (⟨Nat.zero_le _,rfl,Nat.zero_le _,rfl,.lit0⟩) (fun g B5 hle5 hI=>?_))))))))))
 obtain ⟨hk,he,htl,hxs,hv⟩:=hI
 have hxn:g.xs.length≤g.k:=by rw [hxs];exact Nat.le_trans (Zfn _ _ _) (by rw [List.length_take];omega)
 replace hq:=hq.mono Zb.mono hle5
 refine Zak [(0,_),(1,_),(2,_),(3,_),(6,_),(7,_),(8,_),(9,_),(10,_),(11,_),(12,_)] [_,_,_,_] t11 rfl (Zi (Za (xM (h:=xW Zae (h:=x1 ZdE 0 (h:=xV Try.underlying26 (h:=ZO (h:=Zc rfl (fun g1=>?_) (fun g1=>?_)))))))))
 try simp only [sQ,ne_eq] at g1
 refine Ze (Zd (Zi (Zu (Za (xW Zae (h:=x1 ZdE 0 (h:=xM (h:=?_))))))))
 obtain ⟨x,hx⟩:=Za2 (xs:=q.items) (i:=g.k) om
 obtain ⟨bb7,oo7,rfl⟩:=hq.base hx
 obtain ⟨_,⟨qi8,ci8,rfl,hi8,hb8,hb8b⟩,hc8⟩:=hq.elem hx
 have hi8n:=hi8.len
 refine xIx Try.underlying26 ZbU (h:=yL [_,_,_,_] ZeG hc8 0 (h:=xAl [_,_,_,_] ZdI (h:=fun b9=>xS [_,_,_,_] 4 [_,_,_,_] ZbU (h:=ZF [_,_,_,_,_] rfl (Za (xBs [] [] Try.underlying35 sz9 zo9 (h:=fun b10=>xW ZaH (h:=x1 Zc9 4 (h:=Zh (Zgt (R:=Zt) 5 rfl (Zaa.lit0 (R:=Zt)) rfl rfl rfl ZkL ZkO rfl rfl rfl hi8.rows Zt.one rfl om (fun l11 p11 c11 hv11=>?_)))))))))))
 refine xW ZaH (h:=xS [_] 4 [_,_,_,_] Zkp (h:=ZF [_,_,_,_,_,_] rfl (Zi (ZhA 5 rfl hv11 Zt.any om3 hle5 (fun B12 hle12 hr12f=>?_)))))
 have hr12:=hr12f.mono Zt.mono Kn.less_le
 replace hq:=hq.mono Zb.mono hle12
 replace hv:=hv.mono Zb.mono (Kn.less_mono hle12)
 have hr12n:=hr12.len
 refine Za (xW Zcd (h:=x1 lk3 4 (h:=xM (h:=Zfi (h:=xM (h:=Zq (d:=39) rfl (fun g2=>?_) (fun g2=>?_)))))))
 try simp only [sQ,ne_eq] at g2
 refine xW ZaH (h:=x1 Zc9 4 (h:=xM (h:=xR Zml rfl (ZgK _ _ _ _ _ hr12) (h:=xT (h:=ZF [_,_,_,_,_,_] rfl (Zc rfl (fun g3=>?_) (fun g3=>?_)))))))
 try simp only [sQ,ne_eq] at g3
 have hwl:=ZfV x.left u
 refine Za (xA (h:=Za (xW Zde (h:=x1 lk9 4 (h:=xA (h:=Zn (xW ZaH (h:=x1 Zc9 4 (h:=xM (h:=Zh (Zkh rfl rfl ZmR rfl (ZfD _ _ _ _ _ hr12) ?_)))))))))))
 intro v14 B14 hle14
 rintro ⟨a14,c14,rfl,hw14f⟩
 replace hq:=hq.mono Zb.mono hle14
 replace hr12:=hr12.mono Zt.mono hle14
 replace hr12f:=hr12f.mono Zt.mono (Kn.less_mono hle14)
 replace hv:=hv.mono Zb.mono (Kn.less_mono hle14)
 replace hw14f:=hw14f.mono Zt.mono (Kn.less_up (hle5.trans hle12) (Kn.le.refl _))
 have hw14:=hw14f.mono Zt.mono Kn.less_le
 refine xW ZaH (h:=xS [_] 4 [_,_,_,_] Zkp (h:=Zd (Za (xW ZaH (h:=x1 Zc9 4 (h:=xV Try.underlying35 (h:=Zcr (h:=ZF [_,_,_,_,_,_] rfl (Zc rfl (fun g4=>?_) (fun g4=>?_))))))))))
 try simp only [sQ,ne_eq] at g4
 refine Zn (xW Zae (h:=x1 ZdE 3 (h:=xL [_,_,_,_] ZeG 4 (h:=xBs [(0,_)] [_,_,_,_] Try.underlying26 ZbU ZdI (h:=fun b15=>Zh (ZdU (z:=⟨x.id,x.fr,x.text,(without x.left u)⟩) (R:=Zb) 2 rfl hv rfl rfl rfl Zj5 Zkq rfl rfl (Za5.box 6 rfl) rfl rfl (⟨_,_,rfl,hw14f,by first | assumption | omega | (simp;done) | (simp;omega),by first | assumption | omega | (simp;done) | (simp;omega)⟩) om (fun l16 p16 c16 hv16=>?_)))))))
 refine xW Zae (h:=xS [_] 3 [_,_] ZjU (h:=Zaz (Zd (Zn (xM (h:=xD (h:=xA (h:=?_))))))))
 exact Z6 ⟨g.k+1,0,l16,p16,c16,(g.xs ++ [⟨x.id,x.fr,x.text,(without x.left u)⟩]),(x.text,true)⟩ [0,1,2,3] so2 ⟨so,by simp only [];rw [Zfr hx g2 g3],by simp only [];first | assumption | omega,by simp only [];rw [hxs,ZdX hx (Zb3 g2 g3) (by simpa using g4)],hv16⟩ t11 rfl
 try simp only [sQ,ne_eq] at g4
 refine Ze (Zaz (Zd (Zn (xM (h:=xD (h:=xA (h:=?_)))))))
 exact Z6 ⟨g.k+1,0,g.l,g.a,g.c,g.xs,(x.text,true)⟩ [0,1,2,3] so2 ⟨so,by simp only [];rw [Zfr hx g2 g3],by simp only [];first | assumption | omega,by simp only [];rw [hxs,Zdm hx (Zb3 g2 g3) (by simpa using g4)],hv⟩ t11 rfl
 try simp only [sQ,ne_eq] at g3
 refine Ze (Zd (Za (xW ZaH (h:=x1 Zc9 4 (h:=xV Try.underlying35 (h:=Zcr (h:=Zc rfl (fun g4=>?_) (fun g4=>?_))))))))
 try simp only [sQ,ne_eq] at g4
 refine Zn (xW Zae (h:=x1 ZdE 3 (h:=xL [_,_,_,_] ZeG 4 (h:=xBs [(0,_)] [_,_,_,_] Try.underlying26 ZbU ZdI (h:=fun b17=>Zh (ZdU (z:=⟨x.id,x.fr,x.text,x.left⟩) (R:=Zb) 2 rfl hv rfl rfl rfl Zj5 Zkq rfl rfl (Za5.box 6 rfl) rfl rfl (⟨_,_,rfl,hr12f,by first | assumption | omega | (simp;done) | (simp;omega),by first | assumption | omega | (simp;done) | (simp;omega)⟩) om (fun l18 p18 c18 hv18=>?_)))))))
 refine xW Zae (h:=xS [_] 3 [_,_] ZjU (h:=Zaz (Zd (Zn (xM (h:=xD (h:=xA (h:=?_))))))))
 exact Z6 ⟨g.k+1,0,l18,p18,c18,(g.xs ++ [⟨x.id,x.fr,x.text,x.left⟩]),g.e⟩ [0,1,2,3] so2 ⟨so,by simp only [];rw [Zfp hx g3];exact he,by simp only [];first | assumption | omega,by simp only [];rw [hxs,ZdX hx (Zdx g3) (by simpa using g4)],hv18⟩ t11 rfl
 try simp only [sQ,ne_eq] at g4
 refine Ze (Zaz (Zd (Zn (xM (h:=xD (h:=xA (h:=?_)))))))
 exact Z6 ⟨g.k+1,0,g.l,g.a,g.c,g.xs,g.e⟩ [0,1,2,3] so2 ⟨so,by simp only [];rw [Zfp hx g3];exact he,by simp only [];first | assumption | omega,by simp only [];rw [hxs,Zdm hx (Zdx g3) (by simpa using g4)],hv⟩ t11 rfl
 try simp only [sQ,ne_eq] at g2
 refine xP (h:=xP (h:=xP (h:=xP (h:=xF (h:=ZF [_,_,_,_,_,_] rfl (Zc (t:=false) rfl (fun h=>Bool.noConfusion h) (fun _=>Ze (Zd (Za (xW ZaH (h:=x1 Zc9 4 (h:=xV Try.underlying35 (h:=?_)))))))))))))
 refine Zcr (h:=Zc rfl (fun g3=>?_) (fun g3=>?_))
 try simp only [sQ,ne_eq] at g3
 refine Zn (xW Zae (h:=x1 ZdE 3 (h:=xL [_,_,_,_] ZeG 4 (h:=xBs [(0,_)] [_,_,_,_] Try.underlying26 ZbU ZdI (h:=fun b19=>Zh (ZdU (z:=⟨x.id,x.fr,x.text,x.left⟩) (R:=Zb) 2 rfl hv rfl rfl rfl Zj5 Zkq rfl rfl (Za5.box 6 rfl) rfl rfl (⟨_,_,rfl,hr12f,by first | assumption | omega | (simp;done) | (simp;omega),by first | assumption | omega | (simp;done) | (simp;omega)⟩) om (fun l20 p20 c20 hv20=>?_)))))))
 refine xW Zae (h:=xS [_] 3 [_,_] ZjU (h:=Zaz (Zd (Zn (xM (h:=xD (h:=xA (h:=?_))))))))
 exact Z6 ⟨g.k+1,0,l20,p20,c20,(g.xs ++ [⟨x.id,x.fr,x.text,x.left⟩]),g.e⟩ [0,1,2,3] so2 ⟨so,by simp only [];rw [Zfq hx g2];exact he,by simp only [];first | assumption | omega,by simp only [];rw [hxs,ZdX hx (Zdy g2) (by simpa using g3)],hv20⟩ t11 rfl
 try simp only [sQ,ne_eq] at g3
 refine Ze (Zaz (Zd (Zn (xM (h:=xD (h:=xA (h:=?_)))))))
 exact Z6 ⟨g.k+1,0,g.l,g.a,g.c,g.xs,g.e⟩ [0,1,2,3] so2 ⟨so,by simp only [];rw [Zfq hx g2];exact he,by simp only [];first | assumption | omega,by simp only [];rw [hxs,Zdm hx (Zdy g2) (by simpa using g3)],hv⟩ t11 rfl
 try simp only [sQ,ne_eq] at g1
 have hkl:q.items.take g.k=q.items:=List.take_of_length_le oz
 rw [hkl] at he hxs
 refine Z5 (ZaI (Zac (ZR (Zd (Za (xL [_,_] ZQ 3 (h:=xM (h:=xM (h:=xS [_,_] 1 [_,_] ZaW (h:=xA (h:=xA (h:=ZF [_,_,_,_] rfl (Zm ?_)))))))))))))
 exact ZbQ .ret (.inl rfl) [_,_,_] [2] rfl ⟨⟨_,rfl,.inr ⟨[_,_],ZQ,Za4 1 rfl rfl rfl,rfl⟩⟩,rfl,rfl,trivial⟩ ⟨_,_,_,rfl,by simp only [ZcU,← he,← hxs];rfl,by simp only [ZcU,← hxs];exact hv,by simp only [ZcU,← he];exact htl⟩

set_option maxHeartbeats 400000 in
theorem Zg8 (aq:Option Addr) (cq:Nat) (q:DQueue) (id:Int) (u:Str) (B:Kn) (hq:SlK B aq cq 4 Zb q.items):Zx (pj J) 7 [.agg #[.int .i64 q.next,.slice aq q.items.length cq],.int .i64 id,str u] B [] (fun v B' Ls=>(∃l a cp,Ls=[l]∧v = .tuple #[.agg #[.int .i64 (Zan q id u).1.next,.slice a (Zan q id u).1.items.length cp],str (Zan q id u).2.1,.bool (Zan q id u).2.2]∧Zaa (B'.less B) l a cp 67 4 Zb (Zan q id u).1.items∧(Zan q id u).2.1.length≤2000000)):=by
 refine Zg 20 Try.func7 rfl rfl rfl (Nat.le_of_ble_eq_true rfl) ?_
 refine Za (xBx [_,_] (h:=fun b1=>xAl [_,_] Za6 (h:=fun b2=>xA (h:=xA (h:=ZF [_,_] rfl (Zi (Za (xL [_,_] ZQ 0 (h:=xR Zmw rfl (ZdY _ _ q _ hq) (h:=xN (h:=Zc rfl (fun g1=>?_) (fun g1=>?_))))))))))))
 try simp only [sQ,ne_eq] at g1
 refine Za (xB [] [_,_] [_,_] Zi8 Za6 (h:=xS [_,_] 1 [_,_] ZaW (h:=xA (h:=xA (h:=ZF [_,_] rfl (Zm (ZK ?_)))))))
 have he:Zan q id u=(⟨0,[]⟩,[],false):=by simp [Zan,g1]
 exact ZkQ .ret (.inl rfl) [_,_,_] ⟨⟨_,rfl,.inr ⟨[_,_],ZQ,Za4 1 rfl rfl rfl,rfl⟩⟩,rfl,rfl,trivial⟩ ⟨_,none,0,rfl,by rw [he];rfl,by rw [he];exact Zaa.nil,by rw [he];exact Nat.zero_le _⟩
 try simp only [sQ,ne_eq] at g1
 refine Ze (Zd (Za (xL [_,_] ZQ 0 (h:=xM (h:=xM (h:=Zh (Zs rfl rfl ZmZ rfl (Zih _ _ q id u _ hq) ?_)))))))
 rintro _ Bk _ hlek ⟨lk,ak,ck,rfl,rfl,hvk,htk⟩
 replace hq:=hq.mono Zb.mono hlek
 replace hvk:=hvk.mono Zb.mono (Kn.less_up (Kn.le.refl _) (Kn.le.refl _))
 refine xE (h:=xE (h:=xE (h:=xS [_,_] 1 [_,_] ZaW (h:=xA (h:=xA (h:=ZF [_,_,_] rfl (Zm ?_)))))))
 have he:Zan q id u=ZcU q id u:=by simp [Zan,g1]
 exact ZbQ .ret (.inl rfl) [_,_,_] [2] rfl ⟨⟨_,rfl,.inr ⟨[_,_],ZQ,Za4 1 rfl rfl rfl,rfl⟩⟩,rfl,rfl,trivial⟩ ⟨_,_,_,rfl,by rw [he];rfl,by rw [he];exact hvk,by rw [he];exact htk⟩

set_option maxHeartbeats 400000 in
theorem Zeb (q:Option Addr) (cp:Nat) (x:DItem) (B:Kn) (hx:SlK B q cp 1 Zt x.left):Zx (pj J) 46 [.agg #[.int .i64 x.id,str x.fr,str x.text,.slice q x.left.length cp]] B [] (fun v B' Ls=>B'=B∧∃ins a c,Ls=[ins]∧v = .agg #[.int .i64 x.id,str x.fr,str x.text,.slice a x.left.length c]∧ZiL 9 ins a c x.left):=by
 refine Zg 9 Try.func46 rfl rfl rfl (Nat.le_of_ble_eq_true rfl) ?_
 have hxn:=hx.len
 refine Za (xBx [_,_,_,_] (h:=fun b1=>xAl [_,_,_,_] ZdI (h:=fun b2=>ZF [_,_] rfl (Za (xBs [] [] Try.underlying35 sz9 zo9 (h:=fun b3=>xW ZaH (h:=x1 Zc9 0 (h:=Zh (Zgt (R:=Zt) 2 rfl (Zaa.lit0 (R:=Zt)) rfl rfl rfl ZkL ZkO rfl rfl rfl hx.rows Zt.one rfl om (fun l4 p4 c4 hv4=>?_))))))))))
 refine xW ZaH (h:=xS [_] 0 [_,_,_,_] Zkp (h:=ZF [_,_,_] rfl (Za (xL [_,_,_,_] ZeG 0 (h:=xS [_,_,_,_] 1 [_,_,_,_] ZbU (h:=ZF [_,_,_] rfl (Zm ?_)))))))
 exact ZbQ .ret (.inl rfl) [_] [2] rfl ⟨⟨_,rfl,.inr ⟨[_,_,_,_],ZeG,Za4 1 rfl rfl rfl,rfl⟩⟩,trivial⟩ ⟨rfl,_,_,_,rfl,rfl,(hv4).anyK Zt.any⟩

set_option maxHeartbeats 400000 in
theorem Zhp (q:Option Addr) (m cp:Nat) (B:Kn):Zx (pj J) 67 [.slice q m cp] B [] (fun v B' Ls=>B'=B∧∃b,Ls=[Z0 b [.slice q m cp] 26]∧v = .func (.func 91) #[] #[ptr ⟨b,0,none⟩]):=by
 refine Zg 4 Try.func67 rfl rfl rfl (Nat.le_of_ble_eq_true rfl) ?_
 refine Za (xBx [_] (h:=fun b1=>xA (h:=ZF [_] rfl (Za (Zh (Zg2 (xs:=[]) (ys:=[_]) rfl rfl rfl rfl (xA (h:=Zm ?_))))))))
 exact ZbQ .ret (.inl rfl) [_] [0] rfl t1 ⟨rfl,_,rfl,rfl⟩

set_option maxHeartbeats 400000 in
theorem ZkN (l bc:Nat) (q:Option Addr) (cp:Nat) (xs:List DItem) (Inv:Nat→Kn→Cells→Prop) (s0:Cells) (B:Kn) (hq:SlK B q cp 4 Zb xs) (hcc:Zb1 B bc 0 [.slice q xs.length cp]) (h0:Inv xs.length B s0) (hround :∀(j:Nat) (i:Int) (x:DItem) (row:List Value) (B':Kn) (s:Cells),B.le B'→Inv (j+1) B' s→xs[j]? = some x→Zb B' row x→∃lp,(l,Obj.loop lp)∈s∧lp.params.size=2∧ZiM (pj J) l lp.fn (ZfP lp.params lp.tmps [.int .i64 i,.agg row.toArray]) lp.assign lp.body B' s (fun B'' s'=>Inv j B'' s')):Zx (pj J) 91 [.func (.yield l) #[] #[],ptr ⟨bc,0,none⟩] B [s0] (fun v B' Ls=>∃s,Ls=[s]∧Inv 0 B' s):=by
 refine Zg 19 Try.func91 rfl rfl rfl (Nat.le_of_ble_eq_true rfl) ?_
 have hqn:=hq.len
 refine Za (Zh (ZG rfl rfl ZdE rfl (hcc _ 0 _ rfl) (xV Try.underlying26 (h:=xU (h:=xA (h:=Zu (Z1 (α:=Int × Cells) [0,1] (fun g=>[(3,.int .i64 g.1)]) [0] (fun g=>[g.2]) (fun g Bx=>-1≤g.1∧g.1<xs.length∧Inv (g.1+1).toNat Bx g.2) (fun g=>(g.1+1).toNat) ((xs.length:Int) - 1,s0) t1 rfl (⟨so,so,by rw [show ((xs.length:Int) - 1+1).toNat=xs.length from by omega];exact h0⟩) (fun g B1 hle1 hI=>?_))))))))
 obtain ⟨hk1,hk,hI⟩:=hI
 replace hq:=hq.mono Zb.mono hle1
 replace hcc:=hcc.mono hle1
 refine Zak [(0,_),(1,_),(3,_)] [_] t3 rfl (Zi (Za (xM (h:=ZdN (h:=Zc rfl (fun g1=>?_) (fun g1=>?_))))))
 try simp only [sQ,ne_eq] at g1
 refine Ze (Zd (Zi (Zu (Za (xM (h:=xM (h:=Zh (ZG rfl rfl ZdE rfl (hcc _ 0 _ rfl) (xM (h:=?_))))))))))
 obtain ⟨x,hx⟩:=ZmD (xs:=xs) (i:=g.1) om om
 obtain ⟨bb3,oo3,rfl⟩:=hq.base hx
 obtain ⟨_,⟨qi4,ci4,rfl,hi4,hb4,hb4b⟩,hc4⟩:=hq.elem hx
 have hi4n:=hi4.len
 refine xIx Try.underlying26 ZbU (h:=?_)
 obtain ⟨lp,hl,hs,hr⟩:=hround g.1.toNat g.1 x _ _ g.2 (oy) (by rw [show g.1.toNat+1=(g.1+1).toNat from by omega];exact hI) hx ⟨_,_,rfl,oy,oy,oy⟩
 refine yL [_,_,_,_] ZeG hc4 0 (h:=Zh (Zkg (j:=0) rfl hl rfl rfl rfl rfl hs.symm hr (fun Bc sc hlec hIc=>?_)))
 replace hq:=hq.mono Zb.mono hlec
 replace hcc:=hcc.mono hlec
 replace hi4:=hi4.mono Zt.mono hlec
 replace hc4:=hc4.mono hlec
 refine xN (h:=ZF [_] rfl (Zc rfl (fun g2=>by cases g2) (fun g2=>?_)))
 try simp only [sQ,ne_eq] at g2
 refine Ze (Zaz (Zd (Zn (xM (h:=xU (h:=xA (h:=?_)))))))
 exact Z6 (g.1 - 1,sc) [0] so2 ⟨so,so,by simp only [];rw [show (g.1 - 1+1).toNat=g.1.toNat from by omega];exact hIc⟩ t3 rfl
 try simp only [sQ,ne_eq] at g1
 refine Z5 (ZaI (Zac (ZR ?_)))
 exact ZbQ .normal (.inr rfl) [] [0] rfl trivial ⟨_,rfl,by rw [show (g.1+1).toNat=0 from by omega] at hI;exact hI⟩

set_option maxHeartbeats 400000 in
theorem Zd2 (q:Option Addr) (cp:Nat) (x:DQueue) (B:Kn) (hx:SlK B q cp 4 Zb x.items):Zx (pj J) 33 [.agg #[.int .i64 x.next,.slice q x.items.length cp]] B [] (fun v B' Ls=>∃s,Ls=[s]∧Zcv 9 69 v x.items s):=by
 refine ZfO 17 Try.func33 rfl rfl rfl (Nat.le_of_ble_eq_true rfl) ?_
 refine Zb4 (xBx [_,_] (h:=fun b1=>xA (h:=ZhI [(0,_),(1,_),(2,_)] [_] t3 rfl (Zb4 (xAl [_] Zmc (h:=fun b2=>ZhI [(0,_),(1,_),(2,_),(3,_)] [_,_] t4 rfl (Zk7 (Zb4 (xW Zae (h:=x1 ZdE 0 (h:=Zh (Zs rfl rfl ZmO rfl (Zhp _ _ _ _) ?_))))))))))))
 rintro _ B3 _ hle3 ⟨rfl,b3,rfl,rfl⟩
 refine ZhI [(0,_),(1,_),(2,_),(3,_),(8,_)] [_,_,_] t5 rfl (Zko (ZlO 2 rfl (fun B4 hle4 hm4=>?_)))
 replace hx:=hx.mono Zb.mono hle4
 have hcc:=ZhZ hm4
 refine ZlN [1] rfl (ZiY (J:=fun B' L'=>∃v s,L'=[Z0 b2 [v] 63,s]∧Zcv 9 69 v x.items s) (cap:=[_]) rfl ZmH (fun lp l hTn hTS hps hasg hbd hst hlp=>?_) (fun r B9 L9 hle9 hJ=>?_))
 refine Zx.mono (ZkN l _ _ _ x.items (fun j B9 s9=>∃v cells,s9.Perm ((l,Obj.loop lp) :: (Z0 b2 [v] 63 ++ cells))∧Zcv 9 69 v (x.items.drop j) cells) _ _ hx hcc ⟨.pointer none,[],by simp,by rw [List.drop_length];exact ⟨rfl,rfl⟩⟩ ?_) ?_
 rintro j i y row B9 s9 hle9 ⟨v,cells,hp,hl⟩ hy hrow
 obtain ⟨qy,cy,rfl,hy5,hy6,hy7⟩:=hrow
 have hy5n:=hy5.len
 obtain ⟨p9,rfl⟩:=hl.ptr
 obtain ⟨hA,hN⟩:=Zjz (a:=9) (b:=10) (x:=.int .i64 i) (y:=.agg #[.int .i64 y.id,str y.fr,str y.text,.slice qy y.left.length cy]) hTS hTn rfl rfl
 refine ⟨lp,hp.mem_iff.2 (List.mem_cons_self ..),by rw [hps];rfl,?_⟩
 rw [hps,hasg,hbd]
 refine Zh0 (L:=[Z0 b2 [.pointer p9] 63,cells]) (lp:=lp) hN [(3,_),(9,_),(10,_)] (hA.sub t3) (by simpa using hp) hst ?_
 refine Zn (xAl [_,_,_,_] ZdI (h:=fun b4=>xS [_,_,_,_] 3 [_,_,_,_] ZbU (h:=⟨rfl,rfl,rfl,(ZF [_,_,_,_] rfl (Zu (Z9 (keeps _ [1,3] _) mo kr ⟨Kn.le.refl _,Zat.refl _ _⟩ (fun _ _=>?_))))⟩)))
 refine aT 0 rfl (Z2 fun D B L hI=>ZN [_,_,_,_] rfl rfl ZeG rfl (Za4 3 (hI.2.2.1.trans rfl) rfl rfl) r4) (h:=aT 2 rfl (Z2 fun D B L hI=>ZG rfl rfl Zhd rfl (atL 1 (hI.2.1.trans rfl) rfl rfl) r4) (h:=Zp 1 kr rfl kr (Zs rfl rfl Zmo rfl (Zeb _ _ y _ hy5) ?_)))
 rintro _ B5 _ hle5 ⟨rfl,ins5,a5,c5,rfl,rfl,hs5⟩
 refine ⟨⟨Kn.le.refl _,t2⟩,(aT 3 rfl (Z2 fun D B L hI=>ZfX (parts:=[(0,_),(1,_)]) [_,_,_,_,_] [_,_,_,_,_] rfl rfl ZmA Zmx rfl rfl rfl r4) (h:=Zp 4 kr rfl kr (Zk6 (l:=[_,_,_,_,_]) rfl rfl rfl rfl (fun b6=>?_))))⟩
 refine ⟨⟨Kn.le.refl _,t2⟩,(ZcO 5 kr rfl kr kr kr (ZV [_] 1 [_] rfl rfl ZlP rfl rfl rfl rfl rfl rfl rfl rfl ?_))⟩
 refine Zaz (⟨rfl,rfl,(l,Obj.loop lp) :: (Z0 b2 [ptr ⟨b6,0,none⟩] 63 ++ (Z0 b6 ([.int .i64 y.id,str y.fr,str y.text,.slice a5 y.left.length c5] ++ [.pointer p9]) 69 ++ (ins5 ++ cells))),Z0 b4 [.int .i64 y.id,str y.fr,str y.text,.slice qy y.left.length cy] 67,?_,_,_,.refl _,?_⟩)
 refine (Zad [0,1,5,4,2] _ _ _ rfl).trans ?_
 rw [hlp]
 simp [Z0]
 rw [ZiB hy]
 exact ⟨_,_,_,_,_,rfl,.refl _,⟨_,_,rfl,hs5,oy,oy,oy⟩,hl⟩
 rintro _ B9 _ hle9 ⟨s9,rfl,v,cells,hp,hl⟩
 exact ⟨[Z0 b2 [v] 63,cells],_,rfl,by simpa using hp,v,cells,rfl,by simpa using hl⟩
 obtain ⟨v,s9,rfl,hl⟩:=hJ
 refine Zaz (Zd (Za (x1 Zhd 0 (h:=xA (h:=ZF [_,_,_] rfl (Zm ?_))))))
 exact ⟨.inl rfl,r,2,rfl,rfl,[_],[_],t1,⟨_,List.perm_append_comm⟩,_,rfl,hl⟩

set_option maxHeartbeats 400000 in
theorem Zd1 (nx:Int) (v:Value) (xs:List DItem) (cells:Cells) (B:Kn) (hn:xs.length≤2000000) (hv:Zcv 9 69 v xs cells):Zx (pj J) 37 [.int .i64 nx,v] B [cells] (fun v B' Ls=>B'=B∧∃l q c,Ls=[l]∧v = .agg #[.int .i64 nx,.slice q xs.length c]∧Zbp l q c 67 4 (Zz 9) xs):=by
 refine Zg 27 Try.func37 rfl rfl rfl (Nat.le_of_ble_eq_true rfl) ?_
 obtain ⟨p,rfl⟩:=hv.ptr
 refine Za (xAl [_,_] Za6 (h:=fun b1=>ZF [_,_] rfl (Za (xM (h:=xBs [] [] Try.underlying26 ZbU ZdI (h:=fun b2=>xB [(0,_),(1,_)] [_,_] [_,_] Zi8 Za6 (h:=xAl [_,_] Za6 (h:=fun b3=>xS [_,_] 3 [_,_] ZaW (h:=ZF [_,_,_,_] rfl (Zi (Za (xM (h:=?_)))))))))))))
 refine xA (h:=Zu (Z1 (α:=QOf) [0,1,4,5] (fun g=>[(6,.pointer g.p)]) [0,2,3] (fun g=>[g.cells,g.l,Z0 b3 [.int .i64 nx,.slice g.q g.ys.length g.c] 28]) (fun g Bx=>Bx=B∧g.ys ++ g.xs=xs∧Zbp g.l g.q g.c 67 4 (Zz 9) g.ys∧Zcv 9 69 (.pointer g.p) g.xs g.cells) (fun g=>g.xs.length) ⟨p,[],xs,_,_,_,_⟩ t1 rfl (⟨rfl,rfl,.lit0,hv⟩) (fun g B4 hle4 hI=>?_)))
 obtain ⟨rfl,hxs,hvd,hl⟩:=hI
 refine Zak [(0,_),(1,_),(4,_),(5,_),(6,_)] [_,_,_,_] t5 rfl (Zi (Za (xM (h:=Zh (Zal rfl rfl rfl rfl rfl (ZdL Try.underlying63) (Zc rfl (fun g1=>?_) (fun g1=>?_)))))))
 try simp only [sQ,ne_eq] at g1
 obtain ⟨y,ys,b8,q8,c8,np,ins8,rest8,hp8,hrest,hperm,hy5,hy6,hy7,hy8,hl8⟩:=hl.more (by simpa using g1)
 rw [hp8]
 have hlen:=congrArg List.length hxs
 rw [List.length_append,hrest,List.length_cons] at hlen
 replace hlen:g.ys.length+1≤2000000:=by omega
 refine Zhz 0 rfl hperm (ZF [_,_,_,_,_,_] rfl (Ze (Zd (Zi (Zu (Z9 (keeps _ [0,3] _) mo kr ⟨Kn.le.refl _,Zat.refl _ _⟩ (fun _ _=>?_)))))))
 refine aW 0 rfl Zae (h:=aT 1 rfl (Z2 fun D B L hI=>ZG rfl rfl ZdE rfl (atL 3 (hI.2.2.1.trans rfl) rfl rfl) r4) (h:=aM 2 rfl (h:=aNc 3 rfl (h:=aW 4 rfl Zir (h:=aT 5 rfl (Z2 fun D B L hI=>ZN [_,_,_,_] rfl rfl ZeG rfl (Za4 0 (hI.2.1.trans rfl) rfl rfl) r4) (h:=Zp 6 kr rfl kr (ZaP (parts:=[(0,_)]) [_,_,_,_] rfl rfl Try.underlying26 ZbU ZdI rfl rfl rfl rfl rfl (fun b5=>?_))))))))
 refine ⟨⟨Kn.le.refl _,t2⟩,(Zp 7 kr rfl kr (ZjS (R:=Zz 9) (z:=y) 2 4 rfl rfl rfl hvd rfl rfl rfl Zj5 Zkq rfl rfl (Za5.box 6 rfl) rfl rfl ⟨_,_,rfl,hy5,hy6,hy7,hy8⟩ oz (fun l9 q9 c9 hv9=>?_)))⟩
 refine ⟨⟨Kn.le.refl _,t2⟩,(aW 8 rfl Zae (h:=ZcO 9 kr rfl kr kr kr (ZV [_] 3 [_,_] rfl rfl ZjU rfl rfl rfl rfl rfl rfl rfl rfl ?_)))⟩
 refine Zaz (Zd (Zn (xM (h:=xNc (h:=xW Ziq (h:=x1 Zhd 0 (h:=xA (h:=?_))))))))
 exact Z6 ⟨np,g.ys ++ [y],ys,l9,q9,c9,rest8⟩ [5,1,2,3] (by rw [hrest];simp) ⟨rfl,by rw [← hxs,hrest];simp,hv9,hl8⟩ t5 rfl
 try simp only [sQ,ne_eq] at g1
 rw [hl.done (by simpa using g1),List.append_nil] at hxs
 subst hxs
 refine Z5 (ZaI (Zac (ZR (Zd (Za (xL [_,_] ZQ 3 (h:=xS [_,_] 1 [_,_] ZaW (h:=ZF [_,_,_,_] rfl (Zm ?_)))))))))
 exact ZbQ .ret (.inl rfl) [_] [2] rfl ⟨⟨_,rfl,.inr ⟨[_,_],ZQ,Za4 1 rfl rfl rfl,rfl⟩⟩,trivial⟩ ⟨rfl,_,_,_,rfl,rfl,hvd⟩

set_option maxHeartbeats 400000 in
theorem Zb8 (q:Option Addr) (cp:Nat) (x:DQueue) (B:Kn) (hx:SlK B q cp 4 Zb x.items):Zx (pj J) 34 [.agg #[.int .i64 x.next,.slice q x.items.length cp]] B [] (fun v B' Ls=>∃l q c,Ls=[l]∧v = .agg #[.int .i64 x.next,.slice q x.items.length c]∧Zbp l q c 67 4 (Zz 9) x.items):=by
 refine Zg 8 Try.func34 rfl rfl rfl (Nat.le_of_ble_eq_true rfl) ?_
 have hxn:=hx.len
 refine Za (xBx [_,_] (h:=fun b1=>xAl [_,_] Za6 (h:=fun b2=>ZF [_,_] rfl (Zi (Z9 (keeps _ [0] _) mo kr ⟨Kn.le.refl _,Zat.refl _ _⟩ (fun _ _=>?_))))))
 refine aW 0 rfl ZaS (h:=aT 1 rfl (Z2 fun D B L hI=>ZG rfl rfl lk3 rfl (atL 0 (hI.2.1.trans rfl) rfl rfl) r4) (h:=aT 2 rfl (Z2 fun D B L hI=>ZN [_,_] rfl rfl ZQ rfl (Za4 0 (hI.2.1.trans rfl) rfl rfl) r4) (h:=Zp 3 kr rfl kr (Zs rfl rfl Zmu rfl (Zd2 _ _ x _ hx) ?_))))
 rintro _ B3 _ hle3 ⟨sl3,rfl,hl3⟩
 replace hx:=hx.mono Zb.mono hle3
 refine ⟨⟨hle3,t1⟩,(Zp 4 kr rfl kr (ZX [2] rfl rfl rfl rfl Zl0 rfl (Zd1 _ _ _ _ _ oa hl3) ?_))⟩
 rintro _ B4 _ hle4 ⟨rfl,ld4,ad4,cd4,rfl,rfl,hd4⟩
 refine ⟨⟨hle3,t1⟩,(ZcO 5 kr rfl kr kr kr (ZV [_,_] 1 [_,_] rfl rfl ZaW rfl rfl rfl rfl rfl rfl rfl rfl ?_))⟩
 refine Zd (ZF [_,_,_] rfl (Zm ?_))
 exact ZbQ .ret (.inl rfl) [_] [2] rfl ⟨⟨_,rfl,.inr ⟨[_,_],ZQ,Za4 1 rfl rfl rfl,rfl⟩⟩,trivial⟩ ⟨_,_,_,rfl,rfl,hd4⟩

set_option maxHeartbeats 400000 in
theorem Zil (q:Option Addr) (m cp:Nat) (B:Kn):Z8 (pj J) 126 [.slice q m cp] B (.int .i64 m):=by
 refine Zg 5 Try.func126 rfl rfl rfl (Nat.le_of_ble_eq_true rfl) ?_
 refine Za (xA (h:=Za (xM (h:=xV Try.underlying129 (h:=xA (h:=Zm ?_))))))
 exact Z4 .ret (.inl rfl) [_] t1 ⟨rfl,rfl,rfl⟩

set_option maxHeartbeats 400000 in
theorem Zdc (q:Option Addr) (cp:Nat) (xs:List Int) (i j:Nat) (a b:Int) (hi:xs[i]? = some a) (hj:xs[j]? = some b) (B:Kn) (hx:SlK B q cp 1 Zb2 xs):Z8 (pj J) 127 [.slice q xs.length cp,.int .i64 i,.int .i64 j] B (.bool (decide (a<b))):=by
 refine Zg 16 Try.func127 rfl rfl rfl (Nat.le_of_ble_eq_true rfl) ?_
 have hil:=ZaZ hi
 have hjl:=ZaZ hj
 refine Za (xA (h:=Zi (Z9 (same _ _) mo kr ⟨rfl,rfl⟩ (fun _ _=>?_))))
 refine aM 0 rfl (h:=aM 1 rfl (h:=?_))
 obtain ⟨z,hz⟩:=Za2 (xs:=xs) (i:=i) om
 obtain ⟨bb2,oo2,rfl⟩:=hx.base hz
 obtain ⟨_,rfl,hc3⟩:=hx.elem hz
 refine aIx 2 rfl Try.underlying128 sz3 (h:=aT 3 rfl (Zc2 fun D=>ZG rfl rfl lk3 rfl (hc3 _ 0 _ rfl) r4) (h:=aM 4 rfl (h:=aM 5 rfl (h:=?_))))
 obtain ⟨w,hw⟩:=Za2 (xs:=xs) (i:=j) om
 obtain ⟨_,rfl,hc5⟩:=hx.elem hw
 refine aIx 6 rfl Try.underlying128 sz3 (h:=?_)
 rw [hi] at hz
 cases hz
 rw [hj] at hw
 cases hw
 refine aT 7 rfl (Zc2 fun D=>ZG rfl rfl lk3 rfl (hc5 _ 0 _ rfl) r4) (h:=Zl8 8 rfl (h:=aA 9 rfl (h:=Zv kr kr ?_)))
 refine Zd (Zm ?_)
 exact Z4 .ret (.inl rfl) [_] t1 ⟨rfl,rfl,rfl⟩

set_option maxHeartbeats 400000 in
theorem Zji (b:Nat) (q:Option Addr) (cp:Nat) (xs:List Int) (l:Cells) (z:Int) (hn:xs.length≤2000000) (B:Kn) (hv:Zaa B l q cp 3 1 Zb2 xs):Zx (pj J) 129 [ptr ⟨b,0,none⟩,.iface 3 (.int .i64 z)] B [Z0 b [.slice q xs.length cp] 129,l] (fun v B' Ls=>B'=B∧∃q' c' l',Ls=[Z0 b [.slice q' (xs ++ [z]).length c'] 129,l']∧Zaa B l' q' c' 3 1 Zb2 (xs ++ [z])):=by
 refine Zg 13 Try.func129 rfl rfl rfl (Nat.le_of_ble_eq_true rfl) ?_
 refine Z9 (keeps _ [0] _) mo kr ⟨Kn.le.refl _,Zat.refl _ _⟩ (fun _ _=>?_)
 refine aM 0 rfl (h:=aM 1 rfl (h:=aNc 2 rfl (h:=aT 3 rfl (Z2 fun D B L hI=>ZG rfl rfl Zcu rfl (atL 0 (hI.2.1.trans rfl) rfl rfl) r4) (h:=aM 4 rfl (h:=aT 5 rfl (Z2 fun D B L hI=>Zfm rfl rfl Try.underlying3 rfl rfl r4) (h:=Zp 6 kr rfl kr (ZaP (parts:=[(0,_)]) [_] rfl rfl Try.underlying128 sz3 zo3 rfl rfl rfl rfl rfl (fun b1=>?_))))))))
 refine ⟨⟨Kn.le.refl _,t1⟩,(Zp 7 kr rfl kr (ZdU (z:=z) (R:=Zb2) 1 rfl hv rfl rfl rfl ZlX ZlR rfl rfl (Za5.box 2 rfl) rfl rfl (rfl) om (fun l2 p2 c2 hv2=>?_)))⟩
 refine ⟨⟨Kn.le.refl _,t1⟩,(aNc 8 rfl (h:=ZcO 9 kr rfl kr kr kr (ZV [_] 0 [_] rfl rfl Zla rfl rfl rfl rfl rfl rfl rfl rfl ?_)))⟩
 exact ZbQ .normal (.inr rfl) [] [0,1] rfl trivial ⟨rfl,_,_,_,rfl,hv2⟩

set_option maxHeartbeats 400000 in
theorem ZkG (b:Nat) (q:Option Addr) (cp:Nat) (xs:List Int) (l:Cells) (z:Int) (hz:xs[xs.length - 1]? = some z) (hn:xs.length≤2000000) (B:Kn) (hv:Zaa B l q cp 3 1 Zb2 xs):Zx (pj J) 128 [ptr ⟨b,0,none⟩] B [Z0 b [.slice q xs.length cp] 129,l] (fun v B' Ls=>B'=B∧v = .iface 3 (.int .i64 z)∧Ls=[Z0 b [.slice q (xs.length - 1) cp] 129,l]∧Zaa B l q cp 3 1 Zb2 (xs.take (xs.length - 1))):=by
 refine Zg 25 Try.func128 rfl rfl rfl (Nat.le_of_ble_eq_true rfl) ?_
 have hl1:=ZaZ hz
 have hcp:=hv.cap
 have hv9:=hv.take (k:=xs.length - 1) oz
 have hs0:=hv.slice0 (sz:=1)
 refine Za (xA (h:=Za (xM (h:=xNc (h:=x1 Zcu 0 (h:=xV Try.underlying129 (h:=Zh (Zg0 (r:=((xs.length - 1:Nat):Int)) rfl rfl rfl rfl (by rw [show ((xs.length:Int) - 1)=((xs.length - 1:Nat):Int) from by omega];exact Zcs oz oz) ?_))))))))
 refine xA (h:=Za (xM (h:=xNc (h:=x1 Zcu 0 (h:=xM (h:=?_))))))
 obtain ⟨w,hw⟩:=Za2 (xs:=xs) (i:=(xs.length - 1)) om
 obtain ⟨bb2,_,hp2,rfl,hw2,hc2⟩:=hv.row hw
 refine xIp hp2 Try.underlying128 sz3 (h:=?_)
 rw [hz] at hw
 cases hw
 refine Zh (ZG rfl rfl lk3 rfl (hc2 _ 1 rfl 0 _ rfl) (xA (h:=Za (xM (h:=xM (h:=xNc (h:=x1 Zcu 0 (h:=xM (h:=Zh (ZeU rfl rfl Try.underlying128 sz3 rfl (a:=0) (b:=xs.length - 1) rfl ⟨_,_,rfl,rfl⟩ oz oz ?_))))))))))
 rw [hs0]
 refine xNc (h:=xS [_] 0 [_] Zla (h:=ZF [_,_] rfl (Za (xM (h:=Zh (ZbR rfl rfl Try.underlying3 rfl rfl (xA (h:=Zm ?_))))))))
 exact ZbQ .ret (.inl rfl) [_] [0,1] rfl t1 ⟨rfl,rfl,rfl,hv9⟩

set_option maxHeartbeats 400000 in
theorem Zdb (q:Option Addr) (cp:Nat) (xs:List Int) (l:Cells) (i j:Nat) (a b:Int) (hi:xs[i]? = some a) (hj:xs[j]? = some b) (hn:xs.length≤2000000) (B:Kn) (hv:Zaa B l q cp 3 1 Zb2 xs):Zx (pj J) 130 [.slice q xs.length cp,.int .i64 i,.int .i64 j] B [l] (fun v B' Ls=>B'=B∧∃l',Ls=[l']∧Zaa B l' q cp 3 1 Zb2 ((xs.set i b).set j a)):=by
 refine Zg 20 Try.func130 rfl rfl rfl (Nat.le_of_ble_eq_true rfl) ?_
 have hil:=ZaZ hi
 have hjl:=ZaZ hj
 refine Z9 (keeps _ [0] _) mo kr ⟨Kn.le.refl _,Zat.refl _ _⟩ (fun _ _=>?_)
 refine aM 0 rfl (h:=aM 1 rfl (h:=aM 2 rfl (h:=aM 3 rfl (h:=aM 4 rfl (h:=aM 5 rfl (h:=?_))))))
 obtain ⟨y,hy⟩:=Za2 (xs:=xs) (i:=j) om
 obtain ⟨bb2,_,hp2,rfl,hw2,hc2⟩:=hv.row hy
 refine aT 6 rfl (Z2 fun D B L hI=>ZhD hp2 rfl rfl Try.underlying128 sz3 rfl rfl om om r4) (h:=?_)
 refine aT 7 rfl (Z2 fun D B L hI=>ZG rfl rfl lk3 rfl (hc2 _ 0 (hI.2.1.trans rfl) 0 _ rfl) r4) (h:=aM 8 rfl (h:=aM 9 rfl (h:=?_)))
 obtain ⟨x,hx⟩:=Za2 (xs:=xs) (i:=i) om
 obtain ⟨bb4,_,hp4,rfl,hw4,hc4⟩:=hv.row hx
 refine aT 10 rfl (Z2 fun D B L hI=>ZhD hp4 rfl rfl Try.underlying128 sz3 rfl rfl om om r4) (h:=?_)
 refine aT 11 rfl (Z2 fun D B L hI=>ZG rfl rfl lk3 rfl (hc4 _ 0 (hI.2.1.trans rfl) 0 _ rfl) r4) (h:=?_)
 obtain ⟨bb5,_,hp5,rfl,hw5,hc5⟩:=hv.row hx
 refine aT 12 rfl (Z2 fun D B L hI=>ZhD hp5 rfl rfl Try.underlying128 sz3 rfl rfl om om r4) (h:=?_)
 refine Zas 13 kr rfl kr kr (Zkc (k:=i) (off:=0) (y) [_] 0 hv hp5 hx rfl rfl sz3 rfl rfl rfl rfl rfl rfl ((fun row h=>by cases h;rfl)) (fun l6 hv6=>?_))
 obtain ⟨w,hw⟩:=Za2 (xs:=(xs.set i (y))) (i:=j) om
 obtain ⟨bb8,_,hp8,rfl,hw8,hc8⟩:=hv6.row hw
 refine aT 14 rfl (Z2 fun D B L hI=>ZhD hp8 rfl rfl Try.underlying128 sz3 rfl rfl om om r4) (h:=?_)
 refine ZcO 15 kr rfl kr kr kr (Zkc (k:=j) (off:=0) (x) [_] 0 hv6 hp8 hw rfl rfl sz3 rfl rfl rfl rfl rfl rfl ((fun row h=>by cases h;rfl)) (fun l9 hv9=>?_))
 rw [hi] at hx
 cases hx
 rw [hj] at hy
 cases hy
 exact ZbQ .normal (.inr rfl) [] [0] rfl trivial ⟨rfl,_,rfl,hv9⟩

set_option maxHeartbeats 400000 in
theorem Zjl (b:Nat) (q:Option Addr) (cp:Nat) (xs:List Int) (l:Cells) (j:Nat) (hj:j<xs.length) (hn:xs.length≤2000000) (hh:ZcQ xs j) (B:Kn) (hv:Zaa B l q cp 3 1 Zb2 xs):Zx (pj J) 102 [.iface 127 (ptr ⟨b,0,none⟩),.int .i64 j] B [Z0 b [.slice q xs.length cp] 129,l] (fun v B' Ls=>B'=B∧∃ys l',Ls=[Z0 b [.slice q ys.length cp] 129,l']∧Zaa B l' q cp 3 1 Zb2 ys∧ys.Perm xs∧Zbx ys):=by
 refine Zg 23 Try.func102 rfl rfl rfl (Nat.le_of_ble_eq_true rfl) ?_
 refine Zu (Z1 (α:=Nat × List Int × Cells) [0] (fun g=>[(1,.int .i64 g.1)]) [0,1] (fun g=>[Z0 b [.slice q g.2.1.length cp] 129,g.2.2]) (fun g Bx=>Bx=B∧g.1<g.2.1.length∧g.2.1.Perm xs∧ZcQ g.2.1 g.1∧Zaa B g.2.2 q cp 3 1 Zb2 g.2.1) (fun g=>g.1) (j,xs,l) t1 rfl (⟨rfl,hj,.refl _,hh,hv⟩) (fun g B1 hle1 hI=>?_))
 obtain ⟨rfl,hk,hp,hb,hv⟩:=hI
 have hpl:=hp.length_eq
 refine Zak [(0,_),(1,_)] [_,_] t2 rfl (Zu (Za (xM (h:=Zh (Zg0 rfl rfl rfl rfl (Zcs oz oz) ?_)))))
 refine Zh (ZkU (r:=(((g.1 - 1) / 2:Nat):Int)) rfl rfl rfl rfl oz (by rw [show Int.tdiv ((g.1:Int) - 1) 2=(((g.1 - 1) / 2:Nat):Int) from ZlL g.1];exact Zcs oz oz) ?_)
 refine xA (h:=Zi (Za (xM (h:=xM (h:=Zfi (h:=xM (h:=Zq (d:=11) rfl (fun g1=>?_) (fun g1=>?_))))))))
 try simp only [sQ,ne_eq] at g1
 refine xP (h:=xP (h:=xP (h:=xP (h:=xP (h:=xT (h:=Zc (t:=true) rfl (fun _=>Z5 (ZaI (Zcj rfl (Zac (ZR ?_))))) (fun h=>Bool.noConfusion h)))))))
 exact ZbQ .normal (.inr rfl) [] [0,1] rfl trivial ⟨rfl,_,_,rfl,hv,hp,Zkk (by rw [show g.1=0 from by omega] at hb;exact hb)⟩
 try simp only [sQ,ne_eq] at g1
 refine xM (h:=xM (h:=xM (h:=Zh (ZcE 1 rfl rfl rfl Ziz rfl rfl (ZaB ZbN Try.underlying127 Zcu (atL 0 rfl rfl rfl)) (Z8.borrow fun hm2=>Zdc _ _ _ _ _ _ _ (Zag oz) (Zag oz) _ (hv.lend Zb2.mono hm2 om)) ?_))))
 refine xN (h:=xF (h:=Zc rfl (fun g2=>?_) (fun g2=>?_)))
 try simp only [sQ,ne_eq] at g2
 refine Z5 (ZaI (Zcj rfl (Zac (ZR ?_))))
 exact ZbQ .normal (.inr rfl) [] [0,1] rfl trivial ⟨rfl,_,_,rfl,hv,hp,Zkm hb (by simpa using g2)⟩
 try simp only [sQ,ne_eq] at g2
 refine Ze (Zd (Za (xM (h:=xM (h:=xM (h:=Zh (Zdv [1] rfl rfl rfl rfl Ziy rfl rfl (ZaB ZbM Try.underlying127 Zcu (atL 0 rfl rfl rfl)) (Zdb _ _ _ _ _ _ _ _ (Zag oz) (Zag oz) oz _ hv) ?_)))))))
 rintro _ B3 _ hle3 ⟨rfl,l3,rfl,hv3⟩
 refine ZF [_,_] rfl (Zn (xM (h:=xA (h:=Zaz ?_))))
 rw [← Zbr g.2.1 ((g.1 - 1) / 2) g.1]
 exact Z6 ((g.1 - 1) / 2,(swp g.2.1 ((g.1 - 1) / 2) g.1),l3) [0,1] (so) ⟨rfl,by have:=Zbr g.2.1 ((g.1 - 1) / 2) g.1;simp only [];omega,(ZcW oz oz).trans hp,Zkl oz oz hb (by simpa using g2),hv3⟩ t2 rfl

set_option maxHeartbeats 400000 in
theorem Zhh (b:Nat) (q:Option Addr) (cp:Nat) (xs:List Int) (l:Cells) (z:Int) (hn:xs.length<2000000) (hh:Zbx xs) (B:Kn) (hv:Zaa B l q cp 3 1 Zb2 xs):Zx (pj J) 89 [.iface 127 (ptr ⟨b,0,none⟩),.iface 3 (.int .i64 z)] B [Z0 b [.slice q xs.length cp] 129,l] (fun v B' Ls=>B'=B∧∃q' c' ys l',Ls=[Z0 b [.slice q' ys.length c'] 129,l']∧Zaa B l' q' c' 3 1 Zb2 ys∧ys.Perm (xs ++ [z])∧Zbx ys):=by
 refine Zg 12 Try.func89 rfl rfl rfl (Nat.le_of_ble_eq_true rfl) ?_
 refine Za (xM (h:=xM (h:=Zh (Zdv [0,1] rfl rfl rfl rfl Zl2 rfl rfl (ZfI Zhb Try.underlying127) (Zji _ _ _ _ _ _ oz _ hv) ?_))))
 rintro _ B1 _ hle1 ⟨rfl,q1,c1,l1,rfl,hv1⟩
 refine ZF [_,_] rfl (Zn (xM (h:=xM (h:=Zh (ZcE 1 rfl rfl rfl Zlq rfl rfl (ZaB ZfB Try.underlying127 Zcu (atL 0 rfl rfl rfl)) (Z8.borrow fun hm2=>Zil _ _ _ _) (Zh (Zg0 (r:=((xs.length:Nat):Int)) rfl rfl rfl rfl ((congrArg _ (show _=((xs.length:Nat):Int) from by rw [List.length_append,List.length_singleton];omega)).trans (Zcs oz oz)) ?_)))))))
 refine Zh (ZX [0,1] rfl rfl rfl rfl Zl6 rfl (Zjl _ _ _ _ _ _ (by simp) (by simp;omega) (Zi5 hh) _ hv1) ?_)
 rintro _ Bu _ hleu ⟨rfl,ysu,lu,rfl,hvu,hpu,hhu⟩
 exact ZbQ .normal (.inr rfl) [] [0,1] rfl trivial ⟨rfl,_,_,_,_,rfl,hvu,hpu,hhu⟩

set_option maxHeartbeats 400000 in
theorem Zhj (b:Nat) (q:Option Addr) (cp:Nat) (xs:List Int) (l:Cells) (m:Nat) (hm:m≤xs.length) (hm0:0<xs.length) (hn:xs.length≤2000000) (hh:Zcg xs m 0) (B:Kn) (hv:Zaa B l q cp 3 1 Zb2 xs):Zx (pj J) 103 [.iface 127 (ptr ⟨b,0,none⟩),.int .i64 0,.int .i64 m] B [Z0 b [.slice q xs.length cp] 129,l] (fun v B' Ls=>B'=B∧∃ys l',Ls=[Z0 b [.slice q ys.length cp] 129,l']∧Zaa B l' q cp 3 1 Zb2 ys∧ys.Perm xs∧ZjF ys m∧(∀k,m≤k→hat ys k=hat xs k)):=by
 refine Zg 48 Try.func103 rfl rfl rfl (Nat.le_of_ble_eq_true rfl) ?_
 refine Za (xA (h:=Za (xM (h:=xA (h:=Zi (Zu (Z1 (α:=Nat × List Int × Cells) [0,1,2,6] (fun g=>[(7,.int .i64 g.1)]) [0,1] (fun g=>[Z0 b [.slice q g.2.1.length cp] 129,g.2.2]) (fun g Bx=>Bx=B∧g.1<g.2.1.length∧g.2.1.Perm xs∧Zcg g.2.1 m g.1∧(∀k,m≤k→hat g.2.1 k=hat xs k)∧Zaa B g.2.2 q cp 3 1 Zb2 g.2.1) (fun g=>xs.length - g.1) (0,xs,l) t1 rfl (⟨rfl,hm0,.refl _,hh,fun _ _=>rfl,hv⟩) (fun g B1 hle1 hI=>?_))))))))
 obtain ⟨rfl,hk,hp,hb,hs,hv⟩:=hI
 have hpl:=hp.length_eq
 refine Zak [(0,_),(1,_),(2,_),(6,_),(7,_)] [_,_] t5 rfl (Zu (Za (xM (h:=Zh (ZlJ (r:=((2*g.1:Nat):Int)) rfl rfl rfl rfl ((congrArg _ (show _=((2*g.1:Nat):Int) from by omega)).trans (Zcs oz oz)) ?_)))))
 refine Zh (ZhF (r:=((2*g.1+1:Nat):Int)) rfl rfl rfl rfl ((congrArg _ (show _=((2*g.1+1:Nat):Int) from by omega)).trans (Zcs oz oz)) ?_)
 refine xA (h:=Zi (Za (xM (h:=xM (h:=ZdN (h:=xM (h:=Zq (d:=18) rfl (fun g1=>?_) (fun g1=>?_))))))))
 try simp only [sQ,ne_eq] at g1
 refine xP (h:=xP (h:=xT (h:=Zc (t:=true) rfl (fun _=>Z5 (ZaI (Zcj rfl (Zac (ZR (Zd (Za (xM (h:=xM (h:=Zcr (h:=xA (h:=Zm ?_)))))))))))) (fun h=>Bool.noConfusion h))))
 exact ZbQ .ret (.inl rfl) [_] [0,1] rfl t1 ⟨rfl,_,_,rfl,hv,hp,ZiD hb oz,hs⟩
 try simp only [sQ,ne_eq] at g1
 refine xM (h:=ZO (h:=xF (h:=Zc rfl (fun g2=>by have:=of_decide_eq_true g2;omega) (fun g2=>?_))))
 try simp only [sQ,ne_eq] at g2
 refine Ze (Zd (Za (xM (h:=xA (h:=Zi (Za (xM (h:=Zh (ZhF (r:=((2*g.1+1+1:Nat):Int)) rfl rfl rfl rfl ((congrArg _ (show _=((2*g.1+1+1:Nat):Int) from by omega)).trans (Zcs oz oz)) ?_)))))))))
 refine xA (h:=Za (xM (h:=xM (h:=ZO (h:=xM (h:=Zq (d:=28) rfl (fun g3=>?_) (fun g3=>?_)))))))
 try simp only [sQ,ne_eq] at g3
 refine xM (h:=xM (h:=xM (h:=Zh (ZcE 1 rfl rfl rfl Ziz rfl rfl (ZaB ZbN Try.underlying127 Zcu (atL 0 rfl rfl rfl)) (Z8.borrow fun hm2=>Zdc _ _ _ _ _ _ _ (Zag oz) (Zag oz) _ (hv.lend Zb2.mono hm2 om)) ?_))))
 refine xT (h:=Zc rfl (fun g4=>?_) (fun g4=>?_))
 try simp only [sQ,ne_eq] at g4
 refine Zn (xM (h:=xA (h:=Zd (Zi (Za (xM (h:=xM (h:=xM (h:=Zh (ZcE 1 rfl rfl rfl Ziz rfl rfl (ZaB ZbN Try.underlying127 Zcu (atL 0 rfl rfl rfl)) (Z8.borrow fun hm3=>Zdc _ _ _ _ _ _ _ (Zag oz) (Zag oz) _ (hv.lend Zb2.mono hm3 om)) ?_))))))))))
 refine xN (h:=Zc rfl (fun g5=>?_) (fun g5=>?_))
 try simp only [sQ,ne_eq] at g5
 refine Z5 (ZaI (Zcj rfl (Zac (ZR (Zd (Za (xM (h:=xM (h:=Zcr (h:=xA (h:=Zm ?_)))))))))))
 exact ZbQ .ret (.inl rfl) [_] [0,1] rfl t1 ⟨rfl,_,_,rfl,hv,hp,Zep hb (by intro k h0 hk he;(try simp only [decide_eq_true_eq,decide_eq_false_iff_not,Bool.not_eq_true',Bool.not_eq_false',Int.not_lt] at *);rcases (show k=2*g.1+1∨k=2*g.1+1+1 from by omega) with rfl | rfl <;> omega),hs⟩
 try simp only [sQ,ne_eq] at g5
 refine Ze (Zd (Za (xM (h:=xM (h:=xM (h:=Zh (Zdv [1] rfl rfl rfl rfl Ziy rfl rfl (ZaB ZbM Try.underlying127 Zcu (atL 0 rfl rfl rfl)) (Zdb _ _ _ _ _ _ _ _ (Zag oz) (Zag oz) oz _ hv) ?_)))))))
 rintro _ B4 _ hle4 ⟨rfl,l4,rfl,hv4⟩
 refine ZF [_,_] rfl (Zn (xM (h:=xA (h:=Zaz ?_))))
 rw [← Zbr g.2.1 g.1 (2*g.1+1+1)]
 have h5:hat g.2.1 (2*g.1+1+1)<hat g.2.1 g.1:=by simpa using g5
 exact Z6 (2*g.1+1+1,(swp g.2.1 g.1 (2*g.1+1+1)),l4) [0,1] (so) ⟨rfl,by have:=Zbr g.2.1 g.1 (2*g.1+1+1);simp only [];omega,(ZcW oz oz).trans hp,Zeo oz oz oz oz hb (by intro k h0 hk he;(try simp only [decide_eq_true_eq,decide_eq_false_iff_not,Bool.not_eq_true',Bool.not_eq_false',Int.not_lt] at *);rcases (show k=2*g.1+1∨k=2*g.1+1+1 from by omega) with rfl | rfl <;> omega) h5,(fun k hk=>by rw [Zcc oz oz,if_neg oz,if_neg oz];exact hs k hk),hv4⟩ t5 rfl
 try simp only [sQ,ne_eq] at g4
 refine Ze (Zd (Zi (Za (xM (h:=xM (h:=xM (h:=Zh (ZcE 1 rfl rfl rfl Ziz rfl rfl (ZaB ZbN Try.underlying127 Zcu (atL 0 rfl rfl rfl)) (Z8.borrow fun hm5=>Zdc _ _ _ _ _ _ _ (Zag oz) (Zag oz) _ (hv.lend Zb2.mono hm5 om)) ?_))))))))
 refine xN (h:=Zc rfl (fun g5=>?_) (fun g5=>?_))
 try simp only [sQ,ne_eq] at g5
 refine Z5 (ZaI (Zcj rfl (Zac (ZR (Zd (Za (xM (h:=xM (h:=Zcr (h:=xA (h:=Zm ?_)))))))))))
 exact ZbQ .ret (.inl rfl) [_] [0,1] rfl t1 ⟨rfl,_,_,rfl,hv,hp,Zep hb (by intro k h0 hk he;(try simp only [decide_eq_true_eq,decide_eq_false_iff_not,Bool.not_eq_true',Bool.not_eq_false',Int.not_lt] at *);rcases (show k=2*g.1+1∨k=2*g.1+1+1 from by omega) with rfl | rfl <;> omega),hs⟩
 try simp only [sQ,ne_eq] at g5
 refine Ze (Zd (Za (xM (h:=xM (h:=xM (h:=Zh (Zdv [1] rfl rfl rfl rfl Ziy rfl rfl (ZaB ZbM Try.underlying127 Zcu (atL 0 rfl rfl rfl)) (Zdb _ _ _ _ _ _ _ _ (Zag oz) (Zag oz) oz _ hv) ?_)))))))
 rintro _ B6 _ hle6 ⟨rfl,l6,rfl,hv6⟩
 refine ZF [_,_] rfl (Zn (xM (h:=xA (h:=Zaz ?_))))
 rw [← Zbr g.2.1 g.1 (2*g.1+1)]
 have h5:hat g.2.1 (2*g.1+1)<hat g.2.1 g.1:=by simpa using g5
 exact Z6 (2*g.1+1,(swp g.2.1 g.1 (2*g.1+1)),l6) [0,1] (so) ⟨rfl,by have:=Zbr g.2.1 g.1 (2*g.1+1);simp only [];omega,(ZcW oz oz).trans hp,Zeo oz oz oz oz hb (by intro k h0 hk he;(try simp only [decide_eq_true_eq,decide_eq_false_iff_not,Bool.not_eq_true',Bool.not_eq_false',Int.not_lt] at *);rcases (show k=2*g.1+1∨k=2*g.1+1+1 from by omega) with rfl | rfl <;> omega) h5,(fun k hk=>by rw [Zcc oz oz,if_neg oz,if_neg oz];exact hs k hk),hv6⟩ t5 rfl
 try simp only [sQ,ne_eq] at g3
 refine xP (h:=xP (h:=xP (h:=xP (h:=xF (h:=Zc (t:=false) rfl (fun h=>Bool.noConfusion h) (fun _=>Ze (Zd (Zi (Za (xM (h:=xM (h:=xM (h:=?_)))))))))))))
 refine Zh (ZcE 1 rfl rfl rfl Ziz rfl rfl (ZaB ZbN Try.underlying127 Zcu (atL 0 rfl rfl rfl)) (Z8.borrow fun hm7=>Zdc _ _ _ _ _ _ _ (Zag oz) (Zag oz) _ (hv.lend Zb2.mono hm7 om)) ?_)
 refine xN (h:=Zc rfl (fun g5=>?_) (fun g5=>?_))
 try simp only [sQ,ne_eq] at g5
 refine Z5 (ZaI (Zcj rfl (Zac (ZR (Zd (Za (xM (h:=xM (h:=Zcr (h:=xA (h:=Zm ?_)))))))))))
 exact ZbQ .ret (.inl rfl) [_] [0,1] rfl t1 ⟨rfl,_,_,rfl,hv,hp,Zep hb (by intro k h0 hk he;(try simp only [decide_eq_true_eq,decide_eq_false_iff_not,Bool.not_eq_true',Bool.not_eq_false',Int.not_lt] at *);rcases (show k=2*g.1+1∨k=2*g.1+1+1 from by omega) with rfl | rfl <;> omega),hs⟩
 try simp only [sQ,ne_eq] at g5
 refine Ze (Zd (Za (xM (h:=xM (h:=xM (h:=Zh (Zdv [1] rfl rfl rfl rfl Ziy rfl rfl (ZaB ZbM Try.underlying127 Zcu (atL 0 rfl rfl rfl)) (Zdb _ _ _ _ _ _ _ _ (Zag oz) (Zag oz) oz _ hv) ?_)))))))
 rintro _ B8 _ hle8 ⟨rfl,l8,rfl,hv8⟩
 refine ZF [_,_] rfl (Zn (xM (h:=xA (h:=Zaz ?_))))
 rw [← Zbr g.2.1 g.1 (2*g.1+1)]
 have h5:hat g.2.1 (2*g.1+1)<hat g.2.1 g.1:=by simpa using g5
 exact Z6 (2*g.1+1,(swp g.2.1 g.1 (2*g.1+1)),l8) [0,1] (so) ⟨rfl,by have:=Zbr g.2.1 g.1 (2*g.1+1);simp only [];omega,(ZcW oz oz).trans hp,Zeo oz oz oz oz hb (by intro k h0 hk he;(try simp only [decide_eq_true_eq,decide_eq_false_iff_not,Bool.not_eq_true',Bool.not_eq_false',Int.not_lt] at *);rcases (show k=2*g.1+1∨k=2*g.1+1+1 from by omega) with rfl | rfl <;> omega) h5,(fun k hk=>by rw [Zcc oz oz,if_neg oz,if_neg oz];exact hs k hk),hv8⟩ t5 rfl

set_option maxHeartbeats 400000 in
theorem Zim (b:Nat) (q:Option Addr) (cp:Nat) (xs:List Int) (l:Cells) (hm0:0<xs.length) (hn:xs.length≤2000000) (hh:Zbx xs) (B:Kn) (hv:Zaa B l q cp 3 1 Zb2 xs):Zx (pj J) 90 [.iface 127 (ptr ⟨b,0,none⟩)] B [Z0 b [.slice q xs.length cp] 129,l] (fun v B' Ls=>B'=B∧v = .iface 3 (.int .i64 (hat xs 0))∧∃ys l',Ls=[Z0 b [.slice q ys.length cp] 129,l']∧Zaa B l' q cp 3 1 Zb2 ys∧(hat xs 0 :: ys).Perm xs∧Zbx ys):=by
 refine Zg 15 Try.func90 rfl rfl rfl (Nat.le_of_ble_eq_true rfl) ?_
 refine Za (xA (h:=Za (xM (h:=Zh (ZcE 1 rfl rfl rfl Zlq rfl rfl (ZaB ZfB Try.underlying127 Zcu (atL 0 rfl rfl rfl)) (Z8.borrow fun hm1=>Zil _ _ _ _) (Zh (Zg0 (r:=((xs.length - 1:Nat):Int)) rfl rfl rfl rfl ((congrArg _ (show _=((xs.length - 1:Nat):Int) from by omega)).trans (Zcs oz oz)) ?_)))))))
 refine xA (h:=Za (xM (h:=xM (h:=Zh (Zdv [1] rfl rfl rfl rfl Ziy rfl rfl (ZaB ZbM Try.underlying127 Zcu (atL 0 rfl rfl rfl)) (Zdb _ _ _ _ _ _ _ _ (Zag oz) (Zag oz) oz _ hv) ?_)))))
 rintro _ Bs _ hles ⟨rfl,ls,rfl,hvs⟩
 refine ZF [_,_] rfl ?_
 obtain ⟨zs,hzs,hzl⟩ :∃zs,zs=swp xs 0 (xs.length - 1)∧zs.length=xs.length:=⟨_,rfl,Zbr _ _ _⟩
 have hzz:=hvs
 change Zaa _ _ _ _ _ _ _ (swp xs 0 (xs.length - 1)) at hzz
 rw [← hzs] at hzz
 have hdb:Zcg zs (zs.length - 1) 0:=by rw [hzl,hzs];exact Zkx hh hm0
 have hlz:hat zs (zs.length - 1)=hat xs 0:=by rw [hzl,hzs];exact Zi0 hm0
 have hpz:zs.Perm xs:=hzs ▸ ZcW hm0 oz
 rw [← hzl]
 refine Za (xM (h:=xM (h:=Zh (ZX [0,1] rfl rfl rfl rfl Zl5 rfl (Zhj _ _ _ _ _ _ oz oz oz hdb _ hzz) ?_))))
 rintro _ Bd _ hled ⟨rfl,ysd,ld,rfl,hvd,hpd,hhd,hsd⟩
 refine ZF [_,_] rfl ?_
 have hdl:=hpd.length_eq
 refine Za (xM (h:=Zh (Zdv [0,1] rfl rfl rfl rfl Zl3 rfl rfl (ZfI Zh8 Try.underlying127) (ZkG _ _ _ _ _ _ (Zag oz) oz _ hvd) ?_)))
 rintro _ Bo _ hleo ⟨rfl,rfl,rfl,hvo⟩
 refine xA (h:=ZF [_,_] rfl (Zm ?_))
 have hz9:hat ysd (ysd.length - 1)=hat xs 0:=by rw [hsd _ oz,hdl];exact hlz
 exact ZbQ .ret (.inl rfl) [_] [0,1] rfl t1 ⟨rfl,by rw [hz9];rfl,_,_,by rw [show (ysd.take (ysd.length - 1)).length=ysd.length - 1 from by simp],hvo,Zi7 oz (hpd.trans hpz) hz9,Zhi (by rw [hdl];exact hhd) oz⟩

set_option maxHeartbeats 400000 in
theorem Zgd (q:Option Addr) (cp:Nat) (xs:List DItem) (last:Int) (B:Kn) (ha:SlK B q cp 4 Zb xs):Z8 (pj J) 66 [.slice q xs.length cp,.int .i64 last] B (.bool (asc 0 last (xs.map (·.id)))):=by
 refine Zg 53 Try.func66 rfl rfl rfl (Nat.le_of_ble_eq_true rfl) ?_
 have hxn:=ha.len
 refine Za (xA (h:=Za (xBs [] [] Try.underlying128 sz3 zo3 (h:=fun b1=>xBx [_] (h:=fun b2=>xA (h:=ZF [_,_] rfl (Zi (Za (xM (h:=xV Try.underlying26 (h:=xM (h:=Zu ?_))))))))))))
 refine Z1 (α:=Gh Int) [0,1,4,5,14,15] (fun g=>[(16,.int .i64 g.k)]) [0,1] (fun g=>[g.l,Z0 b2 [.slice g.a g.xs.length g.c] 129]) (fun g Bx=>Bx=B∧g.k≤xs.length∧g.xs.Perm ((xs.take g.k).map (·.id))∧Zbx g.xs∧Zaa Bx g.l g.a g.c 3 1 Zb2 g.xs) (fun g=>xs.length - g.k) ⟨0,0,_,_,_,[]⟩ t1 rfl (⟨rfl,Nat.zero_le _,.refl _,Zjj,.lit0⟩) (fun g B3 hle3 hI=>?_)
 obtain ⟨rfl,hk,hp,hh,hv⟩:=hI
 have hpl:=hp.length_eq
 rw [List.length_map,List.length_take] at hpl
 refine Zak [(0,_),(1,_),(4,_),(5,_),(14,_),(15,_),(16,_)] [_,_] t7 rfl (Za (ZO (h:=Zi (Zc rfl (fun g1=>?_) (fun g1=>?_)))))
 try simp only [sQ,ne_eq] at g1
 refine Ze (Zd (Zi (Zu (Za ?_))))
 obtain ⟨x,hx⟩:=Za2 (xs:=xs) (i:=g.k) om
 obtain ⟨bb5,oo5,rfl⟩:=ha.base hx
 obtain ⟨_,⟨qi6,ci6,rfl,hi6,hb6,hb6b⟩,hc6⟩:=ha.elem hx
 have hi6n:=hi6.len
 refine xIx Try.underlying26 ZbU (h:=yL [_,_,_,_] ZeG hc6 0 (h:=xAl [_,_,_,_] ZdI (h:=fun b7=>xS [_,_,_,_] 2 [_,_,_,_] ZbU (h:=ZF [_,_,_] rfl (Zn (xM (h:=Zh (ZbR rfl rfl Try.underlying127 rfl rfl (xW Zcd (h:=x1 lk3 2 (h:=Zh (ZbR rfl rfl Try.underlying3 rfl rfl (Zh (ZX [1,0] rfl rfl rfl rfl ZmJ rfl (Zhh _ _ _ _ _ _ oz hh _ hv) ?_))))))))))))))
 rintro _ Bp _ hlep ⟨rfl,qp,cp,ysp,lp,rfl,hvp,hpp,hhp⟩
 refine Zaz (Zd (Zn (xD (h:=xM (h:=?_)))))
 exact Z6 ⟨g.k+1,0,lp,_,_,ysp⟩ [0,1] so2 ⟨rfl,so,by simp only [];rw [Zau hx,List.map_append];exact hpp.trans (hp.append_right _),hhp,hvp⟩ t7 rfl
 try simp only [sQ,ne_eq] at g1
 have hxe:xs.take g.k=xs:=List.take_of_length_le oz
 rw [hxe] at hp
 refine Z5 (ZaI (Zac (ZR (Zd (Za (xA (h:=Zi (Za (xM (h:=xV Try.underlying26 (h:=xM (h:=Zu (Z1 (α:=Gh2 Int Int) [0,1,5,14,15,16,17,27,28] (fun h=>[(8,.int .i64 h.e),(29,.int .i64 h.k)]) [0,1] (fun h=>[h.l,Z0 b2 [.slice h.a h.xs.length h.c] 129]) (fun h Bx=>Bx=B3∧h.k≤xs.length∧h.xs.Perm ((xs.drop h.k).map (·.id))∧Zbx h.xs∧asc 0 last (xs.map (·.id))=asc h.e last ((xs.drop h.k).map (·.id))∧Zaa Bx h.l h.a h.c 3 1 Zb2 h.xs) (fun h=>xs.length - h.k) ⟨0,0,g.l,g.a,g.c,g.xs,0⟩ t2 rfl (⟨rfl,Nat.zero_le _,hp,hh,rfl,hv⟩) (fun h B9 hle9 hI=>?_))))))))))))))
 clear hv hp hpl hh
 obtain ⟨rfl,hk,hp,hh,hs,hv⟩:=hI
 have hpl:=hp.length_eq
 rw [List.length_map,List.length_drop] at hpl
 refine Zak [(0,_),(1,_),(5,_),(8,_),(14,_),(15,_),(16,_),(17,_),(27,_),(28,_),(29,_)] [_,_] t11 rfl (Za (ZO (h:=Zi (Zc rfl (fun g2=>?_) (fun g2=>?_)))))
 try simp only [sQ,ne_eq] at g2
 refine Ze (Zd (Zi (Zu (Za ?_))))
 obtain ⟨x,hx⟩:=Za2 (xs:=xs) (i:=h.k) om
 obtain ⟨bb11,oo11,rfl⟩:=ha.base hx
 obtain ⟨_,⟨qi12,ci12,rfl,hi12,hb12,hb12b⟩,hc12⟩:=ha.elem hx
 have hi12n:=hi12.len
 refine xIx Try.underlying26 ZbU (h:=?_)
 rw [Zfd hx,List.map_cons] at hp hs
 refine yL [_,_,_,_] ZeG hc12 0 (h:=xAl [_,_,_,_] ZdI (h:=fun b13=>xS [_,_,_,_] 2 [_,_,_,_] ZbU (h:=ZF [_,_,_] rfl (Za (xM (h:=Zh (ZbR rfl rfl Try.underlying127 rfl rfl (Zh (ZX [1,0] rfl rfl rfl rfl ZmI rfl (Zim _ _ _ _ _ oz oz hh _ hv) ?_)))))))))
 rintro _ Bo _ hleo ⟨rfl,rfl,yso,lo,rfl,hvo,hpo,hho⟩
 refine Zh (Zfm rfl rfl Try.underlying3 rfl rfl (xA (h:=ZF [_,_,_] rfl (Zi (Za (xM (h:=xW Zcd (h:=x1 lk3 2 (h:=Zaj (h:=xM (h:=Zq (d:=41) rfl (fun g3=>?_) (fun g3=>?_))))))))))))
 try simp only [sQ,ne_eq] at g3
 refine xP (h:=xP (h:=xP (h:=xT (h:=xM (h:=xP (h:=xP (h:=xP (h:=xT (h:=Zc (t:=true) rfl (fun _=>Za (xA (h:=Zm (ZK (ZaK (ZK (Zbj (ZaK (ZK ?_))))))))) (fun h=>Bool.noConfusion h))))))))))
 exact Z4 .ret (.inl rfl) [_] t1 ⟨Zr (by rw [hs];exact Zjw hp hh (by simpa using g3)),rfl,rfl⟩
 try simp only [sQ,ne_eq] at g3
 refine xM (h:=xM (h:=Zdl (h:=xF (h:=xM (h:=Zq (d:=46) rfl (fun g4=>?_) (fun g4=>?_))))))
 try simp only [sQ,ne_eq] at g4
 refine xP (h:=xP (h:=xP (h:=xT (h:=Zc (t:=true) rfl (fun _=>Za (xA (h:=Zm (ZK (ZaK (ZK (Zbj (ZaK (ZK ?_))))))))) (fun h=>Bool.noConfusion h)))))
 exact Z4 .ret (.inl rfl) [_] t1 ⟨Zr (by rw [hs];exact Zjv (by rw [← g3];simpa using g4)),rfl,rfl⟩
 try simp only [sQ,ne_eq] at g4
 refine xM (h:=xM (h:=Zcr (h:=xF (h:=Zc rfl (fun g5=>?_) (fun g5=>?_)))))
 try simp only [sQ,ne_eq] at g5
 refine Za (xA (h:=Zm (ZK (ZaK (ZK (Zbj (ZaK (ZK ?_))))))))
 exact Z4 .ret (.inl rfl) [_] t1 ⟨Zr (by rw [hs];exact Zju (by rw [← g3];simpa using g5)),rfl,rfl⟩
 try simp only [sQ,ne_eq] at g5
 refine Ze (Zd (Zn (xM (h:=xA (h:=Zaz (Zd (Zn (xD (h:=xM (h:=?_))))))))))
 exact Z6 ⟨h.k+1,0,lo,_,_,yso,hat h.xs 0⟩ [0,1] so2 ⟨rfl,so,List.Perm.cons_inv ((show (x.id :: yso).Perm (hat h.xs 0 :: yso) from by rw [g3]).trans (hpo.trans hp)),hho,by simp only [];rw [hs,g3];exact Zlr (by rw [← g3];simpa using g4) (by rw [← g3];simpa using g5),hvo⟩ t11 rfl
 try simp only [sQ,ne_eq] at g2
 rw [ZiC oz,List.map_nil,asc] at hs
 refine Z5 (ZaI (Zac (ZR (Zd (Za (xA (h:=Zm ?_)))))))
 exact Z4 .ret (.inl rfl) [_] t1 ⟨Zr hs.symm,rfl,rfl⟩

set_option maxHeartbeats 400000 in
theorem Zec (aq:Option Addr) (cq:Nat) (q:DQueue) (B:Kn) (hq:SlK B aq cq 4 Zb q.items):Z8 (pj J) 32 [.agg #[.int .i64 q.next,.slice aq q.items.length cq]] B (.bool (Z7 q)):=by
 refine Zg 42 Try.func32 rfl rfl rfl (Nat.le_of_ble_eq_true rfl) ?_
 have hqn:=hq.len
 refine Za (xBx [_,_] (h:=fun b1=>xA (h:=ZF [_] rfl (Zi (Za (xW Zae (h:=x1 ZdE 0 (h:=xV Try.underlying26 (h:=Zcr (h:=xM (h:=Zq (d:=9) rfl (fun g1=>?_) (fun g1=>?_))))))))))))
 try simp only [sQ,ne_eq] at g1
 refine xP (h:=xP (h:=xP (h:=xT (h:=xM (h:=xP (h:=xP (h:=xP (h:=xT (h:=Zc (t:=true) rfl (fun _=>Za (xA (h:=Zm (ZK ?_)))) (fun h=>Bool.noConfusion h))))))))))
 exact Z4 .ret (.inl rfl) [_] t1 ⟨Zr (Zdo oz),rfl,rfl⟩
 try simp only [sQ,ne_eq] at g1
 refine xW ZaS (h:=x1 lk3 0 (h:=ZO (h:=xF (h:=xM (h:=Zq (d:=14) rfl (fun g2=>?_) (fun g2=>?_))))))
 try simp only [sQ,ne_eq] at g2
 refine xP (h:=xP (h:=xP (h:=xT (h:=Zc (t:=true) rfl (fun _=>Za (xA (h:=Zm (ZK ?_)))) (fun h=>Bool.noConfusion h)))))
 exact Z4 .ret (.inl rfl) [_] t1 ⟨Zr (Zdo oz),rfl,rfl⟩
 try simp only [sQ,ne_eq] at g2
 refine xW ZaS (h:=x1 lk3 0 (h:=Zcr (h:=xF (h:=Zc rfl (fun g3=>?_) (fun g3=>?_)))))
 try simp only [sQ,ne_eq] at g3
 refine Za (xA (h:=Zm (ZK ?_)))
 exact Z4 .ret (.inl rfl) [_] t1 ⟨Zr (Zdo oz),rfl,rfl⟩
 try simp only [sQ,ne_eq] at g3
 refine Ze (Zd (Zi (Za (xW Zae (h:=x1 ZdE 0 (h:=xV Try.underlying26 (h:=xM (h:=Zu (Z1 (α:=Nat) [0,1,18,20,21] (fun k=>[(22,.int .i64 k)]) [] (fun k=>[]) (fun k Bx=>Bx=B∧k≤q.items.length∧(q.items.take k).all ZbZ=true) (fun k=>q.items.length - k) 0 t1 rfl (⟨rfl,Nat.zero_le _,by simp⟩) (fun k B2 hle2 hI=>?_))))))))))
 obtain ⟨rfl,hk,ha⟩:=hI
 refine Zak [(0,_),(1,_),(18,_),(20,_),(21,_),(22,_)] [_] t6 rfl (Za (ZO (h:=Zi (Zc rfl (fun g4=>?_) (fun g4=>?_)))))
 try simp only [sQ,ne_eq] at g4
 refine Ze (Zd (Zi (Zu (Za ?_))))
 obtain ⟨x,hx⟩:=Za2 (xs:=q.items) (i:=k) om
 obtain ⟨bb4,oo4,rfl⟩:=hq.base hx
 obtain ⟨_,⟨qi5,ci5,rfl,hi5,hb5,hb5b⟩,hc5⟩:=hq.elem hx
 have hi5n:=hi5.len
 refine xIx Try.underlying26 ZbU (h:=yL [_,_,_,_] ZeG hc5 0 (h:=xAl [_,_,_,_] ZdI (h:=fun b6=>xS [_,_,_,_] 1 [_,_,_,_] ZbU (h:=ZF [_,_] rfl (Za (xW Zeg (h:=x1 lk9 1 (h:=xW ZaH (h:=x1 Zc9 1 (h:=xW Zde (h:=x1 lk9 1 (h:=xB [(0,_),(1,_),(2,_)] [_,_,_] [_,_,_] Zmf ZjH (h:=?_)))))))))))))
 refine xR Zmp rfl (ZdF _ _ ⟨x.fr,x.left,x.text⟩ _ hi5 oa oa) (h:=?_)
 refine xN (h:=Zc rfl (fun g5=>?_) (fun g5=>?_))
 try simp only [sQ,ne_eq] at g5
 refine Za (xA (h:=Zm (ZaK (ZK (Zbj (ZaK (ZK ?_)))))))
 exact Z4 .ret (.inl rfl) [_] t1 ⟨Zr (Zf5 hx g5),rfl,rfl⟩
 try simp only [sQ,ne_eq] at g5
 refine Ze (Zaz (Zd (Zn (xD (h:=xM (h:=?_))))))
 exact Z6 (k+1) [0] so2 ⟨rfl,oz,Zls hx g5 ha⟩ t6 rfl
 try simp only [sQ,ne_eq] at g4
 refine Z5 (ZaI (Zac (ZR (Zd (Za (xW Zae (h:=x1 ZdE 0 (h:=xW ZaS (h:=x1 lk3 0 (h:=xU (h:=xR ZmP rfl (Zgd _ _ _ _ _ hq) (h:=xA (h:=Zm ?_)))))))))))))
 exact Z4 .ret (.inl rfl) [_] t1 ⟨Zr (Zf4 oz ha oz oz oz),rfl,rfl⟩

set_option maxHeartbeats 400000 in
theorem ZY (aq:Option Addr) (cq:Nat) (q:DQueue) (qx:Option Addr) (cx:Nat) (x:DLetter) (B:Kn) (hq:SlK B aq cq 4 Zb q.items) (hx:SlK B qx cx 1 Zt x.to_) (h1:x.fr.length≤2000000) (h2:x.text.length≤2000000):Zx (pj J) 16 [.agg #[.int .i64 q.next,.slice aq q.items.length cq],.agg #[str x.fr,.slice qx x.to_.length cx,str x.text]] B [] (fun v B' Ls=>(∃l a cp,Ls=[l]∧v = .tuple #[.agg #[.int .i64 (Zai q x).1.next,.slice a (Zai q x).1.items.length cp],.bool (Zai q x).2]∧Zbp l a cp 67 4 (Zz 9) (Zai q x).1.items)):=by
 refine Zg 50 Try.func16 rfl rfl rfl (Nat.le_of_ble_eq_true rfl) ?_
 have hqn:=hq.len
 have hxn:=hx.len
 refine Za (xBx [_,_] (h:=fun b1=>xBx [_,_,_] (h:=fun b2=>xAl [_,_] Za6 (h:=fun b3=>xA (h:=ZF [_,_,_] rfl (Zi (Za (xL [_,_] ZQ 0 (h:=xR Zmv rfl (Zec _ _ q _ hq) (h:=xN (h:=xM (h:=Zq (d:=11) rfl (fun g1=>?_) (fun g1=>?_)))))))))))))
 try simp only [sQ,ne_eq] at g1
 refine xP (h:=xP (h:=xP (h:=xT (h:=Zc (t:=true) rfl (fun _=>Za (xB [] [_,_] [_,_] Zi8 Za6 (h:=xS [_,_] 2 [_,_] ZaW (h:=xA (h:=ZF [_,_,_] rfl (Zm (ZK ?_))))))) (fun h=>Bool.noConfusion h)))))
 have he:=ZfT (x:=x) g1
 exact ZkQ .ret (.inl rfl) [_,_] ⟨⟨_,rfl,.inr ⟨[_,_],ZQ,Za4 2 rfl rfl rfl,rfl⟩⟩,rfl,trivial⟩ ⟨_,none,0,rfl,by rw [he];rfl,by rw [he];exact Zbp.nil⟩
 try simp only [sQ,ne_eq] at g1
 refine xL [_,_,_] ZfU 1 (h:=xR Zmp rfl (ZdF _ _ x _ hx oa oa) (h:=?_))
 refine xN (h:=xF (h:=Zc rfl (fun g2=>?_) (fun g2=>?_)))
 try simp only [sQ,ne_eq] at g2
 refine Za (xB [] [_,_] [_,_] Zi8 Za6 (h:=xS [_,_] 2 [_,_] ZaW (h:=xA (h:=ZF [_,_,_] rfl (Zm (ZK ?_))))))
 have he:=ZfS (q:=q) g2
 exact ZkQ .ret (.inl rfl) [_,_] ⟨⟨_,rfl,.inr ⟨[_,_],ZQ,Za4 2 rfl rfl rfl,rfl⟩⟩,rfl,trivial⟩ ⟨_,none,0,rfl,by rw [he];rfl,by rw [he];exact Zbp.nil⟩
 try simp only [sQ,ne_eq] at g2
 have hqb:=Zbz g1
 refine Ze (Zd (Za (xL [_,_] ZQ 0 (h:=Zh (Zs rfl rfl Zl1 rfl (Zb8 _ _ q _ hq) ?_)))))
 rintro _ Bk _ hlek ⟨lk,qk,ck,rfl,rfl,hdk⟩
 replace hq:=hq.mono Zb.mono hlek
 replace hx:=hx.mono Zt.mono hlek
 refine xAl [_,_] Za6 (h:=fun b7=>xS [_,_] 4 [_,_] ZaW (h:=ZF [_,_,_,_,_] rfl (Zi (Za (xW Zae (h:=x1 ZdE 0 (h:=xV Try.underlying26 (h:=Zfi (h:=xM (h:=Zq (d:=23) rfl (fun g3=>?_) (fun g3=>?_)))))))))))
 try simp only [sQ,ne_eq] at g3
 refine xP (h:=xP (h:=xP (h:=xT (h:=Zc (t:=true) rfl (fun _=>Za (xL [_,_] ZQ 4 (h:=xS [_,_] 2 [_,_] ZaW (h:=xA (h:=ZF [_,_,_,_,_] rfl (Zm (ZK ?_))))))) (fun h=>Bool.noConfusion h)))))
 have he:=Zdj g1 g2 (.inl oz)
 exact ZbQ .ret (.inl rfl) [_,_] [3] rfl ⟨⟨_,rfl,.inr ⟨[_,_],ZQ,Za4 2 rfl rfl rfl,rfl⟩⟩,rfl,trivial⟩ ⟨_,_,_,rfl,by rw [he];rfl,by rw [he];exact hdk⟩
 try simp only [sQ,ne_eq] at g3
 refine xW ZaS (h:=x1 lk3 0 (h:=Zcr (h:=xF (h:=Zc rfl (fun g4=>?_) (fun g4=>?_)))))
 try simp only [sQ,ne_eq] at g4
 refine Za (xL [_,_] ZQ 4 (h:=xS [_,_] 2 [_,_] ZaW (h:=xA (h:=ZF [_,_,_,_,_] rfl (Zm (ZK ?_))))))
 have he:=Zdj g1 g2 (.inr oz)
 exact ZbQ .ret (.inl rfl) [_,_] [3] rfl ⟨⟨_,rfl,.inr ⟨[_,_],ZQ,Za4 2 rfl rfl rfl,rfl⟩⟩,rfl,trivial⟩ ⟨_,_,_,rfl,by rw [he];rfl,by rw [he];exact hdk⟩
 try simp only [sQ,ne_eq] at g4
 refine Ze (Zd (Za (xW ZaS (h:=x1 lk3 0 (h:=xW Zei (h:=x1 lk9 1 (h:=xW Zeh (h:=x1 lk9 1 (h:=xW Zdf (h:=x1 Zc9 1 (h:=xB [(0,_),(1,_),(2,_),(3,_)] [_,_,_,_] [_,_,_,_] Zme ZdI (h:=xAl [_,_,_,_] ZdI (h:=fun b8=>?_)))))))))))))
 refine xS [_,_,_,_] 5 [_,_,_,_] ZbU (h:=ZF [_,_,_,_,_,_] rfl (Zi (Z9 (keeps _ [4,5] _) mo kr ⟨Kn.le.refl _,Zat.refl _ _⟩ (fun _ _=>?_))))
 refine aW 0 rfl Zae (h:=aT 1 rfl (Z2 fun D B L hI=>ZG rfl rfl ZdE rfl (atL 4 (hI.2.1.trans rfl) rfl rfl) r4) (h:=aT 2 rfl (Z2 fun D B L hI=>ZN [_,_,_,_] rfl rfl ZeG rfl (Za4 5 (hI.2.2.1.trans rfl) rfl rfl) r4) (h:=Zp 3 kr rfl kr (Zs rfl rfl Zmo rfl (Zeb _ _ ⟨q.next,x.fr,x.text,x.to_⟩ _ hx) ?_))))
 rintro _ B9 _ hle9 ⟨rfl,ins9,a9,c9,rfl,rfl,hs9⟩
 refine ⟨⟨Kn.le.refl _,t2⟩,(Zp 4 kr rfl kr (ZaP (parts:=[(0,_)]) [_,_,_,_] rfl rfl Try.underlying26 ZbU ZdI rfl rfl rfl rfl rfl (fun b10=>?_)))⟩
 refine ⟨⟨Kn.le.refl _,t2⟩,(Zp 5 kr rfl kr (ZjS (R:=Zz 9) (z:=⟨q.next,x.fr,x.text,x.to_⟩) 3 6 rfl rfl rfl hdk rfl rfl rfl Zj5 Zkq rfl rfl (Za5.box 7 rfl) rfl rfl (⟨_,_,rfl,hs9,by first | assumption | omega | (simp;done) | (simp;omega),by first | assumption | omega | (simp;done) | (simp;omega),by first | assumption | omega | (simp;done) | (simp;omega)⟩) om (fun l11 p11 c11 hd11=>?_)))⟩
 refine ⟨⟨Kn.le.refl _,t2⟩,(aW 6 rfl Zae (h:=ZcO 7 kr rfl kr kr kr (ZV [_] 4 [_,_] rfl rfl ZjU rfl rfl rfl rfl rfl rfl rfl rfl ?_)))⟩
 refine Zd (ZF [_,_,_,_,_,_,_,_] rfl (Za (xW ZaS (h:=x1 lk3 4 (h:=xD (h:=xW ZaS (h:=xS [_] 4 [_,_] sz3 (h:=ZF [_,_,_,_,_,_,_,_] rfl (Za (xL [_,_] ZQ 4 (h:=xS [_,_] 2 [_,_] ZaW (h:=xA (h:=?_)))))))))))))
 refine ZF [_,_,_,_,_,_,_,_] rfl (Zm ?_)
 have he:=ZiK g1 g2 oz oz
 exact ZbQ .ret (.inl rfl) [_,_] [3] rfl ⟨⟨_,rfl,.inr ⟨[_,_],ZQ,Za4 2 rfl rfl rfl,rfl⟩⟩,rfl,trivial⟩ ⟨_,_,_,rfl,by rw [he];rfl,by rw [he];exact hd11⟩

set_option maxHeartbeats 400000 in
theorem ZiF (p:Option Addr) (c:Nat) (xs:List Str) (l:Cells) (i:Nat) (hi:i<xs.length) (hn:xs.length≤2000000) (BV B:Kn) (hv:Zaa BV l p c 9 1 Zt xs):Zx (pj J) 36 [.slice p xs.length c,.int .i64 i,.int .i64 ((i:Int)+1)] B [l] (fun v B' Ls=>B'=B∧∃l',Ls=[l']∧v = .slice p (xs.take i ++ xs.drop (i+1)).length c∧Zaa BV l' p c 9 1 Zt (xs.take i ++ xs.drop (i+1))):=by
 refine Zg 33 Try.func36 rfl rfl rfl (Nat.le_of_ble_eq_true rfl) ?_
 obtain ⟨rows,hr1,hr2,hr3,⟨rfl,hn0,_⟩ | ⟨b,arr,rfl,ha,ht,rfl,hmc⟩⟩:=hv
 omega
 have hv1:Value.slice (if c=0 then some ⟨b,0,none⟩ else (some ⟨b,0,none⟩:Option Addr).map (·.add (0*1))) (i - 0) (c - 0) = .slice (some ⟨b,0,none⟩) i c:=by split <;> simp [Addr.add_off ⟨b,0,none⟩ _ rfl]
 have hrl:=hr1.len
 have hrf:=Zbf hr2
 have hws:((arr.take xs.length).drop (i+1)).length=(xs.length - (i+1))*1:=by rw [List.length_drop,List.length_take];omega
 have hel:(xs.take i ++ xs.drop (i+1)).length=i+(xs.length - (i+1)):=by rw [List.length_append,List.length_take,List.length_drop];omega
 refine Za (xA (h:=Za (xM (h:=xM (h:=xM (h:=xM (h:=xV Try.underlying35 (h:=Zh (ZiT (a:=i) (b:=i+1) (m:=xs.length) rfl rfl Try.underlying35 sz9 rfl ⟨_,_,rfl,rfl⟩ ⟨_,_,rfl,oz⟩ ⟨_,_,rfl,rfl⟩ oz oz hmc (fun v9=>?_))))))))))
 refine Zi (Za (xM (h:=xM (h:=Zfi (h:=Zc rfl (fun g1=>by have:=of_decide_eq_true g1;omega) (fun g1=>?_))))))
 try simp only [sQ,ne_eq] at g1
 refine Ze (Zd (Za (xM (h:=xV Try.underlying35 (h:=xA (h:=Zi (Z9 (keeps _ [] _) mo kr ⟨Kn.le.refl _,Zat.refl _ _⟩ (fun _ _=>?_))))))))
 refine aM 0 rfl (h:=aM 1 rfl (h:=aT 2 rfl (Z2 fun D B L hI=>Zgr (a:=0) (b:=i) hv1 oz oz rfl rfl Try.underlying35 sz9 rfl rfl ⟨_,_,rfl,rfl⟩ r4) (h:=?_)))
 refine aM 3 rfl (h:=aM 4 rfl (h:=aT 5 rfl (Z2 fun D B L hI=>ZeU rfl rfl Try.underlying35 sz9 rfl (a:=i+1) (b:=xs.length) ⟨_,_,rfl,oz⟩ rfl oz oz r4) (h:=?_)))
 refine Zp 6 kr rfl kr (Zkj (ws:=(arr.take xs.length).drop (i+1)) (d:=xs.length - (i+1)) 0 rfl ha rfl rfl ZkL ZkO rfl rfl (Zkv oz hmc oz) hws (Zky hr1 ht) oz ?_)
 refine ⟨⟨Kn.le.refl _,trivial⟩,(aA 7 rfl (h:=Zv kr kr ?_))⟩
 refine Zd (ZF [_] rfl (Za (xM (h:=xM (h:=xV Try.underlying35 (h:=xM (h:=Zh (Zgr (a:=i+(xs.length - (i+1))) (b:=xs.length) (v:=.slice (some ⟨b,i+(xs.length - (i+1)),none⟩) 1 (c - (i+(xs.length - (i+1))))) (by rw [if_neg oz];simp [Addr.add_off ⟨b,0,none⟩ _ rfl];omega) oz oz rfl rfl Try.underlying35 sz9 rfl ⟨_,_,rfl,rfl⟩ ⟨_,_,rfl,rfl⟩ ?_))))))))
 refine Zh (Zkf (d:=1) (sz:=1) 0 rfl rfl rfl Try.underlying35 sz9 ⟨_,zo9,rfl,rfl⟩ rfl (fun _=>rfl) (by rw [ZH,ha];omega) (fun zs hzs=>?_))
 refine ZF [_] rfl (Za (xM (h:=xA (h:=Zm ?_))))
 exact ZbQ .ret (.inl rfl) [_] [0] rfl t1 ⟨rfl,_,rfl,by rw [hel];rfl,Zaa.del hr1 hr2 ha (by rw [ht]) hi hmc rfl⟩

set_option maxHeartbeats 400000 in
theorem ZeI (aq:Option Addr) (cq:Nat) (q:DQueue) (id:Int) (u:Str) (B:Kn) (hq:SlK B aq cq 4 Zb q.items):Zx (pj J) 9 [.agg #[.int .i64 q.next,.slice aq q.items.length cq],.int .i64 id,str u] B [] (fun v B' Ls=>(∃l a cp,Ls=[l]∧v = .tuple #[.agg #[.int .i64 (Zan q id u).1.next,.slice a (Zan q id u).1.items.length cp],str (Zan q id u).2.1,.bool (Zan q id u).2.2]∧Zbp l a cp 67 4 (Zz 9) (Zan q id u).1.items∧(Zan q id u).2.1.length≤2000000)):=by
 refine Zg 95 Try.func9 rfl rfl rfl (Nat.le_of_ble_eq_true rfl) ?_
 have hqn:=hq.len
 refine Za (xBx [_,_] (h:=fun b1=>xAl [_,_] Za6 (h:=fun b2=>xA (h:=xA (h:=ZF [_,_] rfl (Zi (Za (xL [_,_] ZQ 0 (h:=xR Zmv rfl (Zec _ _ q _ hq) (h:=xN (h:=Zc rfl (fun g1=>?_) (fun g1=>?_))))))))))))
 try simp only [sQ,ne_eq] at g1
 refine Za (xB [] [_,_] [_,_] Zi8 Za6 (h:=xS [_,_] 1 [_,_] ZaW (h:=xA (h:=xA (h:=ZF [_,_] rfl (Zm (ZK ?_)))))))
 have he:Zan q id u=(⟨0,[]⟩,[],false):=by simp [Zan,g1]
 exact ZkQ .ret (.inl rfl) [_,_,_] ⟨⟨_,rfl,.inr ⟨[_,_],ZQ,Za4 1 rfl rfl rfl,rfl⟩⟩,rfl,rfl,trivial⟩ ⟨_,none,0,rfl,by rw [he];rfl,by rw [he];exact Zbp.nil,by rw [he];exact Nat.zero_le _⟩
 try simp only [sQ,ne_eq] at g1
 have hqb:=Zbz g1
 refine Ze (Zd (Za (xL [_,_] ZQ 0 (h:=Zh (Zs rfl rfl Zmu rfl (Zd2 _ _ q _ hq) ?_)))))
 rintro _ Bz _ hlez ⟨slz,rfl,hlz⟩
 replace hq:=hq.mono Zb.mono hlez
 obtain ⟨p0,rfl⟩:=hlz.ptr
 refine xAl [_] Zmc (h:=fun b5=>xS [_] 3 [_] ZlP (h:=ZF [_,_,_,_] rfl (ZlI (ZF [_,_,_,_,_] rfl (Za (xA (h:=Zi (Zu (Z1 (α:=QTk) [0,1,2,3,6,7,8,9,16] (fun g=>[(10,ptr ⟨g.bl,g.o,none⟩)]) [2,3,4] (fun g=>[g.cells,Z0 g.bl g.cs g.Tc,g.rest]) (fun g Bx=>Bx=Bz∧g.pre ++ g.xs=q.items∧Zgo 9 69 63 b5 g.bl g.o g.cs g.Tc g.rest g.pre∧g.cs[g.o]? = some (.pointer g.p)∧Zcv 9 69 (.pointer g.p) g.xs g.cells∧(∀y,y∈g.pre→y.id≠id)) (fun g=>g.xs.length) ⟨[],q.items,p0,b5,0,[.pointer p0],63,[],_⟩ t1 rfl (⟨rfl,rfl,.init,rfl,hlz,(fun _ h=>by cases h)⟩) (fun g B6 hle6 hI=>?_))))))))))
 obtain ⟨rfl,hxs,hlk,hcs,hl,hpre⟩:=hI
 refine Zak [(0,_),(1,_),(2,_),(3,_),(6,_),(7,_),(8,_),(9,_),(10,_),(16,_)] [_,_,_,_,_] t10 rfl (Zi (Za (xM (h:=xNc (h:=Zh (ZG rfl rfl Zhd rfl (atL 3 rfl rfl hcs) (Zh (Zal rfl rfl rfl rfl rfl (ZdL Try.underlying63) (xM (h:=Zq (d:=24) rfl (fun g2=>?_) (fun g2=>?_)))))))))))
 try simp only [sQ,ne_eq] at g2
 obtain ⟨y,ys,b8,q8,c8,np,ins8,rest8,hp8,hrest,hperm,hy5,hy6,hy7,hy8,hl8⟩:=hl.more (by simpa using g2)
 rw [hp8] at hcs ⊢
 have hys:g.pre ++ y :: ys=q.items:=by rw [← hrest];exact hxs
 have hlen:=congrArg List.length hys
 rw [List.length_append,List.length_cons] at hlen
 have hset:=Zi1 hcs
 have hcl:=ZaZ hcs
 have hy5k:=hy5.anyK (B':=B6) Zt.any
 refine Zh6 2 rfl hperm (xM (h:=xNc (h:=Zh (ZG rfl rfl Zhd rfl (atL 3 rfl rfl hcs) (xNc (h:=xW Zir (h:=xW Zcd (h:=x1 lk3 2 (h:=xM (h:=Zaj (h:=xT (h:=ZF [_,_,_,_,_,_,_] rfl (Zc rfl (fun g3=>?_) (fun g3=>?_))))))))))))))
 try simp only [sQ,ne_eq] at g3
 refine Ze (Zd (Zu (Zn (xM (h:=xNc (h:=Zh (ZG rfl rfl Zhd rfl (atL 3 rfl rfl hcs) (xNc (h:=xW Ziq (h:=xA (h:=Zaz ?_)))))))))))
 have hset2:g.cs.set g.o (ptr ⟨b8,0,none⟩)=g.cs:=hset
 refine ⟨⟨g.pre ++ [y],ys,np,b8,4,_,69,g.rest ++ (Z0 g.bl (g.cs.set g.o (ptr ⟨b8,0,none⟩)) g.Tc ++ ins8),rest8⟩,by simp only [];rw [hrest];simp,⟨rfl,by simpa using hys,Zgo.step (row:=[.int .i64 y.id,str y.fr,str y.text,.slice q8 y.left.length c8]) (np:=.pointer np) hlk rfl ⟨_,_,rfl,hy5,hy6,hy7,hy8⟩,rfl,hl8,fun z hz=>?_⟩,t10,⟨[],?_⟩,rfl⟩
 rcases List.mem_append.1 hz with hz | hz
 · exact hpre z hz
 · rw [List.mem_singleton.1 hz];exact g3
 rw [hset2]
 exact Ze0 fun f g9 h0 ha hc=>by simp only [Zb5,List.set_cons_succ,List.set_cons_zero,List.flatten_cons,List.flatten_nil,List.append_nil,List.cons_append,List.nil_append,Z0,Addr.add_blk,ha,hc,h0];try omega
 try simp only [sQ,ne_eq] at g3
 refine Z5 (ZaI (Zac (ZR (Zd (Zi (Za (xM (h:=xNc (h:=Zh (ZG rfl rfl Zhd rfl (atL 3 rfl rfl hcs) (Zh (ZjR rfl rfl rfl rfl rfl (ZdL Try.underlying63) (Zc rfl (fun g4=>by cases g4) (fun g4=>?_))))))))))))))
 try simp only [sQ,ne_eq] at g4
 refine Ze (Zd (Za (xM (h:=xNc (h:=Zh (ZG rfl rfl Zhd rfl (atL 3 rfl rfl hcs) (xNc (h:=xW Zir (h:=xA (h:=Zi (Z9 (keeps _ [2] _) mo kr ⟨Kn.le.refl _,Zat.refl _ _⟩ (fun _ _=>?_))))))))))))
 refine aM 0 rfl (h:=aNc 1 rfl (h:=aW 2 rfl Zde (h:=aT 3 rfl (Z2 fun D B L hI=>ZG rfl rfl lk9 rfl (atL 2 (hI.2.1.trans rfl) rfl rfl) r4) (h:=aM 4 rfl (h:=aNc 5 rfl (h:=aW 6 rfl ZaH (h:=aT 7 rfl (Z2 fun D B L hI=>ZG rfl rfl Zc9 rfl (atL 2 (hI.2.1.trans rfl) rfl rfl) r4) (h:=aM 8 rfl (h:=Zp 9 kr rfl kr (ZdQ 5 rfl rfl rfl Zmt rfl (Z8.borrow fun hm7=>Zij _ _ _ _ _ (hy5k.lend Zt.mono hm7 om)) ?_))))))))))
 refine ⟨⟨Kn.le.refl _,t1⟩,(aA 10 rfl (h:=aA 11 rfl (h:=Zv kr kr ?_)))⟩
 refine Zd (Zi (Za (xM (h:=ZO (h:=Zc rfl (fun g5=>?_) (fun g5=>?_))))))
 try simp only [sQ,ne_eq] at g5
 refine Za (xL [_,_] ZQ 0 (h:=Zh (Zs rfl rfl Zl1 rfl (Zb8 _ _ q _ hq) ?_)))
 rintro _ Bw _ hlew ⟨lw,qw,cw,rfl,rfl,hdw⟩
 replace hq:=hq.mono Zb.mono hlew
 replace hy5k:=hy5k.mono Zt.mono hlew
 refine xS [_,_] 1 [_,_] ZaW (h:=xA (h:=xA (h:=ZF [_,_,_,_,_,_,_,_] rfl (Zm (ZK ?_)))))
 have hnu : ¬ u∈y.left:=fun h=>absurd (ZgL.2 h) oz
 have he:Zan q id u=(q,[],false):=by rw [← g3];exact Zg3 g1 hys hnu
 exact ZbQ .ret (.inl rfl) [_,_,_] [7] rfl ⟨⟨_,rfl,.inr ⟨[_,_],ZQ,Za4 1 rfl rfl rfl,rfl⟩⟩,rfl,rfl,trivial⟩ ⟨_,_,_,rfl,by rw [he];rfl,by rw [he];exact hdw,by rw [he];exact Nat.zero_le _⟩
 try simp only [sQ,ne_eq] at g5
 obtain ⟨k,hke,hkg⟩:=Zje oz
 rw [hke]
 have hkl:=ZaZ hkg
 have hy9:y∈q.items:=by rw [← hys];simp
 have hw:=ZdP (ZcK (Zb7 g1 hy9)).2 hkg
 have hwn:(without y.left u).length=y.left.length - 1:=by rw [hw,List.length_append,List.length_take,List.length_drop];omega
 have hdn:(y.left.take k ++ y.left.drop (k+1)).length=y.left.length - 1:=by rw [← hw];exact hwn
 refine Ze (Zd (Za (xM (h:=xM (h:=xNc (h:=xW ZaH (h:=x1 Zc9 2 (h:=xM (h:=xM (h:=xD (h:=Zh (ZX [5] rfl rfl rfl rfl ZmX rfl (ZiF _ _ _ _ _ oz oz _ _ hy5k) ?_))))))))))))
 rintro _ Be _ hlee ⟨rfl,le,rfl,rfl,hve⟩
 refine xNc (h:=xW ZaH (h:=xS [_] 2 [_,_,_,_,_] Zkp (h:=ZF [_,_,_,_,_,_,_] rfl (Zi (Za (xM (h:=xNc (h:=xW ZaH (h:=x1 Zc9 2 (h:=xV Try.underlying35 (h:=Zfi (h:=Zc rfl (fun g6=>?_) (fun g6=>?_)))))))))))))
 try simp only [sQ,ne_eq] at g6
 refine Zn (xM (h:=xM (h:=xNc (h:=Zh (ZG rfl rfl Zhd rfl (atL 3 rfl rfl hcs) (xNc (h:=xW Ziq (h:=x1 Zhd 2 (h:=xNc (h:=Zh (ZV [_] 3 (g.cs.set g.o (.pointer np)) rfl rfl ZlP rfl rfl rfl rfl rfl rfl (by rw [Nat.ble_eq];exact hcl) (ZhV hcl) ?_)))))))))))
 refine Zd ?_
 obtain ⟨v0,s0,hl0,hp0⟩:=hlk (.pointer np) ys rest8 hl8
 refine Zmd [3,4,6] (ss':=[Z0 b5 [v0] 63,s0,[]]) rfl rfl ((show List.Perm _ _ from Ze0 fun f g9 h0 ha hc=>by simp only [Zb5,List.set_cons_succ,List.set_cons_zero,List.flatten_cons,List.flatten_nil,List.append_nil,List.cons_append,List.nil_append,Z0,Addr.add_blk,ha,hc,h0];try omega).trans (hp0.trans (Ze0 fun f g9 h0 ha hc=>by simp only [Zb5,List.set_cons_succ,List.set_cons_zero,List.flatten_cons,List.flatten_nil,List.append_nil,List.cons_append,List.nil_append,Z0,Addr.add_blk,ha,hc,h0];try omega))) ?_
 refine ZF [_,_,_,_,_,_,_] rfl ?_
 have hl9:(g.pre ++ ys).length≤2000000:=by simp only [List.length_append,List.length_cons];omega
 refine Za (xW ZaS (h:=x1 lk3 0 (h:=x1 Zhd 3 (h:=Zh (ZX [4] rfl rfl rfl rfl Zl0 rfl (Zd1 _ _ _ _ _ oa hl0) ?_)))))
 rintro _ Bf _ hlef ⟨rfl,ldf,adf,cdf,rfl,rfl,hdf⟩
 refine xM (h:=xS [_,_] 1 [_,_] ZaW (h:=xA (h:=xA (h:=ZF [_,_,_,_,_,_,_] rfl (Zm ?_)))))
 have he:Zan q id u=(⟨q.next,g.pre ++ ys⟩,y.text,true):=by rw [← g3,ZdV g1 hys (List.mem_of_getElem? hkg),if_neg oz]
 exact ZbQ .ret (.inl rfl) [_,_,_] [4] rfl ⟨⟨_,rfl,.inr ⟨[_,_],ZQ,Za4 1 rfl rfl rfl,rfl⟩⟩,rfl,rfl,trivial⟩ ⟨_,_,_,rfl,by rw [he];rfl,by rw [he];exact hdf,by rw [he];exact hy7⟩
 try simp only [sQ,ne_eq] at g6
 obtain ⟨v0,s0,hl0,hp0⟩:=hlk (ptr ⟨b8,0,none⟩) (⟨y.id,y.fr,y.text,y.left.take k ++ y.left.drop (k+1)⟩ :: ys) _ ⟨_,_,_,_,_,rfl,.refl _,⟨_,_,rfl,hve.anyK Zt.any,hy6,hy7,so⟩,hl8⟩
 rw [hset] at hp0
 refine Zmd [2,3,4,5,6] (ss':=[[],Z0 b5 [v0] 63,s0,[],[]]) rfl rfl ((show List.Perm _ _ from Ze0 fun f g9 h0 ha hc=>by simp only [Zb5,List.set_cons_succ,List.set_cons_zero,List.flatten_cons,List.flatten_nil,List.append_nil,List.cons_append,List.nil_append,Z0,Addr.add_blk,ha,hc,h0];try omega).trans (hp0.trans (Ze0 fun f g9 h0 ha hc=>by simp only [Zb5,List.set_cons_succ,List.set_cons_zero,List.flatten_cons,List.flatten_nil,List.append_nil,List.cons_append,List.nil_append,Z0,Addr.add_blk,ha,hc,h0];try omega))) ?_
 refine ZF [_,_,_,_,_,_,_] rfl ?_
 have hl9:(g.pre ++ (⟨y.id,y.fr,y.text,y.left.take k ++ y.left.drop (k+1)⟩ :: ys)).length≤2000000:=by simp only [List.length_append,List.length_cons];omega
 refine Ze (Zd (Za (xW ZaS (h:=x1 lk3 0 (h:=x1 Zhd 3 (h:=Zh (ZX [4] rfl rfl rfl rfl Zl0 rfl (Zd1 _ _ _ _ _ oa hl0) ?_)))))))
 rintro _ Bf _ hlef ⟨rfl,ldf,adf,cdf,rfl,rfl,hdf⟩
 refine xM (h:=xS [_,_] 1 [_,_] ZaW (h:=xA (h:=xA (h:=ZF [_,_,_,_,_,_,_] rfl (Zm ?_)))))
 have he:Zan q id u=(⟨q.next,g.pre ++ (⟨y.id,y.fr,y.text,y.left.take k ++ y.left.drop (k+1)⟩ :: ys)⟩,y.text,true):=by rw [← g3,ZdV g1 hys (List.mem_of_getElem? hkg),if_pos oz,hw]
 exact ZbQ .ret (.inl rfl) [_,_,_] [4] rfl ⟨⟨_,rfl,.inr ⟨[_,_],ZQ,Za4 1 rfl rfl rfl,rfl⟩⟩,rfl,rfl,trivial⟩ ⟨_,_,_,rfl,by rw [he];rfl,by rw [he];exact hdf,by rw [he];exact hy7⟩
 try simp only [sQ,ne_eq] at g2
 refine xP (h:=xP (h:=xP (h:=xP (h:=xP (h:=xP (h:=xP (h:=xP (h:=xP (h:=xF (h:=Zc (t:=false) rfl (fun h=>Bool.noConfusion h) (fun _=>Z5 (ZaI (Zac (ZR (Zd (Zi ?_))))))))))))))))
 refine Za (xM (h:=xNc (h:=Zh (ZG rfl rfl Zhd rfl (atL 3 rfl rfl hcs) (Zh (ZjR rfl rfl rfl rfl rfl (ZdL Try.underlying63) (Zc rfl (fun g4=>?_) (fun g4=>by simp_all))))))))
 try simp only [sQ,ne_eq] at g4
 refine Za (xL [_,_] ZQ 0 (h:=Zh (Zs rfl rfl Zl1 rfl (Zb8 _ _ q _ hq) ?_)))
 rintro _ Bw _ hlew ⟨lw,qw,cw,rfl,rfl,hdw⟩
 replace hq:=hq.mono Zb.mono hlew
 refine xS [_,_] 1 [_,_] ZaW (h:=xA (h:=xA (h:=ZF [_,_,_,_,_,_] rfl (Zm (ZK ?_)))))
 have hx0:=hl.done (by simpa using g2)
 rw [hx0,List.append_nil] at hxs
 have he:Zan q id u=(q,[],false):=Zgw g1 (fun x hx e=>hpre x (hxs ▸ hx) e.1)
 exact ZbQ .ret (.inl rfl) [_,_,_] [5] rfl ⟨⟨_,rfl,.inr ⟨[_,_],ZQ,Za4 1 rfl rfl rfl,rfl⟩⟩,rfl,rfl,trivial⟩ ⟨_,_,_,rfl,by rw [he];rfl,by rw [he];exact hdw,by rw [he];exact Nat.zero_le _⟩

set_option maxRecDepth 4000 in
set_option maxHeartbeats 400000 in
theorem Zgx (q : Option Addr) (cp : Nat) (xs : List Str) (left : Int) (hl0 : 0 ≤ left) (hl1 : left ≤ 1048576) (B : Kn) (hx : SlB B q cp 1 ZdM xs) : Z8 (pj J) 41 [.slice q xs.length cp, .int .i64 left] B (.int .i64 (szI left (szL List.length xs))) := by
  refine Zg 28 Try.func41 rfl rfl rfl (Nat.le_of_ble_eq_true rfl) ?_
  have hxn := hx.len
  refine Za (xA (h:=Za (xM (h:=xM (h:=xV Try.underlying35 (h:=xU (h:=xA (h:=Zi (Za (xM (h:=ZO (h:=Zc rfl (fun g1 => ?_) (fun g1 => ?_)))))))))))))
  try simp only [sQ, ne_eq] at g1
  refine Za (xA (h:=Zm (ZK ?_)))
  exact Z4 .ret (.inl rfl) [_] ⟨rfl, trivial⟩ ⟨Za0 (ZhL (by omega)).symm, rfl, rfl⟩
  try simp only [sQ, ne_eq] at g1
  refine Ze (Zd (Zi (Za (xA (h:=Zu (Z1 (α := Nat × Int) [0, 11] (fun g => [(1, .int .i64 g.2), (5, .int .i64 g.1)]) [] (fun g => []) (fun g Bx => Bx = B ∧ g.1 ≤ xs.length ∧ g.2 = left - xs.length - ((xs.take g.1).map List.length).sum ∧ 0 ≤ g.2) (fun g => xs.length - g.1) (0, left - ↑xs.length) ⟨rfl, rfl, trivial⟩ rfl (⟨rfl, Nat.zero_le _, by simp, g1⟩) (fun g B1 hle1 hI => ?_)))))))
  obtain ⟨rfl, hk, hs, hl⟩ := hI
  refine Zak [(0, _), (1, _), (5, _), (11, _)] [] ⟨rfl, rfl, rfl, rfl, trivial⟩ rfl (Zi (Za (xM (h:=xM (h:=xV Try.underlying35 (h:=ZO (h:=Zc rfl (fun g2 => ?_) (fun g2 => ?_))))))))
  try simp only [sQ, ne_eq] at g2
  refine Ze (Zd (Zi (Zu (Za (xM (h:=xM (h:=xM (h:=?_))))))))
  obtain ⟨z, hz⟩ := Za2 (xs := xs) (i := g.1) (by first | omega | (simp; done) | (simp; omega))
  obtain ⟨bb3, oo3, rfl⟩ := hx.base hz
  obtain ⟨_, ⟨rfl, hb4⟩, hc4⟩ := hx.elem hz
  refine xIx Try.underlying35 sz9 (h:=y1 lk9 hc4 0 (h:=xVs Try.underlying9 (h:=xU (h:=xA (h:=Za (xM (h:=ZO (h:=Zc rfl (fun g3 => ?_) (fun g3 => ?_)))))))))
  try simp only [sQ, ne_eq] at g3
  refine Za (xA (h:=Zm (ZaK (ZK (Zbj (ZaK (ZK ?_)))))))
  exact Z4 .ret (.inl rfl) [_] ⟨rfl, trivial⟩ ⟨Za0 (ZhJ hz hs (by omega)).symm, rfl, rfl⟩
  try simp only [sQ, ne_eq] at g3
  refine Ze (Zaz (Zd (Zn (xM (h:=xD (h:=xA (h:=?_)))))))
  exact Z6 (g.1 + 1, g.2 - z.length) [] (by first | omega | (simp only []; omega)) ⟨rfl, by simp only []; omega, by rw [ZeX _ hz, hs]; omega, g3⟩ ⟨rfl, rfl, rfl, rfl, trivial⟩ rfl
  try simp only [sQ, ne_eq] at g2
  refine Z5 (ZaI (Zac (ZR (Zd (Za (xM (h:=xA (h:=Zm ?_))))))))
  exact Z4 .ret (.inl rfl) [_] ⟨rfl, trivial⟩ ⟨Za0 (ZhK hs hl (by omega)).symm, rfl, rfl⟩

set_option maxHeartbeats 400000 in
theorem ZiZ (q:Option Addr) (cp:Nat) (x:DItem) (h1:x.fr.length≤140737488355328) (h2:x.text.length≤140737488355328) (left:Int) (hl0:0≤left) (hl1:left≤1048576) (B:Kn) (hx:SlB B q cp 1 ZdM x.left):Z8 (pj J) 61 [.agg #[.int .i64 x.id,str x.fr,str x.text,.slice q x.left.length cp],.int .i64 left] B (.int .i64 (szI left (Zaw x))):=by
 refine Zg 26 Try.func61 rfl rfl rfl (Nat.le_of_ble_eq_true rfl) ?_
 have hxn:=hx.len
 refine Za (xBx [_,_,_,_] (h:=fun b1=>xA (h:=ZF [_] rfl (Za (xM (h:=xW Ziu (h:=x1 lk9 0 (h:=xVs Try.underlying9 (h:=xU (h:=xA (h:=Zi (Za ?_))))))))))))
 refine xM (h:=ZO (h:=Zc rfl (fun g1=>?_) (fun g1=>?_)))
 try simp only [sQ,ne_eq] at g1
 refine Za (xA (h:=Zm (ZK ?_)))
 exact Z4 .ret (.inl rfl) [_] t1 ⟨Za0 (by rw [ZbT (by unfold Zaw;omega)]),rfl,rfl⟩
 try simp only [sQ,ne_eq] at g1
 refine Ze (Zd (Za (xM (h:=xW Zit (h:=x1 lk9 0 (h:=xVs Try.underlying9 (h:=xU (h:=xA (h:=Zi (Za (xM (h:=ZO (h:=?_)))))))))))))
 refine Zc rfl (fun g2=>?_) (fun g2=>?_)
 try simp only [sQ,ne_eq] at g2
 refine Za (xA (h:=Zm (ZK ?_)))
 exact Z4 .ret (.inl rfl) [_] t1 ⟨Za0 (by rw [ZbT (by unfold Zaw;omega)]),rfl,rfl⟩
 try simp only [sQ,ne_eq] at g2
 refine Ze (Zd (Za (xW Zis (h:=x1 Zc9 0 (h:=xM (h:=?_))))))
 have hq2:=Zgx (J:=J) _ _ x.left ((left - ↑x.fr.length) - ↑x.text.length) om om _ hx
 refine xR Zms rfl hq2 (h:=xA (h:=Zi (Za (xM (h:=ZO (h:=Zc rfl (fun g3=>?_) (fun g3=>?_)))))))
 try simp only [sQ,ne_eq] at g3
 have g3x:=(ZeW oz).1 g3
 refine Za (xA (h:=Zm (ZK ?_)))
 exact Z4 .ret (.inl rfl) [_] t1 ⟨Za0 (by rw [ZbT (by unfold Zaw ZaV;omega)]),rfl,rfl⟩
 try simp only [sQ,ne_eq] at g3
 have g3x:=ZcH oz g3
 refine Ze (Zd (Za (xM (h:=xA (h:=Zm ?_)))))
 exact Z4 .ret (.inl rfl) [_] t1 ⟨Za0 (by (try dsimp only at *);rw [ZhN (left:=left) (s:=Zaw x) (by unfold Zaw ZaV;omega)];unfold Zaw ZaV;omega),rfl,rfl⟩

set_option maxRecDepth 4000 in
set_option maxHeartbeats 400000 in
theorem ZhM (q : Option Addr) (cp : Nat) (xs : List DItem) (left : Int) (hl0 : 0 ≤ left) (hl1 : left ≤ 1048576) (B : Kn) (hx : SlB B q cp 4 ZcP xs) : Z8 (pj J) 28 [.slice q xs.length cp, .int .i64 left] B (.int .i64 (szI left (szL Zaw xs))) := by
  refine Zg 27 Try.func28 rfl rfl rfl (Nat.le_of_ble_eq_true rfl) ?_
  have hxn := hx.len
  refine Za (xA (h:=Za (xM (h:=xM (h:=xV Try.underlying22 (h:=xU (h:=xA (h:=Zi (Za (xM (h:=ZO (h:=Zc rfl (fun g1 => ?_) (fun g1 => ?_)))))))))))))
  try simp only [sQ, ne_eq] at g1
  refine Za (xA (h:=Zm (ZK ?_)))
  exact Z4 .ret (.inl rfl) [_] ⟨rfl, trivial⟩ ⟨Za0 (ZhL (by omega)).symm, rfl, rfl⟩
  try simp only [sQ, ne_eq] at g1
  refine Ze (Zd (Zi (Za (xA (h:=Zu (Z1 (α := Nat × Int) [0, 11] (fun g => [(1, .int .i64 g.2), (5, .int .i64 g.1)]) [] (fun g => []) (fun g Bx => Bx = B ∧ g.1 ≤ xs.length ∧ g.2 = left - xs.length - ((xs.take g.1).map Zaw).sum ∧ 0 ≤ g.2) (fun g => xs.length - g.1) (0, left - ↑xs.length) ⟨rfl, rfl, trivial⟩ rfl (⟨rfl, Nat.zero_le _, by simp, g1⟩) (fun g B1 hle1 hI => ?_)))))))
  obtain ⟨rfl, hk, hs, hl⟩ := hI
  refine Zak [(0, _), (1, _), (5, _), (11, _)] [] ⟨rfl, rfl, rfl, rfl, trivial⟩ rfl (Zi (Za (xM (h:=xM (h:=xV Try.underlying22 (h:=ZO (h:=Zc rfl (fun g2 => ?_) (fun g2 => ?_))))))))
  try simp only [sQ, ne_eq] at g2
  refine Ze (Zd (Zi (Zu (Za (xM (h:=xM (h:=?_)))))))
  obtain ⟨z, hz⟩ := Za2 (xs := xs) (i := g.1) (by first | omega | (simp; done) | (simp; omega))
  obtain ⟨bb3, oo3, rfl⟩ := hx.base hz
  obtain ⟨_, ⟨qi4, ci4, rfl, hi4, hb4, hb4b⟩, hc4⟩ := hx.elem hz
  have hi4n := hi4.len
  refine xIx Try.underlying22 Zlb (h:=yL [_, _, _, _] Zlk hc4 0 (h:=xM (h:=?_)))
  have hq5 := ZiZ (J := J) _ _ z (by first | omega | (simp; done) | (simp; omega)) (by first | omega | (simp; done) | (simp; omega)) g.2 (by first | omega | (simp; done) | (simp; omega)) (by first | omega | (simp; done) | (simp; omega)) _ hi4
  refine xR ZmS rfl hq5 (h:=xA (h:=Za (xM (h:=ZO (h:=Zc rfl (fun g3 => ?_) (fun g3 => ?_))))))
  try simp only [sQ, ne_eq] at g3
  refine Za (xA (h:=Zm (ZaK (ZK (Zbj (ZaK (ZK ?_)))))))
  exact Z4 .ret (.inl rfl) [_] ⟨rfl, trivial⟩ ⟨Za0 (ZhJ hz hs ((ZeW hl).1 g3)).symm, rfl, rfl⟩
  try simp only [sQ, ne_eq] at g3
  refine Ze (Zaz (Zd (Zn (xM (h:=xD (h:=xA (h:=?_)))))))
  exact Z6 (g.1 + 1, szI g.2 (Zaw z)) [] (by first | omega | (simp only []; omega)) ⟨rfl, by simp only []; omega, by have := (ZcH hl g3).1; rw [ZeX _ hz]; simp only []; omega, g3⟩ ⟨rfl, rfl, rfl, rfl, trivial⟩ rfl
  try simp only [sQ, ne_eq] at g2
  refine Z5 (ZaI (Zac (ZR (Zd (Za (xM (h:=xA (h:=Zm ?_))))))))
  exact Z4 .ret (.inl rfl) [_] ⟨rfl, trivial⟩ ⟨Za0 (ZhK hs hl (by omega)).symm, rfl, rfl⟩

set_option maxHeartbeats 400000 in
theorem Zfs (q:Option Addr) (cp:Nat) (x:DQueue) (left:Int) (hl0:0≤left) (hl1:left≤1048576) (B:Kn) (hx:SlB B q cp 4 ZcP x.items):Z8 (pj J) 6 [.agg #[.int .i64 x.next,.slice q x.items.length cp],.int .i64 left] B (.int .i64 (szI left (szL Zaw x.items))):=by
 refine Zg 12 Try.func6 rfl rfl rfl (Nat.le_of_ble_eq_true rfl) ?_
 have hxn:=hx.len
 refine Za (xBx [_,_] (h:=fun b1=>xA (h:=ZF [_] rfl (Za (xW Zj4 (h:=x1 Zmg 0 (h:=xM (h:=?_))))))))
 have hq2:=ZhM (J:=J) _ _ x.items left om om _ hx
 refine xR Zm0 rfl hq2 (h:=xA (h:=Zi (Za (xM (h:=ZO (h:=Zc rfl (fun g1=>?_) (fun g1=>?_)))))))
 try simp only [sQ,ne_eq] at g1
 have g1x:=(ZeW oz).1 g1
 refine Za (xA (h:=Zm (ZK ?_)))
 exact Z4 .ret (.inl rfl) [_] t1 ⟨Za0 (by rw [ZbT g1x]),rfl,rfl⟩
 try simp only [sQ,ne_eq] at g1
 refine Ze (Zd (Za (xM (h:=xA (h:=Zm ?_)))))
 exact Z4 .ret (.inl rfl) [_] t1 ⟨rfl,rfl,rfl⟩

set_option maxHeartbeats 400000 in
theorem Zgu (q:Option Addr) (cp:Nat) (xs:List Str) (hx20:ZaV xs≤1048576) (B:Kn) (hx:SlK B q cp 1 Zt xs):Zx (pj J) 44 [.slice q xs.length cp] B [] (fun v B' Ls=>∃q c l,v = .slice q xs.length c∧B'=B∧Ls=[l]∧Zaa Kn.none l q c 9 1 Zt xs):=by
 refine Zg 22 Try.func44 rfl rfl rfl (Nat.le_of_ble_eq_true rfl) ?_
 have hxn:=hx.len
 have hx21:=Zkr hx20
 refine Za (xA (h:=Za (xM (h:=xV Try.underlying35 (h:=Zh (ZdR (m:=xs.length) (c:=xs.length) (by_:=16) [.string ⟨#[]⟩] rfl rfl ZkL zo9 rfl rfl ⟨_,_,rfl,by first | omega | (simp;done) | (simp;omega)⟩ ⟨_,_,rfl,by first | omega | (simp;done) | (simp;omega)⟩ om om (fun b1=>?_)))))))
 have hv1:=Zaa.zeros (B:=Kn.none) (b:=b1) (T:=9) (R:=Zt) (d:=([]:Str)) (m:=xs.length) (c:=xs.length) (zs:=[.string ⟨#[]⟩]) rfl (⟨rfl,by simp⟩) om
 refine xA (h:=ZF [_] rfl (Zi (Za (xA (h:=Zu (Z1 (α:=Nat × Cells) [0,2] (fun g=>[(3,.slice (some ⟨b1,0,none⟩) xs.length xs.length),(4,.int .i64 g.1)]) [0] (fun g=>[g.2]) (fun g Bx=>Bx=B∧g.1≤xs.length∧Zaa Kn.none g.2 (some ⟨b1,0,none⟩) xs.length 9 1 Zt (fill xs ([]:Str) g.1)) (fun g=>xs.length - g.1) (0,_) t2 rfl (⟨rfl,Nat.zero_le _,by rw [ZfJ];exact hv1⟩) (fun g B2 hle2 hI=>?_)))))))
 obtain ⟨rfl,hk,hvl⟩:=hI
 have hfl:=ZgP (d:=([]:Str)) hk
 refine Zak [(0,_),(2,_),(3,_),(4,_)] [_] t4 rfl (Zi (Za (xM (h:=xM (h:=xV Try.underlying35 (h:=ZO (h:=Zc rfl (fun g1=>?_) (fun g1=>?_))))))))
 try simp only [sQ,ne_eq] at g1
 refine Ze (Zd (Zi (Zu (Zn (xM (h:=xM (h:=xM (h:=xM (h:=?_)))))))))
 obtain ⟨z,hz⟩:=Za2 (xs:=xs) (i:=g.1) om
 obtain ⟨bb4,oo4,rfl⟩:=hx.base hz
 obtain ⟨_,⟨rfl,hb5⟩,hc5⟩:=hx.elem hz
 refine xIx Try.underlying35 sz9 (h:=y1 lk9 hc5 0 (h:=xIp rfl Try.underlying35 sz9 (h:=Zh (ZlD (R:=Zt) (k:=g.1) (z) 0 rfl hvl rfl om rfl rfl sz9 rfl rfl rfl rfl rfl (⟨rfl,by first | assumption | omega | (simp;omega)⟩) (fun l7 hv7=>?_)))))
 refine Zaz (Zd (Zn (xM (h:=xD (h:=xA (h:=?_))))))
 exact Z6 (g.1+1,l7) [0] so2 ⟨rfl,so,by rw [← ZfK hz];exact hv7⟩ t4 rfl
 try simp only [sQ,ne_eq] at g1
 refine Z5 (ZaI (Zac (ZR (Zd (Za (xM (h:=xA (h:=Zm ?_))))))))
 exact ZbQ .ret (.inl rfl) [_] [0] rfl t1 ⟨_,_,_,rfl,rfl,rfl,by have e:=hvl;rw [ZgQ oz] at e;exact e⟩

set_option maxHeartbeats 400000 in
theorem ZiW (q:Option Addr) (cp:Nat) (x:DItem) (B:Kn) (hx:SlK B q cp 1 Zt x.left) (hl:ZaV x.left≤1048576):Zx (pj J) 65 [.agg #[.int .i64 x.id,str x.fr,str x.text,.slice q x.left.length cp]] B [] (fun v B' Ls=>∃q0 c0 l0,v = .agg #[.int .i64 x.id,str x.fr,str x.text,.slice q0 x.left.length c0]∧B'=B∧Ls=[l0]∧Zaa Kn.none l0 q0 c0 9 1 Zt x.left):=by
 refine Zg 18 Try.func65 rfl rfl rfl (Nat.le_of_ble_eq_true rfl) ?_
 refine Za (xBx [_,_,_,_] (h:=fun b1=>xAl [_,_,_,_] ZdI (h:=fun b2=>ZF [_,_] rfl (Za (xAl [_,_,_,_] ZdI (h:=fun b3=>ZF [_,_,_] rfl (Za (xW ZkK (h:=x1 lk3 0 (h:=xW Zcd (h:=xS [_] 2 [_,_,_,_] sz3 (h:=ZF [_,_,_] rfl ?_))))))))))))
 refine Za (xW Ziu (h:=x1 lk9 0 (h:=xW Zeg (h:=xS [_] 2 [_,_,_,_] sz9 (h:=ZF [_,_,_] rfl (Za (xW Zit (h:=x1 lk9 0 (h:=xW Zde (h:=xS [_] 2 [_,_,_,_] sz9 (h:=ZF [_,_,_] rfl (Za ?_))))))))))))
 refine xW Zis (h:=x1 Zc9 0 (h:=Zh (Zs rfl rfl Zmq rfl (Zgu _ _ x.left om2 _ hx) ?_)))
 rintro _ B4 _ hle4 ⟨q4,c4,l4,rfl,rfl,rfl,hv4⟩
 refine xW ZaH (h:=xS [_] 2 [_,_,_,_] Zkp (h:=ZF [_,_,_,_] rfl (Za (xL [_,_,_,_] ZeG 2 (h:=xS [_,_,_,_] 1 [_,_,_,_] ZbU (h:=ZF [_,_,_,_] rfl (Zm ?_)))))))
 exact ZbQ .ret (.inl rfl) [_] [3] rfl ⟨⟨_,rfl,.inr ⟨[_,_,_,_],ZeG,Za4 1 rfl rfl rfl,rfl⟩⟩,trivial⟩ ⟨_,_,_,rfl,rfl,rfl,hv4⟩

set_option maxHeartbeats 400000 in
theorem ZhG (q:Option Addr) (cp:Nat) (xs:List DItem) (hx20:szL Zaw xs≤1048576) (B:Kn) (hx:SlK B q cp 4 Zb xs):Zx (pj J) 31 [.slice q xs.length cp] B [] (fun v B' Ls=>∃q c l,v = .slice q xs.length c∧B'=B∧Ls=[l]∧Zbp l q c 67 4 (Zz 9) xs):=by
 refine Zg 23 Try.func31 rfl rfl rfl (Nat.le_of_ble_eq_true rfl) ?_
 have hxn:=hx.len
 have hx21:=(ZbF hx20).1
 refine Za (xA (h:=Za (xM (h:=xV Try.underlying22 (h:=Zh (ZdR (m:=xs.length) (c:=xs.length) (by_:=64) [.int .i64 0,.string ⟨#[]⟩,.string ⟨#[]⟩,.slice none 0 0] rfl rfl Zj5 ZdI rfl rfl ⟨_,_,rfl,by first | omega | (simp;done) | (simp;omega)⟩ ⟨_,_,rfl,by first | omega | (simp;done) | (simp;omega)⟩ om om (fun b1=>?_)))))))
 have hd1:=Zbp.zeros (b:=b1) (T:=67) (R:=Zz 9) (d:=(⟨0,[],[],[]⟩:DItem)) (m:=xs.length) (c:=xs.length) (zs:=[.int .i64 0,.string ⟨#[]⟩,.string ⟨#[]⟩,.slice none 0 0]) rfl (⟨_,_,rfl,Zaa.nil,by simp,by simp,by simp⟩) om
 refine xA (h:=ZF [_] rfl (Zi (Za (xA (h:=Zu (Z1 (α:=Nat × Cells) [0,2] (fun g=>[(3,.slice (some ⟨b1,0,none⟩) xs.length xs.length),(4,.int .i64 g.1)]) [0] (fun g=>[g.2]) (fun g Bx=>Bx=B∧g.1≤xs.length∧Zbp g.2 (some ⟨b1,0,none⟩) xs.length 67 4 (Zz 9) (fill xs (⟨0,[],[],[]⟩:DItem) g.1)) (fun g=>xs.length - g.1) (0,_) t2 rfl (⟨rfl,Nat.zero_le _,by rw [ZfJ];exact hd1⟩) (fun g B2 hle2 hI=>?_)))))))
 obtain ⟨rfl,hk,hvl⟩:=hI
 have hfl:=ZgP (d:=(⟨0,[],[],[]⟩:DItem)) hk
 refine Zak [(0,_),(2,_),(3,_),(4,_)] [_] t4 rfl (Zi (Za (xM (h:=xM (h:=xV Try.underlying22 (h:=ZO (h:=Zc rfl (fun g1=>?_) (fun g1=>?_))))))))
 try simp only [sQ,ne_eq] at g1
 refine Ze (Zd (Zi (Zu (Zn (xM (h:=xM (h:=xM (h:=xM (h:=?_)))))))))
 obtain ⟨z,hz⟩:=Za2 (xs:=xs) (i:=g.1) om
 obtain ⟨bb4,oo4,rfl⟩:=hx.base hz
 obtain ⟨_,⟨qi5,ci5,rfl,hi5,hb5,hb5b⟩,hc5⟩:=hx.elem hz
 have hi5n:=hi5.len
 refine xIx Try.underlying22 Zlb (h:=?_)
 have hzz:=(ZbF hx20).2 z (List.mem_of_getElem? hz)
 have hza:=ZkF hzz
 refine yL [_,_,_,_] Zlk hc5 0 (h:=Zh (Zs rfl rfl ZmQ rfl (ZiW _ _ z _ hi5 om2) ?_))
 rintro _ B6 _ hle6 ⟨q6,c6,l6,rfl,rfl,rfl,hv6⟩
 refine xIp rfl Try.underlying26 ZbU (h:=Zh (ZlE (R:=Zz 9) (k:=g.1) (z) 0 [1] rfl rfl hvl rfl om rfl rfl ZbU rfl rfl rfl rfl rfl (l6) (by simp) (⟨_,_,rfl,hv6,by first | assumption | omega | (simp;done) | (simp;omega),by first | assumption | omega | (simp;done) | (simp;omega),by first | assumption | omega | (simp;done) | (simp;omega)⟩) (fun l8 hd8=>?_)))
 refine Zaz (Zd (Zn (xM (h:=xD (h:=xA (h:=?_))))))
 exact Z6 (g.1+1,l8) [0] so2 ⟨rfl,so,by rw [← ZfK hz];exact hd8⟩ t4 rfl
 try simp only [sQ,ne_eq] at g1
 refine Z5 (ZaI (Zac (ZR (Zd (Za (xM (h:=xA (h:=Zm ?_))))))))
 exact ZbQ .ret (.inl rfl) [_] [0] rfl t1 ⟨_,_,_,rfl,rfl,rfl,by have e:=hvl;rw [ZgQ oz] at e;exact e⟩

set_option maxHeartbeats 400000 in
theorem ZS (q:Option Addr) (cp:Nat) (x:DQueue) (B:Kn) (hx:SlK B q cp 4 Zb x.items) (hl:szL Zaw x.items≤1048576):Zx (pj J) 8 [.agg #[.int .i64 x.next,.slice q x.items.length cp]] B [] (fun v B' Ls=>∃q0 c0 l0,v = .agg #[.int .i64 x.next,.slice q0 x.items.length c0]∧B'=B∧Ls=[l0]∧Zbp l0 q0 c0 67 4 (Zz 9) x.items):=by
 refine Zg 12 Try.func8 rfl rfl rfl (Nat.le_of_ble_eq_true rfl) ?_
 refine Za (xBx [_,_] (h:=fun b1=>xAl [_,_] Za6 (h:=fun b2=>ZF [_,_] rfl (Za (xAl [_,_] Za6 (h:=fun b3=>ZF [_,_,_] rfl (Za (xW Zlp (h:=x1 lk3 0 (h:=xW ZaS (h:=xS [_] 2 [_,_] sz3 (h:=ZF [_,_,_] rfl ?_))))))))))))
 refine Za (xW Zj4 (h:=x1 Zmg 0 (h:=Zh (Zs rfl rfl ZmY rfl (ZhG _ _ x.items om2 _ hx) ?_))))
 rintro _ B4 _ hle4 ⟨q4,c4,l4,rfl,rfl,rfl,hv4⟩
 refine xW Zae (h:=xS [_] 2 [_,_] ZjU (h:=ZF [_,_,_,_] rfl (Za (xL [_,_] ZQ 2 (h:=xS [_,_] 1 [_,_] ZaW (h:=ZF [_,_,_,_] rfl (Zm ?_)))))))
 exact ZbQ .ret (.inl rfl) [_] [3] rfl ⟨⟨_,rfl,.inr ⟨[_,_],ZQ,Za4 1 rfl rfl rfl,rfl⟩⟩,trivial⟩ ⟨_,_,_,rfl,rfl,rfl,hv4⟩

set_option maxHeartbeats 400000 in
theorem Zjq (q1:Option Addr) (cp1:Nat) (q2:Option Addr) (cp2:Nat) (a b:DItem) (B:Kn) (h1:SlK B q1 cp1 1 Zt a.left) (h2:SlK B q2 cp2 1 Zt b.left):Z8 (pj J) 68 [.agg #[.int .i64 a.id,str a.fr,str a.text,.slice q1 a.left.length cp1],.agg #[.int .i64 b.id,str b.fr,str b.text,.slice q2 b.left.length cp2]] B (.bool (decide (a=b))):=by
 refine Zg 26 Try.func68 rfl rfl rfl (Nat.le_of_ble_eq_true rfl) ?_
 refine Za (xBx [_,_,_,_] (h:=fun b1=>xBx [_,_,_,_] (h:=fun b2=>xA (h:=ZF [_,_] rfl (Zi (Za (xW Zcd (h:=x1 lk3 0 (h:=xW Zcd (h:=x1 lk3 1 (h:=Zaj (h:=Zc rfl (fun g1=>?_) (fun g1=>?_)))))))))))))
 try simp only [sQ,ne_eq] at g1
 refine Za (xA (h:=Zm (ZK ?_)))
 exact Z4 .ret (.inl rfl) [_] t1 ⟨Zr (by symm;rw [decide_eq_false_iff_not];rintro rfl;exact g1 rfl),rfl,rfl⟩
 try simp only [sQ,ne_eq] at g1
 refine Ze (Zd (Zi (Za (xW Zeg (h:=x1 lk9 0 (h:=xW Zeg (h:=x1 lk9 1 (h:=Zdt (h:=Zc rfl (fun g2=>?_) (fun g2=>?_))))))))))
 try simp only [sQ,ne_eq] at g2
 refine Za (xA (h:=Zm (ZK ?_)))
 exact Z4 .ret (.inl rfl) [_] t1 ⟨Zr (by symm;rw [decide_eq_false_iff_not];rintro rfl;exact g2 rfl),rfl,rfl⟩
 try simp only [sQ,ne_eq] at g2
 refine Ze (Zd (Zi (Za (xW Zde (h:=x1 lk9 0 (h:=xW Zde (h:=x1 lk9 1 (h:=Zdt (h:=Zc rfl (fun g3=>?_) (fun g3=>?_))))))))))
 try simp only [sQ,ne_eq] at g3
 refine Za (xA (h:=Zm (ZK ?_)))
 exact Z4 .ret (.inl rfl) [_] t1 ⟨Zr (by symm;rw [decide_eq_false_iff_not];rintro rfl;exact g3 rfl),rfl,rfl⟩
 try simp only [sQ,ne_eq] at g3
 refine Ze (Zd (Zi (Za (xW ZaH (h:=x1 Zc9 0 (h:=xW ZaH (h:=x1 Zc9 1 (h:=xR Zmn rfl (Zel _ _ _ _ _ _ _ h1 h2) (h:=xN (h:=Zc rfl (fun g4=>?_) (fun g4=>?_)))))))))))
 try simp only [sQ,ne_eq] at g4
 refine Za (xA (h:=Zm (ZK ?_)))
 exact Z4 .ret (.inl rfl) [_] t1 ⟨Zr (by symm;rw [decide_eq_false_iff_not];rintro rfl;exact g4 rfl),rfl,rfl⟩
 try simp only [sQ,ne_eq] at g4
 refine Ze (Zd (Za (xA (h:=Zm ?_))))
 exact Z4 .ret (.inl rfl) [_] t1 ⟨Zr (by symm;rw [decide_eq_true_eq];cases a;cases b;simp_all),rfl,rfl⟩

set_option maxHeartbeats 400000 in
theorem Ziw (q q':Option Addr) (cp cp':Nat) (xs ys:List DItem) (B:Kn) (ha:SlK B q cp 4 Zb xs) (hb:SlK B q' cp' 4 Zb ys):Z8 (pj J) 38 [.slice q xs.length cp,.slice q' ys.length cp'] B (.bool (decide (xs=ys))):=by
 refine Zg 27 Try.func38 rfl rfl rfl (Nat.le_of_ble_eq_true rfl) ?_
 have han:=ha.len
 have hbn:=hb.len
 refine Za (xA (h:=Zi (Za (xM (h:=xV Try.underlying26 (h:=xM (h:=xV Try.underlying26 (h:=Zaj (h:=Zc rfl (fun g1=>?_) (fun g1=>?_))))))))))
 try simp only [sQ,ne_eq] at g1
 refine Za (xA (h:=Zm (ZK ?_)))
 exact Z4 .ret (.inl rfl) [_] t1 ⟨Zr (Zix g1),rfl,rfl⟩
 try simp only [sQ,ne_eq] at g1
 refine Ze (Zd (Zi (Za (xA (h:=Zu (Z1 (α:=Nat) [0,1,10] (fun k=>[(5,.int .i64 k)]) [] (fun k=>[]) (fun k Bx=>Bx=B∧k≤xs.length∧xs.take k=ys.take k) (fun k=>xs.length - k) 0 t1 rfl (⟨rfl,Nat.zero_le _,by simp⟩) (fun k B1 hle1 hI=>?_)))))))
 obtain ⟨rfl,hk,he⟩:=hI
 refine Zak [(0,_),(1,_),(5,_),(10,_)] [] t4 rfl (Zi (Za (xM (h:=xM (h:=xV Try.underlying26 (h:=ZO (h:=Zc rfl (fun g2=>?_) (fun g2=>?_))))))))
 try simp only [sQ,ne_eq] at g2
 refine Ze (Zd (Zi (Zu (Zi (Z9 (same _ _) mo kr ⟨rfl,rfl⟩ (fun _ _=>?_))))))
 refine aM 0 rfl (h:=aM 1 rfl (h:=?_))
 obtain ⟨x,hx⟩:=Za2 (xs:=xs) (i:=k) om
 obtain ⟨bb3,oo3,rfl⟩:=ha.base hx
 obtain ⟨_,⟨qi4,ci4,rfl,hi4,hb4,hb4b⟩,hc4⟩:=ha.elem hx
 have hi4n:=hi4.len
 refine aIx 2 rfl Try.underlying26 ZbU (h:=aT 3 rfl (Zc2 fun D=>ZN [_,_,_,_] rfl rfl ZeG rfl (ZlS hc4 0 rfl rfl) r4) (h:=aM 4 rfl (h:=aM 5 rfl (h:=?_))))
 obtain ⟨y,hy⟩:=Za2 (xs:=ys) (i:=k) om
 obtain ⟨bb6,oo6,rfl⟩:=hb.base hy
 obtain ⟨_,⟨qi7,ci7,rfl,hi7,hb7,hb7b⟩,hc7⟩:=hb.elem hy
 have hi7n:=hi7.len
 refine aIx 6 rfl Try.underlying26 ZbU (h:=aT 7 rfl (Zc2 fun D=>ZN [_,_,_,_] rfl rfl ZeG rfl (ZlS hc7 0 rfl rfl) r4) (h:=aT 8 rfl (Zc2 fun D=>Zdu rfl rfl ZmN rfl (Zjq _ _ _ _ x y _ hi4 hi7) r4) (h:=aN 9 rfl (h:=Zv kr kr ?_))))
 refine Zd (Zc rfl (fun g3=>?_) (fun g3=>?_))
 try simp only [sQ,ne_eq] at g3
 refine Za (xA (h:=Zm (ZaK (ZK (Zbj (ZaK (ZK ?_)))))))
 exact Z4 .ret (.inl rfl) [_] t1 ⟨Zr (ZgR hx hy g3),rfl,rfl⟩
 try simp only [sQ,ne_eq] at g3
 refine Ze (Zaz (Zd (Zn (xM (h:=xD (h:=xA (h:=?_)))))))
 exact Z6 (k+1) [] so2 ⟨rfl,oz,Zdw hx hy g3 he⟩ t4 rfl
 try simp only [sQ,ne_eq] at g2
 refine Z5 (ZaI (Zac (ZR (Zd (Za (xA (h:=Zm ?_)))))))
 exact Z4 .ret (.inl rfl) [_] t1 ⟨Zr (eqT oz oz he),rfl,rfl⟩

set_option maxHeartbeats 400000 in
theorem Zy (q1:Option Addr) (cp1:Nat) (q2:Option Addr) (cp2:Nat) (a b:DQueue) (B:Kn) (h1:SlK B q1 cp1 4 Zb a.items) (h2:SlK B q2 cp2 4 Zb b.items):Z8 (pj J) 10 [.agg #[.int .i64 a.next,.slice q1 a.items.length cp1],.agg #[.int .i64 b.next,.slice q2 b.items.length cp2]] B (.bool (decide (a=b))):=by
 refine Zg 16 Try.func10 rfl rfl rfl (Nat.le_of_ble_eq_true rfl) ?_
 refine Za (xBx [_,_] (h:=fun b1=>xBx [_,_] (h:=fun b2=>xA (h:=ZF [_,_] rfl (Zi (Za (xW ZaS (h:=x1 lk3 0 (h:=xW ZaS (h:=x1 lk3 1 (h:=Zaj (h:=Zc rfl (fun g1=>?_) (fun g1=>?_)))))))))))))
 try simp only [sQ,ne_eq] at g1
 refine Za (xA (h:=Zm (ZK ?_)))
 exact Z4 .ret (.inl rfl) [_] t1 ⟨Zr (by symm;rw [decide_eq_false_iff_not];rintro rfl;exact g1 rfl),rfl,rfl⟩
 try simp only [sQ,ne_eq] at g1
 refine Ze (Zd (Zi (Za (xW Zae (h:=x1 ZdE 0 (h:=xW Zae (h:=x1 ZdE 1 (h:=xR ZmW rfl (Ziw _ _ _ _ _ _ _ h1 h2) (h:=xN (h:=Zc rfl (fun g2=>?_) (fun g2=>?_)))))))))))
 try simp only [sQ,ne_eq] at g2
 refine Za (xA (h:=Zm (ZK ?_)))
 exact Z4 .ret (.inl rfl) [_] t1 ⟨Zr (by symm;rw [decide_eq_false_iff_not];rintro rfl;exact g2 rfl),rfl,rfl⟩
 try simp only [sQ,ne_eq] at g2
 refine Ze (Zd (Za (xA (h:=Zm ?_))))
 exact Z4 .ret (.inl rfl) [_] t1 ⟨Zr (by symm;rw [decide_eq_true_eq];cases a;cases b;simp_all),rfl,rfl⟩

set_option maxHeartbeats 400000 in
theorem Zbo (k:Nat) (hk:k≤1000000000000000) (B:Kn):Z8 (pj J) 57 [.int .i64 k] B (str (ZaJ k)):=by
 refine Zg 20 Try.func57 rfl rfl rfl (Nat.le_of_ble_eq_true rfl) ?_
 refine Za (xA (h:=Zi (Za (xM (h:=Zdl (h:=Zc rfl (fun g1=>?_) (fun g1=>?_)))))))
 try simp only [sQ,ne_eq] at g1
 refine Za (xA (h:=Zm (ZK ?_)))
 exact Z4 .ret (.inl rfl) [_] t1 ⟨ZjV (by rw [ZaJ,if_pos oz]),rfl,rfl⟩
 try simp only [sQ,ne_eq] at g1
 refine Ze (Zd (Za (xA (h:=Zi (Zu (Z1 (α:=Nat × Str) [2,5] (fun g=>[(0,.int .i64 g.1),(3,str g.2)]) [] (fun g=>[]) (fun g Bx=>Bx=B∧g.1≤k∧digs k=digs g.1 ++ g.2) (fun g=>g.1) (k,[]) t2 rfl (⟨rfl,Nat.le_refl _,by simp⟩) (fun g B1 hle1 hI=>?_)))))))
 obtain ⟨rfl,hl,hs⟩:=hI
 have hgl:=ZkM hk hs
 refine Zak [(0,_),(2,_),(3,_),(5,_)] [] t4 rfl (Zi (Za (xM (h:=Zcr (h:=Zc rfl (fun g2=>?_) (fun g2=>?_))))))
 try simp only [sQ,ne_eq] at g2
 refine Ze (Zd (Zu (Za (xM (h:=Zh (ZlG (a:=(g.1:Int)) (b:=10) (r:=((g.1 % 10:Nat):Int)) rfl rfl rfl rfl (by decide) rfl ?_))))))
 refine xD (h:=Zh (Zkd rfl rfl Try.underlying3 Try.underlying5 rfl (by first | exact Zcs om om | rfl) ?_))
 refine xBs [(0,_)] [_] Try.underlying124 sz5 zo5 (h:=fun b2=>Zh (ZhE rfl rfl Try.underlying124 Try.underlying9 Try.underlying5 rfl (Za5.box 0 rfl) (xM (h:=Zh (Zk5 (a:=dig g.1) (b:=g.2) rfl rfl rfl rfl (by simp [dig];omega) ?_)))))
 refine xA (h:=ZF [_] rfl (Zn (xM (h:=Zh (ZkU (a:=(g.1:Int)) (b:=10) (r:=((g.1 / 10:Nat):Int)) rfl rfl rfl rfl (by decide) (by rw [show Int.tdiv (g.1:Int) 10=((g.1 / 10:Nat):Int) from rfl];exact Zcs oz oz) ?_)))))
 refine xA (h:=Zaz ?_)
 exact Z6 (g.1 / 10,dig g.1 ++ g.2) [] so2 ⟨rfl,so,ZiE hs oz⟩ t4 rfl
 try simp only [sQ,ne_eq] at g2
 refine Z5 (ZaI (Zac (ZR (Zd (Za (xM (h:=Zh (Zk5 rfl rfl rfl rfl (by first | omega | (simp;omega)) ?_))))))))
 refine xA (h:=Zm ?_)
 exact Z4 .ret (.inl rfl) [_] t1 ⟨ZjV (by rw [ZaJ,if_neg oz,hs,show g.1=0 from by omega,ZfM];rfl),rfl,rfl⟩

set_option maxHeartbeats 400000 in
theorem Zc8 (q:Option Addr) (cp:Nat) (xs:List Str) (l:Cells) (k:Nat) (hk:k≤900000000000000) (hn:xs.length≤2000000) (B:Kn) (hv:Zaa B l q cp 9 1 Zt xs):Zx (pj J) 48 [.slice q xs.length cp,.int .i64 k] B [l] (fun v B' Ls=>B'=B∧∃l',Ls=[l']∧v = .int .i64 ((k+1*xs.length:Nat):Int)∧Zaa B l' q cp 9 1 Zt (Zbk k xs.length)):=by
 refine Zg 20 Try.func48 rfl rfl rfl (Nat.le_of_ble_eq_true rfl) ?_
 have hvc:=hv.cap
 refine Za (xA (h:=Zi (Za (xA (h:=Zu (Z1 (α:=Nat × Cells × List Str) [4] (fun g=>[(0,.slice q xs.length cp),(1,.int .i64 ((k+1*g.1:Nat):Int)),(5,.int .i64 g.1)]) [0] (fun g=>[g.2.1]) (fun g Bx=>Bx=B∧g.1≤xs.length∧g.2.2.length=xs.length∧g.2.2.take g.1=Zbk k g.1∧Zaa Bx g.2.1 q cp 9 1 Zt g.2.2) (fun g=>xs.length - g.1) (0,l,xs) t3 rfl (⟨rfl,Nat.zero_le _,rfl,rfl,hv⟩) (fun g B1 hle1 hI=>?_)))))))
 obtain ⟨rfl,hi,hle,ht,hw⟩:=hI
 refine Zak [(0,_),(1,_),(4,_),(5,_)] [_] t4 rfl (Zi (Za (xM (h:=xM (h:=xV Try.underlying35 (h:=ZO (h:=Zc rfl (fun g1=>?_) (fun g1=>?_))))))))
 try simp only [sQ,ne_eq] at g1
 refine Ze (Zd (Zi (Zu (Za (xM (h:=xM (h:=xM (h:=xR ZkR rfl (Zbo (k+1*g.1) oz _) (h:=?_)))))))))
 obtain ⟨z1,hz1⟩:=Za2 (xs:=g.2.2) (i:=g.1) om
 obtain ⟨bb4,_,hp4,⟨rfl,hb4⟩,hw4,hc4⟩:=hw.row hz1
 refine xIp hp4 Try.underlying35 sz9 (h:=Zh (Zkc (k:=g.1) (off:=0) (ZaJ (k+1*g.1)) [_] 0 hw hp4 hz1 rfl rfl sz9 rfl rfl rfl rfl rfl rfl (by rintro _ ⟨rfl,e1⟩;exact ⟨rfl,show (ZaJ (k+1*g.1)).length≤2000000 from Nat.le_trans (Zd8 (k:=k+1*g.1) oz) (by decide)⟩) (fun l5 hv5=>?_)))
 refine ZF [_] rfl (Zn (xM (h:=xD (h:=xA (h:=Zaz (Zd (Zn (xM (h:=xD (h:=xA (h:=?_)))))))))))
 exact Z6 (g.1+1,l5,(g.2.2.set g.1 (ZaJ (k+1*g.1)))) [0] so2 ⟨rfl,so,by simp only [List.length_set];exact hle,Zf9 ht hz1,hv5⟩ t4 rfl
 try simp only [sQ,ne_eq] at g1
 have he:=Zlj ht oz
 have hgi:g.1=xs.length:=by omega
 rw [hgi] at he
 refine Z5 (ZaI (Zac (ZR (Zd (Za (xM (h:=xA (h:=Zm ?_))))))))
 exact ZbQ .ret (.inl rfl) [_] [0] rfl t1 ⟨rfl,_,rfl,by rw [hgi];rfl,by rw [← he];exact hw⟩

end Go.Proofs.Ytpdpnilbhlojbaa
