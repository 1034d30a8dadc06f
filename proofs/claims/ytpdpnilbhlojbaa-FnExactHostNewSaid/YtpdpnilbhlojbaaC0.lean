/-
  WHAT THE FUNCTIONS THAT THE LAWS REACH COMPUTE: each function's contract, proved off its printed body (the text is written by program). No condition beyond those that each theorem states.
-/
import Derived.Test.YtpdpnilbhlojbaaRows
import Derived.Test.YtpdpnilbhlojbaaL0
import Derived.KernelRfl
namespace Go.Proofs.Ytpdpnilbhlojbaa
open Go Go.BL
set_option linter.unusedVariables false
set_option linter.unusedSimpArgs false
noncomputable abbrev pj (J : JoinT) : PJ := ⟨Try.prog, J⟩
theorem Zji : enters Try.prog 62 = true := by kernel_rfl
theorem mo : Try.prog.follows .mixedOrders = true := by kernel_rfl
theorem Zav : Zu Try.prog 118 1 = some 1 := by kernel_rfl
theorem lk3 : lk Try.prog 3 = some none := by kernel_rfl
theorem ZcK : Zu Try.prog 118 0 = some 0 := by kernel_rfl
theorem lk9 : lk Try.prog 9 = some none := by kernel_rfl
theorem Zln : enters Try.prog 82 = true := by kernel_rfl
theorem sz3 : ZL Try.prog 3 = some 1 := by kernel_rfl
theorem ZlP : enters Try.prog 104 = true := by kernel_rfl
theorem ZlH : enters Try.prog 92 = true := by kernel_rfl
theorem Zmg : enters Try.prog 99 = true := by kernel_rfl
theorem Zk1 : ZaY Try.prog 118 = some [(0, 1), (1, 1)] := by kernel_rfl
theorem ZiH : Zaj Try.prog 118 = some (.agg #[.string ⟨#[]⟩, .int .i64 0]) := by kernel_rfl
theorem ZkX : ZL Try.prog 118 = some 2 := by kernel_rfl
theorem sz9 : ZL Try.prog 9 = some 1 := by kernel_rfl
theorem zo9 : Zaj Try.prog 9 = some (.string ⟨#[]⟩) := by kernel_rfl
theorem Zl2 : ZbY Try.prog 35 9 1 16 = true := by kernel_rfl
theorem ZlX : (match Program.underlying Try.prog 35 with | some (.slice _) => true | _ => false) = true := by kernel_rfl
theorem Zml : enters Try.prog 94 = true := by kernel_rfl
theorem Zkx : enters Try.prog 70 = true := by kernel_rfl
theorem ZcY : ZL Try.prog 85 = some 3 := by kernel_rfl
theorem ZaK : Zu Try.prog 85 0 = some 0 := by kernel_rfl
theorem ZmC : enters Try.prog 63 = true := by kernel_rfl
theorem Zlb : Zu Try.prog 41 0 = some 0 := by kernel_rfl
theorem ZjU : Zu Try.prog 41 1 = some 1 := by kernel_rfl
theorem ZjP : lk Try.prog 35 = some none := by kernel_rfl
theorem Zmz : enters Try.prog 71 = true := by kernel_rfl
theorem Zla : Zu Try.prog 41 2 = some 2 := by kernel_rfl
theorem Zl3 : enters Try.prog 72 = true := by kernel_rfl
theorem Zcx : Zu Try.prog 28 1 = some 1 := by kernel_rfl
theorem Zi0 : lk Try.prog 26 = some none := by kernel_rfl
theorem ZfF : ZL Try.prog 67 = some 4 := by kernel_rfl
theorem Zlm : lk Try.prog 67 = some (some 4) := by kernel_rfl
theorem Zlj : Zaj Try.prog 67 = some (.agg #[.int .i64 0, .string ⟨#[]⟩, .string ⟨#[]⟩, .slice none 0 0]) := by kernel_rfl
theorem Zen : Zu Try.prog 67 0 = some 0 := by kernel_rfl
theorem Zem : Zu Try.prog 67 1 = some 1 := by kernel_rfl
theorem Zel : Zu Try.prog 67 3 = some 3 := by kernel_rfl
theorem Zft : Zu Try.prog 67 2 = some 2 := by kernel_rfl
theorem Zmb : ZaY Try.prog 41 = some [(0, 1), (1, 1), (2, 1)] := by kernel_rfl
theorem Zl9 : Zaj Try.prog 41 = some (.agg #[.string ⟨#[]⟩, .slice none 0 0, .string ⟨#[]⟩]) := by kernel_rfl
theorem ZmQ : enters Try.prog 42 = true := by kernel_rfl
theorem Zin : Zu Try.prog 28 0 = some 0 := by kernel_rfl
theorem ZlU : Zaj Try.prog 28 = some (.agg #[.int .i64 0, .slice none 0 0]) := by kernel_rfl
theorem ZlY : ZaY Try.prog 28 = some [(0, 1), (1, 1)] := by kernel_rfl
theorem Zk4 : lk Try.prog 28 = some (some 2) := by kernel_rfl
theorem ZmU : enters Try.prog 29 = true := by kernel_rfl
theorem Zce : Zu Try.prog 144 0 = some 0 := by kernel_rfl
theorem ZdF : Zu Try.prog 144 1 = some 1 := by kernel_rfl
theorem ZlL : enters Try.prog 108 = true := by kernel_rfl
theorem ZcJ : Zu Try.prog 144 2 = some 2 := by kernel_rfl
theorem ZbL : Zu Try.prog 89 1 = some 1 := by kernel_rfl
theorem Zh9 : lk Try.prog 87 = some none := by kernel_rfl
theorem Zb8 : ZL Try.prog 144 = some 3 := by kernel_rfl
theorem Zkq : lk Try.prog 144 = some (some 3) := by kernel_rfl
theorem ZlO : enters Try.prog 105 = true := by kernel_rfl
theorem Zfs : Zu Try.prog 89 0 = some 0 := by kernel_rfl
theorem ZdD : Zu Try.prog 85 1 = some 1 := by kernel_rfl
theorem Zcw : Zu Try.prog 85 2 = some 2 := by kernel_rfl
theorem ZjO : lk Try.prog 85 = some (some 3) := by kernel_rfl
theorem Zjy : Zaj Try.prog 85 = some (.agg #[.string ⟨#[]⟩, .string ⟨#[]⟩, .int .i64 0]) := by kernel_rfl
theorem Zmr : enters Try.prog 83 = true := by kernel_rfl
theorem ZaI : Zu Try.prog 51 2 = some 2 := by kernel_rfl
theorem ZfG : lk Try.prog 49 = some none := by kernel_rfl
theorem Zc2 : ZL Try.prog 91 = some 5 := by kernel_rfl
theorem ZbK : Zu Try.prog 91 0 = some 0 := by kernel_rfl
theorem ZcU : Zu Try.prog 91 1 = some 1 := by kernel_rfl
theorem ZcB : ZL Try.prog 142 = some 2 := by kernel_rfl
theorem Zcf : Zu Try.prog 142 0 = some 0 := by kernel_rfl
theorem ZdG : Zu Try.prog 142 1 = some 1 := by kernel_rfl
theorem ZbA : Zu Try.prog 51 1 = some 1 := by kernel_rfl
theorem Zhr : lk Try.prog 48 = some none := by kernel_rfl
theorem ZlI : enters Try.prog 79 = true := by kernel_rfl
theorem ZcT : Zu Try.prog 91 3 = some 3 := by kernel_rfl
theorem Zll : lk Try.prog 89 = some (some 2) := by kernel_rfl
theorem Zmh : enters Try.prog 98 = true := by kernel_rfl
theorem ZkG : lk Try.prog 91 = some (some 5) := by kernel_rfl
theorem ZiG : Zaj Try.prog 91 = some (.agg #[.string ⟨#[]⟩, .string ⟨#[]⟩, .slice none 0 0, .int .i64 0, .slice none 0 0]) := by kernel_rfl
theorem Zfr : Zu Try.prog 91 2 = some 2 := by kernel_rfl
theorem Zk3 : lk Try.prog 86 = some none := by kernel_rfl
theorem Zmk : enters Try.prog 95 = true := by kernel_rfl
theorem Zmj : enters Try.prog 96 = true := by kernel_rfl
theorem Zmi : enters Try.prog 97 = true := by kernel_rfl
theorem Zim : Zu Try.prog 51 0 = some 0 := by kernel_rfl
theorem Zmy : enters Try.prog 74 = true := by kernel_rfl
theorem Zmx : enters Try.prog 75 = true := by kernel_rfl
theorem ZdE : Zu Try.prog 51 3 = some 3 := by kernel_rfl
theorem ZdS : lk Try.prog 51 = some (some 5) := by kernel_rfl
theorem Zmw : enters Try.prog 76 = true := by kernel_rfl
theorem Zmv : enters Try.prog 77 = true := by kernel_rfl
theorem Zmu : enters Try.prog 78 = true := by kernel_rfl
theorem Zmt : enters Try.prog 80 = true := by kernel_rfl
theorem Zms : enters Try.prog 81 = true := by kernel_rfl
theorem ZjT : Zu Try.prog 84 0 = some 0 := by kernel_rfl
theorem ZjS : Zu Try.prog 84 1 = some 1 := by kernel_rfl
theorem ZlV : ZL Try.prog 84 = some 3 := by kernel_rfl
theorem ZlZ : lk Try.prog 84 = some (some 3) := by kernel_rfl
theorem ZmN : enters Try.prog 49 = true := by kernel_rfl
theorem Zk9 : Zu Try.prog 84 2 = some 2 := by kernel_rfl
theorem ZlG : ZbY Try.prog 48 85 3 40 = true := by kernel_rfl
theorem ZmL : enters Try.prog 51 = true := by kernel_rfl
theorem ZmG : enters Try.prog 56 = true := by kernel_rfl
theorem Zk5 : lk Try.prog 142 = some (some 2) := by kernel_rfl
theorem ZlN : enters Try.prog 106 = true := by kernel_rfl
theorem ZlK : enters Try.prog 109 = true := by kernel_rfl
theorem ZmP : enters Try.prog 47 = true := by kernel_rfl
theorem ZmB : enters Try.prog 68 = true := by kernel_rfl
theorem ZmT : enters Try.prog 38 = true := by kernel_rfl
theorem ZlM : enters Try.prog 107 = true := by kernel_rfl
theorem ZlR : enters Try.prog 100 = true := by kernel_rfl
theorem ZlQ : enters Try.prog 101 = true := by kernel_rfl
theorem Zmq : enters Try.prog 84 = true := by kernel_rfl
theorem Zl6 : enters Try.prog 24 = true := by kernel_rfl
theorem ZmH : enters Try.prog 55 = true := by kernel_rfl
theorem Zm0 : enters Try.prog 10 = true := by kernel_rfl
theorem Zj0 : Zaj Try.prog 142 = some (.agg #[.string ⟨#[]⟩, .int .i64 0]) := by kernel_rfl
theorem ZjZ : Zaj Try.prog 144 = some (.agg #[.int .i64 0, .int .i64 0, .string ⟨#[]⟩]) := by kernel_rfl
theorem ZlB : ZaY Try.prog 89 = some [(0, 1), (1, 1)] := by kernel_rfl
theorem Zlq : Zaj Try.prog 89 = some (.agg #[.int .i64 0, .slice none 0 0]) := by kernel_rfl
theorem ZlA : ZaY Try.prog 91 = some [(0, 1), (1, 1), (2, 1), (3, 2)] := by kernel_rfl
theorem Zho : Zaj Try.prog 51 = some (.agg #[.string ⟨#[]⟩, .slice none 0 0, .slice none 0 0, .int .i64 0, .slice none 0 0]) := by kernel_rfl
theorem ZmK : enters Try.prog 52 = true := by kernel_rfl
theorem Zk0 : ZaY Try.prog 51 = some [(0, 1), (1, 1), (2, 1), (3, 2)] := by kernel_rfl
theorem ZiE : ZL Try.prog 51 = some 5 := by kernel_rfl
theorem ZmJ : enters Try.prog 53 = true := by kernel_rfl
theorem ZlW : (match Program.underlying Try.prog 48 with | some (.slice _) => true | _ => false) = true := by kernel_rfl
theorem ZmI : enters Try.prog 54 = true := by kernel_rfl
theorem ZlF : ZbY Try.prog 49 91 5 88 = true := by kernel_rfl
theorem Zlz : (match Program.underlying Try.prog 49 with | some (.slice _) => true | _ => false) = true := by kernel_rfl
theorem Zly : ZL Try.prog 49 = some 1 := by kernel_rfl
theorem ZmM : enters Try.prog 50 = true := by kernel_rfl
theorem sz5 : ZL Try.prog 5 = some 1 := by kernel_rfl
theorem zo5 : Zaj Try.prog 5 = some (.int .u8 0) := by kernel_rfl
theorem ZeT : enters Try.prog 57 = true := by kernel_rfl
theorem ZmO : enters Try.prog 48 = true := by kernel_rfl
theorem Zmp : enters Try.prog 85 = true := by kernel_rfl
theorem Zmo : enters Try.prog 86 = true := by kernel_rfl
theorem ZmS : enters Try.prog 39 = true := by kernel_rfl
theorem Zl5 : enters Try.prog 25 = true := by kernel_rfl
theorem ZmF : enters Try.prog 58 = true := by kernel_rfl
theorem ZmZ : enters Try.prog 11 = true := by kernel_rfl
theorem Zmn : enters Try.prog 87 = true := by kernel_rfl
theorem Zmm : enters Try.prog 88 = true := by kernel_rfl
theorem ZmA : enters Try.prog 69 = true := by kernel_rfl
theorem ZmR : enters Try.prog 40 = true := by kernel_rfl
theorem ZmE : enters Try.prog 59 = true := by kernel_rfl
theorem ZmD : enters Try.prog 60 = true := by kernel_rfl
theorem ZmY : enters Try.prog 12 = true := by kernel_rfl
theorem ZmX : enters Try.prog 19 = true := by kernel_rfl
theorem Zlo : enters Try.prog 21 = true := by kernel_rfl
theorem ZmW : enters Try.prog 20 = true := by kernel_rfl
theorem Zl7 : enters Try.prog 22 = true := by kernel_rfl
theorem ZlJ : enters Try.prog 23 = true := by kernel_rfl
theorem ZmV : enters Try.prog 26 = true := by kernel_rfl
theorem Zl4 : enters Try.prog 27 = true := by kernel_rfl
set_option maxRecDepth 4000
variable {J : JoinT}
abbrev cur (b : Nat) (l : List UInt8) (i : Nat) : Cells := ZaB b [str l, .int .i64 i] 118
set_option maxHeartbeats 400000 in
theorem Zct (n lo hi:Int) (B:Kn):Zaw (pj J) 62 [.int .i64 n,.int .i64 lo,.int .i64 hi] B (.bool (decide (lo≤n) && decide (n≤hi))):=by
 refine Zb 15 Try.func62 rfl rfl rfl (Nat.le_of_ble_eq_true rfl) ?_
 refine Za (xA (h:=Zy [(0,_),(1,_),(2,_),(6,_)] t4 (Za (xM (h:=xM (h:=ZeV (h:=xM (h:=Zz (d:=10) rfl (fun g1=>?_) (fun g1=>?_)))))))))
 try simp only [sQ,ne_eq] at g1
 refine xM (h:=xM (h:=Zbl (h:=xT (h:=xA (h:=Zy [(0,_),(1,_),(2,_),(6,_)] t4 (Zj ?_))))))
 exact ZC .ret (.inl rfl) [_] t1 ⟨by exact Zc (by rw [Bool.eq_iff_iff];simp [];omega),rfl,rfl⟩
 try simp only [sQ,ne_eq] at g1
 refine xP (h:=xP (h:=xP (h:=xF (h:=xA (h:=Zy [(0,_),(1,_),(2,_),(6,_)] t4 (Zj ?_))))))
 exact ZC .ret (.inl rfl) [_] t1 ⟨by exact Zc (by rw [Bool.eq_iff_iff];simp [];omega),rfl,rfl⟩

set_option maxHeartbeats 400000 in
theorem Zg7 (c:UInt8) (B:Kn):Zaw (pj J) 104 [.int .u8 c.toNat] B (.bool (Zah c)):=by
 refine Zb 17 Try.func104 rfl rfl rfl (Nat.le_of_ble_eq_true rfl) ?_
 refine Za (xA (h:=Zy [(0,_),(2,_)] t2 (Za (xM (h:=ZeV (h:=xM (h:=Zz (d:=5) rfl (fun g1=>?_) (fun g1=>?_))))))))
 try simp only [sQ,ne_eq] at g1
 refine xM (h:=Zbl (h:=xT (h:=xM (h:=Zz (d:=9) rfl (fun g2=>?_) (fun g2=>?_)))))
 try simp only [sQ,ne_eq] at g2
 refine xP (h:=xP (h:=xP (h:=xP (h:=xP (h:=xP (h:=xT (h:=xA (h:=Zy [(0,_),(2,_)] t2 (Zj ?_)))))))))
 exact ZC .ret (.inl rfl) [_] t1 ⟨by exact Zc (by rw [Bool.eq_iff_iff];simp [Zah];omega),rfl,rfl⟩
 try simp only [sQ,ne_eq] at g2
 refine xM (h:=ZeV (h:=xM (h:=Zz (d:=12) rfl (fun g3=>?_) (fun g3=>?_))))
 try simp only [sQ,ne_eq] at g3
 refine xM (h:=Zbl (h:=xT (h:=xF (h:=xA (h:=Zy [(0,_),(2,_)] t2 (Zj ?_))))))
 exact ZC .ret (.inl rfl) [_] t1 ⟨by exact Zc (by rw [Bool.eq_iff_iff];simp [Zah];omega),rfl,rfl⟩
 try simp only [sQ,ne_eq] at g3
 refine xP (h:=xP (h:=xF (h:=xF (h:=xA (h:=Zy [(0,_),(2,_)] t2 (Zj ?_))))))
 exact ZC .ret (.inl rfl) [_] t1 ⟨by exact Zc (by rw [Bool.eq_iff_iff];simp [Zah];omega),rfl,rfl⟩
 try simp only [sQ,ne_eq] at g1
 refine xP (h:=xP (h:=xF (h:=xM (h:=xM (h:=ZeV (h:=xM (h:=Zz (d:=12) rfl (fun g4=>?_) (fun g4=>?_))))))))
 try simp only [sQ,ne_eq] at g4
 refine xM (h:=Zbl (h:=xT (h:=xF (h:=xA (h:=Zy [(0,_),(2,_)] t2 (Zj ?_))))))
 exact ZC .ret (.inl rfl) [_] t1 ⟨by exact Zc (by rw [Bool.eq_iff_iff];simp [Zah];omega),rfl,rfl⟩
 try simp only [sQ,ne_eq] at g4
 refine xP (h:=xP (h:=xF (h:=xF (h:=xA (h:=Zy [(0,_),(2,_)] t2 (Zj ?_))))))
 exact ZC .ret (.inl rfl) [_] t1 ⟨by exact Zc (by rw [Bool.eq_iff_iff];simp [Zah];omega),rfl,rfl⟩

set_option maxHeartbeats 400000 in
theorem ZaM (l:List UInt8) (hl:l.length≤2000000) (B:Kn):Zaw (pj J) 70 [str l] B (.bool (Z4 l)):=by
 refine Zb 37 Try.func70 rfl rfl rfl (Nat.le_of_ble_eq_true rfl) ?_
 refine Za (xA (h:=Zy [(0,_),(2,_)] t2 (Zg (Za (xA (h:=Zy [(0,_),(2,_),(3,_)] t3 (Zl (ZeW (α:=Nat) (fun k=>[(0,str l),(3,.int .i64 k)]) (fun k=>[]) (fun k Bx=>Bx=B∧k≤l.length∧(l.take k).all Zah=true) (fun k=>l.length - k) 0 t2 rfl (⟨rfl,Nat.zero_le _,by simp⟩) (fun k B1 hle1 hI=>?_)))))))))
 obtain ⟨rfl,hk,ha⟩:=hI
 refine Zg (Za (xM (h:=xM (h:=xVs Try.underlying9 (h:=ZN (h:=Zy [(0,_),(3,_),(7,_)] t3 (Zd rfl (fun g1=>?_) (fun g1=>?_))))))))
 try simp only [sQ,ne_eq] at g1
 obtain ⟨c,hc⟩ :∃c,l[k]? = some c:=⟨_,List.getElem?_eq_getElem oz⟩
 refine Zh (Ze (Zg (Zl (ZgX 33 (!(Zah c)) [0,3,7] ?_ ?_))))
 refine xM (h:=xM (h:=Zr (Zbm rfl rfl Try.underlying9 rfl rfl oz (by simpa using hc) ?_)))
 refine ZeV (h:=xM (h:=Zz (d:=14) rfl (fun g1=>?_) (fun g1=>?_)))
 try simp only [sQ,ne_eq] at g1
 refine xM (h:=xM (h:=Zr (Zbm rfl rfl Try.underlying9 rfl rfl oz (by simpa using hc) ?_)))
 refine Zbl (h:=xT (h:=xN (h:=xM (h:=Zz (d:=21) rfl (fun g2=>?_) (fun g2=>?_)))))
 try simp only [sQ,ne_eq] at g2
 refine xM (h:=xM (h:=Zr (Zbm rfl rfl Try.underlying9 rfl rfl oz (by simpa using hc) ?_)))
 refine ZeV (h:=xM (h:=Zz (d:=26) rfl (fun g3=>?_) (fun g3=>?_)))
 try simp only [sQ,ne_eq] at g3
 refine xM (h:=xM (h:=Zr (Zbm rfl rfl Try.underlying9 rfl rfl oz (by simpa using hc) ?_)))
 refine Zbl (h:=xT (h:=xN (h:=xT (h:=?_))))
 exact ⟨rfl,rfl,rfl,ZeC rfl (by rw [Bool.eq_iff_iff];simp [Zah,];omega),t3⟩
 try simp only [sQ,ne_eq] at g3
 refine xP (h:=xP (h:=xP (h:=xP (h:=xF (h:=xN (h:=xT (h:=?_)))))))
 exact ⟨rfl,rfl,rfl,ZeC rfl (by rw [Bool.eq_iff_iff];simp [Zah,];omega),t3⟩
 try simp only [sQ,ne_eq] at g2
 refine xP (h:=xP (h:=xP (h:=xP (h:=xP (h:=xP (h:=xP (h:=xP (h:=xP (h:=xP (h:=xP (h:=xF (h:=?_))))))))))))
 exact ⟨rfl,rfl,rfl,ZeC rfl (by rw [Bool.eq_iff_iff];simp [Zah,];omega),t3⟩
 try simp only [sQ,ne_eq] at g1
 refine xP (h:=xP (h:=xP (h:=xP (h:=xF (h:=xN (h:=xM (h:=xM (h:=xM (h:=Zr (Zbm rfl rfl Try.underlying9 rfl rfl oz (by simpa using hc) ?_))))))))))
 refine ZeV (h:=xM (h:=Zz (d:=26) rfl (fun g4=>?_) (fun g4=>?_)))
 try simp only [sQ,ne_eq] at g4
 refine xM (h:=xM (h:=Zr (Zbm rfl rfl Try.underlying9 rfl rfl oz (by simpa using hc) ?_)))
 refine Zbl (h:=xT (h:=xN (h:=xT (h:=?_))))
 exact ⟨rfl,rfl,rfl,ZeC rfl (by rw [Bool.eq_iff_iff];simp [Zah,];omega),t3⟩
 try simp only [sQ,ne_eq] at g4
 refine xP (h:=xP (h:=xP (h:=xP (h:=xF (h:=xN (h:=xT (h:=?_)))))))
 exact ⟨rfl,rfl,rfl,ZeC rfl (by rw [Bool.eq_iff_iff];simp [Zah,];omega),t3⟩
 refine Zy [(0,_),(3,_),(7,_),(33,_)] t4 (Zd rfl (fun g9=>?_) (fun g9=>?_))
 try simp only [sQ,ne_eq] at g9
 refine Za (xA (h:=Zy [(0,_),(2,_),(3,_),(7,_),(33,_)] t5 (Zj (ZA (Zp (Zkg (ZA (Zp ?_))))))))
 exact ZC .ret (.inl rfl) [_] t1 ⟨Zc (by simp [Z4,Zjp hc g9]),rfl,rfl⟩
 try simp only [sQ,ne_eq] at g9
 refine Zh (ZY (Ze (Zk (xM (h:=Zr (Zes rfl rfl rfl rfl (by first | exact ZbC oz oz | rfl) ?_))))))
 refine xA (h:=?_)
 exact Zg4 (k+1) oz ⟨rfl,oz,ZgU hc g9 ha⟩ t2 rfl
 try simp only [sQ,ne_eq] at g1
 refine ZH (Z3 (Zg3 (Zx (Ze (Za (xM (h:=xVs Try.underlying9 (h:=xR Zji rfl (Zct _ _ _ _) (h:=xA (h:=Zy [(0,_),(2,_),(3,_),(7,_)] t4 (Zj ?_)))))))))))
 exact ZC .ret (.inl rfl) [_] t1 ⟨Zc (by (obtain rfl:k=l.length:=oz);rw [List.take_length] at ha;rw [Bool.eq_iff_iff];simp [Z4,ha];omega),rfl,rfl⟩

set_option maxHeartbeats 400000 in
theorem ZgR (b:Nat) (l:List UInt8) (i:Nat) (hi:i≤l.length) (hl:l.length≤2000000) (B:Kn):ZkE (pj J) 82 [ptr ⟨b,0,none⟩] B (cur b l i) (.bool (decide (i=l.length))) (cur b l i):=by
 refine Zb 13 Try.func82 rfl rfl rfl (Nat.le_of_ble_eq_true rfl) ?_
 refine Za (xA (h:=Zy [(0,_),(2,_)] t2 (Zg (Z7 (same _ _) mo kr ⟨rfl,rfl⟩ (fun _ _=>?_)))))
 refine aM 0 rfl (h:=aNc 1 rfl (h:=aW 2 rfl Zav (h:=aT 3 rfl (ZU fun D=>Zq rfl rfl lk3 rfl (atL 0 rfl rfl rfl) r4) (h:=aM 4 rfl (h:=aNc 5 rfl (h:=aW 6 rfl ZcK (h:=aT 7 rfl (ZU fun D=>Zq rfl rfl lk9 rfl (atL 0 rfl rfl rfl) r4) (h:=aT 8 rfl (ZU fun D=>ZjF rfl rfl Try.underlying9 rfl r4) (h:=Zlh 9 rfl (h:=aA 10 rfl (h:=Zs kr kr ?_)))))))))))
 refine Ze (Zy [(0,_),(2,_)] t2 (Zj ?_))
 exact Zjh .ret (.inl rfl) [_] 0 rfl t1 ⟨Zc (by rw [Bool.eq_iff_iff];simp;omega),rfl,rfl⟩

set_option maxHeartbeats 400000 in
theorem ZkV (b:Nat) (l:List UInt8) (i:Nat) (hi:i≤l.length) (hl:l.length≤2000000) (x:UInt8) (B:Kn):ZkE (pj J) 99 [ptr ⟨b,0,none⟩,.int .u8 x.toNat] B (cur b l i) (.bool (decide (l[i]? = some x))) (cur b l (if l[i]? = some x then i+1 else i)):=by
 refine Zb 27 Try.func99 rfl rfl rfl (Nat.le_of_ble_eq_true rfl) ?_
 refine Za (xA (h:=Zy [(0,_),(1,_),(4,_)] t3 (Zg (Zc6 19 (decide (l[i]?≠some x)) [0,1,4] (same _ _) mo kr ⟨rfl,rfl⟩ (fun _ _=>?_) ?_))))
 refine aM 0 rfl (h:=aT 1 rfl (ZU fun D=>Zgr 0 rfl rfl rfl Zln rfl (ZgR _ _ _ oz oz _) r4) (h:=?_))
 refine aM 2 rfl (h:=Zai (d:=7) rfl (fun g1=>?_) (fun g1=>?_))
 try simp only [sQ,ne_eq] at g1
 refine aZ 3 rfl (h:=aZ 4 rfl (h:=aZ 5 rfl (h:=aZ 6 rfl (h:=aZ 7 rfl (h:=aZ 8 rfl (h:=aZ 9 rfl (h:=aZ 10 rfl (h:=aZ 11 rfl (h:=aZ 12 rfl (h:=aZ 13 rfl (h:=aPT 14 rfl (h:=Zs kr kr ?_))))))))))))
 exact ⟨rfl,rfl,rfl,ZeC rfl (by first | (simp [g1];done) | (rw [Bool.eq_iff_iff];simp [hc,← UInt8.toNat_inj];omega)),t3⟩
 try simp only [sQ,ne_eq] at g1
 obtain ⟨c,hc⟩ :∃c,l[i]? = some c:=⟨_,List.getElem?_eq_getElem oz⟩
 refine aM 3 rfl (h:=aNc 4 rfl (h:=aW 5 rfl ZcK (h:=aT 6 rfl (ZU fun D=>Zq rfl rfl lk9 rfl (atL 0 rfl rfl rfl) r4) (h:=aM 7 rfl (h:=aNc 8 rfl (h:=aW 9 rfl Zav (h:=aT 10 rfl (ZU fun D=>Zq rfl rfl lk3 rfl (atL 0 rfl rfl rfl) r4) (h:=aT 11 rfl (ZU fun D=>Zbm rfl rfl Try.underlying9 rfl rfl oz (by simpa using hc) r4) (h:=?_)))))))))
 refine aM 12 rfl (h:=Zlf 13 rfl (h:=aPF 14 rfl (h:=Zs kr kr ?_)))
 exact ⟨rfl,rfl,rfl,ZeC rfl (by first | (simp [g1];done) | (rw [Bool.eq_iff_iff];simp [hc,← UInt8.toNat_inj];omega)),t3⟩
 refine Zy [(0,_),(1,_),(4,_),(19,_)] t4 (Zd rfl (fun g2=>?_) (fun g2=>?_))
 try simp only [sQ,ne_eq] at g2
 refine Za (xA (h:=Zy [(0,_),(1,_),(4,_),(19,_)] t4 (Zj (Zp ?_))))
 exact Zjh .ret (.inl rfl) [_] 0 rfl t1 ⟨Zc (by simp [g2]),rfl,by rw [if_neg g2]⟩
 try simp only [sQ,ne_eq] at g2
 refine Zh (Ze (Za (xM (h:=xNc (h:=xW Zav (h:=x1 lk3 0 (h:=Zr (Zes rfl rfl rfl rfl (by first | exact ZbC oz oz | rfl) ?_))))))))
 refine xNc (h:=xW Zav (h:=xS [_] 0 [_,_] sz3 (h:=ZF [(0,_),(1,_),(4,_),(19,_)] [_] t4 rfl (Za (xA (h:=Zy [(0,_),(1,_),(4,_),(19,_)] t4 (Zj ?_)))))))
 exact Zjh .ret (.inl rfl) [_] 0 rfl t1 ⟨Zc (by simp [g2]),rfl,by rw [if_pos g2];rfl⟩

set_option maxHeartbeats 400000 in
theorem Zh3 (b:Nat) (l:List UInt8) (i:Nat) (hi:i≤l.length) (hl:l.length≤2000000) (B:Kn):ZkE (pj J) 92 [ptr ⟨b,0,none⟩] B (cur b l i) (.tuple #[str (word l i),.bool (Zbc (word l i))]) (cur b l (i+(word l i).length)):=by
 refine Zb 54 Try.func92 rfl rfl rfl (Nat.le_of_ble_eq_true rfl) ?_
 refine Za (xA (h:=xA (h:=Zy [(0,_),(2,_),(3,_)] t3 (Za (xM (h:=xNc (h:=xW Zav (h:=x1 lk3 0 (h:=xA (h:=Zy [(0,_),(2,_),(3,_),(4,_)] t4 (Zg (Zl ?_))))))))))))
 refine ZeW (α:=Nat) (fun k=>[(0,ptr ⟨b,0,none⟩),(4,.int .i64 i)]) (fun k=>[cur b l (i+k)]) (fun k Bx=>Bx=B∧i+k≤l.length∧((l.drop i).take k).all Zah=true) (fun k=>l.length - i - k) 0 t2 rfl (⟨rfl,oz,by simp⟩) (fun k B1 hle1 hI=>?_)
 obtain ⟨rfl,hk,ha⟩:=hI
 refine Zg (Zc6 24 (match l[i+k]? with | some c=>Zah c | none=>false) [0,4] (same _ _) mo kr ⟨rfl,rfl⟩ (fun _ _=>?_) ?_)
 refine aM 0 rfl (h:=aT 1 rfl (ZU fun D=>Zgr 0 rfl rfl rfl Zln rfl (ZgR _ _ _ oz oz _) r4) (h:=?_))
 refine aN 2 rfl (h:=aM 3 rfl (h:=Zai (d:=13) rfl (fun g1=>?_) (fun g1=>?_)))
 try simp only [sQ,ne_eq] at g1
 obtain ⟨c,hc⟩ :∃c,l[i+k]? = some c:=⟨_,List.getElem?_eq_getElem oz⟩
 refine aM 4 rfl (h:=aNc 5 rfl (h:=aW 6 rfl ZcK (h:=aT 7 rfl (ZU fun D=>Zq rfl rfl lk9 rfl (atL 0 rfl rfl rfl) r4) (h:=aM 8 rfl (h:=aNc 9 rfl (h:=aW 10 rfl Zav (h:=aT 11 rfl (ZU fun D=>Zq rfl rfl lk3 rfl (atL 0 rfl rfl rfl) r4) (h:=aT 12 rfl (ZU fun D=>Zbm rfl rfl Try.underlying9 rfl rfl oz hc r4) (h:=?_)))))))))
 refine aT 13 rfl (ZU fun D=>ZZ rfl rfl ZlP rfl (Zg7 _ _) r4) (h:=aPT 14 rfl (h:=Zs kr kr ?_))
 exact ⟨rfl,rfl,rfl,ZeC rfl (by first | (rw [hc];done) | (rw [List.getElem?_eq_none oz])),t2⟩
 try simp only [sQ,ne_eq] at g1
 refine aZ 4 rfl (h:=aZ 5 rfl (h:=aZ 6 rfl (h:=aZ 7 rfl (h:=aZ 8 rfl (h:=aZ 9 rfl (h:=aZ 10 rfl (h:=aZ 11 rfl (h:=aZ 12 rfl (h:=aZ 13 rfl (h:=aPF 14 rfl (h:=Zs kr kr ?_)))))))))))
 exact ⟨rfl,rfl,rfl,ZeC rfl (by first | (rw [hc];done) | (rw [List.getElem?_eq_none oz])),t2⟩
 refine Zy [(0,_),(4,_),(24,_)] t3 (Zd rfl (fun g2=>?_) (fun g2=>?_))
 try simp only [sQ,ne_eq] at g2
 refine Zh (Ze (Zl (Zk (xM (h:=xNc (h:=xW Zav (h:=x1 lk3 0 (h:=Zr (Zes rfl rfl rfl rfl (by first | exact ZbC oz oz | rfl) ?_)))))))))
 refine xNc (h:=xW Zav (h:=xS [_] 0 [_,_] sz3 (h:=ZY ?_)))
 obtain ⟨c,hc,hn⟩:=ZhQ g2
 exact Zg4 (k+1) (by have:=ZbI hc;omega) ⟨rfl,by have:=ZbI hc;omega,ZgU (by simpa using hc) hn ha⟩ t2 rfl
 try simp only [sQ,ne_eq] at g2
 have hw:word l i=(l.drop i).take k:=ZiJ ha (fun c hc=>by rw [hc] at g2;exact g2)
 have hwl:(word l i).length=k:=by rw [hw,List.length_take,List.length_drop];omega
 refine ZH (Z3 (Zg3 (Zx (Ze (Za (xM (h:=xNc (h:=xW Zav (h:=x1 lk3 0 (h:=xM (h:=Zr (Zhv rfl rfl rfl rfl (by first | exact ZbC oz oz | rfl) ?_))))))))))))
 refine xA (h:=Zy [(0,_),(4,_),(5,_),(24,_)] t4 (Zg (Z7 (same _ _) mo kr ⟨rfl,rfl⟩ (fun _ _=>?_))))
 refine aM 0 rfl (h:=aNc 1 rfl (h:=aW 2 rfl ZcK (h:=aT 3 rfl (ZU fun D=>Zq rfl rfl lk9 rfl (atL 0 rfl rfl rfl) r4) (h:=aM 4 rfl (h:=aM 5 rfl (h:=aNc 6 rfl (h:=aW 7 rfl Zav (h:=aT 8 rfl (ZU fun D=>Zq rfl rfl lk3 rfl (atL 0 rfl rfl rfl) r4) (h:=aT 9 rfl (ZU fun D=>Zch rfl rfl Try.underlying9 rfl (a:=i) (b:=i+k) ⟨_,_,rfl,rfl⟩ ⟨_,_,rfl,oz⟩ oz oz r4) (h:=?_))))))))))
 refine aM 10 rfl (h:=ZlS 11 rfl (h:=aM 12 rfl (h:=Zai (d:=50) rfl (fun g1=>?_) (fun g1=>?_))))
 try simp only [sQ,ne_eq] at g1
 refine aM 13 rfl (h:=ZkD 14 rfl (h:=aPT 15 rfl (h:=aA 16 rfl (h:=aA 17 rfl (h:=Zs kr kr ?_)))))
 refine Ze (Zy [(0,_),(2,_),(3,_),(4,_),(5,_),(24,_)] t6 (Zj ?_))
 exact Zjh .ret (.inl rfl) [_,_] 0 rfl t2 ⟨Zd3 (by rw [Zb0,hw]) (Zc (by rw [Bool.eq_iff_iff];simp [Zbc,hwl];omega)),rfl,by rw [hwl]⟩
 try simp only [sQ,ne_eq] at g1
 refine aZ 13 rfl (h:=aZ 14 rfl (h:=aPF 15 rfl (h:=aA 16 rfl (h:=aA 17 rfl (h:=Zs kr kr ?_)))))
 refine Ze (Zy [(0,_),(2,_),(3,_),(4,_),(5,_),(24,_)] t6 (Zj ?_))
 exact Zjh .ret (.inl rfl) [_,_] 0 rfl t2 ⟨Zd3 (by rw [Zb0,hw]) (Zc (by rw [Bool.eq_iff_iff];simp [Zbc,hwl];omega)),rfl,by rw [hwl]⟩

set_option maxHeartbeats 400000 in
theorem Zjj (b:Nat) (l:List UInt8) (i:Nat) (hi:i≤l.length) (hl:l.length≤2000000) (B:Kn):ZkE (pj J) 81 [ptr ⟨b,0,none⟩] B (cur b l i) (.tuple #[str (ZdJ l i),.bool (Zge l i)]) (cur b l (dom l i).2):=by
 refine Zb 53 Try.func81 rfl rfl rfl (Nat.le_of_ble_eq_true rfl) ?_
 refine Za (xA (h:=xA (h:=Zy [(0,_),(2,_),(3,_)] t3 (Za (xM (h:=xNc (h:=xW Zav (h:=x1 lk3 0 (h:=xA (h:=Zy [(0,_),(2,_),(3,_),(4,_)] t4 (Zg (Za ?_))))))))))))
 refine xM (h:=Zr (ZdY 0 rfl rfl rfl ZlH rfl (Zh3 _ _ _ oz oz _) ?_))
 refine xM (h:=xE (h:=xE (h:=xA (h:=xA (h:=ZF [(0,_),(2,_),(3,_),(4,_),(6,_)] [_] t5 rfl (Za (xM (h:=xN (h:=Zy [(0,_),(2,_),(3,_),(4,_),(6,_),(20,_)] t6 (Zd rfl (fun g1=>?_) (fun g1=>?_)))))))))))
 try simp only [sQ,ne_eq] at g1
 refine Za (xA (h:=xA (h:=Zy [(0,_),(2,_),(3,_),(4,_),(6,_),(20,_)] t6 (Zj (Zp ?_)))))
 exact Zjh .ret (.inl rfl) [_,_] 0 rfl t2 ⟨Zd3 (by simp [ZdJ,Zgd g1]) (Zc (by simp [Zge,Zgd g1])),rfl,by rw [Zgd g1]⟩
 try simp only [sQ,ne_eq] at g1
 refine Zh (Ze (Zg (Za (xA (h:=Zy [(0,_),(2,_),(3,_),(4,_),(6,_),(7,_),(20,_)] t7 (Zl (ZeW (α:=Nat × Nat) (fun x=>[(0,ptr ⟨b,0,none⟩),(4,.int .i64 i),(7,.int .i64 x.1)]) (fun x=>[cur b l x.2]) (fun x Bx=>Bx=B∧1≤x.1∧x.1≤3∧i≤x.2∧x.2≤l.length∧dom l i=more (3 - x.1) l x.2) (fun x=>3 - x.1) (1,i+(word l i).length) t3 rfl (⟨rfl,oz,oz,oz,Zc5 hi,Zjk g1⟩) (fun x B1 hle1 hI=>?_))))))))
 obtain ⟨rfl,hk1,hk3,hix,hxl,hd⟩:=hI
 refine Zg (Za (xM (h:=ZN (h:=xM (h:=Zz (d:=23) rfl (fun g2=>?_) (fun g2=>?_))))))
 try simp only [sQ,ne_eq] at g2
 refine xM (h:=Zr (ZdY 0 rfl rfl rfl Zmg rfl (ZkV _ _ _ oz oz 46 _) ?_))
 refine xT (h:=ZF [(0,_),(4,_),(7,_),(26,_)] [_] t4 rfl (Zd rfl (fun g3=>?_) (fun g3=>?_)))
 try simp only [sQ,ne_eq] at g3
 rw [if_pos g3]
 have hx2:=ZbI g3
 refine Zh (Ze (Zg (Zl (Za (xM (h:=Zr (ZdY 0 rfl rfl rfl ZlH rfl (Zh3 _ _ _ oz oz _) ?_)))))))
 refine xM (h:=xE (h:=xE (h:=xA (h:=xA (h:=ZF [(0,_),(4,_),(7,_),(9,_),(26,_)] [_] t5 rfl (Za (xM (h:=xN (h:=Zy [(0,_),(4,_),(7,_),(9,_),(26,_),(35,_)] t6 (Zd rfl (fun g4=>?_) (fun g4=>?_)))))))))))
 try simp only [sQ,ne_eq] at g4
 refine Za (xA (h:=xA (h:=Zy [(0,_),(2,_),(3,_),(4,_),(7,_),(9,_),(26,_),(35,_)] t8 (Zj (ZA (Zp (Zkg (ZA (Zp ?_)))))))))
 have hdd:=hd.trans (ZiY oz g3 g4)
 exact Zjh .ret (.inl rfl) [_,_] 0 rfl t2 ⟨Zd3 (by simp [ZdJ,hdd]) (Zc (by simp [Zge,hdd])),rfl,by rw [hdd]⟩
 try simp only [sQ,ne_eq] at g4
 refine Zh (ZY (Ze (Zk (xM (h:=Zr (Zes rfl rfl rfl rfl (by first | exact ZbC oz oz | rfl) ?_))))))
 refine xA (h:=?_)
 exact Zg4 (x.1+1,x.2+1+(word l (x.2+1)).length) (so) ⟨rfl,so,so,so,Zc5 oz,by rw [hd,Zh5 oz g3 g4];rw [show 3 - (x.1+1)=3 - x.1 - 1 from by omega]⟩ t3 rfl
 try simp only [sQ,ne_eq] at g3
 rw [if_neg g3]
 replace hd:=hd.trans (Zdp g3)
 refine ZH (Z3 (Zg3 (Zx (Ze (Zg (Z7 (same _ _) mo kr ⟨rfl,rfl⟩ (fun _ _=>?_)))))))
 refine aM 0 rfl (h:=aNc 1 rfl (h:=aW 2 rfl ZcK (h:=aT 3 rfl (ZU fun D=>Zq rfl rfl lk9 rfl (atL 0 rfl rfl rfl) r4) (h:=aM 4 rfl (h:=aM 5 rfl (h:=aNc 6 rfl (h:=aW 7 rfl Zav (h:=aT 8 rfl (ZU fun D=>Zq rfl rfl lk3 rfl (atL 0 rfl rfl rfl) r4) (h:=aT 9 rfl (ZU fun D=>Zch rfl rfl Try.underlying9 rfl (a:=i) (b:=x.2) ⟨_,_,rfl,rfl⟩ ⟨_,_,rfl,rfl⟩ oz oz r4) (h:=?_))))))))))
 refine aM 10 rfl (h:=aNc 11 rfl (h:=aW 12 rfl Zav (h:=aT 13 rfl (ZU fun D=>Zq rfl rfl lk3 rfl (atL 0 rfl rfl rfl) r4) (h:=aM 14 rfl (h:=aT 15 rfl (ZU fun D=>Zhv rfl rfl rfl rfl (by first | exact ZbC oz oz | rfl) r4) (h:=?_))))))
 refine ZkD 16 rfl (h:=aA 17 rfl (h:=aA 18 rfl (h:=Zs kr kr ?_)))
 refine Ze (Zy [(0,_),(2,_),(3,_),(4,_),(7,_),(26,_)] t6 (Zj ?_))
 exact Zjh .ret (.inl rfl) [_,_] 0 rfl t2 ⟨Zd3 (by simp [ZdJ,hd]) (Zc (by rw [Bool.eq_iff_iff];simp [Zge,hd];omega)),rfl,by rw [hd]⟩
 try simp only [sQ,ne_eq] at g2
 replace hd:dom l i=(true,x.2):=hd.trans (by rw [show 3 - x.1=0 from by omega];rfl)
 refine xP (h:=xP (h:=xF (h:=Zy [(0,_),(4,_),(7,_),(26,_)] t4 (Zd (t:=false) rfl (fun h=>Bool.noConfusion h) (fun _=>ZH (Z3 (Zg3 (Zx (Ze (Zg (Z7 (same _ _) mo kr ⟨rfl,rfl⟩ (fun _ _=>?_))))))))))))
 refine aM 0 rfl (h:=aNc 1 rfl (h:=aW 2 rfl ZcK (h:=aT 3 rfl (ZU fun D=>Zq rfl rfl lk9 rfl (atL 0 rfl rfl rfl) r4) (h:=aM 4 rfl (h:=aM 5 rfl (h:=aNc 6 rfl (h:=aW 7 rfl Zav (h:=aT 8 rfl (ZU fun D=>Zq rfl rfl lk3 rfl (atL 0 rfl rfl rfl) r4) (h:=aT 9 rfl (ZU fun D=>Zch rfl rfl Try.underlying9 rfl (a:=i) (b:=x.2) ⟨_,_,rfl,rfl⟩ ⟨_,_,rfl,rfl⟩ oz oz r4) (h:=?_))))))))))
 refine aM 10 rfl (h:=aNc 11 rfl (h:=aW 12 rfl Zav (h:=aT 13 rfl (ZU fun D=>Zq rfl rfl lk3 rfl (atL 0 rfl rfl rfl) r4) (h:=aM 14 rfl (h:=aT 15 rfl (ZU fun D=>Zhv rfl rfl rfl rfl (by first | exact ZbC oz oz | rfl) r4) (h:=?_))))))
 refine ZkD 16 rfl (h:=aA 17 rfl (h:=aA 18 rfl (h:=Zs kr kr ?_)))
 refine Ze (Zy [(0,_),(2,_),(3,_),(4,_),(7,_),(26,_)] t6 (Zj ?_))
 exact Zjh .ret (.inl rfl) [_,_] 0 rfl t2 ⟨Zd3 (by simp [ZdJ,hd]) (Zc (by rw [Bool.eq_iff_iff];simp [Zge,hd];omega)),rfl,by rw [hd]⟩

set_option maxHeartbeats 400000 in
theorem Zef (l:List UInt8) (hl:l.length≤2000000) (B:Kn):Zaw (pj J) 72 [str l] B (.bool (Z4 l)):=by
 refine Zb 16 Try.func72 rfl rfl rfl (Nat.le_of_ble_eq_true rfl) ?_
 refine Za (xA (h:=Zy [(0,_),(2,_)] t2 (Za (xM (h:=xB [(0,_)] [_,_] [_,_] Zk1 ZiH (h:=xAl [_,_] ZiH (h:=fun b0=>xS [_,_] 0 [_,_] ZkX (h:=ZF [(0,_),(2,_),(3,_)] [_] t3 rfl (Za (Zr (ZdY 0 rfl rfl rfl ZlH rfl (Zh3 _ _ 0 oz hl _) ?_)))))))))))
 refine xM (h:=xE (h:=xE (h:=xA (h:=xA (h:=ZF [(0,_),(2,_),(3,_),(5,_)] [_] t4 rfl (Za (xM (h:=xM (h:=Zz (d:=13) rfl (fun g1=>?_) (fun g1=>?_))))))))))
 try simp only [sQ,ne_eq] at g1
 refine Zr (Zgr 0 rfl rfl rfl Zln rfl (ZgR _ _ (0+(word l 0).length) (Zc5 (Nat.zero_le _)) oz _) ?_)
 refine xT (h:=xA (h:=Zy [(0,_),(2,_),(3,_),(5,_)] t4 (Zj ?_)))
 exact ZC .ret (.inl rfl) [_] t1 ⟨Zc (by rw [Za6];simp [g1];try omega),rfl,rfl⟩
 try simp only [sQ,ne_eq] at g1
 refine xP (h:=xF (h:=xA (h:=Zy [(0,_),(2,_),(3,_),(5,_)] t4 (Zj ?_))))
 exact ZC .ret (.inl rfl) [_] t1 ⟨Zc (by rw [Za6];simp [g1];try omega),rfl,rfl⟩

abbrev Zlp (s : Cells) (q : Option Addr) (m cp : Nat) (ls : List (List UInt8)) : Prop := ZdN s q m cp 9 1 (ls.map str)
theorem ZeX {s:Cells} {q:Option Addr} {m cp:Nat} {ls:List (List UInt8)} {a:List UInt8} (h:ZdN s q m cp 9 1 (ls.map str ++ [str a])):Zlp s q m cp (ls ++ [a]):=by
 unfold Zlp
 rw [List.map_append]
 exact h
set_option maxHeartbeats 400000 in
theorem Zkr (l:List UInt8) (hl:l.length≤2000000) (x0:UInt8) (B:Kn):Zl8 (pj J) 94 [str l,.int .u8 x0.toNat] B (fun v s=>∃q cp,v = .slice q (cut x0 l).length cp∧Zlp s q (cut x0 l).length cp (cut x0 l)):=by
 refine Zb 35 Try.func94 rfl rfl rfl (Nat.le_of_ble_eq_true rfl) ?_
 refine Za (xA (h:=Zy [(0,_),(1,_),(4,_)] t3 (Za (xBs [] [] Try.underlying35 sz9 zo9 (h:=fun b0=>xA (h:=ZF [(0,_),(1,_),(4,_),(5,_)] [_] t4 rfl (Za (xA (h:=Zy [(0,_),(1,_),(4,_),(5,_),(6,_)] t5 (Zg (Za (xA (h:=?_)))))))))))))
 refine Zy [(0,_),(1,_),(4,_),(5,_),(6,_),(7,_)] t6 (Zl (ZeW (α:=CutSt) (fun x=>[(0,str l),(1,.int .u8 x0.toNat),(5,.slice x.q x.m x.cp),(6,.int .i64 x.f),(7,.int .i64 x.i)]) (fun x=>[x.s]) (fun x Bx=>Bx=B∧x.f≤x.i∧x.i≤l.length∧x.m≤x.i∧x.m=x.ps.length∧Zlp x.s x.q x.m x.cp x.ps∧cut x0 l=x.ps ++ glue ((l.take x.i).drop x.f) (cut x0 (l.drop x.i))) (fun x=>l.length - x.i) ⟨0,0,0,[],some ⟨b0,0,none⟩,0,ZaB b0 [] 9⟩ t5 rfl (⟨rfl,Nat.le_refl _,Nat.zero_le _,Nat.le_refl _,rfl,ZdN.lit rfl,by simp [ZgL (ZgT x0 l)]⟩) (fun x B1 hle1 hI=>?_)))
 obtain ⟨rfl,hf,hi,hn,hm,hv,hc⟩:=hI
 refine Zg (Za (xM (h:=xM (h:=xVs Try.underlying9 (h:=ZN (h:=Zy [(0,_),(1,_),(5,_),(6,_),(7,_),(12,_)] t6 (Zd rfl (fun g1=>?_) (fun g1=>?_))))))))
 try simp only [sQ,ne_eq] at g1
 obtain ⟨c,hx⟩ :∃c,l[x.i]? = some c:=⟨_,List.getElem?_eq_getElem oz⟩
 refine Zh (Ze (Zg (Zl (Za (xM (h:=xM (h:=Zr (Zbm rfl rfl Try.underlying9 rfl rfl oz hx ?_))))))))
 refine xM (h:=ZkH (h:=Zy [(0,_),(1,_),(5,_),(6,_),(7,_),(12,_),(19,_)] t7 (Zd rfl (fun g2=>?_) (fun g2=>?_))))
 try simp only [sQ,ne_eq] at g2
 refine Za (xM (h:=xM (h:=xM (h:=xM (h:=Zr (Zch rfl rfl Try.underlying9 rfl (a:=x.f) (b:=x.i) ⟨_,_,rfl,rfl⟩ ⟨_,_,rfl,rfl⟩ oz oz ?_))))))
 refine xBs [(0,_)] [_] Try.underlying35 sz9 zo9 (h:=fun b1=>Zr (Zcj 0 rfl (hv) rfl rfl Zl2 ZlX rfl rfl (Zbb.box 1 rfl) rfl rfl oz (fun l1 p1 c1 hv1=>?_)))
 refine xA (h:=ZF [(0,_),(1,_),(5,_),(6,_),(7,_),(12,_),(19,_)] [_,_] t7 rfl (ZiM [0] rfl (Zk (xM (h:=Zr (Zes rfl rfl rfl rfl (by first | exact ZbC oz oz | rfl) ?_))))))
 refine xA (h:=ZY (Ze (Zk (xM (h:=Zr (Zes rfl rfl rfl rfl (by first | exact ZbC oz oz | rfl) ?_))))))
 refine xA (h:=?_)
 exact Zg4 ⟨x.i+1,x.i+1,x.m+1,x.ps ++ [(l.take x.i).drop x.f],p1,c1,l1⟩ (so) ⟨rfl,Nat.le_refl _,so,so,by simp [hm],ZeX hv1,by rw [hc,ZkA hx (Zlx g2),List.append_assoc];simp [Zja,ZgL (ZgT x0 _)]⟩ t5 rfl
 try simp only [sQ,ne_eq] at g2
 refine Zh (ZY (Ze (Zk (xM (h:=Zr (Zes rfl rfl rfl rfl (by first | exact ZbC oz oz | rfl) ?_))))))
 refine xA (h:=?_)
 exact Zg4 ⟨x.i+1,x.f,x.m,x.ps,x.q,x.cp,x.s⟩ (so) ⟨rfl,so,so,so,hm,hv,by rw [hc,Zjm hx (Zlw g2),Zil,ZhF hx hf]⟩ t5 rfl
 try simp only [sQ,ne_eq] at g1
 obtain hie:x.i=l.length:=by omega
 rw [hie,List.take_length,List.drop_length] at hc
 refine ZH (Z3 (Zg3 (Zx (Ze (Za (xM (h:=xM (h:=xM (h:=Zr (Zch rfl rfl Try.underlying9 rfl (a:=x.f) (b:=l.length) ⟨_,_,rfl,rfl⟩ rfl oz oz ?_))))))))))
 refine xBs [(0,_)] [_] Try.underlying35 sz9 zo9 (h:=fun b1=>Zr (Zcj 0 rfl (hv) rfl rfl Zl2 ZlX rfl rfl (Zbb.box 1 rfl) rfl rfl oz (fun l2 p2 c2 hv2=>?_)))
 refine xA (h:=ZF [(0,_),(1,_),(4,_),(5,_),(6,_),(7,_),(12,_)] [_,_] t7 rfl (Zj ?_))
 have he:cut x0 l=x.ps ++ [l.drop x.f]:=by rw [hc];simp [cut,glue]
 have hlen:(cut x0 l).length=x.m+1:=by rw [he];simp [hm]
 exact ZfH .ret (.inl rfl) [_] [0] rfl t1 ⟨rfl,_,rfl,p2,c2,by rw [hlen];rfl,by rw [hlen,he];rw [List.take_length] at hv2;exact ZeX hv2⟩

set_option maxHeartbeats 400000 in
theorem Ze5 (l:List UInt8) (hl:l.length≤2000000) (B:Kn):Zaw (pj J) 74 [str l] B (.bool (Za4 l)):=by
 refine Zb 27 Try.func74 rfl rfl rfl (Nat.le_of_ble_eq_true rfl) ?_
 refine Za (xA (h:=Zy [(0,_),(2,_)] t2 (Za (xM (h:=Zr (ZkJ rfl rfl Zml rfl (Zkr _ hl 46 _) ?_))))))
 rintro _ s ⟨q,cp,rfl,hv⟩
 refine xA (h:=ZF [(0,_),(2,_),(3,_)] [_] t3 rfl (Zg (Za (xA (h:=Zy [(0,_),(2,_),(3,_),(4,_)] t4 (Zl (ZeW (α:=Nat) (fun k=>[(0,str l),(3,.slice q (cut 46 l).length cp),(4,.int .i64 k)]) (fun k=>[s]) (fun k Bx=>Bx=B∧k≤(cut 46 l).length∧((cut 46 l).take k).all Z4=true) (fun k=>(cut 46 l).length - k) 0 t3 rfl (⟨rfl,Nat.zero_le _,by simp⟩) (fun k B1 hle1 hI=>?_))))))))
 obtain ⟨rfl,hk,ha⟩:=hI
 have hcc:=Zfy 46 l
 refine Zg (Za (xM (h:=xM (h:=xV Try.underlying35 (h:=ZN (h:=Zy [(0,_),(3,_),(4,_),(10,_)] t4 (Zd rfl (fun g1=>?_) (fun g1=>?_))))))))
 try simp only [sQ,ne_eq] at g1
 obtain ⟨y,hy⟩ :∃y,(cut 46 l)[k]? = some y:=⟨_,List.getElem?_eq_getElem oz⟩
 have hyl:=Zgf 46 l y (List.mem_of_getElem? hy)
 obtain ⟨a,rfl,hsp,hat⟩:=hv.at (B:=B1) (L:=[s]) (i:=k) (v:=str y) 0 rfl (by rw [List.getElem?_map,hy];rfl)
 refine Zh (Ze (Zg (Zl (Za (xM (h:=xM (h:=Zr (Zb6 rfl rfl Try.underlying35 sz9 rfl rfl oz oz ?_))))))))
 refine Zr (Zq rfl rfl lk9 rfl (Zld hat) (xR Zkx rfl (ZaM _ oz _) (h:=?_)))
 refine xN (h:=Zy [(0,_),(3,_),(4,_),(10,_),(18,_)] t5 (Zd rfl (fun g2=>?_) (fun g2=>?_)))
 try simp only [sQ,ne_eq] at g2
 refine Za (xA (h:=Zy [(0,_),(2,_),(3,_),(4,_),(10,_),(18,_)] t6 (Zj (ZA (Zp (Zkg (ZA (Zp ?_))))))))
 exact ZC .ret (.inl rfl) [_] t1 ⟨Zc (by simp [Za4,ZfD hy g2]),rfl,rfl⟩
 try simp only [sQ,ne_eq] at g2
 refine Zh (ZY (Ze (Zk (xM (h:=Zr (Zes rfl rfl rfl rfl (by first | exact ZbC oz oz | rfl) ?_))))))
 refine xA (h:=?_)
 exact Zg4 (k+1) oz ⟨rfl,oz,ZfE hy g2 ha⟩ t3 rfl
 try simp only [sQ,ne_eq] at g1
 obtain hke:k=(cut 46 l).length:=by omega
 rw [hke,List.take_length] at ha
 refine ZH (Z3 (Zg3 (Zx (Ze (Za (xM (h:=xV Try.underlying35 (h:=Zbl (h:=xM (h:=Zz (d:=22) rfl (fun g3=>?_) (fun g3=>?_)))))))))))
 try simp only [sQ,ne_eq] at g3
 refine xM (h:=xVs Try.underlying9 (h:=Zbl (h:=xT (h:=xA (h:=Zy [(0,_),(2,_),(3,_),(4,_),(10,_)] t5 (Zj ?_))))))
 exact ZC .ret (.inl rfl) [_] t1 ⟨Zc (by rw [Bool.eq_iff_iff];simp [Za4,ha];omega),rfl,rfl⟩
 try simp only [sQ,ne_eq] at g3
 refine xP (h:=xP (h:=xP (h:=xF (h:=xA (h:=Zy [(0,_),(2,_),(3,_),(4,_),(10,_)] t5 (Zj ?_))))))
 exact ZC .ret (.inl rfl) [_] t1 ⟨Zc (by rw [Bool.eq_iff_iff];simp [Za4,ha];omega),rfl,rfl⟩

set_option maxHeartbeats 400000 in
theorem Zds (q:Option Addr) (cp:Nat) (us:List DUser) (u:Str) (B:Kn) (hu:SlK B q cp 3 Zv us):Zaw (pj J) 79 [.slice q us.length cp,str u] B (.int .i64 (Zhe us u)):=by
 refine Zb 20 Try.func79 rfl rfl rfl (Nat.le_of_ble_eq_true rfl) ?_
 have hun:=hu.len
 refine Za (xA (h:=Zg (Za (xA (h:=Zl (ZB (α:=Nat) [0,1] (fun k=>[(5,.int .i64 k)]) [] (fun k=>[]) (fun k Bx=>Bx=B∧k≤us.length∧∀x,x∈us.take k→x.name≠u) (fun k=>us.length - k) 0 t1 rfl (⟨rfl,Nat.zero_le _,by simp⟩) (fun k B1 hle1 hI=>?_)))))))
 obtain ⟨rfl,hk,ha⟩:=hI
 refine ZF [(0,_),(1,_),(5,_)] [] t3 rfl (Zg (Za (xM (h:=xM (h:=xV Try.underlying48 (h:=ZN (h:=Zd rfl (fun g1=>?_) (fun g1=>?_))))))))
 try simp only [sQ,ne_eq] at g1
 refine Zh (Ze (Zg (Zl (Za (xM (h:=xM (h:=?_)))))))
 obtain ⟨x,hx⟩:=Z2 (xs:=us) (i:=k) om
 obtain ⟨bb3,oo3,rfl⟩:=hu.base hx
 obtain ⟨_,⟨rfl,hb4,hb4b⟩,hc4⟩:=hu.elem hx
 refine xIx Try.underlying48 ZcY (h:=xW ZaK (h:=y1 lk9 hc4 0 (h:=xM (h:=ZdW (h:=Zd rfl (fun g2=>?_) (fun g2=>?_))))))
 try simp only [sQ,ne_eq] at g2
 refine Za (xM (h:=xA (h:=Zj (ZA (Zp (ZS (ZA (Zp ?_))))))))
 exact ZC .ret (.inl rfl) [_] t1 ⟨ZaJ (Zi5 hx g2 ha).symm,rfl,rfl⟩
 try simp only [sQ,ne_eq] at g2
 refine Zh (ZY (Ze (Zk (xM (h:=xD (h:=xA (h:=?_)))))))
 exact ZJ (k+1) [] so2 ⟨rfl,oz,Zbw hx ha g2⟩ t3 rfl
 try simp only [sQ,ne_eq] at g1
 refine ZH (Z3 (ZO (Zx (Ze (Za (xA (h:=Zj ?_)))))))
 exact ZC .ret (.inl rfl) [_] t1 ⟨ZaJ (Zih (ZbO oz ha)).symm,rfl,rfl⟩

set_option maxHeartbeats 400000 in
theorem Zga (q q':Option Addr) (cp cp':Nat) (xs ys:List Str) (B:Kn) (ha:SlK B q cp 1 Zc4 xs) (hb:SlK B q' cp' 1 Zc4 ys):Zaw (pj J) 47 [.slice q xs.length cp,.slice q' ys.length cp'] B (.bool (decide (xs=ys))):=by
 refine Zb 26 Try.func47 rfl rfl rfl (Nat.le_of_ble_eq_true rfl) ?_
 have han:=ha.len
 have hbn:=hb.len
 refine Za (xA (h:=Zg (Za (xM (h:=xV Try.underlying35 (h:=xM (h:=xV Try.underlying35 (h:=Zan (h:=Zd rfl (fun g1=>?_) (fun g1=>?_))))))))))
 try simp only [sQ,ne_eq] at g1
 refine Za (xA (h:=Zj (Zp ?_)))
 exact ZC .ret (.inl rfl) [_] t1 ⟨Zc (ZcM g1),rfl,rfl⟩
 try simp only [sQ,ne_eq] at g1
 refine Zh (Ze (Zg (Za (xA (h:=Zl (ZB (α:=Nat) [0,1,10] (fun k=>[(5,.int .i64 k)]) [] (fun k=>[]) (fun k Bx=>Bx=B∧k≤xs.length∧xs.take k=ys.take k) (fun k=>xs.length - k) 0 t1 rfl (⟨rfl,Nat.zero_le _,by simp⟩) (fun k B1 hle1 hI=>?_)))))))
 obtain ⟨rfl,hk,he⟩:=hI
 refine ZF [(0,_),(1,_),(5,_),(10,_)] [] t4 rfl (Zg (Za (xM (h:=xM (h:=xV Try.underlying35 (h:=ZN (h:=Zd rfl (fun g2=>?_) (fun g2=>?_))))))))
 try simp only [sQ,ne_eq] at g2
 refine Zh (Ze (Zg (Zl (Zg (Z7 (same _ _) mo kr ⟨rfl,rfl⟩ (fun _ _=>?_))))))
 refine aM 0 rfl (h:=aM 1 rfl (h:=?_))
 obtain ⟨x,hx⟩:=Z2 (xs:=xs) (i:=k) om
 obtain ⟨bb3,oo3,rfl⟩:=ha.base hx
 obtain ⟨_,⟨rfl,hb4⟩,hc4⟩:=ha.elem hx
 refine aIx 2 rfl Try.underlying35 sz9 (h:=aT 3 rfl (ZU fun D=>Zq rfl rfl lk9 rfl (hc4 _ 0 _ rfl) r4) (h:=aM 4 rfl (h:=aM 5 rfl (h:=?_))))
 obtain ⟨y,hy⟩:=Z2 (xs:=ys) (i:=k) om
 obtain ⟨bb6,oo6,rfl⟩:=hb.base hy
 obtain ⟨_,⟨rfl,hb7⟩,hc7⟩:=hb.elem hy
 refine aIx 6 rfl Try.underlying35 sz9 (h:=aT 7 rfl (ZU fun D=>Zq rfl rfl lk9 rfl (hc7 _ 0 _ rfl) r4) (h:=Zb1 8 rfl (h:=Zs kr kr ?_)))
 refine Ze (Zd rfl (fun g3=>?_) (fun g3=>?_))
 try simp only [sQ,ne_eq] at g3
 refine Za (xA (h:=Zj (ZA (Zp (ZS (ZA (Zp ?_)))))))
 exact ZC .ret (.inl rfl) [_] t1 ⟨Zc (ZbV hx hy g3),rfl,rfl⟩
 try simp only [sQ,ne_eq] at g3
 refine Zh (ZY (Ze (Zk (xM (h:=xD (h:=xA (h:=?_)))))))
 exact ZJ (k+1) [] so2 ⟨rfl,oz,Zay hx hy g3 he⟩ t4 rfl
 try simp only [sQ,ne_eq] at g2
 refine ZH (Z3 (ZO (Zx (Ze (Za (xA (h:=Zj ?_)))))))
 exact ZC .ret (.inl rfl) [_] t1 ⟨Zc (eqT oz oz he),rfl,rfl⟩

set_option maxHeartbeats 400000 in
theorem Zi2 (q:Option Addr) (cp:Nat) (xs:List Str) (u:Str) (B:Kn) (ha:SlK B q cp 1 Zc4 xs):Zaw (pj J) 63 [.slice q xs.length cp,str u] B (.bool (decide (u∈xs))):=by
 refine Zb 18 Try.func63 rfl rfl rfl (Nat.le_of_ble_eq_true rfl) ?_
 have han:=ha.len
 refine Za (xA (h:=Zg (Za (xA (h:=Zl (ZB (α:=Nat) [0,1] (fun k=>[(5,.int .i64 k)]) [] (fun k=>[]) (fun k Bx=>Bx=B∧k≤xs.length∧∀x,x∈xs.take k→x≠u) (fun k=>xs.length - k) 0 t1 rfl (⟨rfl,Nat.zero_le _,by simp⟩) (fun k B1 hle1 hI=>?_)))))))
 obtain ⟨rfl,hk,hn⟩:=hI
 refine ZF [(0,_),(1,_),(5,_)] [] t3 rfl (Zg (Za (xM (h:=xM (h:=xV Try.underlying35 (h:=ZN (h:=Zd rfl (fun g1=>?_) (fun g1=>?_))))))))
 try simp only [sQ,ne_eq] at g1
 refine Zh (Ze (Zg (Zl (Za (xM (h:=xM (h:=?_)))))))
 obtain ⟨x,hx⟩:=Z2 (xs:=xs) (i:=k) om
 obtain ⟨bb3,oo3,rfl⟩:=ha.base hx
 obtain ⟨_,⟨rfl,hb4⟩,hc4⟩:=ha.elem hx
 refine xIx Try.underlying35 sz9 (h:=y1 lk9 hc4 0 (h:=xM (h:=ZdW (h:=Zd rfl (fun g2=>?_) (fun g2=>?_)))))
 try simp only [sQ,ne_eq] at g2
 refine Za (xA (h:=Zj (ZA (Zp (ZS (ZA (Zp ?_)))))))
 exact ZC .ret (.inl rfl) [_] t1 ⟨Zc (Zmd hx g2),rfl,rfl⟩
 try simp only [sQ,ne_eq] at g2
 refine Zh (ZY (Ze (Zk (xM (h:=xD (h:=xA (h:=?_)))))))
 exact ZJ (k+1) [] so2 ⟨rfl,oz,Zbw hx hn g2⟩ t3 rfl
 try simp only [sQ,ne_eq] at g1
 refine ZH (Z3 (ZO (Zx (Ze (Za (xA (h:=Zj ?_)))))))
 exact ZC .ret (.inl rfl) [_] t1 ⟨Zc (Zme (ZbO oz hn)),rfl,rfl⟩

set_option maxHeartbeats 400000 in
theorem Zhd (q:Option Addr) (cp:Nat) (xs:List Str) (B:Kn) (ha:SlK B q cp 1 Zc4 xs):Zaw (pj J) 71 [.slice q xs.length cp] B (.bool (ZbH xs)):=by
 refine Zb 29 Try.func71 rfl rfl rfl (Nat.le_of_ble_eq_true rfl) ?_
 have han:=ha.len
 refine Za (xA (h:=Zg (Za (xA (h:=Zl (ZB (α:=Nat) [0] (fun k=>[(3,.int .i64 k)]) [] (fun k=>[]) (fun k Bx=>Bx=B∧k≤xs.length∧(xs.take k).all Z4=true∧(xs.take k).Nodup) (fun k=>xs.length - k) 0 t1 rfl (⟨rfl,Nat.zero_le _,by simp,by simp⟩) (fun k B1 hle1 hI=>?_)))))))
 obtain ⟨rfl,hk,hv,hn⟩:=hI
 refine ZF [(0,_),(3,_)] [] t2 rfl (Zg (Za (xM (h:=xM (h:=xV Try.underlying35 (h:=ZN (h:=Zd rfl (fun g1=>?_) (fun g1=>?_))))))))
 try simp only [sQ,ne_eq] at g1
 refine Zh (Ze (Zg (Zl (Zg (Z7 (same _ _) mo kr ⟨rfl,rfl⟩ (fun _ _=>?_))))))
 refine aM 0 rfl (h:=aM 1 rfl (h:=?_))
 obtain ⟨x,hx⟩:=Z2 (xs:=xs) (i:=k) om
 obtain ⟨bb3,oo3,rfl⟩:=ha.base hx
 obtain ⟨_,⟨rfl,hb4⟩,hc4⟩:=ha.elem hx
 refine aIx 2 rfl Try.underlying35 sz9 (h:=aT 3 rfl (ZU fun D=>Zq rfl rfl lk9 rfl (hc4 _ 0 _ rfl) r4) (h:=aT 4 rfl (ZU fun D=>ZZ rfl rfl Zkx rfl (ZaM _ om2 _) r4) (h:=?_)))
 refine aN 5 rfl (h:=aM 6 rfl (h:=Zai (d:=16) rfl (fun g2=>?_) (fun g2=>?_)))
 try simp only [sQ,ne_eq] at g2
 refine aZ 7 rfl (h:=aZ 8 rfl (h:=aZ 9 rfl (h:=aZ 10 rfl (h:=aZ 11 rfl (h:=aZ 12 rfl (h:=aZ 13 rfl (h:=aZ 14 rfl (h:=aPT 15 rfl (h:=Zs kr kr ?_)))))))))
 refine Ze (Zd (t:=true) rfl (fun _=>Za (xA (h:=Zj (ZA (Zp (ZS (ZA (Zp ?_)))))))) (fun h=>Bool.noConfusion h))
 exact ZC .ret (.inl rfl) [_] t1 ⟨Zc (Zfd hx g2),rfl,rfl⟩
 try simp only [sQ,ne_eq] at g2
 refine aM 7 rfl (h:=aM 8 rfl (h:=?_))
 obtain ⟨hq6,q6,cp6,hv6,hr6⟩:=ha.cutE 0 k om om
 have hr6n:=hr6.len
 refine aT 9 rfl (ZU fun D=>ZkS (a:=0) (b:=k) hv6 om hq6 rfl rfl Try.underlying35 sz9 rfl rfl ⟨_,_,rfl,by first | omega | (simp;done) | (simp;omega)⟩ r4) (h:=?_)
 refine aM 10 rfl (h:=aM 11 rfl (h:=aIx 12 rfl Try.underlying35 sz9 (h:=aT 13 rfl (ZU fun D=>Zq rfl rfl lk9 rfl (hc4 _ 0 _ rfl) r4) (h:=aT 14 rfl (ZU fun D=>ZZ rfl rfl ZmC rfl (Zi2 _ _ _ _ _ hr6) r4) (h:=aPF 15 rfl (h:=Zs kr kr ?_))))))
 refine Ze (Zd rfl (fun g3=>?_) (fun g3=>?_))
 try simp only [sQ,ne_eq] at g3
 refine Za (xA (h:=Zj (ZA (Zp (ZS (ZA (Zp ?_)))))))
 exact ZC .ret (.inl rfl) [_] t1 ⟨Zc (Zfc hx (by simpa using g3)),rfl,rfl⟩
 try simp only [sQ,ne_eq] at g3
 refine Zh (ZY (Ze (Zk (xM (h:=xD (h:=xA (h:=?_)))))))
 exact ZJ (k+1) [] so2 ⟨rfl,oz,ZfE hx g2 hv,Zkn hx hn (by simpa using g3)⟩ t2 rfl
 try simp only [sQ,ne_eq] at g1
 refine ZH (Z3 (ZO (Zx (Ze (Za (xM (h:=xV Try.underlying35 (h:=Zbl (h:=xA (h:=Zj ?_))))))))))
 exact ZC .ret (.inl rfl) [_] t1 ⟨Zc (ZfS oz hv hn),rfl,rfl⟩

set_option maxHeartbeats 400000 in
theorem Ze4 (q:Option Addr) (cp:Nat) (x:DLetter) (B:Kn) (ha:SlK B q cp 1 Zc4 x.to_) (h1:x.fr.length≤2000000) (h2:x.text.length≤2000000):Zaw (pj J) 42 [.agg #[str x.fr,.slice q x.to_.length cp,str x.text]] B (.bool (ZbS x)):=by
 refine Zb 23 Try.func42 rfl rfl rfl (Nat.le_of_ble_eq_true rfl) ?_
 refine Za (xBx [_,_,_] (h:=fun b1=>xA (h:=Zaa [_] rfl (Za (xW Zlb (h:=x1 lk9 0 (h:=xR Zkx rfl (ZaM _ om2 _) (h:=?_))))))))
 refine xM (h:=Zz (d:=6) rfl (fun g1=>?_) (fun g1=>?_))
 try simp only [sQ,ne_eq] at g1
 refine xW ZjU (h:=x1 ZjP 0 (h:=xR Zmz rfl (Zhd _ _ _ _ ha) (h:=xT (h:=xM (h:=Zz (d:=11) rfl (fun g2=>?_) (fun g2=>?_))))))
 try simp only [sQ,ne_eq] at g2
 refine xW ZjU (h:=x1 ZjP 0 (h:=xV Try.underlying35 (h:=ZiI (h:=xT (h:=xM (h:=Zz (d:=17) rfl (fun g3=>?_) (fun g3=>?_)))))))
 try simp only [sQ,ne_eq] at g3
 refine xW Zla (h:=x1 lk9 0 (h:=xVs Try.underlying9 (h:=Zbl (h:=xT (h:=xA (h:=Zj ?_))))))
 exact ZC .ret (.inl rfl) [_] t1 ⟨Zc (by rw [Bool.eq_iff_iff];simp [ZbS,g1,g2,g3];try omega),rfl,rfl⟩
 try simp only [sQ,ne_eq] at g3
 refine xP (h:=xP (h:=xP (h:=xP (h:=xF (h:=xA (h:=Zj ?_))))))
 exact ZC .ret (.inl rfl) [_] t1 ⟨Zc (by rw [Bool.eq_iff_iff];simp [ZbS,g1,g2,g3];try omega),rfl,rfl⟩
 try simp only [sQ,ne_eq] at g2
 refine xP (h:=xP (h:=xP (h:=xP (h:=xF (h:=xM (h:=xP (h:=xP (h:=xP (h:=xP (h:=xF (h:=xA (h:=Zj ?_))))))))))))
 exact ZC .ret (.inl rfl) [_] t1 ⟨Zc (by rw [Bool.eq_iff_iff];simp [ZbS,g1,g2];try omega),rfl,rfl⟩
 try simp only [sQ,ne_eq] at g1
 refine xP (h:=xP (h:=xP (h:=xF (h:=xM (h:=xP (h:=xP (h:=xP (h:=xP (h:=xF (h:=xM (h:=xP (h:=xP (h:=?_)))))))))))))
 refine xP (h:=xP (h:=xF (h:=xA (h:=Zj ?_))))
 exact ZC .ret (.inl rfl) [_] t1 ⟨Zc (by rw [Bool.eq_iff_iff];simp [ZbS,g1];try omega),rfl,rfl⟩

set_option maxHeartbeats 400000 in
theorem ZfP (aq:Option Addr) (cq:Nat) (q:DQueue) (B:Kn) (hq:SlK B aq cq 4 ZaC q.items):Zaw (pj J) 29 [.agg #[.int .i64 q.next,.slice aq q.items.length cq]] B (.bool (ZbF q)):=by
 refine Zb 48 Try.func29 rfl rfl rfl (Nat.le_of_ble_eq_true rfl) ?_
 have hqn:=hq.len
 refine Za (xBx [_,_] (h:=fun b1=>xA (h:=Zaa [_] rfl (Za (xA (h:=Zg (Za (xA (h:=Zl (ZB (α:=Nat × Int) [0,1] (fun p=>[(3,.int .i64 p.2),(4,.int .i64 p.1)]) [] (fun p=>[]) (fun p Bx=>Bx=B∧p.1≤q.items.length∧ZcZ 0 q.items=ZcZ p.2 (q.items.drop p.1)∧0≤p.2∧p.2≤99) (fun p=>q.items.length - p.1) (0,0) t2 rfl (⟨rfl,Nat.zero_le _,rfl,by decide,by decide⟩) (fun p B2 hle2 hI=>?_)))))))))))
 obtain ⟨rfl,hk,hs,hl0,hl1⟩:=hI
 refine ZF [(0,_),(1,_),(3,_),(4,_)] [_] t4 rfl (Zg (Za (xM (h:=xW Zcx (h:=x1 Zi0 0 (h:=xV Try.underlying26 (h:=ZN (h:=Zd rfl (fun g1=>?_) (fun g1=>?_)))))))))
 try simp only [sQ,ne_eq] at g1
 refine Zh (Ze (Zg (Zl (Za (xW Zcx (h:=x1 Zi0 0 (h:=xM (h:=?_))))))))
 obtain ⟨x,hx⟩:=Z2 (xs:=q.items) (i:=p.1) om
 obtain ⟨bb4,oo4,rfl⟩:=hq.base hx
 obtain ⟨_,⟨qi5,ci5,rfl,hi5,hb5,hb5b⟩,hc5⟩:=hq.elem hx
 have hi5n:=hi5.len
 refine xIx Try.underlying26 ZfF (h:=?_)
 replace hs:=ZhT hs hx
 refine yL [_,_,_,_] Zlm hc5 0 (h:=xAl [_,_,_,_] Zlj (h:=fun b6=>xS [_,_,_,_] 1 [_,_,_,_] ZfF (h:=Zaa [_,_] rfl (Zg (Za (xW Zen (h:=x1 lk3 1 (h:=xM (h:=xD (h:=xR Zji rfl (Zct _ _ _ _) (h:=xN (h:=xM (h:=?_)))))))))))))
 refine Zz (d:=24) rfl (fun g2=>?_) (fun g2=>?_)
 try simp only [sQ,ne_eq] at g2
 refine xP (h:=xP (h:=xP (h:=xP (h:=xP (h:=xP (h:=xP (h:=xP (h:=xP (h:=xT (h:=Zd (t:=true) rfl (fun _=>Za (xA (h:=?_))) (fun h=>Bool.noConfusion h)))))))))))
 refine Zj (Zp (ZA (Zp (ZS (ZA (Zp ?_))))))
 exact ZC .ret (.inl rfl) [_] t1 ⟨Zc (ZgA (by rw [hs,if_neg];intro h;simp [h.1] at g2)),rfl,rfl⟩
 try simp only [sQ,ne_eq] at g2
 simp only [Bool.and_eq_true,decide_eq_true_eq] at g2
 refine xW Zem (h:=x1 lk9 1 (h:=xW Zel (h:=x1 ZjP 1 (h:=xW Zft (h:=x1 lk9 1 (h:=xB [(0,_),(1,_),(2,_)] [_,_,_] [_,_,_] Zmb Zl9 (h:=xR ZmQ rfl (Ze4 _ _ ⟨x.fr,x.left,x.text⟩ _ hi5 oa oa) (h:=?_))))))))
 refine xN (h:=xF (h:=Zd rfl (fun g3=>?_) (fun g3=>?_)))
 try simp only [sQ,ne_eq] at g3
 refine Za (xA (h:=Zj (Zp (ZA (Zp (ZS (ZA (Zp ?_))))))))
 exact ZC .ret (.inl rfl) [_] t1 ⟨Zc (ZgA (by rw [hs,if_neg];intro h;rw [Zig,g3] at h;cases h.2)),rfl,rfl⟩
 try simp only [sQ,ne_eq] at g3
 refine Zh (Ze (Zk (xW Zen (h:=x1 lk3 1 (h:=xA (h:=ZY (Ze (Zk (xM (h:=xD (h:=xA (h:=?_))))))))))))
 exact ZJ (p.1+1,x.id) [0] so2 ⟨rfl,so,by rw [hs,if_pos ⟨g2,g3⟩],so,so⟩ t4 rfl
 try simp only [sQ,ne_eq] at g1
 rw [Zky oz,ZcZ] at hs
 refine ZH (Z3 (ZO (Zx (Ze (Za (xW Zin (h:=x1 lk3 0 (h:=xM (h:=xD (h:=xR Zji rfl (Zct _ _ _ _) (h:=xM (h:=Zz (d:=42) rfl (fun g1=>?_) (fun g1=>?_)))))))))))))
 try simp only [sQ,ne_eq] at g1
 refine xW Zcx (h:=x1 Zi0 0 (h:=xV Try.underlying26 (h:=Zbl (h:=xT (h:=xA (h:=Zj ?_))))))
 exact ZC .ret (.inl rfl) [_] t1 ⟨Zc (by rw [← Zgz hs,Bool.eq_iff_iff];simp [g1,g1];try omega),rfl,rfl⟩
 try simp only [sQ,ne_eq] at g1
 refine xP (h:=xP (h:=xP (h:=xP (h:=xF (h:=xA (h:=Zj ?_))))))
 exact ZC .ret (.inl rfl) [_] t1 ⟨Zc (by rw [← Zgz hs,Bool.eq_iff_iff];simp [g1,g1];try omega),rfl,rfl⟩

set_option maxHeartbeats 400000 in
theorem Zia (n:Int) (B:Kn):Zaw (pj J) 108 [.int .i64 n] B (.bool (decide (0≤n) && decide (n≤31))):=by
 refine Zb 5 Try.func108 rfl rfl rfl (Nat.le_of_ble_eq_true rfl) ?_
 refine Za (xA (h:=Za (xM (h:=xR Zji rfl (Zct _ _ _ _) (h:=xA (h:=Zj ?_))))))
 exact ZC .ret (.inl rfl) [_] t1 ⟨rfl,rfl,rfl⟩

set_option maxHeartbeats 400000 in
theorem Zif (m:DMail) (hm:m.text.length≤2000000) (B:Kn):Zaw (pj J) 105 [.agg #[.int .i64 m.uid,.int .i64 m.flags,str m.text]] B (.bool (Zdr m)):=by
 refine Zb 17 Try.func105 rfl rfl rfl (Nat.le_of_ble_eq_true rfl) ?_
 refine Za (xBx [_,_,_] (h:=fun b1=>xA (h:=Zaa [_] rfl (Za (xW Zce (h:=x1 lk3 0 (h:=xR Zji rfl (Zct _ _ _ _) (h:=xM (h:=Zz (d:=6) rfl (fun g1=>?_) (fun g1=>?_))))))))))
 try simp only [sQ,ne_eq] at g1
 refine xW ZdF (h:=x1 lk3 0 (h:=xR ZlL rfl (Zia _ _) (h:=xT (h:=xM (h:=Zz (d:=11) rfl (fun g2=>?_) (fun g2=>?_))))))
 try simp only [sQ,ne_eq] at g2
 refine xW ZcJ (h:=x1 lk9 0 (h:=xVs Try.underlying9 (h:=Zbl (h:=xT (h:=xA (h:=Zj ?_))))))
 exact ZC .ret (.inl rfl) [_] t1 ⟨Zc (by rw [Bool.eq_iff_iff];simp [Zdr,g1,g2];try omega),rfl,rfl⟩
 try simp only [sQ,ne_eq] at g2
 refine xP (h:=xP (h:=xP (h:=xP (h:=xF (h:=xA (h:=Zj ?_))))))
 exact ZC .ret (.inl rfl) [_] t1 ⟨Zc (by rw [Bool.eq_iff_iff];simp [Zdr,g1,g2];try omega),rfl,rfl⟩
 try simp only [sQ,ne_eq] at g1
 refine xP (h:=xP (h:=xP (h:=xF (h:=xM (h:=xP (h:=xP (h:=xP (h:=xP (h:=xF (h:=xA (h:=Zj ?_)))))))))))
 exact ZC .ret (.inl rfl) [_] t1 ⟨Zc (by rw [Bool.eq_iff_iff];simp [Zdr,g1];try omega),rfl,rfl⟩

set_option maxHeartbeats 400000 in
theorem ZhO (q:Option Addr) (cp:Nat) (x:DBox) (B:Kn) (hx:SlK B q cp 3 Zar x.mail):Zaw (pj J) 96 [.agg #[.int .i64 x.next,.slice q x.mail.length cp]] B (.bool (Zgh x)):=by
 refine Zb 46 Try.func96 rfl rfl rfl (Nat.le_of_ble_eq_true rfl) ?_
 have hxn:=hx.len
 refine Za (xBx [_,_] (h:=fun b1=>xA (h:=Zaa [_] rfl (Za (xA (h:=Zg (Za (xA (h:=Zl (ZB (α:=Nat × Int) [0,1] (fun g=>[(3,.int .i64 g.2),(4,.int .i64 g.1)]) [] (fun g=>[]) (fun g Bx=>Bx=B∧g.1≤x.mail.length∧Zcs (x.mail.take g.1)=(true,g.2)∧0≤g.2∧g.2≤99) (fun g=>x.mail.length - g.1) (0,0) t2 rfl (⟨rfl,Nat.zero_le _,Zde,oz,oz⟩) (fun g B2 hle2 hI=>?_)))))))))))
 obtain ⟨rfl,hk,hs,hl0,hl1⟩:=hI
 refine ZF [(0,_),(1,_),(3,_),(4,_)] [_] t4 rfl (Zg (Za (xM (h:=xW ZbL (h:=x1 Zh9 0 (h:=xV Try.underlying87 (h:=ZN (h:=Zd rfl (fun g1=>?_) (fun g1=>?_)))))))))
 try simp only [sQ,ne_eq] at g1
 refine Zh (Ze (Zg (Zl (Zg (Za (xW ZbL (h:=x1 Zh9 0 (h:=xM (h:=?_)))))))))
 obtain ⟨m,hm⟩:=Z2 (xs:=x.mail) (i:=g.1) om
 obtain ⟨bb4,oo4,rfl⟩:=hx.base hm
 obtain ⟨_,⟨rfl,hb5⟩,hc5⟩:=hx.elem hm
 refine xIx Try.underlying87 Zb8 (h:=yL [_,_,_] Zkq hc5 0 (h:=xR ZlO rfl (Zif m om2 _) (h:=?_)))
 refine xN (h:=xM (h:=Zz (d:=19) rfl (fun g2=>?_) (fun g2=>?_)))
 try simp only [sQ,ne_eq] at g2
 refine xP (h:=xP (h:=xP (h:=xP (h:=xP (h:=xP (h:=xP (h:=xP (h:=xT (h:=Zd (t:=true) rfl (fun _=>Za (xA (h:=Zj (Zp (ZA (Zp (ZS (ZA (Zp ?_))))))))) (fun h=>Bool.noConfusion h))))))))))
 exact ZC .ret (.inl rfl) [_] t1 ⟨Zc (ZfB (Zdf hm (by rw [show (scn Zha (fun _ m=>m.uid) 0 (x.mail.take g.1)).2=g.2 from congrArg Prod.snd hs];simp [Zha,g2]))).symm,rfl,rfl⟩
 try simp only [sQ,ne_eq] at g2
 refine xW ZbL (h:=x1 Zh9 0 (h:=xM (h:=xIx Try.underlying87 Zb8 (h:=xW Zce (h:=y1 lk3 hc5 0 (h:=xM (h:=Zbl (h:=xF (h:=Zd rfl (fun g3=>?_) (fun g3=>?_))))))))))
 try simp only [sQ,ne_eq] at g3
 refine Za (xA (h:=Zj (Zp (ZA (Zp (ZS (ZA (Zp ?_))))))))
 exact ZC .ret (.inl rfl) [_] t1 ⟨Zc (ZfB (Zdf hm (by rw [show (scn Zha (fun _ m=>m.uid) 0 (x.mail.take g.1)).2=g.2 from congrArg Prod.snd hs];simp [Zha,g2];omega))).symm,rfl,rfl⟩
 try simp only [sQ,ne_eq] at g3
 refine Zh (Ze (Zk (xW ZbL (h:=x1 Zh9 0 (h:=xM (h:=xIx Try.underlying87 Zb8 (h:=xW Zce (h:=y1 lk3 hc5 0 (h:=xA (h:=ZY (Ze (Zk (xM (h:=?_))))))))))))))
 refine xD (h:=xA (h:=?_))
 exact ZJ (g.1+1,m.uid) [0] so2 ⟨rfl,oz,Zbd hm hs (by simp [Zha,g2];omega),Zhb g2⟩ t4 rfl
 try simp only [sQ,ne_eq] at g1
 refine ZH (Z3 (ZO (Zx (Ze (Za (xW Zfs (h:=x1 lk3 0 (h:=xM (h:=xD (h:=xR Zji rfl (Zct _ _ _ _) (h:=xM (h:=Zz (d:=40) rfl (fun g4=>?_) (fun g4=>?_)))))))))))))
 try simp only [sQ,ne_eq] at g4
 refine xW ZbL (h:=x1 Zh9 0 (h:=xV Try.underlying87 (h:=Zbl (h:=xT (h:=xA (h:=Zj ?_))))))
 exact ZC .ret (.inl rfl) [_] t1 ⟨Zc (by rw [ZfA (ZcE hs oz),g4,Bool.true_and,Bool.eq_iff_iff];simp;omega),rfl,rfl⟩
 try simp only [sQ,ne_eq] at g4
 refine xP (h:=xP (h:=xP (h:=xP (h:=xF (h:=xA (h:=Zj ?_))))))
 exact ZC .ret (.inl rfl) [_] t1 ⟨Zc (by rw [ZfA (ZcE hs oz),g4,Bool.false_and]),rfl,rfl⟩

set_option maxHeartbeats 400000 in
theorem Zie (q:Option Addr) (cp:Nat) (x:DBox) (B:Kn) (hx:SlK B q cp 3 Zar x.mail):Zaw (pj J) 98 [.agg #[.int .i64 x.next,.slice q x.mail.length cp]] B (.int .i64 (ZaW x.mail)):=by
 refine Zb 22 Try.func98 rfl rfl rfl (Nat.le_of_ble_eq_true rfl) ?_
 have hxn:=hx.len
 refine Za (xBx [_,_] (h:=fun b1=>xA (h:=Zaa [_] rfl (Za (xA (h:=Zg (Za (xA (h:=Zl (ZB (α:=Nat × Nat) [0,1,2] (fun g=>[(3,.int .i64 g.2),(4,.int .i64 g.1)]) [] (fun g=>[]) (fun g Bx=>Bx=B∧g.1≤x.mail.length∧g.2=ZaW (x.mail.take g.1)∧g.2≤g.1*2000000) (fun g=>x.mail.length - g.1) (0,0) t2 rfl (⟨rfl,Nat.zero_le _,by simp [ZaW],oz⟩) (fun g B2 hle2 hI=>?_)))))))))))
 obtain ⟨rfl,hk,hs,hl⟩:=hI
 refine ZF [(0,_),(1,_),(2,_),(3,_),(4,_)] [_] t5 rfl (Zg (Za (xM (h:=xW ZbL (h:=x1 Zh9 0 (h:=xV Try.underlying87 (h:=ZN (h:=Zd rfl (fun g1=>?_) (fun g1=>?_)))))))))
 try simp only [sQ,ne_eq] at g1
 refine Zh (Ze (Zg (Zl (Zk (xM (h:=xW ZbL (h:=x1 Zh9 0 (h:=xM (h:=?_)))))))))
 obtain ⟨m,hm⟩:=Z2 (xs:=x.mail) (i:=g.1) om
 obtain ⟨bb4,oo4,rfl⟩:=hx.base hm
 obtain ⟨_,⟨rfl,hb5⟩,hc5⟩:=hx.elem hm
 refine xIx Try.underlying87 Zb8 (h:=xW ZcJ (h:=y1 lk9 hc5 2 (h:=xVs Try.underlying9 (h:=xD (h:=xA (h:=ZY (Ze (Zk (xM (h:=xD (h:=xA (h:=?_))))))))))))
 exact ZJ (g.1+1,g.2+m.text.length) [0] so2 ⟨rfl,oz,by rw [ZfQ hm,← hs],oz⟩ t5 rfl
 try simp only [sQ,ne_eq] at g1
 refine ZH (Z3 (ZO (Zx (Ze (Za (xM (h:=xA (h:=Zj ?_))))))))
 exact ZC .ret (.inl rfl) [_] t1 ⟨ZaJ (by rw [← Zg2 hs oz]),rfl,rfl⟩

set_option maxHeartbeats 400000 in
theorem ZfL (u:DUser) (h1:u.name.length≤2000000) (h2:u.pass.length≤2000000) (B:Kn):Zaw (pj J) 83 [.agg #[str u.name,str u.pass,.int .i64 u.quota]] B (.bool (ZaV u)):=by
 refine Zb 26 Try.func83 rfl rfl rfl (Nat.le_of_ble_eq_true rfl) ?_
 refine Za (xBx [_,_,_] (h:=fun b1=>xA (h:=Zaa [_] rfl (Za (xW ZaK (h:=x1 lk9 0 (h:=xR Zl3 rfl (Zef _ om2 _) (h:=?_))))))))
 refine xM (h:=Zz (d:=6) rfl (fun g1=>?_) (fun g1=>?_))
 try simp only [sQ,ne_eq] at g1
 refine xW ZaK (h:=x1 lk9 0 (h:=ZbW (h:=xT (h:=xM (h:=Zz (d:=11) rfl (fun g2=>?_) (fun g2=>?_))))))
 try simp only [sQ,ne_eq] at g2
 refine xW ZdD (h:=x1 lk9 0 (h:=xR Zl3 rfl (Zef _ om2 _) (h:=?_)))
 refine xT (h:=xM (h:=Zz (d:=16) rfl (fun g3=>?_) (fun g3=>?_)))
 try simp only [sQ,ne_eq] at g3
 refine xW Zcw (h:=x1 lk3 0 (h:=ZeV (h:=xT (h:=xM (h:=Zz (d:=21) rfl (fun g4=>?_) (fun g4=>?_))))))
 try simp only [sQ,ne_eq] at g4
 refine xW Zcw (h:=x1 lk3 0 (h:=Zbl (h:=xT (h:=xA (h:=Zj ?_)))))
 exact ZC .ret (.inl rfl) [_] t1 ⟨Zc (by rw [Bool.eq_iff_iff];simp [ZaV,anyone,g1,g2,g3,g4];try omega),rfl,rfl⟩
 try simp only [sQ,ne_eq] at g4
 refine xP (h:=xP (h:=xP (h:=xF (h:=xA (h:=Zj ?_)))))
 exact ZC .ret (.inl rfl) [_] t1 ⟨Zc (by rw [Bool.eq_iff_iff];simp [ZaV,anyone,g1,g2,g3,g4];try omega),rfl,rfl⟩
 try simp only [sQ,ne_eq] at g3
 refine xP (h:=xP (h:=xP (h:=xF (h:=xM (h:=xP (h:=xP (h:=xP (h:=xF (h:=xA (h:=Zj ?_))))))))))
 exact ZC .ret (.inl rfl) [_] t1 ⟨Zc (by rw [Bool.eq_iff_iff];simp [ZaV,anyone,g1,g2,g3];try omega),rfl,rfl⟩
 try simp only [sQ,ne_eq] at g2
 refine xP (h:=xP (h:=xP (h:=xF (h:=xM (h:=xP (h:=xP (h:=xP (h:=xF (h:=xM (h:=xP (h:=xP (h:=xP (h:=?_)))))))))))))
 refine xF (h:=xA (h:=Zj ?_))
 exact ZC .ret (.inl rfl) [_] t1 ⟨Zc (by rw [Bool.eq_iff_iff];simp [ZaV,anyone,g1,g2];try omega),rfl,rfl⟩
 try simp only [sQ,ne_eq] at g1
 refine xP (h:=xP (h:=xP (h:=xF (h:=xM (h:=xP (h:=xP (h:=xP (h:=xF (h:=xM (h:=xP (h:=xP (h:=xP (h:=?_)))))))))))))
 refine xF (h:=xM (h:=xP (h:=xP (h:=xP (h:=xF (h:=xA (h:=Zj ?_)))))))
 exact ZC .ret (.inl rfl) [_] t1 ⟨Zc (by rw [Bool.eq_iff_iff];simp [ZaV,anyone,g1];try omega),rfl,rfl⟩

set_option maxHeartbeats 400000 in
theorem Zf2 (q:Option Addr) (cp:Nat) (us:List DUser) (B:Kn) (hu:SlK B q cp 3 Zv us):Zaw (pj J) 53 [.slice q us.length cp] B (.bool (Zad us)):=by
 refine Zb 32 Try.func53 rfl rfl rfl (Nat.le_of_ble_eq_true rfl) ?_
 have hun:=hu.len
 refine Za (xA (h:=Zg (Za (xM (h:=xV Try.underlying48 (h:=ZN (h:=xM (h:=Zz (d:=9) rfl (fun g0=>?_) (fun g0=>?_)))))))))
 try simp only [sQ,ne_eq] at g0
 refine xP (h:=xP (h:=xP (h:=xT (h:=Zd (t:=true) rfl (fun _=>Za (xA (h:=Zj (Zp ?_)))) (fun h=>Bool.noConfusion h)))))
 exact ZC .ret (.inl rfl) [_] t1 ⟨Zc (by rw [Bool.eq_iff_iff];simp [Zad];omega),rfl,rfl⟩
 try simp only [sQ,ne_eq] at g0
 refine xM (h:=xV Try.underlying48 (h:=ZiI (h:=xF (h:=Zd rfl (fun g0b=>?_) (fun g0b=>?_)))))
 try simp only [sQ,ne_eq] at g0b
 refine Za (xA (h:=Zj (Zp ?_)))
 exact ZC .ret (.inl rfl) [_] t1 ⟨Zc (by rw [Bool.eq_iff_iff];simp [Zad];omega),rfl,rfl⟩
 try simp only [sQ,ne_eq] at g0b
 refine Zh (Ze (Za (xA (h:=Zg (Za (xM (h:=xV Try.underlying48 (h:=xM (h:=Zl (ZB (α:=Nat × Str) [0,13,14,15] (fun g=>[(3,str g.2),(16,.int .i64 g.1)]) [] (fun g=>[]) (fun g Bx=>Bx=B∧g.1≤us.length∧Zbn (us.take g.1)=(true,g.2)∧g.2.length≤2000000) (fun g=>us.length - g.1) (0,[]) t2 rfl (⟨rfl,Nat.zero_le _,Zde,by simp⟩) (fun g B1 hle1 hI=>?_)))))))))))
 obtain ⟨rfl,hk,hs,hl⟩:=hI
 refine ZF [(0,_),(3,_),(13,_),(14,_),(15,_),(16,_)] [] t6 rfl (Za (ZN (h:=Zg (Zd rfl (fun g1=>?_) (fun g1=>?_)))))
 try simp only [sQ,ne_eq] at g1
 refine Zh (Ze (Zg (Zl (Za ?_))))
 obtain ⟨m,hm⟩:=Z2 (xs:=us) (i:=g.1) om
 obtain ⟨bb3,oo3,rfl⟩:=hu.base hm
 obtain ⟨_,⟨rfl,hb4,hb4b⟩,hc4⟩:=hu.elem hm
 refine xIx Try.underlying48 ZcY (h:=yL [_,_,_] ZjO hc4 0 (h:=xAl [_,_,_] Zjy (h:=fun b5=>xS [_,_,_] 0 [_,_,_] ZcY (h:=Zaa [_] rfl (Zg (Za (xL [_,_,_] ZjO 0 (h:=xR Zmr rfl (ZfL m om2 om2 _) (h:=?_)))))))))
 refine xN (h:=xM (h:=Zz (d:=23) rfl (fun g2=>?_) (fun g2=>?_)))
 try simp only [sQ,ne_eq] at g2
 refine xP (h:=xP (h:=xP (h:=xP (h:=xT (h:=Zd (t:=true) rfl (fun _=>Za (xA (h:=Zj (Zp (ZA (Zp (ZS (ZA (Zp ?_))))))))) (fun h=>Bool.noConfusion h))))))
 exact ZC .ret (.inl rfl) [_] t1 ⟨Zc (Zb7 (Zdf hm (by rw [show (scn ZbB (fun _ u=>u.name) [] (us.take g.1)).2=g.2 from congrArg Prod.snd hs];simp [ZbB,g2]))).symm,rfl,rfl⟩
 try simp only [sQ,ne_eq] at g2
 refine xW ZaK (h:=x1 lk9 0 (h:=xM (h:=Zr (ZkM rfl rfl rfl rfl (xF (h:=Zd rfl (fun g3=>?_) (fun g3=>?_)))))))
 try simp only [sQ,ne_eq] at g3
 refine Za (xA (h:=Zj (Zp (ZA (Zp (ZS (ZA (Zp ?_))))))))
 exact ZC .ret (.inl rfl) [_] t1 ⟨Zc (Zb7 (Zdf hm (by rw [show (scn ZbB (fun _ u=>u.name) [] (us.take g.1)).2=g.2 from congrArg Prod.snd hs,ZbB,ZbT g.2 m.name,g3];simp))).symm,rfl,rfl⟩
 try simp only [sQ,ne_eq] at g3
 refine Zh (Ze (Zk (xW ZaK (h:=x1 lk9 0 (h:=xA (h:=ZY (Ze (Zk (xD (h:=xM (h:=?_)))))))))))
 exact ZJ (g.1+1,m.name) [] so2 ⟨rfl,oz,Zbd hm hs (by rw [ZbB,ZbT g.2 m.name,g2,g3];rfl),oy⟩ t6 rfl
 try simp only [sQ,ne_eq] at g1
 refine ZH (Z3 (ZO (Zx (Ze (Za (xA (h:=Zj ?_)))))))
 exact ZC .ret (.inl rfl) [_] t1 ⟨Zc (by rw [Zda (ZcE hs oz),Bool.eq_iff_iff];simp;omega),rfl,rfl⟩

set_option maxHeartbeats 400000 in
theorem Zid (q1 q2 q3:Option Addr) (c1 c2 c3:Nat) (x:DHost) (ow nm:Str) (ho:ow.length≤2000000) (hn:nm.length≤2000000) (B:Kn) (hf:SlK B q2 c2 5 ZD x.folders):Zaw (pj J) 77 [.agg #[str x.domain,.slice q1 x.users.length c1,.slice q2 x.folders.length c2,.int .i64 x.queue.next,.slice q3 x.queue.items.length c3],str ow,str nm] B (.int .i64 (Zhs (inF ow nm) x.folders)):=by
 refine Zb 34 Try.func77 rfl rfl rfl (Nat.le_of_ble_eq_true rfl) ?_
 have hfn:=hf.len
 refine Za (xBx [_,_,_,_,_] (h:=fun b1=>xA (h:=Zaa [_] rfl (Zg (Za (xA (h:=Zl (ZB (α:=Nat) [0,1,2,3] (fun k=>[(7,.int .i64 k)]) [] (fun k=>[]) (fun k Bx=>Bx=B∧k≤x.folders.length∧∀y,y∈x.folders.take k→inF ow nm y=false) (fun k=>x.folders.length - k) 0 t1 rfl (⟨rfl,Nat.zero_le _,by simp⟩) (fun k B2 hle2 hI=>?_)))))))))
 obtain ⟨rfl,hk,ha⟩:=hI
 refine ZF [(0,_),(1,_),(2,_),(3,_),(7,_)] [_] t5 rfl (Zg (Za (xM (h:=xW ZaI (h:=x1 ZfG 0 (h:=xV Try.underlying49 (h:=ZN (h:=Zd rfl (fun g1=>?_) (fun g1=>?_)))))))))
 try simp only [sQ,ne_eq] at g1
 refine Zh (Ze (Zg (Zl (Za (xW ZaI (h:=x1 ZfG 0 (h:=xM (h:=?_))))))))
 obtain ⟨y,hy⟩:=Z2 (xs:=x.folders) (i:=k) om
 obtain ⟨bb4,oo4,rfl⟩:=hf.base hy
 obtain ⟨_,⟨qg5,cg5,qm5,cm5,rfl,hg5,hm5,hb5,hb5b⟩,hc5⟩:=hf.elem hy
 have hg5n:=hg5.len
 have hm5n:=hm5.len
 have hm5s:=Za5 hm5
 refine xIx Try.underlying49 Zc2 (h:=xW ZbK (h:=y1 lk9 hc5 0 (h:=xM (h:=ZdW (h:=xM (h:=Zz (d:=23) rfl (fun g2=>?_) (fun g2=>?_)))))))
 try simp only [sQ,ne_eq] at g2
 refine xW ZaI (h:=x1 ZfG 0 (h:=xM (h:=xIx Try.underlying49 Zc2 (h:=xW ZcU (h:=y1 lk9 hc5 1 (h:=xM (h:=ZdW (h:=xT (h:=Zd rfl (fun g3=>?_) (fun g3=>?_))))))))))
 try simp only [sQ,ne_eq] at g3
 refine Za (xM (h:=xA (h:=Zj (ZA (Zp (ZS (ZA (Zp ?_))))))))
 exact ZC .ret (.inl rfl) [_] t1 ⟨ZaJ (Zi7 hy (by simp [inF,g2,g3]) ha).symm,rfl,rfl⟩
 try simp only [sQ,ne_eq] at g3
 refine Zh (ZY (Ze (Zk (xM (h:=xD (h:=xA (h:=?_)))))))
 exact ZJ (k+1) [0] so2 ⟨rfl,oz,Zbw hy ha (by simp [inF,g2,g3])⟩ t5 rfl
 try simp only [sQ,ne_eq] at g2
 refine xP (h:=xP (h:=xP (h:=xP (h:=xP (h:=xP (h:=xP (h:=xP (h:=xF (h:=Zd (t:=false) rfl (fun h=>Bool.noConfusion h) (fun _=>Zh (ZY (Ze (Zk ?_)))))))))))))
 refine xM (h:=xD (h:=xA (h:=?_)))
 exact ZJ (k+1) [0] so2 ⟨rfl,oz,Zbw hy ha (by simp [inF,g2])⟩ t5 rfl
 try simp only [sQ,ne_eq] at g1
 refine ZH (Z3 (ZO (Zx (Ze (Za (xA (h:=Zj ?_)))))))
 exact ZC .ret (.inl rfl) [_] t1 ⟨ZaJ (Zii (ZbO oz ha)).symm,rfl,rfl⟩

set_option maxHeartbeats 400000 in
theorem Zic (f g:DFolder) (qa qb qc qd:Option Addr) (ca cb cc cd:Nat) (B:Kn):Zaw (pj J) 97 [.agg #[str f.owner,str f.name,.slice qa f.grants.length ca,.int .i64 f.next,.slice qb f.mail.length cb],.agg #[str g.owner,str g.name,.slice qc g.grants.length cc,.int .i64 g.next,.slice qd g.mail.length cd]] B (.bool (ZeB f g)):=by
 refine Zb 24 Try.func97 rfl rfl rfl (Nat.le_of_ble_eq_true rfl) ?_
 refine Za (xBx [_,_,_,_,_] (h:=fun b1=>xBx [_,_,_,_,_] (h:=fun b2=>xA (h:=Zaa [_,_] rfl (Za (xW ZbK (h:=x1 lk9 0 (h:=xW ZbK (h:=x1 lk9 1 (h:=Zjz (h:=xM (h:=Zz (d:=10) rfl (fun g1=>?_) (fun g1=>?_)))))))))))))
 try simp only [sQ,ne_eq] at g1
 refine xP (h:=xP (h:=xP (h:=xP (h:=xP (h:=xP (h:=xP (h:=xP (h:=xP (h:=xP (h:=xP (h:=xP (h:=xT (h:=?_)))))))))))))
 refine xA (h:=Zj ?_)
 exact ZC .ret (.inl rfl) [_] t1 ⟨Zc (by rw [Bool.eq_iff_iff];simp [ZeB,ZeA,g1]),rfl,rfl⟩
 try simp only [sQ,ne_eq] at g1
 refine xW ZbK (h:=x1 lk9 0 (h:=xW ZbK (h:=x1 lk9 1 (h:=ZdW (h:=xM (h:=Zz (d:=16) rfl (fun g2=>?_) (fun g2=>?_)))))))
 try simp only [sQ,ne_eq] at g2
 refine xW ZcU (h:=x1 lk9 0 (h:=xW ZcU (h:=x1 lk9 1 (h:=Zjz (h:=xT (h:=xF (h:=xA (h:=Zj ?_))))))))
 exact ZC .ret (.inl rfl) [_] t1 ⟨Zc (by rw [Bool.eq_iff_iff];simp [ZeB,ZeA,g1,g2]),rfl,rfl⟩
 try simp only [sQ,ne_eq] at g2
 refine xP (h:=xP (h:=xP (h:=xP (h:=xP (h:=xF (h:=xF (h:=xA (h:=Zj ?_))))))))
 exact ZC .ret (.inl rfl) [_] t1 ⟨Zc (by rw [Bool.eq_iff_iff];simp [ZeB,ZeA,g1,g2]),rfl,rfl⟩

set_option maxHeartbeats 400000 in
theorem ZfO (q:Option Addr) (cp:Nat) (us:List DUser) (B:Kn) (hu:SlK B q cp 3 Zv us):Zaw (pj J) 75 [.slice q us.length cp] B (.bool (Zad us)):=by
 refine Zb 54 Try.func75 rfl rfl rfl (Nat.le_of_ble_eq_true rfl) ?_
 have hun:=hu.len
 refine Za (xA (h:=Zg (Za (xA (h:=Zl (ZB (α:=Nat × Str) [0] (fun g=>[(3,.int .i64 g.1)]) [] (fun g=>[]) (fun g Bx=>Bx=B∧g.1≤us.length∧Zbn (us.take g.1)=(true,g.2)∧Prev (fun y=>y.name) ([]:Str) us g.1 g.2) (fun g=>us.length - g.1) (0,[]) t1 rfl (⟨rfl,Nat.zero_le _,Zde,.zero⟩) (fun g B1 hle1 hI=>?_)))))))
 obtain ⟨rfl,hk,hs,hp⟩:=hI
 refine ZF [(0,_),(3,_)] [] t2 rfl (Zg (Za (xM (h:=xM (h:=xV Try.underlying48 (h:=ZN (h:=Zd rfl (fun g1=>?_) (fun g1=>?_))))))))
 try simp only [sQ,ne_eq] at g1
 refine Zh (Ze (Zg (Zl (Za (xM (h:=xM (h:=?_)))))))
 obtain ⟨m,hm⟩:=Z2 (xs:=us) (i:=g.1) om
 obtain ⟨bb3,oo3,rfl⟩:=hu.base hm
 obtain ⟨_,⟨rfl,hb4,hb4b⟩,hc4⟩:=hu.elem hm
 refine xIx Try.underlying48 ZcY (h:=yL [_,_,_] ZjO hc4 0 (h:=xAl [_,_,_] Zjy (h:=fun b5=>xS [_,_,_] 0 [_,_,_] ZcY (h:=Zaa [_] rfl (Zg (Z7 (same _ _) mo kr ⟨rfl,rfl⟩ (fun _ _=>?_)))))))
 refine aW 0 rfl ZaK (h:=aT 1 rfl (ZU fun D=>Zq rfl rfl lk9 rfl (atL 0 rfl rfl rfl) r4) (h:=aT 2 rfl (ZU fun D=>ZZ rfl rfl Zkx rfl (ZaM _ om2 _) r4) (h:=?_)))
 refine aN 3 rfl (h:=aM 4 rfl (h:=Zai (d:=19) rfl (fun g2=>?_) (fun g2=>?_)))
 try simp only [sQ,ne_eq] at g2
 refine aZ 5 rfl (h:=aZ 6 rfl (h:=aZ 7 rfl (h:=aPT 8 rfl (h:=aM 9 rfl (h:=aZ 10 rfl (h:=aZ 11 rfl (h:=aZ 12 rfl (h:=aZ 13 rfl (h:=aPT 14 rfl (h:=aM 15 rfl (h:=aZ 16 rfl (h:=aZ 17 rfl (h:=?_)))))))))))))
 refine aZ 18 rfl (h:=aZ 19 rfl (h:=aPT 20 rfl (h:=aM 21 rfl (h:=aZ 22 rfl (h:=aZ 23 rfl (h:=aZ 24 rfl (h:=aZ 25 rfl (h:=aZ 26 rfl (h:=aZ 27 rfl (h:=aZ 28 rfl (h:=aZ 29 rfl (h:=aZ 30 rfl (h:=?_)))))))))))))
 refine aZ 31 rfl (h:=aZ 32 rfl (h:=aZ 33 rfl (h:=aZ 34 rfl (h:=aPT 35 rfl (h:=Zs kr kr ?_)))))
 refine Ze (Zd (t:=true) rfl (fun _=>Za (xA (h:=Zj (ZA (Zp (ZS (ZA (Zp ?_)))))))) (fun h=>Bool.noConfusion h))
 exact ZC .ret (.inl rfl) [_] t1 ⟨Zc (Za3 hm hs (by simp [ZbB,ZaV,anyone,g1,g2])).symm,rfl,rfl⟩
 try simp only [sQ,ne_eq] at g2
 refine aW 5 rfl ZaK (h:=aT 6 rfl (ZU fun D=>Zq rfl rfl lk9 rfl (atL 0 rfl rfl rfl) r4) (h:=Zlg 7 rfl (h:=aPF 8 rfl (h:=aM 9 rfl (h:=Zai (d:=24) rfl (fun g3=>?_) (fun g3=>?_))))))
 try simp only [sQ,ne_eq] at g3
 refine aZ 10 rfl (h:=aZ 11 rfl (h:=aZ 12 rfl (h:=aZ 13 rfl (h:=aPT 14 rfl (h:=aM 15 rfl (h:=aZ 16 rfl (h:=aZ 17 rfl (h:=aZ 18 rfl (h:=aZ 19 rfl (h:=aPT 20 rfl (h:=aM 21 rfl (h:=aZ 22 rfl (h:=?_)))))))))))))
 refine aZ 23 rfl (h:=aZ 24 rfl (h:=aZ 25 rfl (h:=aZ 26 rfl (h:=aZ 27 rfl (h:=aZ 28 rfl (h:=aZ 29 rfl (h:=aZ 30 rfl (h:=aZ 31 rfl (h:=aZ 32 rfl (h:=aZ 33 rfl (h:=aZ 34 rfl (h:=aPT 35 rfl (h:=?_)))))))))))))
 refine Zs kr kr ?_
 refine Ze (Zd (t:=true) rfl (fun _=>Za (xA (h:=Zj (ZA (Zp (ZS (ZA (Zp ?_)))))))) (fun h=>Bool.noConfusion h))
 exact ZC .ret (.inl rfl) [_] t1 ⟨Zc (Za3 hm hs (by simp [ZbB,ZaV,anyone,g1,g2,g3])).symm,rfl,rfl⟩
 try simp only [sQ,ne_eq] at g3
 refine aW 10 rfl ZdD (h:=aT 11 rfl (ZU fun D=>Zq rfl rfl lk9 rfl (atL 0 rfl rfl rfl) r4) (h:=aT 12 rfl (ZU fun D=>ZZ rfl rfl Zkx rfl (ZaM _ om2 _) r4) (h:=?_)))
 refine aN 13 rfl (h:=aPF 14 rfl (h:=aM 15 rfl (h:=Zai (d:=30) rfl (fun g4=>?_) (fun g4=>?_))))
 try simp only [sQ,ne_eq] at g4
 refine aZ 16 rfl (h:=aZ 17 rfl (h:=aZ 18 rfl (h:=aZ 19 rfl (h:=aPT 20 rfl (h:=aM 21 rfl (h:=aZ 22 rfl (h:=aZ 23 rfl (h:=aZ 24 rfl (h:=aZ 25 rfl (h:=aZ 26 rfl (h:=aZ 27 rfl (h:=aZ 28 rfl (h:=?_)))))))))))))
 refine aZ 29 rfl (h:=aZ 30 rfl (h:=aZ 31 rfl (h:=aZ 32 rfl (h:=aZ 33 rfl (h:=aZ 34 rfl (h:=aPT 35 rfl (h:=Zs kr kr ?_)))))))
 refine Ze (Zd (t:=true) rfl (fun _=>Za (xA (h:=Zj (ZA (Zp (ZS (ZA (Zp ?_)))))))) (fun h=>Bool.noConfusion h))
 exact ZC .ret (.inl rfl) [_] t1 ⟨Zc (Za3 hm hs (by simp [ZbB,ZaV,anyone,g1,g2,g3,g4])).symm,rfl,rfl⟩
 try simp only [sQ,ne_eq] at g4
 refine aW 16 rfl Zcw (h:=aT 17 rfl (ZU fun D=>Zq rfl rfl lk3 rfl (atL 0 rfl rfl rfl) r4) (h:=aT 18 rfl (ZU fun D=>ZZ rfl rfl Zji rfl (Zct _ _ _ _) r4) (h:=aN 19 rfl (h:=aPF 20 rfl (h:=aM 21 rfl (h:=Zai (d:=36) rfl (fun g5=>?_) (fun g5=>?_)))))))
 try simp only [sQ,ne_eq] at g5
 refine aZ 22 rfl (h:=aZ 23 rfl (h:=aZ 24 rfl (h:=aZ 25 rfl (h:=aZ 26 rfl (h:=aZ 27 rfl (h:=aZ 28 rfl (h:=aZ 29 rfl (h:=aZ 30 rfl (h:=aZ 31 rfl (h:=aZ 32 rfl (h:=aZ 33 rfl (h:=aZ 34 rfl (h:=?_)))))))))))))
 refine aPT 35 rfl (h:=Zs kr kr ?_)
 refine Ze (Zd (t:=true) rfl (fun _=>Za (xA (h:=Zj (ZA (Zp (ZS (ZA (Zp ?_)))))))) (fun h=>Bool.noConfusion h))
 exact ZC .ret (.inl rfl) [_] t1 ⟨Zc (Za3 hm hs (by simp [ZbB,ZaV,anyone,g1,g2,g3,g4,g5])).symm,rfl,rfl⟩
 try simp only [sQ,ne_eq] at g5
 refine aM 22 rfl (h:=Zjq 23 rfl (h:=aM 24 rfl (h:=Zai (d:=39) rfl (fun g6=>?_) (fun g6=>?_))))
 try simp only [sQ,ne_eq] at g6
 refine aM 25 rfl (h:=aM 26 rfl (h:=aU 27 rfl (h:=?_)))
 obtain ⟨y,hy⟩:=ZlE (xs:=us) (i:=(↑g.1 - 1)) om om
 obtain ⟨_,⟨rfl,hb10,hb10b⟩,hc10⟩:=hu.elem hy
 refine aIx 28 rfl Try.underlying48 ZcY (h:=?_)
 have hpe:=hp.at hy oz
 refine aW 29 rfl ZaK (h:=aT 30 rfl (ZU fun D=>Zq rfl rfl lk9 rfl (hc10 _ 0 _ rfl) r4) (h:=aW 31 rfl ZaK (h:=aT 32 rfl (ZU fun D=>Zq rfl rfl lk9 rfl (atL 0 rfl rfl rfl) r4) (h:=aT 33 rfl (ZU fun D=>ZjG rfl rfl rfl rfl r4) (h:=aPT 34 rfl (h:=aPF 35 rfl (h:=Zs kr kr ?_)))))))
 refine Ze (Zd rfl (fun g7=>?_) (fun g7=>?_))
 try simp only [sQ,ne_eq] at g7
 refine Za (xA (h:=Zj (ZA (Zp (ZS (ZA (Zp ?_)))))))
 exact ZC .ret (.inl rfl) [_] t1 ⟨Zc (Za3 hm hs (by simp [ZbB,ZaV,anyone,g1,g2,g3,g4,g5,g6,g7,hpe])).symm,rfl,rfl⟩
 try simp only [sQ,ne_eq] at g7
 refine Zh (ZY (Ze (Zk (xM (h:=xD (h:=xA (h:=?_)))))))
 exact ZJ (g.1+1,m.name) [] so2 ⟨rfl,oz,Zbd hm hs (by rw [hpe];simp [ZbB,ZaV,anyone,g2,g3,g4,g7];simp at g5;omega),.succ hm⟩ t2 rfl
 try simp only [sQ,ne_eq] at g6
 refine aZ 25 rfl (h:=aZ 26 rfl (h:=aZ 27 rfl (h:=aZ 28 rfl (h:=aZ 29 rfl (h:=aZ 30 rfl (h:=aZ 31 rfl (h:=aZ 32 rfl (h:=aZ 33 rfl (h:=aPF 34 rfl (h:=aPF 35 rfl (h:=Zs kr kr ?_)))))))))))
 refine Ze (Zd (t:=false) rfl (fun h=>Bool.noConfusion h) (fun _=>Zh (ZY (Ze (Zk (xM (h:=xD (h:=xA (h:=?_)))))))))
 exact ZJ (g.1+1,m.name) [] so2 ⟨rfl,oz,Zbd hm hs (by rw [hp.at0 oz];simp [ZbB,ZaV,anyone,g2,g3,g4,ZgD (Zea g2)];simp at g5;omega),.succ hm⟩ t2 rfl
 try simp only [sQ,ne_eq] at g1
 refine ZH (Z3 (ZO (Zx (Ze (Za (xM (h:=xV Try.underlying48 (h:=xR Zji rfl (Zct _ _ _ _) (h:=xA (h:=Zj ?_))))))))))
 exact ZC .ret (.inl rfl) [_] t1 ⟨Zc (by rw [Zda (ZcE hs oz),Bool.eq_iff_iff];simp;omega),rfl,rfl⟩

set_option maxHeartbeats 400000 in
theorem ZhP (q:Option Addr) (cp:Nat) (gs:List DGrant) (B:Kn) (hg:SlK B q cp 2 Z1 gs):Zaw (pj J) 95 [.slice q gs.length cp] B (.bool (Zgm gs)):=by
 refine Zb 47 Try.func95 rfl rfl rfl (Nat.le_of_ble_eq_true rfl) ?_
 have hgn:=hg.len
 refine Za (xA (h:=Zg (Za (xA (h:=Zl (ZB (α:=Nat × Str) [0] (fun g=>[(3,.int .i64 g.1)]) [] (fun g=>[]) (fun g Bx=>Bx=B∧g.1≤gs.length∧ZbJ (gs.take g.1)=(true,g.2)∧Prev (fun y=>y.user) ([]:Str) gs g.1 g.2) (fun g=>gs.length - g.1) (0,[]) t1 rfl (⟨rfl,Nat.zero_le _,Zde,.zero⟩) (fun g B1 hle1 hI=>?_)))))))
 obtain ⟨rfl,hk,hs,hp⟩:=hI
 refine ZF [(0,_),(3,_)] [] t2 rfl (Zg (Za (xM (h:=xM (h:=xV Try.underlying86 (h:=ZN (h:=Zd rfl (fun g1=>?_) (fun g1=>?_))))))))
 try simp only [sQ,ne_eq] at g1
 refine Zh (Ze (Zg (Zl (Zg (Z7 (same _ _) mo kr ⟨rfl,rfl⟩ (fun _ _=>?_))))))
 refine aM 0 rfl (h:=aM 1 rfl (h:=?_))
 obtain ⟨m,hm⟩:=Z2 (xs:=gs) (i:=g.1) om
 obtain ⟨bb3,oo3,rfl⟩:=hg.base hm
 obtain ⟨_,⟨rfl,hb4⟩,hc4⟩:=hg.elem hm
 refine aIx 2 rfl Try.underlying86 ZcB (h:=aW 3 rfl Zcf (h:=aT 4 rfl (ZU fun D=>Zq rfl rfl lk9 rfl (hc4 _ 0 _ rfl) r4) (h:=aT 5 rfl (ZU fun D=>ZZ rfl rfl Zkx rfl (ZaM _ om2 _) r4) (h:=?_))))
 refine aN 6 rfl (h:=aM 7 rfl (h:=Zai (d:=17) rfl (fun g2=>?_) (fun g2=>?_)))
 try simp only [sQ,ne_eq] at g2
 refine aZ 8 rfl (h:=aZ 9 rfl (h:=aZ 10 rfl (h:=aZ 11 rfl (h:=aZ 12 rfl (h:=aZ 13 rfl (h:=aZ 14 rfl (h:=aPT 15 rfl (h:=aM 16 rfl (h:=aZ 17 rfl (h:=aZ 18 rfl (h:=aZ 19 rfl (h:=aZ 20 rfl (h:=?_)))))))))))))
 refine aZ 21 rfl (h:=aZ 22 rfl (h:=aZ 23 rfl (h:=aZ 24 rfl (h:=aZ 25 rfl (h:=aZ 26 rfl (h:=aZ 27 rfl (h:=aZ 28 rfl (h:=aZ 29 rfl (h:=aZ 30 rfl (h:=aZ 31 rfl (h:=aZ 32 rfl (h:=aPT 33 rfl (h:=?_)))))))))))))
 refine Zs kr kr ?_
 refine Ze (Zd (t:=true) rfl (fun _=>Za (xA (h:=Zj (ZA (Zp (ZS (ZA (Zp ?_)))))))) (fun h=>Bool.noConfusion h))
 exact ZC .ret (.inl rfl) [_] t1 ⟨Zc (ZdM hm hs (by simp [ZdA,g1,g2])).symm,rfl,rfl⟩
 try simp only [sQ,ne_eq] at g2
 refine aM 8 rfl (h:=aM 9 rfl (h:=aIx 10 rfl Try.underlying86 ZcB (h:=aW 11 rfl ZdG (h:=aT 12 rfl (ZU fun D=>Zq rfl rfl lk3 rfl (hc4 _ 1 _ rfl) r4) (h:=aT 13 rfl (ZU fun D=>ZZ rfl rfl Zji rfl (Zct _ _ _ _) r4) (h:=aN 14 rfl (h:=aPF 15 rfl (h:=aM 16 rfl (h:=Zai (d:=26) rfl (fun g4=>?_) (fun g4=>?_))))))))))
 try simp only [sQ,ne_eq] at g4
 refine aZ 17 rfl (h:=aZ 18 rfl (h:=aZ 19 rfl (h:=aZ 20 rfl (h:=aZ 21 rfl (h:=aZ 22 rfl (h:=aZ 23 rfl (h:=aZ 24 rfl (h:=aZ 25 rfl (h:=aZ 26 rfl (h:=aZ 27 rfl (h:=aZ 28 rfl (h:=aZ 29 rfl (h:=?_)))))))))))))
 refine aZ 30 rfl (h:=aZ 31 rfl (h:=aZ 32 rfl (h:=aPT 33 rfl (h:=Zs kr kr ?_))))
 refine Ze (Zd (t:=true) rfl (fun _=>Za (xA (h:=Zj (ZA (Zp (ZS (ZA (Zp ?_)))))))) (fun h=>Bool.noConfusion h))
 exact ZC .ret (.inl rfl) [_] t1 ⟨Zc (ZdM hm hs (by simp [ZdA,g1,g2,g4])).symm,rfl,rfl⟩
 try simp only [sQ,ne_eq] at g4
 refine aM 17 rfl (h:=Zjq 18 rfl (h:=aM 19 rfl (h:=Zai (d:=29) rfl (fun g6=>?_) (fun g6=>?_))))
 try simp only [sQ,ne_eq] at g6
 refine aM 20 rfl (h:=aM 21 rfl (h:=aU 22 rfl (h:=?_)))
 obtain ⟨y,hy⟩:=ZlE (xs:=gs) (i:=(↑g.1 - 1)) om om
 obtain ⟨_,⟨rfl,hb8⟩,hc8⟩:=hg.elem hy
 refine aIx 23 rfl Try.underlying86 ZcB (h:=?_)
 have hpe:=hp.at hy oz
 refine aW 24 rfl Zcf (h:=aT 25 rfl (ZU fun D=>Zq rfl rfl lk9 rfl (hc8 _ 0 _ rfl) r4) (h:=aM 26 rfl (h:=aM 27 rfl (h:=aIx 28 rfl Try.underlying86 ZcB (h:=aW 29 rfl Zcf (h:=aT 30 rfl (ZU fun D=>Zq rfl rfl lk9 rfl (hc4 _ 0 _ rfl) r4) (h:=aT 31 rfl (ZU fun D=>ZjG rfl rfl rfl rfl r4) (h:=aPT 32 rfl (h:=aPF 33 rfl (h:=Zs kr kr ?_))))))))))
 refine Ze (Zd rfl (fun g7=>?_) (fun g7=>?_))
 try simp only [sQ,ne_eq] at g7
 refine Za (xA (h:=Zj (ZA (Zp (ZS (ZA (Zp ?_)))))))
 exact ZC .ret (.inl rfl) [_] t1 ⟨Zc (ZdM hm hs (by simp [ZdA,g1,g2,g4,g6,g7,hpe])).symm,rfl,rfl⟩
 try simp only [sQ,ne_eq] at g7
 refine Zh (ZY (Ze (Zk (xM (h:=xD (h:=xA (h:=?_)))))))
 exact ZJ (g.1+1,m.user) [] so2 ⟨rfl,oz,Zbd hm hs (by rw [hpe];simp [ZdA,g2,g7];simp at g4;omega),.succ hm⟩ t2 rfl
 try simp only [sQ,ne_eq] at g6
 refine aZ 20 rfl (h:=aZ 21 rfl (h:=aZ 22 rfl (h:=aZ 23 rfl (h:=aZ 24 rfl (h:=aZ 25 rfl (h:=aZ 26 rfl (h:=aZ 27 rfl (h:=aZ 28 rfl (h:=aZ 29 rfl (h:=aZ 30 rfl (h:=aZ 31 rfl (h:=aPF 32 rfl (h:=?_)))))))))))))
 refine aPF 33 rfl (h:=Zs kr kr ?_)
 refine Ze (Zd (t:=false) rfl (fun h=>Bool.noConfusion h) (fun _=>Zh (ZY (Ze (Zk (xM (h:=xD (h:=xA (h:=?_)))))))))
 exact ZJ (g.1+1,m.user) [] so2 ⟨rfl,oz,Zbd hm hs (by rw [hp.at0 oz];simp [ZdA,g2,ZgD (Zea g2)];simp at g4;omega),.succ hm⟩ t2 rfl
 try simp only [sQ,ne_eq] at g1
 refine ZH (Z3 (ZO (Zx (Ze (Za (xM (h:=xV Try.underlying86 (h:=Zbl (h:=xA (h:=Zj ?_))))))))))
 exact ZC .ret (.inl rfl) [_] t1 ⟨Zc (by rw [ZiB (ZcE hs oz),Bool.eq_iff_iff];simp;try omega),rfl,rfl⟩

set_option maxHeartbeats 400000 in
theorem Zhc (q1 q2 q3:Option Addr) (c1 c2 c3:Nat) (x:DHost) (q:Option Addr) (cp:Nat) (ns:List Str) (B:Kn) (hu:SlK B q1 c1 3 Zv x.users) (hn:SlK B q cp 1 Zc4 ns):Zaw (pj J) 80 [.agg #[str x.domain,.slice q1 x.users.length c1,.slice q2 x.folders.length c2,.int .i64 x.queue.next,.slice q3 x.queue.items.length c3],.slice q ns.length cp] B (.bool (ZgH x.users ns)):=by
 refine Zb 20 Try.func80 rfl rfl rfl (Nat.le_of_ble_eq_true rfl) ?_
 have hnn:=hn.len
 have hun:=hu.len
 refine Za (xBx [_,_,_,_,_] (h:=fun b1=>xA (h:=Zaa [_] rfl (Zg (Za (xA (h:=Zl (ZB (α:=Nat) [0,1,2] (fun k=>[(5,.int .i64 k)]) [] (fun k=>[]) (fun k Bx=>Bx=B∧k≤ns.length∧∀z,z∈ns.take k→decide (0≤Zhe x.users z)=true) (fun k=>ns.length - k) 0 t1 rfl (⟨rfl,Nat.zero_le _,by simp⟩) (fun k B2 hle2 hI=>?_)))))))))
 obtain ⟨rfl,hk,ha⟩:=hI
 refine ZF [(0,_),(1,_),(2,_),(5,_)] [_] t4 rfl (Zg (Za (xM (h:=xM (h:=xV Try.underlying35 (h:=ZN (h:=Zd rfl (fun g1=>?_) (fun g1=>?_))))))))
 try simp only [sQ,ne_eq] at g1
 refine Zh (Ze (Zg (Zl (Zg (Z7 (same _ _) mo kr ⟨rfl,rfl⟩ (fun _ _=>?_))))))
 refine aW 0 rfl ZbA (h:=aT 1 rfl (ZU fun D=>Zq rfl rfl Zhr rfl (atL 0 rfl rfl rfl) r4) (h:=aM 2 rfl (h:=aM 3 rfl (h:=?_))))
 obtain ⟨z,hz⟩:=Z2 (xs:=ns) (i:=k) om
 obtain ⟨bb4,oo4,rfl⟩:=hn.base hz
 obtain ⟨_,⟨rfl,hb5⟩,hc5⟩:=hn.elem hz
 refine aIx 4 rfl Try.underlying35 sz9 (h:=aT 5 rfl (ZU fun D=>Zq rfl rfl lk9 rfl (hc5 _ 0 _ rfl) r4) (h:=aT 6 rfl (ZU fun D=>ZZ rfl rfl ZlI rfl (Zds _ _ _ _ _ hu) r4) (h:=ZkC 7 rfl (h:=Zs kr kr ?_))))
 refine Ze (Zd rfl (fun g2=>?_) (fun g2=>?_))
 try simp only [sQ,ne_eq] at g2
 refine Za (xA (h:=Zj (ZA (Zp (ZS (ZA (Zp ?_)))))))
 exact ZC .ret (.inl rfl) [_] t1 ⟨Zc (ZeS hz (by simp;omega)).symm,rfl,rfl⟩
 try simp only [sQ,ne_eq] at g2
 refine Zh (ZY (Ze (Zk (xM (h:=xD (h:=xA (h:=?_)))))))
 exact ZJ (k+1) [0] so2 ⟨rfl,oz,Zbw hz ha (by simp;omega)⟩ t4 rfl
 try simp only [sQ,ne_eq] at g1
 refine ZH (Z3 (ZO (Zx (Ze (Za (xA (h:=Zj ?_)))))))
 exact ZC .ret (.inl rfl) [_] t1 ⟨Zc (ZeR (ZbO oz ha)).symm,rfl,rfl⟩

set_option maxHeartbeats 400000 in
theorem Zib (q1 q2 q3:Option Addr) (c1 c2 c3:Nat) (x:DHost) (u:Str) (B:Kn) (hf:SlK B q2 c2 5 ZD x.folders):Zaw (pj J) 78 [.agg #[str x.domain,.slice q1 x.users.length c1,.slice q2 x.folders.length c2,.int .i64 x.queue.next,.slice q3 x.queue.items.length c3],str u] B (.int .i64 (Zck x.folders u)):=by
 refine Zb 32 Try.func78 rfl rfl rfl (Nat.le_of_ble_eq_true rfl) ?_
 have hfn:=hf.len
 refine Za (xBx [_,_,_,_,_] (h:=fun b1=>xA (h:=Zaa [_] rfl (Za (xA (h:=Zg (Za (xA (h:=Zl (ZB (α:=Nat × Nat) [0,1,2,4] (fun g=>[(5,.int .i64 g.2),(6,.int .i64 g.1)]) [] (fun g=>[]) (fun g Bx=>Bx=B∧g.1≤x.folders.length∧g.2=Zck (x.folders.take g.1) u∧g.2≤g.1*4000000000000) (fun g=>x.folders.length - g.1) (0,0) t2 rfl (⟨rfl,Nat.zero_le _,by simp [Zck],oz⟩) (fun g B2 hle2 hI=>?_)))))))))))
 obtain ⟨rfl,hk,hs,hl⟩:=hI
 refine ZF [(0,_),(1,_),(2,_),(4,_),(5,_),(6,_)] [_] t6 rfl (Zg (Za (xM (h:=xW ZaI (h:=x1 ZfG 0 (h:=xV Try.underlying49 (h:=ZN (h:=Zd rfl (fun g1=>?_) (fun g1=>?_)))))))))
 try simp only [sQ,ne_eq] at g1
 refine Zh (Ze (Zg (Zl (Za (xW ZaI (h:=x1 ZfG 0 (h:=xM (h:=?_))))))))
 obtain ⟨m,hm⟩:=Z2 (xs:=x.folders) (i:=g.1) om
 obtain ⟨bb4,oo4,rfl⟩:=hf.base hm
 obtain ⟨_,⟨qg5,cg5,qm5,cm5,rfl,hg5,hm5,hb5,hb5b⟩,hc5⟩:=hf.elem hm
 have hg5n:=hg5.len
 have hm5n:=hm5.len
 have hm5s:=Za5 hm5
 refine xIx Try.underlying49 Zc2 (h:=xW ZbK (h:=y1 lk9 hc5 0 (h:=xM (h:=ZdW (h:=Zd rfl (fun g2=>?_) (fun g2=>?_))))))
 try simp only [sQ,ne_eq] at g2
 refine Zk (xM (h:=xW ZaI (h:=x1 ZfG 0 (h:=xM (h:=xIx Try.underlying49 Zc2 (h:=xW ZcT (h:=yL [_,_] Zll hc5 3 (h:=xR Zmh rfl (Zie _ _ (⟨m.next,m.mail⟩:DBox) _ hm5) (h:=xD (h:=xA (h:=ZY (Ze (Zk ?_)))))))))))))
 refine xM (h:=xD (h:=xA (h:=?_)))
 exact ZJ (g.1+1,g.2+ZaW m.mail) [0] so2 ⟨rfl,so,by rw [Zd2 hm,← hs,if_pos g2],so⟩ t6 rfl
 try simp only [sQ,ne_eq] at g2
 refine Zh (ZY (Ze (Zk (xM (h:=xD (h:=xA (h:=?_)))))))
 exact ZJ (g.1+1,g.2) [0] so2 ⟨rfl,so,by rw [Zd2 hm,← hs,if_neg g2];simp only [Nat.add_zero],Nat.le_trans hl (Nat.mul_le_mul_right _ (Nat.le_succ _))⟩ t6 rfl
 try simp only [sQ,ne_eq] at g1
 refine ZH (Z3 (ZO (Zx (Ze (Za (xM (h:=xA (h:=Zj ?_))))))))
 exact ZC .ret (.inl rfl) [_] t1 ⟨ZaJ (by rw [← ZhD hs oz]),rfl,rfl⟩

set_option maxHeartbeats 400000 in
theorem Zfk (q1 q2 q3:Option Addr) (c1 c2 c3:Nat) (x:DHost) (B:Kn) (hu:SlK B q1 c1 3 Zv x.users) (hf:SlK B q2 c2 5 ZD x.folders):Zaw (pj J) 76 [.agg #[str x.domain,.slice q1 x.users.length c1,.slice q2 x.folders.length c2,.int .i64 x.queue.next,.slice q3 x.queue.items.length c3]] B (.bool (Zaq x.users x.folders)):=by
 refine Zb 60 Try.func76 rfl rfl rfl (Nat.le_of_ble_eq_true rfl) ?_
 have hfn:=hf.len
 have hun:=hu.len
 refine Za (xBx [_,_,_,_,_] (h:=fun b1=>xA (h:=Zaa [_] rfl (Zg (Za (xA (h:=Zl (ZB (α:=Nat × Option DFolder) [0,1] (fun g=>[(3,.int .i64 g.1)]) [] (fun g=>[]) (fun g Bx=>Bx=B∧g.1≤x.folders.length∧Za0 x.users (x.folders.take g.1)=(true,g.2)∧Prev some none x.folders g.1 g.2) (fun g=>x.folders.length - g.1) (0,none) t1 rfl (⟨rfl,Nat.zero_le _,Zde,.zero⟩) (fun g B2 hle2 hI=>?_)))))))))
 obtain ⟨rfl,hk,hs,hp⟩:=hI
 refine ZF [(0,_),(1,_),(3,_)] [_] t3 rfl (Zg (Za (xM (h:=xW ZaI (h:=x1 ZfG 0 (h:=xV Try.underlying49 (h:=ZN (h:=Zd rfl (fun g1=>?_) (fun g1=>?_)))))))))
 try simp only [sQ,ne_eq] at g1
 refine Zh (Ze (Zg (Zl (Za (xW ZaI (h:=x1 ZfG 0 (h:=xM (h:=?_))))))))
 obtain ⟨m,hm⟩:=Z2 (xs:=x.folders) (i:=g.1) om
 obtain ⟨bb4,oo4,rfl⟩:=hf.base hm
 obtain ⟨_,⟨qg5,cg5,qm5,cm5,rfl,hg5,hm5,hb5,hb5b⟩,hc5⟩:=hf.elem hm
 have hg5n:=hg5.len
 have hm5n:=hm5.len
 have hm5s:=Za5 hm5
 refine xIx Try.underlying49 Zc2 (h:=yL [_,_,_,_,_] ZkG hc5 0 (h:=xAl [_,_,_,_,_] ZiG (h:=fun b6=>xS [_,_,_,_,_] 1 [_,_,_,_,_] Zc2 (h:=Zaa [_,_] rfl (Zg (Z7 (same _ _) mo kr ⟨rfl,rfl⟩ (fun _ _=>?_)))))))
 refine aW 0 rfl ZbA (h:=aT 1 rfl (ZU fun D=>Zq rfl rfl Zhr rfl (atL 0 rfl rfl rfl) r4) (h:=aW 2 rfl ZbK (h:=aT 3 rfl (ZU fun D=>Zq rfl rfl lk9 rfl (atL 1 rfl rfl rfl) r4) (h:=aT 4 rfl (ZU fun D=>ZZ rfl rfl ZlI rfl (Zds _ _ _ _ _ hu) r4) (h:=ZkC 5 rfl (h:=aM 6 rfl (h:=Zai (d:=23) rfl (fun g2=>?_) (fun g2=>?_))))))))
 try simp only [sQ,ne_eq] at g2
 refine aZ 7 rfl (h:=aZ 8 rfl (h:=aZ 9 rfl (h:=aZ 10 rfl (h:=aPT 11 rfl (h:=aM 12 rfl (h:=aZ 13 rfl (h:=aZ 14 rfl (h:=aZ 15 rfl (h:=aZ 16 rfl (h:=aPT 17 rfl (h:=aM 18 rfl (h:=aZ 19 rfl (h:=?_)))))))))))))
 refine aZ 20 rfl (h:=aZ 21 rfl (h:=aZ 22 rfl (h:=aPT 23 rfl (h:=aM 24 rfl (h:=aZ 25 rfl (h:=aZ 26 rfl (h:=aZ 27 rfl (h:=aZ 28 rfl (h:=aZ 29 rfl (h:=aZ 30 rfl (h:=aZ 31 rfl (h:=aZ 32 rfl (h:=?_)))))))))))))
 refine aZ 33 rfl (h:=aZ 34 rfl (h:=aZ 35 rfl (h:=aZ 36 rfl (h:=aZ 37 rfl (h:=aPT 38 rfl (h:=Zs kr kr ?_))))))
 refine Ze (Zd (t:=true) rfl (fun _=>Za (xA (h:=Zj (ZA (Zp (ZS (ZA (Zp ?_)))))))) (fun h=>Bool.noConfusion h))
 exact ZC .ret (.inl rfl) [_] t1 ⟨Zc (ZaH hm hs (by simp [Zam,Zaf,DFolder.box,g1,g2];try omega)).symm,rfl,rfl⟩
 try simp only [sQ,ne_eq] at g2
 refine aW 7 rfl ZcU (h:=aT 8 rfl (ZU fun D=>Zq rfl rfl lk9 rfl (atL 1 rfl rfl rfl) r4) (h:=aT 9 rfl (ZU fun D=>ZZ rfl rfl Zkx rfl (ZaM _ om2 _) r4) (h:=?_)))
 refine aN 10 rfl (h:=aPF 11 rfl (h:=aM 12 rfl (h:=Zai (d:=29) rfl (fun g3=>?_) (fun g3=>?_))))
 try simp only [sQ,ne_eq] at g3
 refine aZ 13 rfl (h:=aZ 14 rfl (h:=aZ 15 rfl (h:=aZ 16 rfl (h:=aPT 17 rfl (h:=aM 18 rfl (h:=aZ 19 rfl (h:=aZ 20 rfl (h:=aZ 21 rfl (h:=aZ 22 rfl (h:=aPT 23 rfl (h:=aM 24 rfl (h:=aZ 25 rfl (h:=?_)))))))))))))
 refine aZ 26 rfl (h:=aZ 27 rfl (h:=aZ 28 rfl (h:=aZ 29 rfl (h:=aZ 30 rfl (h:=aZ 31 rfl (h:=aZ 32 rfl (h:=aZ 33 rfl (h:=aZ 34 rfl (h:=aZ 35 rfl (h:=aZ 36 rfl (h:=aZ 37 rfl (h:=aPT 38 rfl (h:=?_)))))))))))))
 refine Zs kr kr ?_
 refine Ze (Zd (t:=true) rfl (fun _=>Za (xA (h:=Zj (ZA (Zp (ZS (ZA (Zp ?_)))))))) (fun h=>Bool.noConfusion h))
 exact ZC .ret (.inl rfl) [_] t1 ⟨Zc (ZaH hm hs (by simp [Zam,Zaf,DFolder.box,g1,g2,g3];try omega)).symm,rfl,rfl⟩
 try simp only [sQ,ne_eq] at g3
 refine aW 13 rfl Zfr (h:=aT 14 rfl (ZU fun D=>Zq rfl rfl Zk3 rfl (atL 1 rfl rfl rfl) r4) (h:=aT 15 rfl (ZU fun D=>ZZ rfl rfl Zmk rfl (ZhP _ _ _ _ hg5) r4) (h:=aN 16 rfl (h:=aPF 17 rfl (h:=aM 18 rfl (h:=Zai (d:=35) rfl (fun g4=>?_) (fun g4=>?_)))))))
 try simp only [sQ,ne_eq] at g4
 refine aZ 19 rfl (h:=aZ 20 rfl (h:=aZ 21 rfl (h:=aZ 22 rfl (h:=aPT 23 rfl (h:=aM 24 rfl (h:=aZ 25 rfl (h:=aZ 26 rfl (h:=aZ 27 rfl (h:=aZ 28 rfl (h:=aZ 29 rfl (h:=aZ 30 rfl (h:=aZ 31 rfl (h:=?_)))))))))))))
 refine aZ 32 rfl (h:=aZ 33 rfl (h:=aZ 34 rfl (h:=aZ 35 rfl (h:=aZ 36 rfl (h:=aZ 37 rfl (h:=aPT 38 rfl (h:=Zs kr kr ?_)))))))
 refine Ze (Zd (t:=true) rfl (fun _=>Za (xA (h:=Zj (ZA (Zp (ZS (ZA (Zp ?_)))))))) (fun h=>Bool.noConfusion h))
 exact ZC .ret (.inl rfl) [_] t1 ⟨Zc (ZaH hm hs (by simp [Zam,Zaf,DFolder.box,g1,g2,g3,g4];try omega)).symm,rfl,rfl⟩
 try simp only [sQ,ne_eq] at g4
 refine aW 19 rfl ZcT (h:=aT 20 rfl (ZU fun D=>Zak [_,_] rfl rfl Zll rfl (Zhp 1 rfl rfl rfl) r4) (h:=aT 21 rfl (ZU fun D=>ZZ rfl rfl Zmj rfl (ZhO _ _ (⟨m.next,m.mail⟩:DBox) _ hm5) r4) (h:=aN 22 rfl (h:=aPF 23 rfl (h:=aM 24 rfl (h:=Zai (d:=41) rfl (fun g5=>?_) (fun g5=>?_)))))))
 try simp only [sQ,ne_eq] at g5
 refine aZ 25 rfl (h:=aZ 26 rfl (h:=aZ 27 rfl (h:=aZ 28 rfl (h:=aZ 29 rfl (h:=aZ 30 rfl (h:=aZ 31 rfl (h:=aZ 32 rfl (h:=aZ 33 rfl (h:=aZ 34 rfl (h:=aZ 35 rfl (h:=aZ 36 rfl (h:=aZ 37 rfl (h:=?_)))))))))))))
 refine aPT 38 rfl (h:=Zs kr kr ?_)
 refine Ze (Zd (t:=true) rfl (fun _=>Za (xA (h:=Zj (ZA (Zp (ZS (ZA (Zp ?_)))))))) (fun h=>Bool.noConfusion h))
 exact ZC .ret (.inl rfl) [_] t1 ⟨Zc (ZaH hm hs (by simp [Zam,Zaf,DFolder.box,g1,g2,g3,g4,g5];try omega)).symm,rfl,rfl⟩
 try simp only [sQ,ne_eq] at g5
 refine aM 25 rfl (h:=Zjq 26 rfl (h:=aM 27 rfl (h:=Zai (d:=44) rfl (fun g6=>?_) (fun g6=>?_))))
 try simp only [sQ,ne_eq] at g6
 refine aW 28 rfl ZaI (h:=aT 29 rfl (ZU fun D=>Zq rfl rfl ZfG rfl (atL 0 rfl rfl rfl) r4) (h:=aM 30 rfl (h:=aU 31 rfl (h:=?_))))
 obtain ⟨y,hy⟩:=ZlE (xs:=x.folders) (i:=(↑g.1 - 1)) om om
 obtain ⟨_,⟨qg12,cg12,qm12,cm12,rfl,hg12,hm12,hb12,hb12b⟩,hc12⟩:=hf.elem hy
 have hg12n:=hg12.len
 have hm12n:=hm12.len
 have hm12s:=Za5 hm12
 refine aIx 32 rfl Try.underlying49 Zc2 (h:=?_)
 have hpe:=hp.at hy oz
 refine aT 33 rfl (ZU fun D=>Zak [_,_,_,_,_] rfl rfl ZkG rfl (Zhq hc12 0 rfl rfl) r4) (h:=aT 34 rfl (ZU fun D=>Zak [_,_,_,_,_] rfl rfl ZkG rfl (Zhp 1 rfl rfl rfl) r4) (h:=aT 35 rfl (ZU fun D=>ZZ rfl rfl Zmi rfl (Zic y m _ _ _ _ _ _ _ _ _) r4) (h:=aN 36 rfl (h:=aPT 37 rfl (h:=aPF 38 rfl (h:=Zs kr kr ?_))))))
 refine Ze (Zd rfl (fun g7=>?_) (fun g7=>?_))
 try simp only [sQ,ne_eq] at g7
 refine Za (xA (h:=Zj (ZA (Zp (ZS (ZA (Zp ?_)))))))
 exact ZC .ret (.inl rfl) [_] t1 ⟨Zc (ZaH hm hs (by simp [Zam,Zaf,DFolder.box,g1,g2,g3,g4,g5,g6,g7,hpe];try omega)).symm,rfl,rfl⟩
 try simp only [sQ,ne_eq] at g7
 refine Zh (ZY (Ze (Zk (xM (h:=xD (h:=xA (h:=?_)))))))
 exact ZJ (g.1+1,some m) [0] so2 ⟨rfl,oz,Zbd hm hs (by rw [hpe];simp [Zam,Zaf,DFolder.box,g3,g4,g5,g7];omega),.succ hm⟩ t3 rfl
 try simp only [sQ,ne_eq] at g6
 refine aZ 28 rfl (h:=aZ 29 rfl (h:=aZ 30 rfl (h:=aZ 31 rfl (h:=aZ 32 rfl (h:=aZ 33 rfl (h:=aZ 34 rfl (h:=aZ 35 rfl (h:=aZ 36 rfl (h:=aPF 37 rfl (h:=aPF 38 rfl (h:=Zs kr kr ?_)))))))))))
 refine Ze (Zd (t:=false) rfl (fun h=>Bool.noConfusion h) (fun _=>Zh (ZY (Ze (Zk (xM (h:=xD (h:=xA (h:=?_)))))))))
 exact ZJ (g.1+1,some m) [0] so2 ⟨rfl,oz,Zbd hm hs (by rw [hp.at0 oz];simp [Zam,Zaf,DFolder.box,g3,g4,g5];omega),.succ hm⟩ t3 rfl
 try simp only [sQ,ne_eq] at g1
 refine ZH (Z3 (ZO (Zx (Ze (Za (xW ZaI (h:=x1 ZfG 0 (h:=xV Try.underlying49 (h:=Zbl (h:=xA (h:=Zj ?_)))))))))))
 exact ZC .ret (.inl rfl) [_] t1 ⟨Zc (by rw [ZeL (ZcE hs oz),Bool.eq_iff_iff];simp;try omega),rfl,rfl⟩

set_option maxHeartbeats 400000 in
theorem Zg1 (q1 q2 q3:Option Addr) (c1 c2 c3:Nat) (x:DHost) (hd:x.domain.length≤2000000) (B:Kn) (hu:SlK B q1 c1 3 Zv x.users) (hf:SlK B q2 c2 5 ZD x.folders) (hi:SlK B q3 c3 4 ZaC x.queue.items):Zaw (pj J) 50 [.agg #[str x.domain,.slice q1 x.users.length c1,.slice q2 x.folders.length c2,.int .i64 x.queue.next,.slice q3 x.queue.items.length c3]] B (.bool (ZaS x)):=by
 refine Zb 87 Try.func50 rfl rfl rfl (Nat.le_of_ble_eq_true rfl) ?_
 have hfn:=hf.len
 have hun:=hu.len
 have hin:=hi.len
 refine Za (xBx [_,_,_,_,_] (h:=fun b1=>xA (h:=Zaa [_] rfl (Zg (Za (xW Zim (h:=x1 lk9 0 (h:=xR Zmy rfl (Ze5 _ om2 _) (h:=?_)))))))))
 refine xN (h:=xM (h:=Zz (d:=10) rfl (fun g1=>?_) (fun g1=>?_)))
 try simp only [sQ,ne_eq] at g1
 refine xP (h:=xP (h:=xP (h:=xP (h:=xT (h:=xM (h:=xP (h:=xP (h:=xP (h:=xP (h:=xT (h:=xM (h:=xP (h:=?_)))))))))))))
 refine xP (h:=xP (h:=xT (h:=Zd (t:=true) rfl (fun _=>Za (xA (h:=Zj (Zp ?_)))) (fun h=>Bool.noConfusion h))))
 exact ZC .ret (.inl rfl) [_] t1 ⟨Zc (by simp [ZaS,g1]),rfl,rfl⟩
 try simp only [sQ,ne_eq] at g1
 refine xW ZbA (h:=x1 Zhr 0 (h:=xR Zmx rfl (ZfO _ _ _ _ hu) (h:=xN (h:=xF (h:=xM (h:=Zz (d:=16) rfl (fun g2=>?_) (fun g2=>?_)))))))
 try simp only [sQ,ne_eq] at g2
 refine xP (h:=xP (h:=xP (h:=xP (h:=xT (h:=xM (h:=xP (h:=xP (h:=xP (h:=xT (h:=Zd (t:=true) rfl (fun _=>Za (xA (h:=?_))) (fun h=>Bool.noConfusion h)))))))))))
 refine Zj (Zp ?_)
 exact ZC .ret (.inl rfl) [_] t1 ⟨Zc (by simp [ZaS,g1,g2]),rfl,rfl⟩
 try simp only [sQ,ne_eq] at g2
 refine xW ZdE (h:=xL [_,_] Zk4 0 (h:=xR ZmU rfl (ZfP _ _ x.queue _ hi) (h:=xN (h:=xF (h:=xM (h:=Zz (d:=22) rfl (fun g3=>?_) (fun g3=>?_)))))))
 try simp only [sQ,ne_eq] at g3
 refine xP (h:=xP (h:=xP (h:=xT (h:=Zd (t:=true) rfl (fun _=>Za (xA (h:=Zj (Zp ?_)))) (fun h=>Bool.noConfusion h)))))
 exact ZC .ret (.inl rfl) [_] t1 ⟨Zc (by simp [ZaS,g1,g2,g3]),rfl,rfl⟩
 try simp only [sQ,ne_eq] at g3
 refine xL [_,_,_,_,_] ZdS 0 (h:=xR Zmw rfl (Zfk _ _ _ _ _ _ x _ hu hf) (h:=xN (h:=xF (h:=Zd rfl (fun g4=>?_) (fun g4=>?_)))))
 try simp only [sQ,ne_eq] at g4
 refine Za (xA (h:=Zj (Zp ?_)))
 exact ZC .ret (.inl rfl) [_] t1 ⟨Zc (by simp [ZaS,g1,g2,g3,g4]),rfl,rfl⟩
 try simp only [sQ,ne_eq] at g4
 refine Zh (Ze (Zg (Za (xA (h:=Zl (ZB (α:=Nat) [0,1,26] (fun k=>[(3,.int .i64 k)]) [] (fun k=>[]) (fun k Bx=>Bx=B∧k≤x.users.length∧∀z,z∈x.users.take k→Zas x.folders z=true) (fun k=>x.users.length - k) 0 t1 rfl (⟨rfl,Nat.zero_le _,by simp⟩) (fun k B6 hle6 hI=>?_)))))))
 obtain ⟨rfl,hk,ha⟩:=hI
 refine ZF [(0,_),(1,_),(3,_),(26,_)] [_] t4 rfl (Zg (Za (xM (h:=xW ZbA (h:=x1 Zhr 0 (h:=xV Try.underlying48 (h:=ZN (h:=Zd rfl (fun g5=>?_) (fun g5=>?_)))))))))
 try simp only [sQ,ne_eq] at g5
 refine Zh (Ze (Zg (Zl (Zg (Z7 (same _ _) mo kr ⟨rfl,rfl⟩ (fun _ _=>?_))))))
 refine aT 0 rfl (ZU fun D=>Zak [_,_,_,_,_] rfl rfl ZdS rfl (Zhp 0 rfl rfl rfl) r4) (h:=aW 1 rfl ZbA (h:=aT 2 rfl (ZU fun D=>Zq rfl rfl Zhr rfl (atL 0 rfl rfl rfl) r4) (h:=aM 3 rfl (h:=?_))))
 obtain ⟨w,hw⟩:=Z2 (xs:=x.users) (i:=k) om
 obtain ⟨bb8,oo8,rfl⟩:=hu.base hw
 obtain ⟨_,⟨rfl,hb9,hb9b⟩,hc9⟩:=hu.elem hw
 refine aIx 4 rfl Try.underlying48 ZcY (h:=aW 5 rfl ZaK (h:=aT 6 rfl (ZU fun D=>Zq rfl rfl lk9 rfl (hc9 _ 0 _ rfl) r4) (h:=aT 7 rfl (ZU fun D=>ZZ rfl rfl Zmv rfl (Zid _ _ _ _ _ _ x w.name [105,110,98,111,120] om2 om2 _ hf) r4) (h:=?_))))
 refine ZkC 8 rfl (h:=aM 9 rfl (h:=Zai (d:=43) rfl (fun g6=>?_) (fun g6=>?_)))
 try simp only [sQ,ne_eq] at g6
 refine aZ 10 rfl (h:=aZ 11 rfl (h:=aZ 12 rfl (h:=aZ 13 rfl (h:=aZ 14 rfl (h:=aZ 15 rfl (h:=aZ 16 rfl (h:=aZ 17 rfl (h:=aZ 18 rfl (h:=aZ 19 rfl (h:=aZ 20 rfl (h:=aZ 21 rfl (h:=aZ 22 rfl (h:=?_)))))))))))))
 refine aZ 23 rfl (h:=aZ 24 rfl (h:=aPT 25 rfl (h:=Zs kr kr ?_)))
 refine Ze (Zd (t:=true) rfl (fun _=>Za (xA (h:=Zj (ZA (Zp (ZS (ZA (Zp ?_)))))))) (fun h=>Bool.noConfusion h))
 exact ZC .ret (.inl rfl) [_] t1 ⟨Zc (Zdv hw (Ze1 g6)).symm,rfl,rfl⟩
 try simp only [sQ,ne_eq] at g6
 refine aT 10 rfl (ZU fun D=>Zak [_,_,_,_,_] rfl rfl ZdS rfl (Zhp 0 rfl rfl rfl) r4) (h:=aW 11 rfl ZbA (h:=aT 12 rfl (ZU fun D=>Zq rfl rfl Zhr rfl (atL 0 rfl rfl rfl) r4) (h:=aM 13 rfl (h:=aIx 14 rfl Try.underlying48 ZcY (h:=aW 15 rfl ZaK (h:=aT 16 rfl (ZU fun D=>Zq rfl rfl lk9 rfl (hc9 _ 0 _ rfl) r4) (h:=aT 17 rfl (ZU fun D=>ZZ rfl rfl Zmu rfl (Zib _ _ _ _ _ _ x _ _ hf) r4) (h:=aW 18 rfl ZbA (h:=aT 19 rfl (ZU fun D=>Zq rfl rfl Zhr rfl (atL 0 rfl rfl rfl) r4) (h:=aM 20 rfl (h:=aIx 21 rfl Try.underlying48 ZcY (h:=aW 22 rfl Zcw (h:=?_)))))))))))))
 refine aT 23 rfl (ZU fun D=>Zq rfl rfl lk3 rfl (hc9 _ 2 _ rfl) r4) (h:=Zjq 24 rfl (h:=aPF 25 rfl (h:=Zs kr kr ?_)))
 refine Ze (Zd rfl (fun g7=>?_) (fun g7=>?_))
 try simp only [sQ,ne_eq] at g7
 refine Za (xA (h:=Zj (ZA (Zp (ZS (ZA (Zp ?_)))))))
 exact ZC .ret (.inl rfl) [_] t1 ⟨Zc (Zdv hw (Ze0 g7)).symm,rfl,rfl⟩
 try simp only [sQ,ne_eq] at g7
 refine Zh (ZY (Ze (Zk (xM (h:=xD (h:=xA (h:=?_)))))))
 exact ZJ (k+1) [0] so2 ⟨rfl,oz,Zbw hw ha (ZeZ g6 g7)⟩ t4 rfl
 try simp only [sQ,ne_eq] at g5
 refine ZH (Z3 (ZO (Zx (Ze (Zg (Za (xA (h:=Zl (ZB (α:=Nat) [0,1,3,26,31] (fun j=>[(4,.int .i64 j)]) [] (fun j=>[]) (fun j Bx=>Bx=B6∧j≤x.queue.items.length∧∀z,z∈x.queue.items.take j→Zap x.users z=true) (fun j=>x.queue.items.length - j) 0 t1 rfl (⟨rfl,Nat.zero_le _,by simp⟩) (fun j B12 hle12 hI=>?_))))))))))
 obtain ⟨rfl,hj,hb⟩:=hI
 refine ZF [(0,_),(1,_),(3,_),(4,_),(26,_),(31,_)] [_] t6 rfl (Zg (Za (xM (h:=xW ZdE (h:=xW Zcx (h:=x1 Zi0 0 (h:=xV Try.underlying26 (h:=ZN (h:=Zd rfl (fun g8=>?_) (fun g8=>?_))))))))))
 try simp only [sQ,ne_eq] at g8
 refine Zh (Ze (Zg (Zl (Za (xW ZdE (h:=xW Zcx (h:=x1 Zi0 0 (h:=xM (h:=?_)))))))))
 obtain ⟨y,hy⟩:=Z2 (xs:=x.queue.items) (i:=j) om
 obtain ⟨bb14,oo14,rfl⟩:=hi.base hy
 obtain ⟨_,⟨qi15,ci15,rfl,hi15,hb15,hb15b⟩,hc15⟩:=hi.elem hy
 have hi15n:=hi15.len
 refine xIx Try.underlying26 ZfF (h:=yL [_,_,_,_] Zlm hc15 0 (h:=xAl [_,_,_,_] Zlj (h:=fun b16=>xS [_,_,_,_] 1 [_,_,_,_] ZfF (h:=Zaa [_,_] rfl (Za (xW ZbA (h:=x1 Zhr 0 (h:=xW Zem (h:=x1 lk9 1 (h:=xR ZlI rfl (Zds _ _ _ _ _ hu) (h:=ZN (h:=xM (h:=?_)))))))))))))
 refine Zz (d:=80) rfl (fun g9=>?_) (fun g9=>?_)
 try simp only [sQ,ne_eq] at g9
 refine xP (h:=xP (h:=xP (h:=xP (h:=xP (h:=xT (h:=Zd (t:=true) rfl (fun _=>Za (xA (h:=Zj (ZA (Zp (ZS (ZA (Zp ?_)))))))) (fun h=>Bool.noConfusion h)))))))
 exact ZC .ret (.inl rfl) [_] t1 ⟨Zc (Zdw hy (ZeF g9)).symm,rfl,rfl⟩
 try simp only [sQ,ne_eq] at g9
 refine xL [_,_,_,_,_] ZdS 0 (h:=xW Zel (h:=x1 ZjP 1 (h:=xR Zmt rfl (Zhc _ _ _ _ _ _ x _ _ y.left _ hu hi15) (h:=xN (h:=xF (h:=Zd rfl (fun ga=>?_) (fun ga=>?_)))))))
 try simp only [sQ,ne_eq] at ga
 refine Za (xA (h:=Zj (ZA (Zp (ZS (ZA (Zp ?_)))))))
 exact ZC .ret (.inl rfl) [_] t1 ⟨Zc (Zdw hy (ZeE ga)).symm,rfl,rfl⟩
 try simp only [sQ,ne_eq] at ga
 refine Zh (ZY (Ze (Zk (xM (h:=xD (h:=xA (h:=?_)))))))
 exact ZJ (j+1) [0] so2 ⟨rfl,oz,Zbw hy hb (ZeD g9 ga)⟩ t6 rfl
 try simp only [sQ,ne_eq] at g8
 refine ZH (Z3 (ZO (Zx (Ze (Za (xA (h:=Zj ?_)))))))
 exact ZC .ret (.inl rfl) [_] t1 ⟨Zc (Zhf g1 g2 g3 g4 (ZeR (ZbO oz ha)) (ZeR (ZbO oz hb))).symm,rfl,rfl⟩

set_option maxHeartbeats 400000 in
theorem Zfm (l:Str) (hl:l.length≤2000000) (B:Kn):Zaw (pj J) 52 [str l] B (.bool (Za4 l)):=by
 refine Zb 16 Try.func52 rfl rfl rfl (Nat.le_of_ble_eq_true rfl) ?_
 refine Za (xA (h:=Za (xM (h:=xB [(0,_)] [_,_] [_,_] Zk1 ZiH (h:=xAl [_,_] ZiH (h:=fun b1=>xS [_,_] 0 [_,_] ZkX (h:=Zaa [_] rfl (Za (Zr (ZdY 0 rfl rfl rfl Zms rfl (Zjj _ _ 0 oz oz _) ?_))))))))))
 refine xM (h:=xE (h:=xE (h:=xA (h:=xA (h:=Za (xM (h:=xM (h:=Zz (d:=13) rfl (fun g1=>?_) (fun g1=>?_)))))))))
 try simp only [sQ,ne_eq] at g1
 refine Zr (Zgr 0 rfl rfl rfl Zln rfl (ZgR _ _ (dom l 0).2 (Zlc (Nat.zero_le _)) oz _) ?_)
 refine xT (h:=xA (h:=Zj ?_))
 exact ZC .ret (.inl rfl) [_] t1 ⟨Zc (by rw [Bool.eq_iff_iff,← Zfw];simp [Zge] at g1;simp [g1];try omega),rfl,rfl⟩
 try simp only [sQ,ne_eq] at g1
 refine xP (h:=xF (h:=xA (h:=Zj ?_)))
 exact ZC .ret (.inl rfl) [_] t1 ⟨Zc (by symm;rw [Bool.eq_false_iff,ne_eq,← Zfw];intro hc;simp [Zge,hc.1] at g1;omega),rfl,rfl⟩

set_option maxHeartbeats 400000 in
theorem ZiP (x:DUser) (h1:x.name.length≤140737488355328) (h2:x.pass.length≤140737488355328) (left:Int) (hl0:0≤left) (hl1:left≤1048576) (B:Kn)  : Zaw (pj J) 49 [.agg #[str x.name,str x.pass,.int .i64 x.quota],.int .i64 left] B (.int .i64 (szI left (Zbx x))):=by
 refine Zb 20 Try.func49 rfl rfl rfl (Nat.le_of_ble_eq_true rfl) ?_
 refine Za (xBx [_,_,_] (h:=fun b1=>xA (h:=Zaa [_] rfl (Za (xM (h:=xW ZjT (h:=x1 lk9 0 (h:=xVs Try.underlying9 (h:=xU (h:=xA (h:=Zg (Za ?_))))))))))))
 refine xM (h:=ZN (h:=Zd rfl (fun g1=>?_) (fun g1=>?_)))
 try simp only [sQ,ne_eq] at g1
 refine Za (xA (h:=Zj (Zp ?_)))
 exact ZC .ret (.inl rfl) [_] t1 ⟨ZaJ (by first | (unfold szI Zbx;split <;> omega)),rfl,rfl⟩
 try simp only [sQ,ne_eq] at g1
 refine Zh (Ze (Za (xM (h:=xW ZjS (h:=x1 lk9 0 (h:=xVs Try.underlying9 (h:=xU (h:=xA (h:=Zg (Za (xM (h:=ZN (h:=?_)))))))))))))
 refine Zd rfl (fun g2=>?_) (fun g2=>?_)
 try simp only [sQ,ne_eq] at g2
 refine Za (xA (h:=Zj (Zp ?_)))
 exact ZC .ret (.inl rfl) [_] t1 ⟨ZaJ (by first | (unfold szI Zbx;split <;> omega)),rfl,rfl⟩
 try simp only [sQ,ne_eq] at g2
 refine Zh (Ze (Za (xM (h:=xA (h:=Zj ?_)))))
 exact ZC .ret (.inl rfl) [_] t1 ⟨ZaJ (by first | (unfold szI Zbx;split <;> omega)),rfl,rfl⟩

set_option maxRecDepth 4000 in
set_option maxHeartbeats 400000 in
theorem ZhG (q : Option Addr) (cp : Nat) (xs : List DUser) (left : Int) (hl0 : 0 ≤ left) (hl1 : left ≤ 1048576) (B : Kn) (hx : SlB B q cp 3 Zgo xs) : Zaw (pj J) 19 [.slice q xs.length cp, .int .i64 left] B (.int .i64 (szI left (szL Zbx xs))) := by
  refine Zb 27 Try.func19 rfl rfl rfl (Nat.le_of_ble_eq_true rfl) ?_
  have hxn := hx.len
  refine Za (xA (h:=Za (xM (h:=xM (h:=xV Try.underlying46 (h:=xU (h:=xA (h:=Zg (Za (xM (h:=ZN (h:=Zd rfl (fun g1 => ?_) (fun g1 => ?_)))))))))))))
  try simp only [sQ, ne_eq] at g1
  refine Za (xA (h:=Zj (Zp ?_)))
  exact ZC .ret (.inl rfl) [_] ⟨rfl, trivial⟩ ⟨ZaJ (Zj9 (by omega)).symm, rfl, rfl⟩
  try simp only [sQ, ne_eq] at g1
  refine Zh (Ze (Zg (Za (xA (h:=Zl (ZB (α := Nat × Int) [0, 11] (fun g => [(1, .int .i64 g.2), (5, .int .i64 g.1)]) [] (fun g => []) (fun g Bx => Bx = B ∧ g.1 ≤ xs.length ∧ g.2 = left - xs.length - ((xs.take g.1).map Zbx).sum ∧ 0 ≤ g.2) (fun g => xs.length - g.1) (0, left - ↑xs.length) ⟨rfl, rfl, trivial⟩ rfl (⟨rfl, Nat.zero_le _, by simp, g1⟩) (fun g B1 hle1 hI => ?_)))))))
  obtain ⟨rfl, hk, hs, hl⟩ := hI
  refine ZF [(0, _), (1, _), (5, _), (11, _)] [] ⟨rfl, rfl, rfl, rfl, trivial⟩ rfl (Zg (Za (xM (h:=xM (h:=xV Try.underlying46 (h:=ZN (h:=Zd rfl (fun g2 => ?_) (fun g2 => ?_))))))))
  try simp only [sQ, ne_eq] at g2
  refine Zh (Ze (Zg (Zl (Za (xM (h:=xM (h:=?_)))))))
  obtain ⟨z, hz⟩ := Z2 (xs := xs) (i := g.1) (by first | omega | (simp; done) | (simp; omega))
  obtain ⟨bb3, oo3, rfl⟩ := hx.base hz
  obtain ⟨_, ⟨rfl, hb4, hb4b⟩, hc4⟩ := hx.elem hz
  refine xIx Try.underlying46 ZlV (h:=yL [_, _, _] ZlZ hc4 0 (h:=xM (h:=xR ZmN rfl (ZiP z (by first | omega | (simp; done) | (simp; omega)) (by first | omega | (simp; done) | (simp; omega)) g.2 (by first | omega | (simp; done) | (simp; omega)) (by first | omega | (simp; done) | (simp; omega)) _) (h:=?_))))
  refine xA (h:=Za (xM (h:=ZN (h:=Zd rfl (fun g3 => ?_) (fun g3 => ?_)))))
  try simp only [sQ, ne_eq] at g3
  refine Za (xA (h:=Zj (ZA (Zp (ZS (ZA (Zp ?_)))))))
  exact ZC .ret (.inl rfl) [_] ⟨rfl, trivial⟩ ⟨ZaJ (Zj7 hz hs ((Zka hl).1 g3)).symm, rfl, rfl⟩
  try simp only [sQ, ne_eq] at g3
  refine Zh (ZY (Ze (Zk (xM (h:=xD (h:=xA (h:=?_)))))))
  exact ZJ (g.1 + 1, szI g.2 (Zbx z)) [] (by first | omega | (simp only []; omega)) ⟨rfl, by simp only []; omega, by have := (ZhH hl g3).1; rw [Zgu _ hz]; simp only []; omega, g3⟩ ⟨rfl, rfl, rfl, rfl, trivial⟩ rfl
  try simp only [sQ, ne_eq] at g2
  refine ZH (Z3 (ZO (Zx (Ze (Za (xM (h:=xA (h:=Zj ?_))))))))
  exact ZC .ret (.inl rfl) [_] ⟨rfl, trivial⟩ ⟨ZaJ (Zj8 hs hl (by omega)).symm, rfl, rfl⟩

set_option maxHeartbeats 400000 in
theorem ZiO (x:DUser)  (B:Kn):Zaw (pj J) 51 [.agg #[str x.name,str x.pass,.int .i64 x.quota]] B (.agg #[str x.name,str x.pass,.int .i64 x.quota]):=by
 refine Zb 14 Try.func51 rfl rfl rfl (Nat.le_of_ble_eq_true rfl) ?_
 refine Za (xBx [_,_,_] (h:=fun b1=>xAl [_,_,_] Zjy (h:=fun b2=>Zaa [_,_] rfl (Za (xAl [_,_,_] Zjy (h:=fun b3=>Zaa [_,_,_] rfl (Za (xW ZjT (h:=x1 lk9 0 (h:=xW ZaK (h:=xS [_] 2 [_,_,_] sz9 (h:=Zaa [_,_,_] rfl ?_))))))))))))
 refine Za (xW ZjS (h:=x1 lk9 0 (h:=xW ZdD (h:=xS [_] 2 [_,_,_] sz9 (h:=Zaa [_,_,_] rfl (Za (xW Zk9 (h:=x1 lk3 0 (h:=xW Zcw (h:=xS [_] 2 [_,_,_] sz3 (h:=Zaa [_,_,_] rfl (Za ?_))))))))))))
 refine xL [_,_,_] ZjO 2 (h:=xS [_,_,_] 1 [_,_,_] ZcY (h:=Zaa [_,_,_] rfl (Zj ?_)))
 exact ZC .ret (.inl rfl) [_] ⟨⟨_,rfl,.inr ⟨[_,_,_],ZjO,Zhp 1 rfl rfl rfl,rfl⟩⟩,trivial⟩ ⟨rfl,rfl,rfl⟩

set_option maxHeartbeats 400000 in
theorem Zcl (q:Option Addr) (cp:Nat) (xs:List DUser) (hx20:szL Zbx xs≤1048576) (B:Kn) (hx:SlK B q cp 3 Zv xs):ZT (pj J) 21 [.slice q xs.length cp] B [] (fun v B' Ls=>∃q c l,v = .slice q xs.length c∧B'=B∧Ls=[l]∧Zab Kn.none l q c 85 3 Zv xs):=by
 refine Zb 23 Try.func21 rfl rfl rfl (Nat.le_of_ble_eq_true rfl) ?_
 have hxn:=hx.len
 have hx21:=(Zdb hx20).1
 refine Za (xA (h:=Za (xM (h:=xV Try.underlying46 (h:=Zr (ZfJ (m:=xs.length) (c:=xs.length) (by_:=40) [.string ⟨#[]⟩,.string ⟨#[]⟩,.int .i64 0] rfl rfl ZlG Zjy rfl rfl ⟨_,_,rfl,by first | omega | (simp;done) | (simp;omega)⟩ ⟨_,_,rfl,by first | omega | (simp;done) | (simp;omega)⟩ om om (fun b1=>?_)))))))
 have hv1:=Zab.zeros (B:=Kn.none) (b:=b1) (T:=85) (R:=Zv) (d:=(⟨[],[],0⟩:DUser)) (m:=xs.length) (c:=xs.length) (zs:=[.string ⟨#[]⟩,.string ⟨#[]⟩,.int .i64 0]) rfl (⟨rfl,by simp,by simp⟩) om
 refine xA (h:=Zaa [_] rfl (Zg (Za (xA (h:=Zl (ZB (α:=Nat × Cells) [0,2] (fun g=>[(3,.slice (some ⟨b1,0,none⟩) xs.length xs.length),(4,.int .i64 g.1)]) [0] (fun g=>[g.2]) (fun g Bx=>Bx=B∧g.1≤xs.length∧Zab Kn.none g.2 (some ⟨b1,0,none⟩) xs.length 85 3 Zv (fill xs (⟨[],[],0⟩:DUser) g.1)) (fun g=>xs.length - g.1) (0,_) t2 rfl (⟨rfl,Nat.zero_le _,by rw [Zio];exact hv1⟩) (fun g B2 hle2 hI=>?_)))))))
 obtain ⟨rfl,hk,hvl⟩:=hI
 have hfl:=Zjb (d:=(⟨[],[],0⟩:DUser)) hk
 refine ZF [(0,_),(2,_),(3,_),(4,_)] [_] t4 rfl (Zg (Za (xM (h:=xM (h:=xV Try.underlying46 (h:=ZN (h:=Zd rfl (fun g1=>?_) (fun g1=>?_))))))))
 try simp only [sQ,ne_eq] at g1
 refine Zh (Ze (Zg (Zl (Zk (xM (h:=xM (h:=xM (h:=xM (h:=?_)))))))))
 obtain ⟨z,hz⟩:=Z2 (xs:=xs) (i:=g.1) om
 obtain ⟨bb4,oo4,rfl⟩:=hx.base hz
 obtain ⟨_,⟨rfl,hb5,hb5b⟩,hc5⟩:=hx.elem hz
 refine xIx Try.underlying46 ZlV (h:=yL [_,_,_] ZlZ hc5 0 (h:=xR ZmL rfl (ZiO z  _) (h:=xIp rfl Try.underlying48 ZcY (h:=Zr (Zlr (R:=Zv) (k:=g.1) (z) 0 rfl hvl rfl om rfl rfl ZcY rfl rfl rfl rfl rfl (⟨rfl,by first | assumption | omega | (simp;done) | (simp;omega),by first | assumption | omega | (simp;done) | (simp;omega)⟩) (fun l8 hv8=>?_))))))
 refine ZY (Ze (Zk (xM (h:=xD (h:=xA (h:=?_))))))
 exact ZJ (g.1+1,l8) [0] so2 ⟨rfl,so,by rw [← Zip hz];exact hv8⟩ t4 rfl
 try simp only [sQ,ne_eq] at g1
 refine ZH (Z3 (ZO (Zx (Ze (Za (xM (h:=xA (h:=Zj ?_))))))))
 exact ZfH .ret (.inl rfl) [_] [0] rfl t1 ⟨_,_,_,rfl,rfl,rfl,by have e:=hvl;rw [Zjc oz] at e;exact e⟩

set_option maxHeartbeats 400000 in
theorem Zje   (a b:DUser) (B:Kn)   : Zaw (pj J) 56 [.agg #[str a.name,str a.pass,.int .i64 a.quota],.agg #[str b.name,str b.pass,.int .i64 b.quota]] B (.bool (decide (a=b))):=by
 refine Zb 20 Try.func56 rfl rfl rfl (Nat.le_of_ble_eq_true rfl) ?_
 refine Za (xBx [_,_,_] (h:=fun b1=>xBx [_,_,_] (h:=fun b2=>xA (h:=Zaa [_,_] rfl (Zg (Za (xW ZaK (h:=x1 lk9 0 (h:=xW ZaK (h:=x1 lk9 1 (h:=ZbW (h:=Zd rfl (fun g1=>?_) (fun g1=>?_)))))))))))))
 try simp only [sQ,ne_eq] at g1
 refine Za (xA (h:=Zj (Zp ?_)))
 exact ZC .ret (.inl rfl) [_] t1 ⟨Zc (by symm;rw [decide_eq_false_iff_not];rintro rfl;exact g1 rfl),rfl,rfl⟩
 try simp only [sQ,ne_eq] at g1
 refine Zh (Ze (Zg (Za (xW ZdD (h:=x1 lk9 0 (h:=xW ZdD (h:=x1 lk9 1 (h:=ZbW (h:=Zd rfl (fun g2=>?_) (fun g2=>?_))))))))))
 try simp only [sQ,ne_eq] at g2
 refine Za (xA (h:=Zj (Zp ?_)))
 exact ZC .ret (.inl rfl) [_] t1 ⟨Zc (by symm;rw [decide_eq_false_iff_not];rintro rfl;exact g2 rfl),rfl,rfl⟩
 try simp only [sQ,ne_eq] at g2
 refine Zh (Ze (Zg (Za (xW Zcw (h:=x1 lk3 0 (h:=xW Zcw (h:=x1 lk3 1 (h:=Zan (h:=Zd rfl (fun g3=>?_) (fun g3=>?_))))))))))
 try simp only [sQ,ne_eq] at g3
 refine Za (xA (h:=Zj (Zp ?_)))
 exact ZC .ret (.inl rfl) [_] t1 ⟨Zc (by symm;rw [decide_eq_false_iff_not];rintro rfl;exact g3 rfl),rfl,rfl⟩
 try simp only [sQ,ne_eq] at g3
 refine Zh (Ze (Za (xA (h:=Zj ?_))))
 exact ZC .ret (.inl rfl) [_] t1 ⟨Zc (by symm;rw [decide_eq_true_eq];cases a;cases b;simp_all),rfl,rfl⟩

set_option maxHeartbeats 400000 in
theorem Ziu   (a b:DGrant) (B:Kn)   : Zaw (pj J) 106 [.agg #[str a.user,.int .i64 a.rights],.agg #[str b.user,.int .i64 b.rights]] B (.bool (decide (a=b))):=by
 refine Zb 15 Try.func106 rfl rfl rfl (Nat.le_of_ble_eq_true rfl) ?_
 refine Za (xBx [_,_] (h:=fun b1=>xBx [_,_] (h:=fun b2=>xA (h:=Zaa [_,_] rfl (Zg (Za (xW Zcf (h:=x1 lk9 0 (h:=xW Zcf (h:=x1 lk9 1 (h:=ZbW (h:=Zd rfl (fun g1=>?_) (fun g1=>?_)))))))))))))
 try simp only [sQ,ne_eq] at g1
 refine Za (xA (h:=Zj (Zp ?_)))
 exact ZC .ret (.inl rfl) [_] t1 ⟨Zc (by symm;rw [decide_eq_false_iff_not];rintro rfl;exact g1 rfl),rfl,rfl⟩
 try simp only [sQ,ne_eq] at g1
 refine Zh (Ze (Zg (Za (xW ZdG (h:=x1 lk3 0 (h:=xW ZdG (h:=x1 lk3 1 (h:=Zan (h:=Zd rfl (fun g2=>?_) (fun g2=>?_))))))))))
 try simp only [sQ,ne_eq] at g2
 refine Za (xA (h:=Zj (Zp ?_)))
 exact ZC .ret (.inl rfl) [_] t1 ⟨Zc (by symm;rw [decide_eq_false_iff_not];rintro rfl;exact g2 rfl),rfl,rfl⟩
 try simp only [sQ,ne_eq] at g2
 refine Zh (Ze (Za (xA (h:=Zj ?_))))
 exact ZC .ret (.inl rfl) [_] t1 ⟨Zc (by symm;rw [decide_eq_true_eq];cases a;cases b;simp_all),rfl,rfl⟩

set_option maxHeartbeats 400000 in
theorem Zjf   (a b:DMail) (B:Kn)   : Zaw (pj J) 109 [.agg #[.int .i64 a.uid,.int .i64 a.flags,str a.text],.agg #[.int .i64 b.uid,.int .i64 b.flags,str b.text]] B (.bool (decide (a=b))):=by
 refine Zb 20 Try.func109 rfl rfl rfl (Nat.le_of_ble_eq_true rfl) ?_
 refine Za (xBx [_,_,_] (h:=fun b1=>xBx [_,_,_] (h:=fun b2=>xA (h:=Zaa [_,_] rfl (Zg (Za (xW Zce (h:=x1 lk3 0 (h:=xW Zce (h:=x1 lk3 1 (h:=Zan (h:=Zd rfl (fun g1=>?_) (fun g1=>?_)))))))))))))
 try simp only [sQ,ne_eq] at g1
 refine Za (xA (h:=Zj (Zp ?_)))
 exact ZC .ret (.inl rfl) [_] t1 ⟨Zc (by symm;rw [decide_eq_false_iff_not];rintro rfl;exact g1 rfl),rfl,rfl⟩
 try simp only [sQ,ne_eq] at g1
 refine Zh (Ze (Zg (Za (xW ZdF (h:=x1 lk3 0 (h:=xW ZdF (h:=x1 lk3 1 (h:=Zan (h:=Zd rfl (fun g2=>?_) (fun g2=>?_))))))))))
 try simp only [sQ,ne_eq] at g2
 refine Za (xA (h:=Zj (Zp ?_)))
 exact ZC .ret (.inl rfl) [_] t1 ⟨Zc (by symm;rw [decide_eq_false_iff_not];rintro rfl;exact g2 rfl),rfl,rfl⟩
 try simp only [sQ,ne_eq] at g2
 refine Zh (Ze (Zg (Za (xW ZcJ (h:=x1 lk9 0 (h:=xW ZcJ (h:=x1 lk9 1 (h:=ZbW (h:=Zd rfl (fun g3=>?_) (fun g3=>?_))))))))))
 try simp only [sQ,ne_eq] at g3
 refine Za (xA (h:=Zj (Zp ?_)))
 exact ZC .ret (.inl rfl) [_] t1 ⟨Zc (by symm;rw [decide_eq_false_iff_not];rintro rfl;exact g3 rfl),rfl,rfl⟩
 try simp only [sQ,ne_eq] at g3
 refine Zh (Ze (Za (xA (h:=Zj ?_))))
 exact ZC .ret (.inl rfl) [_] t1 ⟨Zc (by symm;rw [decide_eq_true_eq];cases a;cases b;simp_all),rfl,rfl⟩

set_option maxHeartbeats 400000 in
theorem Zfv (q q':Option Addr) (cp cp':Nat) (xs ys:List DUser) (B:Kn) (ha:SlK B q cp 3 Zv xs) (hb:SlK B q' cp' 3 Zv ys):Zaw (pj J) 24 [.slice q xs.length cp,.slice q' ys.length cp'] B (.bool (decide (xs=ys))):=by
 refine Zb 27 Try.func24 rfl rfl rfl (Nat.le_of_ble_eq_true rfl) ?_
 have han:=ha.len
 have hbn:=hb.len
 refine Za (xA (h:=Zg (Za (xM (h:=xV Try.underlying48 (h:=xM (h:=xV Try.underlying48 (h:=Zan (h:=Zd rfl (fun g1=>?_) (fun g1=>?_))))))))))
 try simp only [sQ,ne_eq] at g1
 refine Za (xA (h:=Zj (Zp ?_)))
 exact ZC .ret (.inl rfl) [_] t1 ⟨Zc (ZcM g1),rfl,rfl⟩
 try simp only [sQ,ne_eq] at g1
 refine Zh (Ze (Zg (Za (xA (h:=Zl (ZB (α:=Nat) [0,1,10] (fun k=>[(5,.int .i64 k)]) [] (fun k=>[]) (fun k Bx=>Bx=B∧k≤xs.length∧xs.take k=ys.take k) (fun k=>xs.length - k) 0 t1 rfl (⟨rfl,Nat.zero_le _,by simp⟩) (fun k B1 hle1 hI=>?_)))))))
 obtain ⟨rfl,hk,he⟩:=hI
 refine ZF [(0,_),(1,_),(5,_),(10,_)] [] t4 rfl (Zg (Za (xM (h:=xM (h:=xV Try.underlying48 (h:=ZN (h:=Zd rfl (fun g2=>?_) (fun g2=>?_))))))))
 try simp only [sQ,ne_eq] at g2
 refine Zh (Ze (Zg (Zl (Zg (Z7 (same _ _) mo kr ⟨rfl,rfl⟩ (fun _ _=>?_))))))
 refine aM 0 rfl (h:=aM 1 rfl (h:=?_))
 obtain ⟨x,hx⟩:=Z2 (xs:=xs) (i:=k) om
 obtain ⟨bb3,oo3,rfl⟩:=ha.base hx
 obtain ⟨_,⟨rfl,hb4,hb4b⟩,hc4⟩:=ha.elem hx
 refine aIx 2 rfl Try.underlying48 ZcY (h:=aT 3 rfl (ZU fun D=>Zak [_,_,_] rfl rfl ZjO rfl (Zhq hc4 0 rfl rfl) r4) (h:=aM 4 rfl (h:=aM 5 rfl (h:=?_))))
 obtain ⟨y,hy⟩:=Z2 (xs:=ys) (i:=k) om
 obtain ⟨bb6,oo6,rfl⟩:=hb.base hy
 obtain ⟨_,⟨rfl,hb7,hb7b⟩,hc7⟩:=hb.elem hy
 refine aIx 6 rfl Try.underlying48 ZcY (h:=aT 7 rfl (ZU fun D=>Zak [_,_,_] rfl rfl ZjO rfl (Zhq hc7 0 rfl rfl) r4) (h:=aT 8 rfl (ZU fun D=>ZZ rfl rfl ZmG rfl (Zje x y _ ) r4) (h:=aN 9 rfl (h:=Zs kr kr ?_))))
 refine Ze (Zd rfl (fun g3=>?_) (fun g3=>?_))
 try simp only [sQ,ne_eq] at g3
 refine Za (xA (h:=Zj (ZA (Zp (ZS (ZA (Zp ?_)))))))
 exact ZC .ret (.inl rfl) [_] t1 ⟨Zc (ZbV hx hy g3),rfl,rfl⟩
 try simp only [sQ,ne_eq] at g3
 refine Zh (ZY (Ze (Zk (xM (h:=xD (h:=xA (h:=?_)))))))
 exact ZJ (k+1) [] so2 ⟨rfl,oz,Zay hx hy g3 he⟩ t4 rfl
 try simp only [sQ,ne_eq] at g2
 refine ZH (Z3 (ZO (Zx (Ze (Za (xA (h:=Zj ?_)))))))
 exact ZC .ret (.inl rfl) [_] t1 ⟨Zc (eqT oz oz he),rfl,rfl⟩

set_option maxHeartbeats 400000 in
theorem Zhj (q q':Option Addr) (cp cp':Nat) (xs ys:List DGrant) (B:Kn) (ha:SlK B q cp 2 Z1 xs) (hb:SlK B q' cp' 2 Z1 ys):Zaw (pj J) 100 [.slice q xs.length cp,.slice q' ys.length cp'] B (.bool (decide (xs=ys))):=by
 refine Zb 27 Try.func100 rfl rfl rfl (Nat.le_of_ble_eq_true rfl) ?_
 have han:=ha.len
 have hbn:=hb.len
 refine Za (xA (h:=Zg (Za (xM (h:=xV Try.underlying86 (h:=xM (h:=xV Try.underlying86 (h:=Zan (h:=Zd rfl (fun g1=>?_) (fun g1=>?_))))))))))
 try simp only [sQ,ne_eq] at g1
 refine Za (xA (h:=Zj (Zp ?_)))
 exact ZC .ret (.inl rfl) [_] t1 ⟨Zc (ZcM g1),rfl,rfl⟩
 try simp only [sQ,ne_eq] at g1
 refine Zh (Ze (Zg (Za (xA (h:=Zl (ZB (α:=Nat) [0,1,10] (fun k=>[(5,.int .i64 k)]) [] (fun k=>[]) (fun k Bx=>Bx=B∧k≤xs.length∧xs.take k=ys.take k) (fun k=>xs.length - k) 0 t1 rfl (⟨rfl,Nat.zero_le _,by simp⟩) (fun k B1 hle1 hI=>?_)))))))
 obtain ⟨rfl,hk,he⟩:=hI
 refine ZF [(0,_),(1,_),(5,_),(10,_)] [] t4 rfl (Zg (Za (xM (h:=xM (h:=xV Try.underlying86 (h:=ZN (h:=Zd rfl (fun g2=>?_) (fun g2=>?_))))))))
 try simp only [sQ,ne_eq] at g2
 refine Zh (Ze (Zg (Zl (Zg (Z7 (same _ _) mo kr ⟨rfl,rfl⟩ (fun _ _=>?_))))))
 refine aM 0 rfl (h:=aM 1 rfl (h:=?_))
 obtain ⟨x,hx⟩:=Z2 (xs:=xs) (i:=k) om
 obtain ⟨bb3,oo3,rfl⟩:=ha.base hx
 obtain ⟨_,⟨rfl,hb4⟩,hc4⟩:=ha.elem hx
 refine aIx 2 rfl Try.underlying86 ZcB (h:=aT 3 rfl (ZU fun D=>Zak [_,_] rfl rfl Zk5 rfl (Zhq hc4 0 rfl rfl) r4) (h:=aM 4 rfl (h:=aM 5 rfl (h:=?_))))
 obtain ⟨y,hy⟩:=Z2 (xs:=ys) (i:=k) om
 obtain ⟨bb6,oo6,rfl⟩:=hb.base hy
 obtain ⟨_,⟨rfl,hb7⟩,hc7⟩:=hb.elem hy
 refine aIx 6 rfl Try.underlying86 ZcB (h:=aT 7 rfl (ZU fun D=>Zak [_,_] rfl rfl Zk5 rfl (Zhq hc7 0 rfl rfl) r4) (h:=aT 8 rfl (ZU fun D=>ZZ rfl rfl ZlN rfl (Ziu x y _ ) r4) (h:=aN 9 rfl (h:=Zs kr kr ?_))))
 refine Ze (Zd rfl (fun g3=>?_) (fun g3=>?_))
 try simp only [sQ,ne_eq] at g3
 refine Za (xA (h:=Zj (ZA (Zp (ZS (ZA (Zp ?_)))))))
 exact ZC .ret (.inl rfl) [_] t1 ⟨Zc (ZbV hx hy g3),rfl,rfl⟩
 try simp only [sQ,ne_eq] at g3
 refine Zh (ZY (Ze (Zk (xM (h:=xD (h:=xA (h:=?_)))))))
 exact ZJ (k+1) [] so2 ⟨rfl,oz,Zay hx hy g3 he⟩ t4 rfl
 try simp only [sQ,ne_eq] at g2
 refine ZH (Z3 (ZO (Zx (Ze (Za (xA (h:=Zj ?_)))))))
 exact ZC .ret (.inl rfl) [_] t1 ⟨Zc (eqT oz oz he),rfl,rfl⟩

set_option maxHeartbeats 400000 in
theorem Zis (q q':Option Addr) (cp cp':Nat) (xs ys:List DMail) (B:Kn) (ha:SlK B q cp 3 Zar xs) (hb:SlK B q' cp' 3 Zar ys):Zaw (pj J) 107 [.slice q xs.length cp,.slice q' ys.length cp'] B (.bool (decide (xs=ys))):=by
 refine Zb 27 Try.func107 rfl rfl rfl (Nat.le_of_ble_eq_true rfl) ?_
 have han:=ha.len
 have hbn:=hb.len
 refine Za (xA (h:=Zg (Za (xM (h:=xV Try.underlying87 (h:=xM (h:=xV Try.underlying87 (h:=Zan (h:=Zd rfl (fun g1=>?_) (fun g1=>?_))))))))))
 try simp only [sQ,ne_eq] at g1
 refine Za (xA (h:=Zj (Zp ?_)))
 exact ZC .ret (.inl rfl) [_] t1 ⟨Zc (ZcM g1),rfl,rfl⟩
 try simp only [sQ,ne_eq] at g1
 refine Zh (Ze (Zg (Za (xA (h:=Zl (ZB (α:=Nat) [0,1,10] (fun k=>[(5,.int .i64 k)]) [] (fun k=>[]) (fun k Bx=>Bx=B∧k≤xs.length∧xs.take k=ys.take k) (fun k=>xs.length - k) 0 t1 rfl (⟨rfl,Nat.zero_le _,by simp⟩) (fun k B1 hle1 hI=>?_)))))))
 obtain ⟨rfl,hk,he⟩:=hI
 refine ZF [(0,_),(1,_),(5,_),(10,_)] [] t4 rfl (Zg (Za (xM (h:=xM (h:=xV Try.underlying87 (h:=ZN (h:=Zd rfl (fun g2=>?_) (fun g2=>?_))))))))
 try simp only [sQ,ne_eq] at g2
 refine Zh (Ze (Zg (Zl (Zg (Z7 (same _ _) mo kr ⟨rfl,rfl⟩ (fun _ _=>?_))))))
 refine aM 0 rfl (h:=aM 1 rfl (h:=?_))
 obtain ⟨x,hx⟩:=Z2 (xs:=xs) (i:=k) om
 obtain ⟨bb3,oo3,rfl⟩:=ha.base hx
 obtain ⟨_,⟨rfl,hb4⟩,hc4⟩:=ha.elem hx
 refine aIx 2 rfl Try.underlying87 Zb8 (h:=aT 3 rfl (ZU fun D=>Zak [_,_,_] rfl rfl Zkq rfl (Zhq hc4 0 rfl rfl) r4) (h:=aM 4 rfl (h:=aM 5 rfl (h:=?_))))
 obtain ⟨y,hy⟩:=Z2 (xs:=ys) (i:=k) om
 obtain ⟨bb6,oo6,rfl⟩:=hb.base hy
 obtain ⟨_,⟨rfl,hb7⟩,hc7⟩:=hb.elem hy
 refine aIx 6 rfl Try.underlying87 Zb8 (h:=aT 7 rfl (ZU fun D=>Zak [_,_,_] rfl rfl Zkq rfl (Zhq hc7 0 rfl rfl) r4) (h:=aT 8 rfl (ZU fun D=>ZZ rfl rfl ZlK rfl (Zjf x y _ ) r4) (h:=aN 9 rfl (h:=Zs kr kr ?_))))
 refine Ze (Zd rfl (fun g3=>?_) (fun g3=>?_))
 try simp only [sQ,ne_eq] at g3
 refine Za (xA (h:=Zj (ZA (Zp (ZS (ZA (Zp ?_)))))))
 exact ZC .ret (.inl rfl) [_] t1 ⟨Zc (ZbV hx hy g3),rfl,rfl⟩
 try simp only [sQ,ne_eq] at g3
 refine Zh (ZY (Ze (Zk (xM (h:=xD (h:=xA (h:=?_)))))))
 exact ZJ (k+1) [] so2 ⟨rfl,oz,Zay hx hy g3 he⟩ t4 rfl
 try simp only [sQ,ne_eq] at g2
 refine ZH (Z3 (ZO (Zx (Ze (Za (xA (h:=Zj ?_)))))))
 exact ZC .ret (.inl rfl) [_] t1 ⟨Zc (eqT oz oz he),rfl,rfl⟩

set_option maxHeartbeats 400000 in
theorem Zjg (q1:Option Addr) (cp1:Nat) (q2:Option Addr) (cp2:Nat) (a b:DItem) (B:Kn) (h1:SlK B q1 cp1 1 Zc4 a.left) (h2:SlK B q2 cp2 1 Zc4 b.left):Zaw (pj J) 68 [.agg #[.int .i64 a.id,str a.fr,str a.text,.slice q1 a.left.length cp1],.agg #[.int .i64 b.id,str b.fr,str b.text,.slice q2 b.left.length cp2]] B (.bool (decide (a=b))):=by
 refine Zb 26 Try.func68 rfl rfl rfl (Nat.le_of_ble_eq_true rfl) ?_
 refine Za (xBx [_,_,_,_] (h:=fun b1=>xBx [_,_,_,_] (h:=fun b2=>xA (h:=Zaa [_,_] rfl (Zg (Za (xW Zen (h:=x1 lk3 0 (h:=xW Zen (h:=x1 lk3 1 (h:=Zan (h:=Zd rfl (fun g1=>?_) (fun g1=>?_)))))))))))))
 try simp only [sQ,ne_eq] at g1
 refine Za (xA (h:=Zj (Zp ?_)))
 exact ZC .ret (.inl rfl) [_] t1 ⟨Zc (by symm;rw [decide_eq_false_iff_not];rintro rfl;exact g1 rfl),rfl,rfl⟩
 try simp only [sQ,ne_eq] at g1
 refine Zh (Ze (Zg (Za (xW Zem (h:=x1 lk9 0 (h:=xW Zem (h:=x1 lk9 1 (h:=ZbW (h:=Zd rfl (fun g2=>?_) (fun g2=>?_))))))))))
 try simp only [sQ,ne_eq] at g2
 refine Za (xA (h:=Zj (Zp ?_)))
 exact ZC .ret (.inl rfl) [_] t1 ⟨Zc (by symm;rw [decide_eq_false_iff_not];rintro rfl;exact g2 rfl),rfl,rfl⟩
 try simp only [sQ,ne_eq] at g2
 refine Zh (Ze (Zg (Za (xW Zft (h:=x1 lk9 0 (h:=xW Zft (h:=x1 lk9 1 (h:=ZbW (h:=Zd rfl (fun g3=>?_) (fun g3=>?_))))))))))
 try simp only [sQ,ne_eq] at g3
 refine Za (xA (h:=Zj (Zp ?_)))
 exact ZC .ret (.inl rfl) [_] t1 ⟨Zc (by symm;rw [decide_eq_false_iff_not];rintro rfl;exact g3 rfl),rfl,rfl⟩
 try simp only [sQ,ne_eq] at g3
 refine Zh (Ze (Zg (Za (xW Zel (h:=x1 ZjP 0 (h:=xW Zel (h:=x1 ZjP 1 (h:=xR ZmP rfl (Zga _ _ _ _ _ _ _ h1 h2) (h:=xN (h:=Zd rfl (fun g4=>?_) (fun g4=>?_)))))))))))
 try simp only [sQ,ne_eq] at g4
 refine Za (xA (h:=Zj (Zp ?_)))
 exact ZC .ret (.inl rfl) [_] t1 ⟨Zc (by symm;rw [decide_eq_false_iff_not];rintro rfl;exact g4 rfl),rfl,rfl⟩
 try simp only [sQ,ne_eq] at g4
 refine Zh (Ze (Za (xA (h:=Zj ?_))))
 exact ZC .ret (.inl rfl) [_] t1 ⟨Zc (by symm;rw [decide_eq_true_eq];cases a;cases b;simp_all),rfl,rfl⟩

set_option maxHeartbeats 400000 in
theorem Zit (q q':Option Addr) (cp cp':Nat) (xs ys:List DItem) (B:Kn) (ha:SlK B q cp 4 ZaC xs) (hb:SlK B q' cp' 4 ZaC ys):Zaw (pj J) 38 [.slice q xs.length cp,.slice q' ys.length cp'] B (.bool (decide (xs=ys))):=by
 refine Zb 27 Try.func38 rfl rfl rfl (Nat.le_of_ble_eq_true rfl) ?_
 have han:=ha.len
 have hbn:=hb.len
 refine Za (xA (h:=Zg (Za (xM (h:=xV Try.underlying26 (h:=xM (h:=xV Try.underlying26 (h:=Zan (h:=Zd rfl (fun g1=>?_) (fun g1=>?_))))))))))
 try simp only [sQ,ne_eq] at g1
 refine Za (xA (h:=Zj (Zp ?_)))
 exact ZC .ret (.inl rfl) [_] t1 ⟨Zc (ZcM g1),rfl,rfl⟩
 try simp only [sQ,ne_eq] at g1
 refine Zh (Ze (Zg (Za (xA (h:=Zl (ZB (α:=Nat) [0,1,10] (fun k=>[(5,.int .i64 k)]) [] (fun k=>[]) (fun k Bx=>Bx=B∧k≤xs.length∧xs.take k=ys.take k) (fun k=>xs.length - k) 0 t1 rfl (⟨rfl,Nat.zero_le _,by simp⟩) (fun k B1 hle1 hI=>?_)))))))
 obtain ⟨rfl,hk,he⟩:=hI
 refine ZF [(0,_),(1,_),(5,_),(10,_)] [] t4 rfl (Zg (Za (xM (h:=xM (h:=xV Try.underlying26 (h:=ZN (h:=Zd rfl (fun g2=>?_) (fun g2=>?_))))))))
 try simp only [sQ,ne_eq] at g2
 refine Zh (Ze (Zg (Zl (Zg (Z7 (same _ _) mo kr ⟨rfl,rfl⟩ (fun _ _=>?_))))))
 refine aM 0 rfl (h:=aM 1 rfl (h:=?_))
 obtain ⟨x,hx⟩:=Z2 (xs:=xs) (i:=k) om
 obtain ⟨bb3,oo3,rfl⟩:=ha.base hx
 obtain ⟨_,⟨qi4,ci4,rfl,hi4,hb4,hb4b⟩,hc4⟩:=ha.elem hx
 have hi4n:=hi4.len
 refine aIx 2 rfl Try.underlying26 ZfF (h:=aT 3 rfl (ZU fun D=>Zak [_,_,_,_] rfl rfl Zlm rfl (Zhq hc4 0 rfl rfl) r4) (h:=aM 4 rfl (h:=aM 5 rfl (h:=?_))))
 obtain ⟨y,hy⟩:=Z2 (xs:=ys) (i:=k) om
 obtain ⟨bb6,oo6,rfl⟩:=hb.base hy
 obtain ⟨_,⟨qi7,ci7,rfl,hi7,hb7,hb7b⟩,hc7⟩:=hb.elem hy
 have hi7n:=hi7.len
 refine aIx 6 rfl Try.underlying26 ZfF (h:=aT 7 rfl (ZU fun D=>Zak [_,_,_,_] rfl rfl Zlm rfl (Zhq hc7 0 rfl rfl) r4) (h:=aT 8 rfl (ZU fun D=>ZZ rfl rfl ZmB rfl (Zjg _ _ _ _ x y _ hi4 hi7) r4) (h:=aN 9 rfl (h:=Zs kr kr ?_))))
 refine Ze (Zd rfl (fun g3=>?_) (fun g3=>?_))
 try simp only [sQ,ne_eq] at g3
 refine Za (xA (h:=Zj (ZA (Zp (ZS (ZA (Zp ?_)))))))
 exact ZC .ret (.inl rfl) [_] t1 ⟨Zc (ZbV hx hy g3),rfl,rfl⟩
 try simp only [sQ,ne_eq] at g3
 refine Zh (ZY (Ze (Zk (xM (h:=xD (h:=xA (h:=?_)))))))
 exact ZJ (k+1) [] so2 ⟨rfl,oz,Zay hx hy g3 he⟩ t4 rfl
 try simp only [sQ,ne_eq] at g2
 refine ZH (Z3 (ZO (Zx (Ze (Za (xA (h:=Zj ?_)))))))
 exact ZC .ret (.inl rfl) [_] t1 ⟨Zc (eqT oz oz he),rfl,rfl⟩

set_option maxHeartbeats 400000 in
theorem Zir (q1:Option Addr) (cp1:Nat) (q2:Option Addr) (cp2:Nat) (a b:DQueue) (B:Kn) (h1:SlK B q1 cp1 4 ZaC a.items) (h2:SlK B q2 cp2 4 ZaC b.items):Zaw (pj J) 10 [.agg #[.int .i64 a.next,.slice q1 a.items.length cp1],.agg #[.int .i64 b.next,.slice q2 b.items.length cp2]] B (.bool (decide (a=b))):=by
 refine Zb 16 Try.func10 rfl rfl rfl (Nat.le_of_ble_eq_true rfl) ?_
 refine Za (xBx [_,_] (h:=fun b1=>xBx [_,_] (h:=fun b2=>xA (h:=Zaa [_,_] rfl (Zg (Za (xW Zin (h:=x1 lk3 0 (h:=xW Zin (h:=x1 lk3 1 (h:=Zan (h:=Zd rfl (fun g1=>?_) (fun g1=>?_)))))))))))))
 try simp only [sQ,ne_eq] at g1
 refine Za (xA (h:=Zj (Zp ?_)))
 exact ZC .ret (.inl rfl) [_] t1 ⟨Zc (by symm;rw [decide_eq_false_iff_not];rintro rfl;exact g1 rfl),rfl,rfl⟩
 try simp only [sQ,ne_eq] at g1
 refine Zh (Ze (Zg (Za (xW Zcx (h:=x1 Zi0 0 (h:=xW Zcx (h:=x1 Zi0 1 (h:=xR ZmT rfl (Zit _ _ _ _ _ _ _ h1 h2) (h:=xN (h:=Zd rfl (fun g2=>?_) (fun g2=>?_)))))))))))
 try simp only [sQ,ne_eq] at g2
 refine Za (xA (h:=Zj (Zp ?_)))
 exact ZC .ret (.inl rfl) [_] t1 ⟨Zc (by symm;rw [decide_eq_false_iff_not];rintro rfl;exact g2 rfl),rfl,rfl⟩
 try simp only [sQ,ne_eq] at g2
 refine Zh (Ze (Za (xA (h:=Zj ?_))))
 exact ZC .ret (.inl rfl) [_] t1 ⟨Zc (by symm;rw [decide_eq_true_eq];cases a;cases b;simp_all),rfl,rfl⟩

set_option maxHeartbeats 400000 in
theorem Zkw (q1:Option Addr) (cp1:Nat) (q2:Option Addr) (cp2:Nat) (a b:DBox) (B:Kn) (h1:SlK B q1 cp1 3 Zar a.mail) (h2:SlK B q2 cp2 3 Zar b.mail):Zaw (pj J) 101 [.agg #[.int .i64 a.next,.slice q1 a.mail.length cp1],.agg #[.int .i64 b.next,.slice q2 b.mail.length cp2]] B (.bool (decide (a=b))):=by
 refine Zb 16 Try.func101 rfl rfl rfl (Nat.le_of_ble_eq_true rfl) ?_
 refine Za (xBx [_,_] (h:=fun b1=>xBx [_,_] (h:=fun b2=>xA (h:=Zaa [_,_] rfl (Zg (Za (xW Zfs (h:=x1 lk3 0 (h:=xW Zfs (h:=x1 lk3 1 (h:=Zan (h:=Zd rfl (fun g1=>?_) (fun g1=>?_)))))))))))))
 try simp only [sQ,ne_eq] at g1
 refine Za (xA (h:=Zj (Zp ?_)))
 exact ZC .ret (.inl rfl) [_] t1 ⟨Zc (by symm;rw [decide_eq_false_iff_not];rintro rfl;exact g1 rfl),rfl,rfl⟩
 try simp only [sQ,ne_eq] at g1
 refine Zh (Ze (Zg (Za (xW ZbL (h:=x1 Zh9 0 (h:=xW ZbL (h:=x1 Zh9 1 (h:=xR ZlM rfl (Zis _ _ _ _ _ _ _ h1 h2) (h:=xN (h:=Zd rfl (fun g2=>?_) (fun g2=>?_)))))))))))
 try simp only [sQ,ne_eq] at g2
 refine Za (xA (h:=Zj (Zp ?_)))
 exact ZC .ret (.inl rfl) [_] t1 ⟨Zc (by symm;rw [decide_eq_false_iff_not];rintro rfl;exact g2 rfl),rfl,rfl⟩
 try simp only [sQ,ne_eq] at g2
 refine Zh (Ze (Za (xA (h:=Zj ?_))))
 exact ZC .ret (.inl rfl) [_] t1 ⟨Zc (by symm;rw [decide_eq_true_eq];cases a;cases b;simp_all),rfl,rfl⟩

set_option maxHeartbeats 400000 in
theorem Zhk (qa1 qb1:Option Addr) (ca1 cb1:Nat) (qa2 qb2:Option Addr) (ca2 cb2:Nat) (a b:DFolder) (B:Kn) (hg1:SlK B qa1 ca1 2 Z1 a.grants) (hm1:SlK B qb1 cb1 3 Zar a.mail) (hg2:SlK B qa2 ca2 2 Z1 b.grants) (hm2:SlK B qb2 cb2 3 Zar b.mail):Zaw (pj J) 84 [.agg #[str a.owner,str a.name,.slice qa1 a.grants.length ca1,.int .i64 a.next,.slice qb1 a.mail.length cb1],.agg #[str b.owner,str b.name,.slice qa2 b.grants.length ca2,.int .i64 b.next,.slice qb2 b.mail.length cb2]] B (.bool (decide (a=b))):=by
 refine Zb 27 Try.func84 rfl rfl rfl (Nat.le_of_ble_eq_true rfl) ?_
 refine Za (xBx [_,_,_,_,_] (h:=fun b1=>xBx [_,_,_,_,_] (h:=fun b2=>xA (h:=Zaa [_,_] rfl (Zg (Za (xW ZbK (h:=x1 lk9 0 (h:=xW ZbK (h:=x1 lk9 1 (h:=ZbW (h:=Zd rfl (fun g1=>?_) (fun g1=>?_)))))))))))))
 try simp only [sQ,ne_eq] at g1
 refine Za (xA (h:=Zj (Zp ?_)))
 exact ZC .ret (.inl rfl) [_] t1 ⟨Zc (by symm;rw [decide_eq_false_iff_not];rintro rfl;exact g1 rfl),rfl,rfl⟩
 try simp only [sQ,ne_eq] at g1
 refine Zh (Ze (Zg (Za (xW ZcU (h:=x1 lk9 0 (h:=xW ZcU (h:=x1 lk9 1 (h:=ZbW (h:=Zd rfl (fun g2=>?_) (fun g2=>?_))))))))))
 try simp only [sQ,ne_eq] at g2
 refine Za (xA (h:=Zj (Zp ?_)))
 exact ZC .ret (.inl rfl) [_] t1 ⟨Zc (by symm;rw [decide_eq_false_iff_not];rintro rfl;exact g2 rfl),rfl,rfl⟩
 try simp only [sQ,ne_eq] at g2
 refine Zh (Ze (Zg (Za (xW Zfr (h:=x1 Zk3 0 (h:=xW Zfr (h:=x1 Zk3 1 (h:=xR ZlR rfl (Zhj _ _ _ _ _ _ _ hg1 hg2) (h:=xN (h:=Zd rfl (fun g3=>?_) (fun g3=>?_)))))))))))
 try simp only [sQ,ne_eq] at g3
 refine Za (xA (h:=Zj (Zp ?_)))
 exact ZC .ret (.inl rfl) [_] t1 ⟨Zc (by symm;rw [decide_eq_false_iff_not];rintro rfl;exact g3 rfl),rfl,rfl⟩
 try simp only [sQ,ne_eq] at g3
 refine Zh (Ze (Zg (Za (xW ZcT (h:=xL [_,_] Zll 0 (h:=xW ZcT (h:=xL [_,_] Zll 1 (h:=xR ZlQ rfl (Zkw _ _ _ _ (⟨a.next,a.mail⟩:DBox) (⟨b.next,b.mail⟩:DBox) _ hm1 hm2) (h:=xN (h:=Zd rfl (fun g4=>?_) (fun g4=>?_)))))))))))
 try simp only [sQ,ne_eq] at g4
 refine Za (xA (h:=Zj (Zp ?_)))
 exact ZC .ret (.inl rfl) [_] t1 ⟨Zc (by symm;rw [decide_eq_false_iff_not];rintro rfl;exact g4 rfl),rfl,rfl⟩
 try simp only [sQ,ne_eq] at g4
 refine Zh (Ze (Za (xA (h:=Zj ?_))))
 exact ZC .ret (.inl rfl) [_] t1 ⟨Zc (by symm;rw [decide_eq_true_eq];cases a;cases b;simp_all),rfl,rfl⟩

set_option maxHeartbeats 400000 in
theorem Zgc (q q':Option Addr) (cp cp':Nat) (xs ys:List DFolder) (B:Kn) (ha:SlK B q cp 5 ZD xs) (hb:SlK B q' cp' 5 ZD ys):Zaw (pj J) 55 [.slice q xs.length cp,.slice q' ys.length cp'] B (.bool (decide (xs=ys))):=by
 refine Zb 27 Try.func55 rfl rfl rfl (Nat.le_of_ble_eq_true rfl) ?_
 have han:=ha.len
 have hbn:=hb.len
 refine Za (xA (h:=Zg (Za (xM (h:=xV Try.underlying49 (h:=xM (h:=xV Try.underlying49 (h:=Zan (h:=Zd rfl (fun g1=>?_) (fun g1=>?_))))))))))
 try simp only [sQ,ne_eq] at g1
 refine Za (xA (h:=Zj (Zp ?_)))
 exact ZC .ret (.inl rfl) [_] t1 ⟨Zc (ZcM g1),rfl,rfl⟩
 try simp only [sQ,ne_eq] at g1
 refine Zh (Ze (Zg (Za (xA (h:=Zl (ZB (α:=Nat) [0,1,10] (fun k=>[(5,.int .i64 k)]) [] (fun k=>[]) (fun k Bx=>Bx=B∧k≤xs.length∧xs.take k=ys.take k) (fun k=>xs.length - k) 0 t1 rfl (⟨rfl,Nat.zero_le _,by simp⟩) (fun k B1 hle1 hI=>?_)))))))
 obtain ⟨rfl,hk,he⟩:=hI
 refine ZF [(0,_),(1,_),(5,_),(10,_)] [] t4 rfl (Zg (Za (xM (h:=xM (h:=xV Try.underlying49 (h:=ZN (h:=Zd rfl (fun g2=>?_) (fun g2=>?_))))))))
 try simp only [sQ,ne_eq] at g2
 refine Zh (Ze (Zg (Zl (Zg (Z7 (same _ _) mo kr ⟨rfl,rfl⟩ (fun _ _=>?_))))))
 refine aM 0 rfl (h:=aM 1 rfl (h:=?_))
 obtain ⟨x,hx⟩:=Z2 (xs:=xs) (i:=k) om
 obtain ⟨bb3,oo3,rfl⟩:=ha.base hx
 obtain ⟨_,⟨qg4,cg4,qm4,cm4,rfl,hg4,hm4,hb4,hb4b⟩,hc4⟩:=ha.elem hx
 have hg4n:=hg4.len
 have hm4n:=hm4.len
 have hm4s:=Za5 hm4
 refine aIx 2 rfl Try.underlying49 Zc2 (h:=aT 3 rfl (ZU fun D=>Zak [_,_,_,_,_] rfl rfl ZkG rfl (Zhq hc4 0 rfl rfl) r4) (h:=aM 4 rfl (h:=aM 5 rfl (h:=?_))))
 obtain ⟨y,hy⟩:=Z2 (xs:=ys) (i:=k) om
 obtain ⟨bb6,oo6,rfl⟩:=hb.base hy
 obtain ⟨_,⟨qg7,cg7,qm7,cm7,rfl,hg7,hm7,hb7,hb7b⟩,hc7⟩:=hb.elem hy
 have hg7n:=hg7.len
 have hm7n:=hm7.len
 have hm7s:=Za5 hm7
 refine aIx 6 rfl Try.underlying49 Zc2 (h:=aT 7 rfl (ZU fun D=>Zak [_,_,_,_,_] rfl rfl ZkG rfl (Zhq hc7 0 rfl rfl) r4) (h:=aT 8 rfl (ZU fun D=>ZZ rfl rfl Zmq rfl (Zhk _ _ _ _ _ _ _ _ x y _ hg4 hm4 hg7 hm7) r4) (h:=aN 9 rfl (h:=Zs kr kr ?_))))
 refine Ze (Zd rfl (fun g3=>?_) (fun g3=>?_))
 try simp only [sQ,ne_eq] at g3
 refine Za (xA (h:=Zj (ZA (Zp (ZS (ZA (Zp ?_)))))))
 exact ZC .ret (.inl rfl) [_] t1 ⟨Zc (ZbV hx hy g3),rfl,rfl⟩
 try simp only [sQ,ne_eq] at g3
 refine Zh (ZY (Ze (Zk (xM (h:=xD (h:=xA (h:=?_)))))))
 exact ZJ (k+1) [] so2 ⟨rfl,oz,Zay hx hy g3 he⟩ t4 rfl
 try simp only [sQ,ne_eq] at g2
 refine ZH (Z3 (ZO (Zx (Ze (Za (xA (h:=Zj ?_)))))))
 exact ZC .ret (.inl rfl) [_] t1 ⟨Zc (eqT oz oz he),rfl,rfl⟩

set_option maxHeartbeats 400000 in
theorem ZeM (qa1 qb1 qc1:Option Addr) (ca1 cb1 cc1:Nat) (qa2 qb2 qc2:Option Addr) (ca2 cb2 cc2:Nat) (a b:DHost) (B:Kn) (hu1:SlK B qa1 ca1 3 Zv a.users) (hf1:SlK B qb1 cb1 5 ZD a.folders) (hi1:SlK B qc1 cc1 4 ZaC a.queue.items) (hu2:SlK B qa2 ca2 3 Zv b.users) (hf2:SlK B qb2 cb2 5 ZD b.folders) (hi2:SlK B qc2 cc2 4 ZaC b.queue.items):Zaw (pj J) 23 [.agg #[str a.domain,.slice qa1 a.users.length ca1,.slice qb1 a.folders.length cb1,.int .i64 a.queue.next,.slice qc1 a.queue.items.length cc1],.agg #[str b.domain,.slice qa2 b.users.length ca2,.slice qb2 b.folders.length cb2,.int .i64 b.queue.next,.slice qc2 b.queue.items.length cc2]] B (.bool (decide (a=b))):=by
 refine Zb 28 Try.func23 rfl rfl rfl (Nat.le_of_ble_eq_true rfl) ?_
 refine Za (xBx [_,_,_,_,_] (h:=fun b1=>xBx [_,_,_,_,_] (h:=fun b2=>xA (h:=Zaa [_,_] rfl (Zg (Za (xW Zim (h:=x1 lk9 0 (h:=xW Zim (h:=x1 lk9 1 (h:=ZbW (h:=Zd rfl (fun g1=>?_) (fun g1=>?_)))))))))))))
 try simp only [sQ,ne_eq] at g1
 refine Za (xA (h:=Zj (Zp ?_)))
 exact ZC .ret (.inl rfl) [_] t1 ⟨Zc (by symm;rw [decide_eq_false_iff_not];rintro rfl;exact g1 rfl),rfl,rfl⟩
 try simp only [sQ,ne_eq] at g1
 refine Zh (Ze (Zg (Za (xW ZbA (h:=x1 Zhr 0 (h:=xW ZbA (h:=x1 Zhr 1 (h:=xR Zl6 rfl (Zfv _ _ _ _ _ _ _ hu1 hu2) (h:=xN (h:=Zd rfl (fun g2=>?_) (fun g2=>?_)))))))))))
 try simp only [sQ,ne_eq] at g2
 refine Za (xA (h:=Zj (Zp ?_)))
 exact ZC .ret (.inl rfl) [_] t1 ⟨Zc (by symm;rw [decide_eq_false_iff_not];rintro rfl;exact g2 rfl),rfl,rfl⟩
 try simp only [sQ,ne_eq] at g2
 refine Zh (Ze (Zg (Za (xW ZaI (h:=x1 ZfG 0 (h:=xW ZaI (h:=x1 ZfG 1 (h:=xR ZmH rfl (Zgc _ _ _ _ _ _ _ hf1 hf2) (h:=xN (h:=Zd rfl (fun g3=>?_) (fun g3=>?_)))))))))))
 try simp only [sQ,ne_eq] at g3
 refine Za (xA (h:=Zj (Zp ?_)))
 exact ZC .ret (.inl rfl) [_] t1 ⟨Zc (by symm;rw [decide_eq_false_iff_not];rintro rfl;exact g3 rfl),rfl,rfl⟩
 try simp only [sQ,ne_eq] at g3
 refine Zh (Ze (Zg (Za (xW ZdE (h:=xL [_,_] Zk4 0 (h:=xW ZdE (h:=xL [_,_] Zk4 1 (h:=xR Zm0 rfl (Zir _ _ _ _ a.queue b.queue _ hi1 hi2) (h:=xN (h:=Zd rfl (fun g4=>?_) (fun g4=>?_)))))))))))
 try simp only [sQ,ne_eq] at g4
 refine Za (xA (h:=Zj (Zp ?_)))
 exact ZC .ret (.inl rfl) [_] t1 ⟨Zc (by symm;rw [decide_eq_false_iff_not];rintro rfl;exact g4 rfl),rfl,rfl⟩
 try simp only [sQ,ne_eq] at g4
 refine Zh (Ze (Za (xA (h:=Zj ?_))))
 exact ZC .ret (.inl rfl) [_] t1 ⟨Zc (by symm;rw [decide_eq_true_eq];cases a;cases b;simp_all),rfl,rfl⟩

set_option maxHeartbeats 400000 in
theorem ZhN (q:Option Addr) (cp:Nat) (d:Str) (us:List DUser) (hd:d.length≤2000000) (hl:us.length≤1100000) (B:Kn) (hu:SlK B q cp 3 Zv us):ZT (pj J) 20 [str d,.slice q us.length cp] B [] (fun v B' Ls=>Ls=[]∧∃q1 c1 q2 c2 q3 c3,v = .tuple #[.agg #[str (ZE d us).1.domain,.slice q1 (ZE d us).1.users.length c1,.slice q2 (ZE d us).1.folders.length c2,.int .i64 (ZE d us).1.queue.next,.slice q3 (ZE d us).1.queue.items.length c3],.bool (ZE d us).2]∧SlK B' q1 c1 3 Zv (ZE d us).1.users∧SlK B' q2 c2 5 ZD (ZE d us).1.folders∧SlK B' q3 c3 4 ZaC (ZE d us).1.queue.items):=by
 refine Zb 41 Try.func20 rfl rfl rfl (Nat.le_of_ble_eq_true rfl) ?_
 have hun:=hu.len
 refine Za (xAl [_,_,_,_,_] Zho (h:=fun b1=>xA (h:=Zaa [_] rfl (Za (xM (h:=xBs [] [] Try.underlying48 ZcY Zjy (h:=fun b2=>xM (h:=Zr (ZjJ (R:=Zv) 1 rfl (Zab.lit0 (R:=Zv)) rfl rfl rfl ZlG ZlW rfl rfl rfl hu.rows Zv.one rfl om (fun l3 p3 c3 hv3=>?_))))))))))
 refine xBs [] [] Try.underlying49 Zc2 ZiG (h:=fun b4=>xBs [] [] Try.underlying26 ZfF Zlj (h:=fun b5=>xB [(0,_),(1,_)] [_,_] [_,_] ZlY ZlU (h:=xB [(0,_),(1,_),(2,_),(3,_)] [_,_,_,_,_] [_,_,_,_,_] Zk0 Zho (h:=xAl [_,_,_,_,_] Zho (h:=fun b6=>xS [_,_,_,_,_] 4 [_,_,_,_,_] ZiE (h:=Zaa [_,_,_,_,_] rfl (Zg (Za (xA (h:=Zl (ZB (α:=Gh DFolder) [0,1,4,5,6] (fun g=>[(7,.int .i64 g.k)]) [2,4] (fun g=>[g.l,ZaB b6 [str d,.slice p3 us.length c3,.slice g.a g.xs.length g.c,.int .i64 1,.slice (some ⟨b5,0,none⟩) 0 0] 51]) (fun g Bx=>g.k≤us.length∧g.xs=(us.take g.k).map (fun u=>ZcS u.name)∧Zab Bx g.l g.a g.c 91 5 ZD g.xs) (fun g=>us.length - g.k) ⟨0,0,_,_,_,[]⟩ t1 rfl (⟨Nat.zero_le _,by simp,Zab.lit0⟩) (fun g B7 hle7 hI=>?_))))))))))))
 obtain ⟨hk,hx,hv⟩:=hI
 have hgl:g.xs.length≤us.length:=by rw [hx,List.length_map,List.length_take];omega
 replace hu:=hu.mono Zv.mono hle7
 replace hv3:=hv3.mono Zv.mono hle7
 refine ZF [(0,_),(1,_),(4,_),(5,_),(6,_),(7,_)] [_,_,_,_,_] t6 rfl (Zg (Za (xM (h:=xM (h:=xV Try.underlying48 (h:=ZN (h:=Zd rfl (fun g3=>?_) (fun g3=>?_))))))))
 try simp only [sQ,ne_eq] at g3
 refine Zh (Ze (Zg (Zl (Z7 (keeps _ [4] _) mo kr ⟨Kn.le.refl _,Zdt.refl _ _⟩ (fun _ _=>?_)))))
 refine aW 0 rfl ZaI (h:=aT 1 rfl (Ze7 fun D B L hI=>Zq rfl rfl ZfG rfl (atL 4 (hI.2.1.trans rfl) rfl rfl) r4) (h:=aM 2 rfl (h:=aM 3 rfl (h:=?_))))
 obtain ⟨w,hw⟩:=Z2 (xs:=us) (i:=g.k) om
 obtain ⟨bb9,oo9,rfl⟩:=hu.base hw
 obtain ⟨_,⟨rfl,hb10,hb10b⟩,hc10⟩:=hu.elem hw
 refine aIx 4 rfl Try.underlying48 ZcY (h:=aW 5 rfl ZaK (h:=aT 6 rfl (Ze7 fun D B L hI=>Zq rfl rfl lk9 rfl ((hc10.mono hI.1) _ 0 _ rfl) r4) (h:=ZkB [7,8] kr kr kr ⟨?_,?_⟩)))
 refine (Zac (parts:=[]) [] rfl rfl Try.underlying86 ZcB Zj0 rfl rfl rfl rfl rfl (fun b11=>⟨⟨Kn.le.refl _,t1⟩,(ZgV 5 rfl (Zab.lit0 (R:=Z1) (w:=2)) Z1.mono om3 (fun B' hle'=>⟨hle',t1⟩) (fun B12 hle12 hr12=>?_))⟩))
 replace hu:=hu.mono Zv.mono hle12
 replace hc10:=hc10.mono hle12
 replace hv3:=hv3.mono Zv.mono hle12
 replace hv:=hv.mono ZD.mono hle12
 have hr12n:=hr12.len
 refine Zbv 8 kr rfl kr (Zac (parts:=[]) [] rfl rfl Try.underlying87 Zb8 ZjZ rfl rfl rfl rfl rfl (fun b13=>?_))
 refine ⟨⟨hle12,t1⟩,(ZgV 6 rfl (Zab.lit0 (R:=Zar) (w:=3)) Zar.mono om3 (fun B' hle'=>⟨hle12.trans hle',t1⟩) (fun B14 hle14 hr14=>?_))⟩
 replace hu:=hu.mono Zv.mono hle14
 replace hc10:=hc10.mono hle14
 replace hr12:=hr12.mono Z1.mono hle14
 replace hv3:=hv3.mono Zv.mono hle14
 replace hv:=hv.mono ZD.mono hle14
 have hr14n:=hr14.len
 refine aT 9 rfl (Ze7 fun D B L hI=>Zc9 (parts:=[(0,_),(1,_)]) [_,_] [_,_] rfl rfl ZlB Zlq rfl rfl rfl r4) (h:=aT 10 rfl (Ze7 fun D B L hI=>Zc9 (parts:=[(0,_),(1,_),(2,_),(3,_)]) [_,_,_,_,_] [_,_,_,_,_] rfl rfl ZlA ZiG rfl rfl rfl r4) (h:=Zbv 11 kr rfl kr (Zac (parts:=[(0,_)]) [_,_,_,_,_] rfl rfl Try.underlying49 Zc2 ZiG rfl rfl rfl rfl rfl (fun b15=>?_))))
 refine ⟨⟨(hle12.trans hle14),t1⟩,(Zbv 12 kr rfl kr (ZjK (z:=⟨w.name,[105,110,98,111,120],[],1,[]⟩) (R:=ZD) 2 rfl hv rfl rfl rfl ZlF Zlz rfl rfl (Zbb.box 7 rfl) rfl rfl (⟨_,_,_,_,rfl,hr12,hr14,by first | assumption | omega | (simp;done) | (simp;omega),by first | assumption | omega | (simp;done) | (simp;omega)⟩) om (fun l16 p16 c16 hv16=>?_)))⟩
 refine ⟨⟨(hle12.trans hle14),t1⟩,(aW 13 rfl ZaI (h:=Zgl 14 kr rfl kr kr kr (Zb5 [_] 4 [_,_,_,_,_] rfl rfl Zly rfl rfl rfl rfl rfl rfl rfl rfl ?_)))⟩
 refine ZY (Ze (Zk (xM (h:=xD (h:=xA (h:=?_))))))
 exact ZJ ⟨g.k+1,0,l16,p16,c16,(g.xs ++ [⟨w.name,[105,110,98,111,120],[],1,[]⟩])⟩ [0,1,2,3,4] so2 ⟨so,by rw [List.take_add_one,hw];simp [hx,ZcS,inbox],hv16⟩ t6 rfl
 refine (Zac (parts:=[]) [] rfl rfl Try.underlying87 Zb8 ZjZ rfl rfl rfl rfl rfl (fun b17=>⟨⟨Kn.le.refl _,t1⟩,(aT 9 rfl (Ze7 fun D B L hI=>Zc9 (parts:=[(0,_),(1,_)]) [_,_] [_,_] rfl rfl ZlB Zlq rfl rfl rfl r4) (h:=Zbv 7 kr rfl kr (Zac (parts:=[]) [] rfl rfl Try.underlying86 ZcB Zj0 rfl rfl rfl rfl rfl (fun b18=>?_))))⟩))
 refine ⟨⟨Kn.le.refl _,t1⟩,(ZgV 6 rfl (Zab.lit0 (R:=Z1) (w:=2)) Z1.mono om3 (fun B' hle'=>⟨hle',t1⟩) (fun B19 hle19 hr19=>?_))⟩
 replace hu:=hu.mono Zv.mono hle19
 replace hc10:=hc10.mono hle19
 replace hv3:=hv3.mono Zv.mono hle19
 replace hv:=hv.mono ZD.mono hle19
 have hr19n:=hr19.len
 refine ZgV 5 rfl (Zab.lit0 (R:=Zar) (w:=3)) Zar.mono om3 (fun B' hle'=>⟨hle19.trans hle',t1⟩) (fun B20 hle20 hr20=>?_)
 replace hu:=hu.mono Zv.mono hle20
 replace hc10:=hc10.mono hle20
 replace hr19:=hr19.mono Z1.mono hle20
 replace hv3:=hv3.mono Zv.mono hle20
 replace hv:=hv.mono ZD.mono hle20
 have hr20n:=hr20.len
 refine aT 10 rfl (Ze7 fun D B L hI=>Zc9 (parts:=[(0,_),(1,_),(2,_),(3,_)]) [_,_,_,_,_] [_,_,_,_,_] rfl rfl ZlA ZiG rfl rfl rfl r4) (h:=Zbv 11 kr rfl kr (Zac (parts:=[(0,_)]) [_,_,_,_,_] rfl rfl Try.underlying49 Zc2 ZiG rfl rfl rfl rfl rfl (fun b21=>?_)))
 refine ⟨⟨(hle19.trans hle20),t1⟩,(Zbv 12 kr rfl kr (ZjK (z:=⟨w.name,[105,110,98,111,120],[],1,[]⟩) (R:=ZD) 2 rfl hv rfl rfl rfl ZlF Zlz rfl rfl (Zbb.box 7 rfl) rfl rfl (⟨_,_,_,_,rfl,hr19,hr20,by first | assumption | omega | (simp;done) | (simp;omega),by first | assumption | omega | (simp;done) | (simp;omega)⟩) om (fun l22 p22 c22 hv22=>?_)))⟩
 refine ⟨⟨(hle19.trans hle20),t1⟩,(aW 13 rfl ZaI (h:=Zgl 14 kr rfl kr kr kr (Zb5 [_] 4 [_,_,_,_,_] rfl rfl Zly rfl rfl rfl rfl rfl rfl rfl rfl ?_)))⟩
 refine ZY (Ze (Zk (xM (h:=xD (h:=xA (h:=?_))))))
 exact ZJ ⟨g.k+1,0,l22,p22,c22,(g.xs ++ [⟨w.name,[105,110,98,111,120],[],1,[]⟩])⟩ [0,1,2,3,4] so2 ⟨so,by rw [List.take_add_one,hw];simp [hx,ZcS,inbox],hv22⟩ t6 rfl
 try simp only [sQ,ne_eq] at g3
 have he:(us.map fun u=>ZcS u.name)=g.xs:=by rw [hx,List.take_of_length_le oz]
 have hne:(⟨d,us,g.xs,⟨1,[]⟩⟩:DHost)=Zh1 d us:=by rw [Zh1,he]
 refine ZH (Z3 (ZO (Zx (Ze (Zg (Za (xL [_,_,_,_,_] ZdS 4 (h:=ZhW 1 rfl hv3 Zv.mono om3 (fun B23 hle23 hr23=>?_)))))))))
 replace hu:=hu.mono Zv.mono hle23
 replace hv:=hv.mono ZD.mono hle23
 have hr23n:=hr23.len
 refine ZhW 2 rfl hv ZD.mono om3 (fun B24 hle24 hr24=>?_)
 replace hu:=hu.mono Zv.mono hle24
 replace hr23:=hr23.mono Zv.mono hle24
 have hr24n:=hr24.len
 refine ZhW 3 rfl (Zab.lit0 (R:=ZaC) (w:=4)) ZaC.mono om3 (fun B25 hle25 hr25=>?_)
 replace hu:=hu.mono Zv.mono hle25
 replace hr23:=hr23.mono Zv.mono hle25
 replace hr24:=hr24.mono ZD.mono hle25
 have hr25n:=hr25.len
 refine xR ZmM rfl (Zg1 _ _ _ _ _ _ (⟨d,us,g.xs,⟨1,[]⟩⟩:DHost) om2 _ hr23 hr24 hr25) (h:=?_)
 refine xN (h:=Zaa [_,_,_,_,_] rfl (Zd rfl (fun g4=>?_) (fun g4=>?_)))
 try simp only [sQ,ne_eq] at g4
 rw [ZcH (by rw [← hne];simpa using g4)]
 refine Za (xB [] [_,_,_,_,_] [_,_,_,_,_] Zk0 Zho (h:=xS [_,_,_,_,_] 0 [_,_,_,_,_] ZiE (h:=xA (h:=Zaa [_,_,_,_,_] rfl (Zj (Zp ?_))))))
 exact ZfH .ret (.inl rfl) [_,_] [] rfl ⟨⟨_,rfl,.inr ⟨[_,_,_,_,_],ZdS,Zhp 0 rfl rfl rfl,rfl⟩⟩,rfl,trivial⟩ ⟨rfl,none,0,none,0,none,0,rfl,SlK.nil,SlK.nil,SlK.nil⟩
 try simp only [sQ,ne_eq] at g4
 refine Zh (Ze (Za (xL [_,_,_,_,_] ZdS 4 (h:=xS [_,_,_,_,_] 0 [_,_,_,_,_] ZiE (h:=xA (h:=Zaa [_,_,_,_,_] rfl (Zj ?_)))))))
 exact ZfH .ret (.inl rfl) [_,_] [] rfl ⟨⟨_,rfl,.inr ⟨[_,_,_,_,_],ZdS,Zhp 0 rfl rfl rfl,rfl⟩⟩,rfl,trivial⟩ (by rw [Zdx (by rw [← hne];simpa using g4),← hne];exact ⟨rfl,_,_,_,_,_,_,rfl,hr23,hr24,hr25⟩)

set_option maxHeartbeats 400000 in
theorem ZK (k:Nat) (hk:k≤1000000000000000) (B:Kn):Zaw (pj J) 57 [.int .i64 k] B (str (Zt k)):=by
 refine Zb 20 Try.func57 rfl rfl rfl (Nat.le_of_ble_eq_true rfl) ?_
 refine Za (xA (h:=Zg (Za (xM (h:=Zbl (h:=Zd rfl (fun g1=>?_) (fun g1=>?_)))))))
 try simp only [sQ,ne_eq] at g1
 refine Za (xA (h:=Zj (Zp ?_)))
 exact ZC .ret (.inl rfl) [_] t1 ⟨ZjL (by rw [Zt,if_pos oz]),rfl,rfl⟩
 try simp only [sQ,ne_eq] at g1
 refine Zh (Ze (Za (xA (h:=Zg (Zl (ZB (α:=Nat × Str) [2,5] (fun g=>[(0,.int .i64 g.1),(3,str g.2)]) [] (fun g=>[]) (fun g Bx=>Bx=B∧g.1≤k∧digs k=digs g.1 ++ g.2) (fun g=>g.1) (k,[]) t2 rfl (⟨rfl,Nat.le_refl _,by simp⟩) (fun g B1 hle1 hI=>?_)))))))
 obtain ⟨rfl,hl,hs⟩:=hI
 have hgl:=Zkz hk hs
 refine ZF [(0,_),(2,_),(3,_),(5,_)] [] t4 rfl (Zg (Za (xM (h:=ZiI (h:=Zd rfl (fun g2=>?_) (fun g2=>?_))))))
 try simp only [sQ,ne_eq] at g2
 refine Zh (Ze (Zl (Za (xM (h:=Zr (Zls (a:=(g.1:Int)) (b:=10) (r:=((g.1 % 10:Nat):Int)) rfl rfl rfl rfl (by decide) rfl ?_))))))
 refine xD (h:=Zr (Zj2 rfl rfl Try.underlying3 Try.underlying5 rfl (by first | exact ZbC om om | rfl) ?_))
 refine xBs [(0,_)] [_] Try.underlying124 sz5 zo5 (h:=fun b2=>Zr (ZhA rfl rfl Try.underlying124 Try.underlying9 Try.underlying5 rfl (Zbb.box 0 rfl) (xM (h:=Zr (ZkU (a:=dig g.1) (b:=g.2) rfl rfl rfl rfl (by simp [dig];omega) ?_)))))
 refine xA (h:=Zaa [_] rfl (Zk (xM (h:=Zr (Zlt (a:=(g.1:Int)) (b:=10) (r:=((g.1 / 10:Nat):Int)) rfl rfl rfl rfl (by decide) (by rw [show Int.tdiv (g.1:Int) 10=((g.1 / 10:Nat):Int) from rfl];exact ZbC oz oz) ?_)))))
 refine xA (h:=ZY ?_)
 exact ZJ (g.1 / 10,dig g.1 ++ g.2) [] so2 ⟨rfl,so,Zix hs oz⟩ t4 rfl
 try simp only [sQ,ne_eq] at g2
 refine ZH (Z3 (ZO (Zx (Ze (Za (xM (h:=Zr (ZkU rfl rfl rfl rfl (by first | omega | (simp;omega)) ?_))))))))
 refine xA (h:=Zj ?_)
 exact ZC .ret (.inl rfl) [_] t1 ⟨ZjL (by rw [Zt,if_neg oz,hs,show g.1=0 from by omega,Zfx];rfl),rfl,rfl⟩

set_option maxHeartbeats 400000 in
theorem ZfY (q:Option Addr) (cp:Nat) (xs:List DMail) (l:Cells) (k:Nat) (hk:k≤900000000000000) (hn:xs.length≤2000000) (B:Kn) (hv:Zab B l q cp 144 3 Zar xs):ZT (pj J) 86 [.slice q xs.length cp,.int .i64 k] B [l] (fun v B' Ls=>B'=B∧∃l',Ls=[l']∧v = .int .i64 ((k+3*xs.length:Nat):Int)∧Zab B l' q cp 144 3 Zar (Zau k xs.length)):=by
 refine Zb 35 Try.func86 rfl rfl rfl (Nat.le_of_ble_eq_true rfl) ?_
 have hvc:=hv.cap
 refine Za (xA (h:=Zg (Za (xA (h:=Zl (ZB (α:=Nat × Cells × List DMail) [4] (fun g=>[(0,.slice q xs.length cp),(1,.int .i64 ((k+3*g.1:Nat):Int)),(5,.int .i64 g.1)]) [0] (fun g=>[g.2.1]) (fun g Bx=>Bx=B∧g.1≤xs.length∧g.2.2.length=xs.length∧g.2.2.take g.1=Zau k g.1∧Zab Bx g.2.1 q cp 144 3 Zar g.2.2) (fun g=>xs.length - g.1) (0,l,xs) t3 rfl (⟨rfl,Nat.zero_le _,rfl,rfl,hv⟩) (fun g B1 hle1 hI=>?_)))))))
 obtain ⟨rfl,hi,hle,ht,hw⟩:=hI
 refine ZF [(0,_),(1,_),(4,_),(5,_)] [_] t4 rfl (Zg (Za (xM (h:=xM (h:=xV Try.underlying87 (h:=ZN (h:=Zd rfl (fun g1=>?_) (fun g1=>?_))))))))
 try simp only [sQ,ne_eq] at g1
 refine Zh (Ze (Zg (Zl (Za (xM (h:=xM (h:=xM (h:=?_))))))))
 obtain ⟨z1,hz1⟩:=Z2 (xs:=g.2.2) (i:=g.1) om
 obtain ⟨bb3,_,hp3,⟨rfl,hb3⟩,hw3,hc3⟩:=hw.row hz1
 refine xIp hp3 Try.underlying87 Zb8 (h:=xW Zce (h:=Zr (Zer (k:=g.1) (off:=0) (⟨((k+3*g.1:Nat):Int),z1.flags,z1.text⟩) [_] 0 hw hp3 hz1 rfl rfl sz3 rfl rfl rfl rfl rfl rfl (by rintro _ ⟨rfl,e1⟩;exact ⟨rfl,e1⟩) (fun l4 hv4=>?_))))
 refine Zaa [_] rfl (Za (xM (h:=xD (h:=xA (h:=Za (xM (h:=xM (h:=xM (h:=?_)))))))))
 obtain ⟨z2,hz2⟩:=Z2 (xs:=(g.2.2.set g.1 (⟨((k+3*g.1:Nat):Int),z1.flags,z1.text⟩))) (i:=g.1) om
 obtain ⟨bb6,_,hp6,⟨rfl,hb6⟩,hw6,hc6⟩:=hv4.row hz2
 refine xIp hp6 Try.underlying87 Zb8 (h:=xW ZdF (h:=Zr (Zer (k:=g.1) (off:=1) (⟨z2.uid,((k+3*g.1+1:Nat):Int),z2.text⟩) [_] 0 hv4 hp6 hz2 rfl rfl sz3 rfl rfl rfl rfl rfl rfl (by rintro _ ⟨rfl,e1⟩;exact ⟨rfl,e1⟩) (fun l7 hv7=>?_))))
 refine Zaa [_] rfl (Za (xM (h:=xD (h:=xA (h:=Za (xM (h:=xM (h:=xM (h:=xR ZeT rfl (ZK (((k+3*g.1)+1)+1) oz _) (h:=?_))))))))))
 obtain ⟨z3,hz3⟩:=Z2 (xs:=((g.2.2.set g.1 (⟨((k+3*g.1:Nat):Int),z1.flags,z1.text⟩)).set g.1 (⟨z2.uid,((k+3*g.1+1:Nat):Int),z2.text⟩))) (i:=g.1) om
 obtain ⟨bb10,_,hp10,⟨rfl,hb10⟩,hw10,hc10⟩:=hv7.row hz3
 refine xIp hp10 Try.underlying87 Zb8 (h:=xW ZcJ (h:=Zr (Zer (k:=g.1) (off:=2) (⟨z3.uid,z3.flags,Zt (k+3*g.1+1+1)⟩) [_] 0 hv7 hp10 hz3 rfl rfl sz9 rfl rfl rfl rfl rfl rfl (by rintro _ ⟨rfl,e1⟩;exact ⟨rfl,show (Zt (k+3*g.1+1+1)).length≤2000000 from Nat.le_trans (ZaG (k:=k+3*g.1+1+1) oz) (by decide)⟩) (fun l11 hv11=>?_))))
 refine Zaa [_] rfl (Zk (xM (h:=xD (h:=xA (h:=ZY (Ze (Zk (xM (h:=xD (h:=xA (h:=?_)))))))))))
 exact ZJ (g.1+1,l11,(((g.2.2.set g.1 (⟨((k+3*g.1:Nat):Int),z1.flags,z1.text⟩)).set g.1 (⟨z2.uid,((k+3*g.1+1:Nat):Int),z2.text⟩)).set g.1 (⟨z3.uid,z3.flags,Zt (k+3*g.1+1+1)⟩))) [0] so2 ⟨rfl,so,by simp only [List.length_set];exact hle,Zff ht hz1 hz2 hz3,hv11⟩ t4 rfl
 try simp only [sQ,ne_eq] at g1
 have he:=ZgE ht oz
 have hgi:g.1=xs.length:=by omega
 rw [hgi] at he
 refine ZH (Z3 (ZO (Zx (Ze (Za (xM (h:=xA (h:=Zj ?_))))))))
 exact ZfH .ret (.inl rfl) [_] [0] rfl t1 ⟨rfl,_,rfl,by rw [hgi];rfl,by rw [← he];exact hw⟩

set_option maxHeartbeats 400000 in
theorem Zfi (q:Option Addr) (cp:Nat) (xs:List DGrant) (l:Cells) (k:Nat) (hk:k≤900000000000000) (hn:xs.length≤2000000) (B:Kn) (hv:Zab B l q cp 142 2 Z1 xs):ZT (pj J) 85 [.slice q xs.length cp,.int .i64 k] B [l] (fun v B' Ls=>B'=B∧∃l',Ls=[l']∧v = .int .i64 ((k+2*xs.length:Nat):Int)∧Zab B l' q cp 142 2 Z1 (ZW k xs.length)):=by
 refine Zb 28 Try.func85 rfl rfl rfl (Nat.le_of_ble_eq_true rfl) ?_
 have hvc:=hv.cap
 refine Za (xA (h:=Zg (Za (xA (h:=Zl (ZB (α:=Nat × Cells × List DGrant) [4] (fun g=>[(0,.slice q xs.length cp),(1,.int .i64 ((k+2*g.1:Nat):Int)),(5,.int .i64 g.1)]) [0] (fun g=>[g.2.1]) (fun g Bx=>Bx=B∧g.1≤xs.length∧g.2.2.length=xs.length∧g.2.2.take g.1=ZW k g.1∧Zab Bx g.2.1 q cp 142 2 Z1 g.2.2) (fun g=>xs.length - g.1) (0,l,xs) t3 rfl (⟨rfl,Nat.zero_le _,rfl,rfl,hv⟩) (fun g B1 hle1 hI=>?_)))))))
 obtain ⟨rfl,hi,hle,ht,hw⟩:=hI
 refine ZF [(0,_),(1,_),(4,_),(5,_)] [_] t4 rfl (Zg (Za (xM (h:=xM (h:=xV Try.underlying86 (h:=ZN (h:=Zd rfl (fun g1=>?_) (fun g1=>?_))))))))
 try simp only [sQ,ne_eq] at g1
 refine Zh (Ze (Zg (Zl (Za (xM (h:=xM (h:=xM (h:=xR ZeT rfl (ZK (k+2*g.1) oz _) (h:=?_)))))))))
 obtain ⟨z1,hz1⟩:=Z2 (xs:=g.2.2) (i:=g.1) om
 obtain ⟨bb4,_,hp4,⟨rfl,hb4⟩,hw4,hc4⟩:=hw.row hz1
 refine xIp hp4 Try.underlying86 ZcB (h:=xW Zcf (h:=Zr (Zer (k:=g.1) (off:=0) (⟨Zt (k+2*g.1),z1.rights⟩) [_] 0 hw hp4 hz1 rfl rfl sz9 rfl rfl rfl rfl rfl rfl (by rintro _ ⟨rfl,e1⟩;exact ⟨rfl,show (Zt (k+2*g.1)).length≤2000000 from Nat.le_trans (ZaG (k:=k+2*g.1) oz) (by decide)⟩) (fun l5 hv5=>?_))))
 refine Zaa [_] rfl (Za (xM (h:=xD (h:=xA (h:=Za (xM (h:=xM (h:=xM (h:=?_)))))))))
 obtain ⟨z2,hz2⟩:=Z2 (xs:=(g.2.2.set g.1 (⟨Zt (k+2*g.1),z1.rights⟩))) (i:=g.1) om
 obtain ⟨bb7,_,hp7,⟨rfl,hb7⟩,hw7,hc7⟩:=hv5.row hz2
 refine xIp hp7 Try.underlying86 ZcB (h:=xW ZdG (h:=Zr (Zer (k:=g.1) (off:=1) (⟨z2.user,((k+2*g.1+1:Nat):Int)⟩) [_] 0 hv5 hp7 hz2 rfl rfl sz3 rfl rfl rfl rfl rfl rfl (by rintro _ ⟨rfl,e1⟩;exact ⟨rfl,e1⟩) (fun l8 hv8=>?_))))
 refine Zaa [_] rfl (Zk (xM (h:=xD (h:=xA (h:=ZY (Ze (Zk (xM (h:=xD (h:=xA (h:=?_)))))))))))
 exact ZJ (g.1+1,l8,((g.2.2.set g.1 (⟨Zt (k+2*g.1),z1.rights⟩)).set g.1 (⟨z2.user,((k+2*g.1+1:Nat):Int)⟩))) [0] so2 ⟨rfl,so,by simp only [List.length_set];exact hle,Zex ht hz1 hz2,hv8⟩ t4 rfl
 try simp only [sQ,ne_eq] at g1
 have he:=ZgE ht oz
 have hgi:g.1=xs.length:=by omega
 rw [hgi] at he
 refine ZH (Z3 (ZO (Zx (Ze (Za (xM (h:=xA (h:=Zj ?_))))))))
 exact ZfH .ret (.inl rfl) [_] [0] rfl t1 ⟨rfl,_,rfl,by rw [hgi];rfl,by rw [← he];exact hw⟩

end Go.Proofs.Ytpdpnilbhlojbaa
