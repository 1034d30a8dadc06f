/-
  WHAT THE FUNCTIONS THAT THE LAWS REACH COMPUTE: each function's contract, proved off its printed body (the text is written by program). No condition beyond those that each theorem states.
-/
import Derived.Test.YtpgdailphhongaaGreatDoorC1
namespace Go.Proofs.YtpgdailphhongaaGreatDoor
open Go Go.BL
set_option linter.unusedVariables false
set_option linter.unusedSimpArgs false
set_option maxRecDepth 4000
variable {J : JoinT}
set_option maxHeartbeats 400000 in
theorem Zle (qa1 qb1:Option Addr) (ca1 cb1:Nat) (qa2 qb2:Option Addr) (ca2 cb2:Nat) (a b:DFolder) (B:Kn) (hg1:SlK B qa1 ca1 2 ZL a.grants) (hm1:SlK B qb1 cb1 3 ZM a.mail) (hg2:SlK B qa2 ca2 2 ZL b.grants) (hm2:SlK B qb2 cb2 3 ZM b.mail):ZaL (pj J) 79 [.agg #[str a.owner,str a.name,.slice qa1 a.grants.length ca1,.int .i64 a.next,.slice qb1 a.mail.length cb1],.agg #[str b.owner,str b.name,.slice qa2 b.grants.length ca2,.int .i64 b.next,.slice qb2 b.mail.length cb2]] B (.bool (decide (a=b))):=by
 refine Zc 31 Tryz.func79 rfl rfl rfl (Nat.le_of_ble_eq_true rfl) ?_
 refine Za (xBx [_,_,_,_,_] (h:=fun b1=>xBx [_,_,_,_,_] (h:=fun b2=>xA (h:=Zv [_,_] rfl (Za (xW Zc7 (h:=x1 lk9 0 (h:=xW Zc7 (h:=x1 lk9 1 (h:=Zc4 (h:=xM (h:=Zt (d:=10) rfl (fun g1=>?_) (fun g1=>?_)))))))))))))
 try simp only [sQ,ne_eq] at g1
 refine xW Zfw (h:=x1 lk9 0 (h:=xW Zfw (h:=x1 lk9 1 (h:=Zc4 (h:=xT (h:=xM (h:=Zt (d:=17) rfl (fun g2=>?_) (fun g2=>?_))))))))
 try simp only [sQ,ne_eq] at g2
 refine xW ZdV (h:=x1 ZrM 0 (h:=xW ZdV (h:=x1 ZrM 1 (h:=xR Zxl rfl (Zld _ _ _ _ _ _ _ hg1 hg2) (h:=xT (h:=xM (h:=Zt (d:=24) rfl (fun g3=>?_) (fun g3=>?_))))))))
 try simp only [sQ,ne_eq] at g3
 refine xW Zb2 (h:=xL [_,_] ZbP 0 (h:=xW Zb2 (h:=xL [_,_] ZbP 1 (h:=xR Zxk rfl (ZpF _ _ _ _ (⟨a.next,a.mail⟩:DBox) (⟨b.next,b.mail⟩:DBox) _ hm1 hm2) (h:=xT (h:=xA (h:=Zh ?_)))))))
 exact ZY .ret (.inl rfl) [_] t1 ⟨Zk (by cases a;cases b;simp_all),rfl,rfl⟩
 try simp only [sQ,ne_eq] at g3
 refine xP (h:=xP (h:=xP (h:=xP (h:=xP (h:=xF (h:=xA (h:=Zh ?_)))))))
 exact ZY .ret (.inl rfl) [_] t1 ⟨Zk (by cases a;cases b;simp_all),rfl,rfl⟩
 try simp only [sQ,ne_eq] at g2
 refine xP (h:=xP (h:=xP (h:=xP (h:=xP (h:=xF (h:=xM (h:=xP (h:=xP (h:=xP (h:=xP (h:=xP (h:=xF (h:=?_)))))))))))))
 refine xA (h:=Zh ?_)
 exact ZY .ret (.inl rfl) [_] t1 ⟨Zk (by cases a;cases b;simp_all),rfl,rfl⟩
 try simp only [sQ,ne_eq] at g1
 refine xP (h:=xP (h:=xP (h:=xP (h:=xP (h:=xF (h:=xM (h:=xP (h:=xP (h:=xP (h:=xP (h:=xP (h:=xF (h:=?_)))))))))))))
 refine xM (h:=xP (h:=xP (h:=xP (h:=xP (h:=xP (h:=xF (h:=xA (h:=Zh ?_))))))))
 exact ZY .ret (.inl rfl) [_] t1 ⟨Zk (by cases a;cases b;simp_all),rfl,rfl⟩

set_option maxHeartbeats 400000 in
theorem Zkc (q q':Option Addr) (cp cp':Nat) (xs ys:List DFolder) (B:Kn) (ha:SlK B q cp 5 Zb xs) (hb:SlK B q' cp' 5 Zb ys):ZaL (pj J) 41 [.slice q xs.length cp,.slice q' ys.length cp'] B (.bool (decide (xs=ys))):=by
 refine Zc 27 Tryz.func41 rfl rfl rfl (Nat.le_of_ble_eq_true rfl) ?_
 have han:=ha.len
 have hbn:=hb.len
 refine Za (xA (h:=Zl (Za (xM (h:=xV Tryz.underlying24 (h:=xM (h:=xV Tryz.underlying24 (h:=ZbR (h:=Zd rfl (fun g1=>?_) (fun g1=>?_))))))))))
 try simp only [sQ,ne_eq] at g1
 refine Za (xA (h:=Zh (Zs ?_)))
 exact ZY .ret (.inl rfl) [_] t1 ⟨Zk (ZiQ g1),rfl,rfl⟩
 try simp only [sQ,ne_eq] at g1
 refine Zj (Zf (Zl (Za (xA (h:=Zp (ZQ (α:=Nat) [0,1,10] (fun k=>[(5,.int .i64 k)]) [] (fun k=>[]) (fun k Bx=>Bx=B∧k≤xs.length∧xs.take k=ys.take k) (fun k=>xs.length - k) 0 t1 rfl (⟨rfl,Nat.zero_le _,by simp⟩) (fun k B1 hle1 hI=>?_)))))))
 obtain ⟨rfl,hk,he⟩:=hI
 refine ZO [(0,_),(1,_),(5,_),(10,_)] [] t4 rfl (Zl (Za (xM (h:=xM (h:=xV Tryz.underlying24 (h:=Zag (h:=Zd rfl (fun g2=>?_) (fun g2=>?_))))))))
 try simp only [sQ,ne_eq] at g2
 refine Zj (Zf (Zl (Zp (Zl (Z8 (same _ _) mo kr ⟨rfl,rfl⟩ (fun _ _=>?_))))))
 refine aM 0 rfl (h:=aM 1 rfl (h:=?_))
 obtain ⟨x,hx⟩:=Zaj (xs:=xs) (i:=k) om
 obtain ⟨bb3,oo3,rfl⟩:=ha.base hx
 obtain ⟨_,⟨qg4,cg4,qm4,cm4,rfl,hg4,hm4,hb4,hb4b⟩,hc4⟩:=ha.elem hx
 have hg4n:=hg4.len
 have hm4n:=hm4.len
 have hm4s:=Zac hm4
 refine aIx 2 rfl Tryz.underlying24 Zbw (h:=aT 3 rfl (Zan fun D=>Z6 [_,_,_,_,_] rfl rfl Zja rfl (Zid hc4 0 rfl rfl) r4) (h:=aM 4 rfl (h:=aM 5 rfl (h:=?_))))
 obtain ⟨y,hy⟩:=Zaj (xs:=ys) (i:=k) om
 obtain ⟨bb6,oo6,rfl⟩:=hb.base hy
 obtain ⟨_,⟨qg7,cg7,qm7,cm7,rfl,hg7,hm7,hb7,hb7b⟩,hc7⟩:=hb.elem hy
 have hg7n:=hg7.len
 have hm7n:=hm7.len
 have hm7s:=Zac hm7
 refine aIx 6 rfl Tryz.underlying24 Zbw (h:=aT 7 rfl (Zan fun D=>Z6 [_,_,_,_,_] rfl rfl Zja rfl (Zid hc7 0 rfl rfl) r4) (h:=aT 8 rfl (Zan fun D=>ZaS rfl rfl Zyn rfl (Zle _ _ _ _ _ _ _ _ x y _ hg4 hm4 hg7 hm7) r4) (h:=aN 9 rfl (h:=ZC kr kr ?_))))
 refine Zf (Zd rfl (fun g3=>?_) (fun g3=>?_))
 try simp only [sQ,ne_eq] at g3
 refine Za (xA (h:=Zh (ZE (Zs (Z0 (ZE (Zs ?_)))))))
 exact ZY .ret (.inl rfl) [_] t1 ⟨Zk (Zgu hx hy g3),rfl,rfl⟩
 try simp only [sQ,ne_eq] at g3
 refine Zj (Zz (Zf (Ze (xM (h:=xD (h:=xA (h:=?_)))))))
 exact ZB (k+1) [] so2 ⟨rfl,oz,Zcj hx hy g3 he⟩ t4 rfl
 try simp only [sQ,ne_eq] at g2
 refine ZT (Zah (ZZ (ZH (Zf (Za (xA (h:=Zh ?_)))))))
 exact ZY .ret (.inl rfl) [_] t1 ⟨Zk (eqT oz oz he),rfl,rfl⟩

set_option maxHeartbeats 400000 in
theorem ZcK (qa1 qb1 qc1:Option Addr) (ca1 cb1 cc1:Nat) (qa2 qb2 qc2:Option Addr) (ca2 cb2 cc2:Nat) (a b:DHost) (B:Kn) (hu1:SlK B qa1 ca1 3 Zg a.users) (hf1:SlK B qb1 cb1 5 Zb a.folders) (hi1:SlK B qc1 cc1 4 Zi a.queue.items) (hu2:SlK B qa2 ca2 3 Zg b.users) (hf2:SlK B qb2 cb2 5 Zb b.folders) (hi2:SlK B qc2 cc2 4 Zi b.queue.items):ZaL (pj J) 14 [.agg #[str a.domain,.slice qa1 a.users.length ca1,.slice qb1 a.folders.length cb1,.int .i64 a.queue.next,.slice qc1 a.queue.items.length cc1],.agg #[str b.domain,.slice qa2 b.users.length ca2,.slice qb2 b.folders.length cb2,.int .i64 b.queue.next,.slice qc2 b.queue.items.length cc2]] B (.bool (decide (a=b))):=by
 refine Zc 31 Tryz.func14 rfl rfl rfl (Nat.le_of_ble_eq_true rfl) ?_
 refine Za (xBx [_,_,_,_,_] (h:=fun b1=>xBx [_,_,_,_,_] (h:=fun b2=>xA (h:=Zv [_,_] rfl (Za (xW ZiK (h:=x1 lk9 0 (h:=xW ZiK (h:=x1 lk9 1 (h:=Zc4 (h:=xM (h:=Zt (d:=10) rfl (fun g1=>?_) (fun g1=>?_)))))))))))))
 try simp only [sQ,ne_eq] at g1
 refine xW ZbD (h:=x1 ZhC 0 (h:=xW ZbD (h:=x1 ZhC 1 (h:=xR ZyH rfl (Zmr _ _ _ _ _ _ _ hu1 hu2) (h:=xT (h:=xM (h:=Zt (d:=17) rfl (fun g2=>?_) (fun g2=>?_))))))))
 try simp only [sQ,ne_eq] at g2
 refine xW Z9 (h:=x1 ZcN 0 (h:=xW Z9 (h:=x1 ZcN 1 (h:=xR ZyG rfl (Zkc _ _ _ _ _ _ _ hf1 hf2) (h:=xT (h:=xM (h:=Zt (d:=24) rfl (fun g3=>?_) (fun g3=>?_))))))))
 try simp only [sQ,ne_eq] at g3
 refine xW Zbg (h:=xL [_,_] Zb9 0 (h:=xW Zbg (h:=xL [_,_] Zb9 1 (h:=xR ZxV rfl (Zic _ _ a.queue _ _ b.queue _ hi1 hi2) (h:=xT (h:=xA (h:=Zh ?_)))))))
 exact ZY .ret (.inl rfl) [_] t1 ⟨Zk (by cases a;cases b;simp_all),rfl,rfl⟩
 try simp only [sQ,ne_eq] at g3
 refine xP (h:=xP (h:=xP (h:=xP (h:=xP (h:=xF (h:=xA (h:=Zh ?_)))))))
 exact ZY .ret (.inl rfl) [_] t1 ⟨Zk (by cases a;cases b;simp_all),rfl,rfl⟩
 try simp only [sQ,ne_eq] at g2
 refine xP (h:=xP (h:=xP (h:=xP (h:=xP (h:=xF (h:=xM (h:=xP (h:=xP (h:=xP (h:=xP (h:=xP (h:=xF (h:=?_)))))))))))))
 refine xA (h:=Zh ?_)
 exact ZY .ret (.inl rfl) [_] t1 ⟨Zk (by cases a;cases b;simp_all),rfl,rfl⟩
 try simp only [sQ,ne_eq] at g1
 refine xP (h:=xP (h:=xP (h:=xP (h:=xP (h:=xF (h:=xM (h:=xP (h:=xP (h:=xP (h:=xP (h:=xP (h:=xF (h:=?_)))))))))))))
 refine xM (h:=xP (h:=xP (h:=xP (h:=xP (h:=xP (h:=xF (h:=xA (h:=Zh ?_))))))))
 exact ZY .ret (.inl rfl) [_] t1 ⟨Zk (by cases a;cases b;simp_all),rfl,rfl⟩

set_option maxRecDepth 4000 in
set_option maxHeartbeats 400000 in
theorem Zos (b : Nat) (q : Option Addr) (m cp p : Nat) (hp : p ≤ 850000000000) (hm : m ≤ 2000) (B : Kn) (hbm : Zat B q m) : ZA (pj J) 96 [ptr ⟨b, 0, none⟩] B [rd b q m cp p] (fun v B' Ls => ∃ q' cp' us p', v = .slice q' us.length cp' ∧ SlK B' q' cp' 3 Zg us ∧ us.length ≤ 5 ∧ p' ≤ p + 10 ∧ Ls = [rd b q m cp p']) := by
  refine Zc 61 Tryz.func96 rfl rfl rfl (Nat.le_of_ble_eq_true rfl) ?_
  refine Za (xA (h:=Za (xB [(0, _), (1, _), (2, _)] [_, _, _] [_, _, _] ZrB ZgA (h:=xM (h:=xX 0 rfl Za9 rfl (ZP _ _ _ _ _ _ (by omega) (by omega) (by omega) hm _ hbm) (h:=?_))))))
  rintro _ _ ⟨ru, rfl, rua, rub, rfl⟩
  refine xD (h:=xB [(0, _), (1, _), (2, _)] [_, _, _] [_, _, _] ZrB ZgA (h:=xM (h:=xX 0 rfl Za9 rfl (ZP _ _ _ _ _ _ (by omega) (by omega) (by omega) hm _ hbm) (h:=?_))))
  rintro _ _ ⟨ro, rfl, roa, rob, rfl⟩
  refine xD (h:=xB [(0, _), (1, _), (2, _)] [_, _, _] [_, _, _] ZrB ZgA (h:=xBs [(0, _), (1, _), (2, _)] [_, _, _, _, _, _, _, _, _] Tryz.underlying23 ZeK ZgA (h:=fun b3 => xA (h:=Zv [_, _] rfl ?_))))
  obtain ⟨us0, hn0, hv0⟩ : ∃ us0 : List DUser, us0.length = 3 ∧ Z2 B (ZaE b3 [str [97, 109, 121], str [97, 49], int 60, str [98, 111, 98], str [98, 50], int (20 + ru), str [99, 121, 100], str [99, 51], int (100 + ro)] 91) (some ⟨b3, 0, none⟩) 3 91 3 Zg us0 := ⟨[⟨[97, 109, 121], [97, 49], 60⟩, ⟨[98, 111, 98], [98, 50], 20 + ru⟩, ⟨[99, 121, 100], [99, 51], 100 + ro⟩], rfl, Z2.lit (rows := [[str [97, 109, 121], str [97, 49], int 60], [str [98, 111, 98], str [98, 50], int (20 + ru)], [str [99, 121, 100], str [99, 51], int (100 + ro)]]) (.cons ⟨rfl, by simp, by simp⟩ (.cons ⟨rfl, by simp, by simp⟩ (.cons ⟨rfl, by simp, by simp⟩ .nil))) (by intro row hr; simp only [List.mem_cons, List.not_mem_nil, or_false] at hr; rcases hr with rfl | rfl | rfl <;> rfl)⟩
  refine Za (xM (h:=xM (h:=xX 0 rfl Za9 rfl (ZP _ _ _ _ _ _ (by omega) (by omega) (by omega) hm _ hbm) (h:=?_))))
  rintro _ _ ⟨ry, rfl, rya, ryb, rfl⟩
  refine xD (h:=Zo (Zfh rfl rfl Tryz.underlying23 ZeK rfl (a := 0) (b := (1 + ry).toNat) rfl ⟨_, _, rfl, by omega⟩ (by omega) (by omega) ?_))
  refine xA (h:=Zv [_, _] rfl ?_)
  obtain ⟨us1, hn1, hv1⟩ : ∃ us1 : List DUser, us1.length = (1 + ry).toNat ∧ Z2 B _ _ 3 91 3 Zg us1 := ⟨us0.take (1 + ry).toNat, by rw [List.length_take]; omega, hv0.take (by omega)⟩
  rw [hv0.slice0 (sz := 3), show (1 + ry).toNat - 0 = us1.length from by omega]
  refine Za (xM (h:=xM (h:=xV Tryz.underlying23 (h:=xX 0 rfl Za9 rfl (ZP _ _ _ _ _ _ (by omega) (by omega) (by omega) hm _ hbm) (h:=?_)))))
  rintro _ _ ⟨rk, rfl, rka, rkb, rfl⟩
  refine xA (h:=Zv [_, _] rfl (Zpc (α := Gh DUser) [0, 2, 4] (fun g => [(3, .slice g.a g.xs.length g.c)]) (fun g => [rd b q m cp g.p, g.l]) (fun g Bx => g.p ≤ p + 10 ∧ g.xs.length ≤ 5 ∧ Z2 Bx g.l g.a g.c 91 3 Zg g.xs) ?_ (fun g B6 hle6 hF => ?_)))
  refine Za (xM (h:=xX 0 rfl Za9 rfl (ZP _ _ _ _ _ _ (by omega) (by omega) (by omega) hm _ hbm) (h:=?_)))
  rintro _ _ ⟨rj, rfl, rja, rjb, rfl⟩
  refine Zv [_, _] rfl (Zp (Za (ZI (h:=xA (h:=Zd rfl (fun g1 => ?_) (fun g1 => ?_))))))
  try simp only [sQ, ne_eq] at g1
  refine Ze (xM (h:=xM (h:=xM (h:=xX 0 rfl Zuz rfl (Zeh _ _ _ _ _ (by omega) hm _ hbm) (h:=?_)))))
  rintro _ _ ⟨xs, rfl, hxs, rfl⟩
  obtain ⟨z, hz⟩ := ZeP (xs := us1) (i := rk) (by first | omega | (simp; done) | (simp; omega)) (by first | omega | (simp; done) | (simp; omega))
  obtain ⟨bb10, _, hp10, ⟨rfl, hb10, hb10b⟩, hw10, hc10⟩ := hv1.row hz
  refine xIp hp10 Tryz.underlying23 ZeK (h:=xW Zc0 (h:=Zo (Zes (k := (rk).toNat) (off := 0) (⟨xs, z.pass, z.quota⟩) [_] 1 hv1 hp10 hz rfl rfl sz9 rfl rfl rfl rfl rfl rfl (by rintro _ ⟨rfl, e1, e2⟩; exact ⟨rfl, show xs.length ≤ 2000000 by omega, e2⟩) (fun l11 hv11 => ?_))))
  refine Zz ?_
  obtain ⟨us12, hn12, hv12⟩ : ∃ us12 : List DUser, us12.length = us1.length ∧ Z2 B l11 _ _ 91 3 Zg us12 := ⟨_, by rw [List.length_set], hv11⟩
  rw [← hn12]
  exact ZK ⟨0, ((((((p + 1) + 1) + 1) + 1) + 1) + 2), l11, (some ⟨b3, 0, none⟩), 3, us12⟩ [0, 1] ⟨by simp only []; omega, by first | (simp only []; omega) | (simp; omega), hv12⟩ ⟨rfl, rfl, rfl, rfl, trivial⟩ rfl
  try simp only [sQ, ne_eq] at g1
  refine Za (ZI (h:=xA (h:=Zd rfl (fun g2 => ?_) (fun g2 => ?_))))
  try simp only [sQ, ne_eq] at g2
  refine Ze (xM (h:=xM (h:=xM (h:=xX 0 rfl Zuz rfl (Zeh _ _ _ _ _ (by omega) hm _ hbm) (h:=?_)))))
  rintro _ _ ⟨xs, rfl, hxs, rfl⟩
  obtain ⟨z, hz⟩ := ZeP (xs := us1) (i := rk) (by first | omega | (simp; done) | (simp; omega)) (by first | omega | (simp; done) | (simp; omega))
  obtain ⟨bb15, _, hp15, ⟨rfl, hb15, hb15b⟩, hw15, hc15⟩ := hv1.row hz
  refine xIp hp15 Tryz.underlying23 ZeK (h:=xW Zqq (h:=Zo (Zes (k := (rk).toNat) (off := 1) (⟨z.name, xs, z.quota⟩) [_] 1 hv1 hp15 hz rfl rfl sz9 rfl rfl rfl rfl rfl rfl (by rintro _ ⟨rfl, e1, e2⟩; exact ⟨rfl, e1, show xs.length ≤ 2000000 by omega⟩) (fun l16 hv16 => ?_))))
  refine Zz ?_
  obtain ⟨us17, hn17, hv17⟩ : ∃ us17 : List DUser, us17.length = us1.length ∧ Z2 B l16 _ _ 91 3 Zg us17 := ⟨_, by rw [List.length_set], hv16⟩
  rw [← hn17]
  exact ZK ⟨0, ((((((p + 1) + 1) + 1) + 1) + 1) + 2), l16, (some ⟨b3, 0, none⟩), 3, us17⟩ [0, 1] ⟨by simp only []; omega, by first | (simp only []; omega) | (simp; omega), hv17⟩ ⟨rfl, rfl, rfl, rfl, trivial⟩ rfl
  try simp only [sQ, ne_eq] at g2
  refine Za (ZI (h:=xA (h:=Zd rfl (fun g3 => ?_) (fun g3 => ?_))))
  try simp only [sQ, ne_eq] at g3
  refine Ze (xM (h:=xM (h:=xBs [(0, _), (1, _), (2, _), (3, _)] [_, _, _, _] Tryz.underlying171 sz3 zo3 (h:=fun b18 => Z5 2 rfl (Z2.ints (ls := ([(-1), 0, 200, 201] : List Int))) Zbz.mono (by first | omega | decide | (simp; done) | (simp; omega)) (fun B19 hle19 hr19 => ?_)))))
  replace hv1 := hv1.mono Zg.mono hle19
  replace hbm := hbm.mono hle19
  have hr19n := hr19.len
  refine xM (h:=xX 0 rfl Za9 rfl (ZP _ _ _ _ _ _ (by omega) (by omega) (by omega) hm _ hbm) (h:=?_))
  rintro _ _ ⟨rs, rfl, rsa, rsb, rfl⟩
  obtain ⟨e, he⟩ := ZeP (xs := ([(-1), 0, 200, 201] : List Int)) (i := rs) (by first | omega | (simp; done) | (simp; omega)) (by first | omega | (simp; done) | (simp; omega))
  obtain ⟨_, rfl, hc22⟩ := hr19.elem he
  refine xIx Tryz.underlying171 sz3 (h:=y1 lk3 hc22 0 (h:=?_))
  obtain ⟨z, hz⟩ := ZeP (xs := us1) (i := rk) (by first | omega | (simp; done) | (simp; omega)) (by first | omega | (simp; done) | (simp; omega))
  obtain ⟨bb24, _, hp24, ⟨rfl, hb24, hb24b⟩, hw24, hc24⟩ := hv1.row hz
  refine xIp hp24 Tryz.underlying23 ZeK (h:=xW ZiJ (h:=Zo (Zes (k := (rk).toNat) (off := 2) (⟨z.name, z.pass, e⟩) [_] 1 hv1 hp24 hz rfl rfl sz3 rfl rfl rfl rfl rfl rfl (by rintro _ ⟨rfl, e1, e2⟩; exact ⟨rfl, e1, e2⟩) (fun l25 hv25 => ?_))))
  refine Zz ?_
  obtain ⟨us26, hn26, hv26⟩ : ∃ us26 : List DUser, us26.length = us1.length ∧ Z2 B19 l25 _ _ 91 3 Zg us26 := ⟨_, by rw [List.length_set], hv25⟩
  rw [← hn26]
  exact ZK ⟨0, ((((((p + 1) + 1) + 1) + 1) + 1) + 1), l25, (some ⟨b3, 0, none⟩), 3, us26⟩ [0, 1] ⟨by simp only []; omega, by first | (simp only []; omega) | (simp; omega), hv26⟩ ⟨rfl, rfl, rfl, rfl, trivial⟩ rfl
  try simp only [sQ, ne_eq] at g3
  refine Za (ZI (h:=xA (h:=Zd rfl (fun g4 => ?_) (fun g4 => ?_))))
  try simp only [sQ, ne_eq] at g4
  refine Ze (xM (h:=xB [(0, _), (1, _), (2, _)] [_, _, _] [_, _, _] ZrB ZgA (h:=xB [(0, _), (1, _), (2, _)] [_, _, _] [_, _, _] ZrB ZgA (h:=xBs [(0, _), (1, _)] [_, _, _, _, _, _] Tryz.underlying23 ZeK ZgA (h:=fun b27 => Zo (Zne (rows := [[str [100, 97, 110], str [100, 52], .int .i64 9], [str [101, 118, 101], str [101, 53], .int .i64 9]]) (ys := [⟨[100, 97, 110], [100, 52], 9⟩, ⟨[101, 118, 101], [101, 53], 9⟩]) (R := Zg) 1 rfl hv1 rfl rfl rfl ZnP Znl rfl rfl rfl (ZaM.box 2 rfl) rfl (by intro row hr; simp only [List.mem_cons, List.not_mem_nil, or_false] at hr; rcases hr with rfl | rfl <;> rfl) (.cons (⟨rfl, by first | assumption | omega | (simp; done) | (simp; done) | (simp; omega), by first | assumption | omega | (simp; done) | (simp; done) | (simp; omega)⟩) (.cons (⟨rfl, by first | assumption | omega | (simp; done) | (simp; done) | (simp; done) | (simp; omega), by first | assumption | omega | (simp; done) | (simp; done) | (simp; done) | (simp; omega)⟩) .nil)) (by first | omega | (simp; done) | (simp; omega)) (fun l28 p28 c28 hv28 => ?_)))))))
  refine xA (h:=Zz ?_)
  exact ZK ⟨0, (((((p + 1) + 1) + 1) + 1) + 1), l28, p28, c28, (us1 ++ [⟨[100, 97, 110], [100, 52], 9⟩, ⟨[101, 118, 101], [101, 53], 9⟩])⟩ [0, 1] ⟨by simp only []; omega, by first | (simp only []; omega) | (simp; omega), hv28⟩ ⟨rfl, rfl, rfl, rfl, trivial⟩ rfl
  try simp only [sQ, ne_eq] at g4
  refine Zj (Zz ?_)
  exact ZK ⟨0, (((((p + 1) + 1) + 1) + 1) + 1), _, (some ⟨b3, 0, none⟩), 3, us1⟩ [0, 1] ⟨by simp only []; omega, by first | (simp only []; omega) | (simp; omega), hv1⟩ ⟨rfl, rfl, rfl, rfl, trivial⟩ rfl
  obtain ⟨hgp, hgn, hw⟩ := hF
  replace hbm := hbm.mono hle6
  refine ZO [(0, _), (2, _), (3, _), (4, _)] [_, _] ⟨rfl, rfl, rfl, rfl, trivial⟩ rfl (ZdK 1 rfl hw Zg.mono (by first | omega | decide | (simp; done) | (simp; omega)) (fun B29 hle29 hr29 => ?_))
  replace hbm := hbm.mono hle29
  have hr29n := hr29.len
  refine Za (xM (h:=xA (h:=Zv [_, _] rfl (Zh ?_))))
  exact Zad .ret (.inl rfl) [_] [0] rfl ⟨rfl, trivial⟩ ⟨_, _, _, _, rfl, hr29, by omega, by omega, rfl⟩

set_option maxHeartbeats 400000 in
theorem ZoT (q:Option Addr) (cp:Nat) (x:DBox) (B:Kn) (hm:SlK B q cp 3 ZM x.mail):ZA (pj J) 114 [.agg #[.int .i64 x.next,.slice q x.mail.length cp]] B [] (fun v B' Ls=>B'=B∧∃l a c,Ls=[l]∧v = .agg #[.int .i64 x.next,.slice a x.mail.length c]∧Z2 B l a c 196 3 ZM x.mail):=by
 refine Zc 10 Tryz.func114 rfl rfl rfl (Nat.le_of_ble_eq_true rfl) ?_
 have hxn:=hm.len
 refine Za (xBx [_,_] (h:=fun b1=>xAl [_,_] Zfg (h:=fun b2=>Zv [_,_] rfl (Zl (Z8 (keeps _ [0] _) mo kr ⟨Kn.le.refl _,Zam.refl _ _⟩ (fun _ _=>?_))))))
 refine aW 0 rfl Zco (h:=aT 1 rfl (ZG fun D B L hI=>Zn rfl rfl lk3 rfl (atL 0 (hI.2.1.trans rfl) rfl rfl) r4) (h:=aW 3 rfl ZaR (h:=aT 4 rfl (ZG fun D B L hI=>Zn rfl rfl Zfv rfl (atL 0 (hI.2.1.trans rfl) rfl rfl) r4) (h:=Zu 2 kr rfl kr (Zx (parts:=[]) [] rfl rfl Tryz.underlying66 ZcJ ZgB rfl rfl rfl rfl rfl (fun b3=>?_))))))
 refine ⟨⟨Kn.le.refl _,t1⟩,(Zu 5 kr rfl kr (ZaN (R:=ZM) 2 rfl (Z2.lit0 (R:=ZM)) rfl rfl rfl ZvZ ZvU rfl rfl rfl hm.rows ZM.one rfl om (fun l4 p4 c4 hv4=>?_)))⟩
 refine ⟨⟨Kn.le.refl _,t1⟩,(aT 6 rfl (ZG fun D B L hI=>ZaH (parts:=[(0,_),(1,_)]) [_,_] [_,_] rfl rfl Znw Zfg rfl rfl rfl r4) (h:=ZV 7 kr rfl kr kr kr (ZN [_,_] 1 [_,_] rfl rfl ZcI rfl rfl rfl rfl rfl rfl rfl rfl ?_)))⟩
 refine Zf (Zv [_,_,_] rfl (Zh ?_))
 exact Zad .ret (.inl rfl) [_] [2] rfl ⟨⟨_,rfl,.inr ⟨[_,_],ZbP,Zaf 1 rfl rfl rfl,rfl⟩⟩,trivial⟩ ⟨rfl,_,_,_,rfl,rfl,hv4⟩

set_option maxHeartbeats 400000 in
theorem Zky (qa qb:Option Addr) (ca cb:Nat) (x:DFolder) (B:Kn) (hg:SlK B qa ca 2 ZL x.grants) (hm:SlK B qb cb 3 ZM x.mail):ZA (pj J) 66 [.agg #[str x.owner,str x.name,.slice qa x.grants.length ca,.int .i64 x.next,.slice qb x.mail.length cb]] B [] (fun v B' Ls=>B'=B∧∃l a c l' a' c',Ls=[l,l']∧v = .agg #[str x.owner,str x.name,.slice a x.grants.length c,.int .i64 x.next,.slice a' x.mail.length c']∧Z2 B l a c 162 2 ZL x.grants∧Z2 B l' a' c' 196 3 ZM x.mail):=by
 refine Zc 13 Tryz.func66 rfl rfl rfl (Nat.le_of_ble_eq_true rfl) ?_
 have hgn:=hg.len
 have hmn:=hm.len
 refine Za (xBx [_,_,_,_,_] (h:=fun b1=>xAl [_,_,_,_,_] Zd6 (h:=fun b2=>Zv [_,_] rfl (Za (xBs [] [] Tryz.underlying65 ZbH ZdI (h:=fun b3=>xW ZdV (h:=x1 ZrM 0 (h:=Zo (ZaN (R:=ZL) 2 rfl (Z2.lit0 (R:=ZL)) rfl rfl rfl ZqC Zpw rfl rfl rfl hg.rows ZL.one rfl om (fun l4 p4 c4 hv4=>?_))))))))))
 refine xW ZdV (h:=xS [_] 0 [_,_,_,_,_] ZuZ (h:=Zv [_,_,_] rfl (Za (xW Zb2 (h:=xL [_,_] ZbP 0 (h:=Zo (Zaa rfl rfl Zxs rfl (ZoT _ _ (⟨x.next,x.mail⟩:DBox) _ hm) ?_)))))))
 rintro _ B5 _ hle5 ⟨rfl,l5,a5,c5,rfl,rfl,hs5⟩
 refine xW Zb2 (h:=xS [_,_] 0 [_,_,_,_,_] ZcI (h:=Zv [_,_,_,_] rfl (Za (xL [_,_,_,_,_] Zja 0 (h:=xS [_,_,_,_,_] 1 [_,_,_,_,_] Zbw (h:=Zv [_,_,_,_] rfl (Zh ?_)))))))
 exact Zad .ret (.inl rfl) [_] [2,3] rfl ⟨⟨_,rfl,.inr ⟨[_,_,_,_,_],Zja,Zaf 1 rfl rfl rfl,rfl⟩⟩,trivial⟩ ⟨rfl,_,_,_,_,_,_,rfl,rfl,hv4,hs5⟩

set_option maxHeartbeats 400000 in
theorem ZpB (q:Option Addr) (cp:Nat) (d:Str) (us:List DUser) (hd:d.length≤2000000) (hl:us.length≤1100000) (B:Kn) (hu:SlK B q cp 3 Zg us):ZA (pj J) 100 [str d,.slice q us.length cp] B [] (fun v B' Ls=>Ls=[]∧∃q1 c1 q2 c2 q3 c3,v = .tuple #[.agg #[str (Zch d us).1.domain,.slice q1 (Zch d us).1.users.length c1,.slice q2 (Zch d us).1.folders.length c2,.int .i64 (Zch d us).1.queue.next,.slice q3 (Zch d us).1.queue.items.length c3],.bool (Zch d us).2]∧SlK B' q1 c1 3 Zg (Zch d us).1.users∧SlK B' q2 c2 5 Zb (Zch d us).1.folders∧SlK B' q3 c3 4 Zi (Zch d us).1.queue.items):=by
 refine Zc 41 Tryz.func100 rfl rfl rfl (Nat.le_of_ble_eq_true rfl) ?_
 have hun:=hu.len
 refine Za (xAl [_,_,_,_,_] ZaW (h:=fun b1=>xA (h:=Zv [_] rfl (Za (xM (h:=xBs [] [] Tryz.underlying23 ZeK ZgA (h:=fun b2=>xM (h:=Zo (ZaN (R:=Zg) 1 rfl (Z2.lit0 (R:=Zg)) rfl rfl rfl ZnP Znl rfl rfl rfl hu.rows Zg.one rfl om (fun l3 p3 c3 hv3=>?_))))))))))
 refine xBs [] [] Tryz.underlying24 Zbw Zd6 (h:=fun b4=>xBs [] [] Tryz.underlying25 Zde ZfD (h:=fun b5=>xB [(0,_),(1,_)] [_,_] [_,_] Zra Zfr (h:=xB [(0,_),(1,_),(2,_),(3,_)] [_,_,_,_,_] [_,_,_,_,_] ZdS ZaW (h:=xAl [_,_,_,_,_] ZaW (h:=fun b6=>xS [_,_,_,_,_] 4 [_,_,_,_,_] Zav (h:=Zv [_,_,_,_,_] rfl (Zl (Za (xA (h:=Zp (ZQ (α:=Gh DFolder) [0,1,4,5,6] (fun g=>[(7,.int .i64 g.k)]) [2,4] (fun g=>[g.l,ZaE b6 [str d,.slice p3 us.length c3,.slice g.a g.xs.length g.c,.int .i64 1,.slice (some ⟨b5,0,none⟩) 0 0] 29]) (fun g Bx=>g.k≤us.length∧g.xs=(us.take g.k).map (fun u=>Zkh u.name)∧Z2 Bx g.l g.a g.c 70 5 Zb g.xs) (fun g=>us.length - g.k) ⟨0,0,_,_,_,[]⟩ t1 rfl (⟨Nat.zero_le _,by simp,Z2.lit0⟩) (fun g B7 hle7 hI=>?_))))))))))))
 obtain ⟨hk,hx,hv⟩:=hI
 have hgl:g.xs.length≤us.length:=by rw [hx,List.length_map,List.length_take];omega
 replace hu:=hu.mono Zg.mono hle7
 replace hv3:=hv3.mono Zg.mono hle7
 refine ZO [(0,_),(1,_),(4,_),(5,_),(6,_),(7,_)] [_,_,_,_,_] t6 rfl (Zl (Za (xM (h:=xM (h:=xV Tryz.underlying23 (h:=Zag (h:=Zd rfl (fun g3=>?_) (fun g3=>?_))))))))
 try simp only [sQ,ne_eq] at g3
 refine Zj (Zf (Zl (Zp (Z8 (keeps _ [4] _) mo kr ⟨Kn.le.refl _,Zam.refl _ _⟩ (fun _ _=>?_)))))
 refine aW 0 rfl Z9 (h:=aT 1 rfl (ZG fun D B L hI=>Zn rfl rfl ZcN rfl (atL 4 (hI.2.1.trans rfl) rfl rfl) r4) (h:=aM 2 rfl (h:=aM 3 rfl (h:=?_))))
 obtain ⟨w,hw⟩:=Zaj (xs:=us) (i:=g.k) om
 obtain ⟨bb9,oo9,rfl⟩:=hu.base hw
 obtain ⟨_,⟨rfl,hb10,hb10b⟩,hc10⟩:=hu.elem hw
 refine aIx 4 rfl Tryz.underlying23 ZeK (h:=aW 5 rfl Zc0 (h:=aT 6 rfl (ZG fun D B L hI=>Zn rfl rfl lk9 rfl ((hc10.mono hI.1) _ 0 _ rfl) r4) (h:=Zaq [7,8] kr kr kr ⟨?_,?_⟩)))
 refine (Zx (parts:=[]) [] rfl rfl Tryz.underlying65 ZbH ZdI rfl rfl rfl rfl rfl (fun b11=>⟨⟨Kn.le.refl _,t1⟩,(ZaO 5 rfl (Z2.lit0 (R:=ZL) (w:=2)) ZL.mono om3 (fun B' hle'=>⟨hle',t1⟩) (fun B12 hle12 hr12=>?_))⟩))
 replace hu:=hu.mono Zg.mono hle12
 replace hc10:=hc10.mono hle12
 replace hv3:=hv3.mono Zg.mono hle12
 replace hv:=hv.mono Zb.mono hle12
 have hr12n:=hr12.len
 refine Zu 8 kr rfl kr (Zx (parts:=[]) [] rfl rfl Tryz.underlying66 ZcJ ZgB rfl rfl rfl rfl rfl (fun b13=>?_))
 refine ⟨⟨hle12,t1⟩,(ZaO 6 rfl (Z2.lit0 (R:=ZM) (w:=3)) ZM.mono om3 (fun B' hle'=>⟨hle12.trans hle',t1⟩) (fun B14 hle14 hr14=>?_))⟩
 replace hu:=hu.mono Zg.mono hle14
 replace hc10:=hc10.mono hle14
 replace hr12:=hr12.mono ZL.mono hle14
 replace hv3:=hv3.mono Zg.mono hle14
 replace hv:=hv.mono Zb.mono hle14
 have hr14n:=hr14.len
 refine aT 9 rfl (ZG fun D B L hI=>ZaH (parts:=[(0,_),(1,_)]) [_,_] [_,_] rfl rfl Znw Zfg rfl rfl rfl r4) (h:=aT 10 rfl (ZG fun D B L hI=>ZaH (parts:=[(0,_),(1,_),(2,_),(3,_)]) [_,_,_,_,_] [_,_,_,_,_] rfl rfl Zwv Zd6 rfl rfl rfl r4) (h:=Zu 11 kr rfl kr (Zx (parts:=[(0,_)]) [_,_,_,_,_] rfl rfl Tryz.underlying24 Zbw Zd6 rfl rfl rfl rfl rfl (fun b15=>?_))))
 refine ⟨⟨(hle12.trans hle14),t1⟩,(Zu 12 kr rfl kr (Zba (z:=⟨w.name,[105,110,98,111,120],[],1,[]⟩) (R:=Zb) 2 rfl hv rfl rfl rfl ZiR Zi9 rfl rfl (ZaM.box 7 rfl) rfl rfl (⟨_,_,_,_,rfl,hr12,hr14,by first | assumption | omega | (simp;done) | (simp;omega),by first | assumption | omega | (simp;done) | (simp;omega)⟩) om (fun l16 p16 c16 hv16=>?_)))⟩
 refine ⟨⟨(hle12.trans hle14),t1⟩,(aW 13 rfl Z9 (h:=ZV 14 kr rfl kr kr kr (ZN [_] 4 [_,_,_,_,_] rfl rfl Zq9 rfl rfl rfl rfl rfl rfl rfl rfl ?_)))⟩
 refine Zz (Zf (Ze (xM (h:=xD (h:=xA (h:=?_))))))
 exact ZB ⟨g.k+1,0,l16,p16,c16,(g.xs ++ [⟨w.name,[105,110,98,111,120],[],1,[]⟩])⟩ [0,1,2,3,4] so2 ⟨so,by rw [List.take_add_one,hw];simp [hx,Zkh,inbox],hv16⟩ t6 rfl
 refine (Zx (parts:=[]) [] rfl rfl Tryz.underlying66 ZcJ ZgB rfl rfl rfl rfl rfl (fun b17=>⟨⟨Kn.le.refl _,t1⟩,(aT 9 rfl (ZG fun D B L hI=>ZaH (parts:=[(0,_),(1,_)]) [_,_] [_,_] rfl rfl Znw Zfg rfl rfl rfl r4) (h:=Zu 7 kr rfl kr (Zx (parts:=[]) [] rfl rfl Tryz.underlying65 ZbH ZdI rfl rfl rfl rfl rfl (fun b18=>?_))))⟩))
 refine ⟨⟨Kn.le.refl _,t1⟩,(ZaO 6 rfl (Z2.lit0 (R:=ZL) (w:=2)) ZL.mono om3 (fun B' hle'=>⟨hle',t1⟩) (fun B19 hle19 hr19=>?_))⟩
 replace hu:=hu.mono Zg.mono hle19
 replace hc10:=hc10.mono hle19
 replace hv3:=hv3.mono Zg.mono hle19
 replace hv:=hv.mono Zb.mono hle19
 have hr19n:=hr19.len
 refine ZaO 5 rfl (Z2.lit0 (R:=ZM) (w:=3)) ZM.mono om3 (fun B' hle'=>⟨hle19.trans hle',t1⟩) (fun B20 hle20 hr20=>?_)
 replace hu:=hu.mono Zg.mono hle20
 replace hc10:=hc10.mono hle20
 replace hr19:=hr19.mono ZL.mono hle20
 replace hv3:=hv3.mono Zg.mono hle20
 replace hv:=hv.mono Zb.mono hle20
 have hr20n:=hr20.len
 refine aT 10 rfl (ZG fun D B L hI=>ZaH (parts:=[(0,_),(1,_),(2,_),(3,_)]) [_,_,_,_,_] [_,_,_,_,_] rfl rfl Zwv Zd6 rfl rfl rfl r4) (h:=Zu 11 kr rfl kr (Zx (parts:=[(0,_)]) [_,_,_,_,_] rfl rfl Tryz.underlying24 Zbw Zd6 rfl rfl rfl rfl rfl (fun b21=>?_)))
 refine ⟨⟨(hle19.trans hle20),t1⟩,(Zu 12 kr rfl kr (Zba (z:=⟨w.name,[105,110,98,111,120],[],1,[]⟩) (R:=Zb) 2 rfl hv rfl rfl rfl ZiR Zi9 rfl rfl (ZaM.box 7 rfl) rfl rfl (⟨_,_,_,_,rfl,hr19,hr20,by first | assumption | omega | (simp;done) | (simp;omega),by first | assumption | omega | (simp;done) | (simp;omega)⟩) om (fun l22 p22 c22 hv22=>?_)))⟩
 refine ⟨⟨(hle19.trans hle20),t1⟩,(aW 13 rfl Z9 (h:=ZV 14 kr rfl kr kr kr (ZN [_] 4 [_,_,_,_,_] rfl rfl Zq9 rfl rfl rfl rfl rfl rfl rfl rfl ?_)))⟩
 refine Zz (Zf (Ze (xM (h:=xD (h:=xA (h:=?_))))))
 exact ZB ⟨g.k+1,0,l22,p22,c22,(g.xs ++ [⟨w.name,[105,110,98,111,120],[],1,[]⟩])⟩ [0,1,2,3,4] so2 ⟨so,by rw [List.take_add_one,hw];simp [hx,Zkh,inbox],hv22⟩ t6 rfl
 try simp only [sQ,ne_eq] at g3
 have he:(us.map fun u=>Zkh u.name)=g.xs:=by rw [hx,List.take_of_length_le oz]
 have hne:(⟨d,us,g.xs,⟨1,[]⟩⟩:DHost)=ZpQ d us:=by rw [ZpQ,he]
 refine ZT (Zah (ZZ (ZH (Zf (Zl (Za (xL [_,_,_,_,_] Z1 4 (h:=Z5 1 rfl hv3 Zg.mono om3 (fun B23 hle23 hr23=>?_)))))))))
 replace hu:=hu.mono Zg.mono hle23
 replace hv:=hv.mono Zb.mono hle23
 have hr23n:=hr23.len
 refine Z5 2 rfl hv Zb.mono om3 (fun B24 hle24 hr24=>?_)
 replace hu:=hu.mono Zg.mono hle24
 replace hr23:=hr23.mono Zg.mono hle24
 have hr24n:=hr24.len
 refine Z5 3 rfl (Z2.lit0 (R:=Zi) (w:=4)) Zi.mono om3 (fun B25 hle25 hr25=>?_)
 replace hu:=hu.mono Zg.mono hle25
 replace hr23:=hr23.mono Zg.mono hle25
 replace hr24:=hr24.mono Zb.mono hle25
 have hr25n:=hr25.len
 refine xR Zrc rfl (ZbF _ _ _ _ _ _ (⟨d,us,g.xs,⟨1,[]⟩⟩:DHost) om2 _ hr23 hr24 hr25) (h:=?_)
 refine xN (h:=Zv [_,_,_,_,_] rfl (Zd rfl (fun g4=>?_) (fun g4=>?_)))
 try simp only [sQ,ne_eq] at g4
 rw [ZoC (by rw [← hne];simpa using g4)]
 refine Za (xB [] [_,_,_,_,_] [_,_,_,_,_] ZdS ZaW (h:=xS [_,_,_,_,_] 0 [_,_,_,_,_] Zav (h:=xA (h:=Zv [_,_,_,_,_] rfl (Zh (Zs ?_))))))
 exact Zad .ret (.inl rfl) [_,_] [] rfl ⟨⟨_,rfl,.inr ⟨[_,_,_,_,_],Z1,Zaf 0 rfl rfl rfl,rfl⟩⟩,rfl,trivial⟩ ⟨rfl,none,0,none,0,none,0,rfl,SlK.nil,SlK.nil,SlK.nil⟩
 try simp only [sQ,ne_eq] at g4
 refine Zj (Zf (Za (xL [_,_,_,_,_] Z1 4 (h:=xS [_,_,_,_,_] 0 [_,_,_,_,_] Zav (h:=xA (h:=Zv [_,_,_,_,_] rfl (Zh ?_)))))))
 exact Zad .ret (.inl rfl) [_,_] [] rfl ⟨⟨_,rfl,.inr ⟨[_,_,_,_,_],Z1,Zaf 0 rfl rfl rfl,rfl⟩⟩,rfl,trivial⟩ (by rw [ZiC (by rw [← hne];simpa using g4),← hne];exact ⟨rfl,_,_,_,_,_,_,rfl,hr23,hr24,hr25⟩)

set_option maxHeartbeats 400000 in
theorem Zkm (k:Nat) (hk:k<6) (B:Kn):ZaL (pj J) 159 [.int .i64 k] B (.int .i64 (Zdg k)):=by
 refine Zc 7 Tryz.func159 rfl rfl rfl (Nat.le_of_ble_eq_true rfl) ?_
 refine Za (xA (h:=Za (xBs [(0,_),(1,_),(2,_),(3,_),(4,_),(5,_)] [_,_,_,_,_,_] Tryz.underlying171 sz3 zo3 (h:=fun b1=>?_))))
 have hvq:Z2 B (ZaE b1 (([1,2,4,8,16,32]:List Int).map fun x=>.int .i64 x) 3) (some ⟨b1,0,none⟩) 6 3 1 Zbz ([1,2,4,8,16,32]:List Int):=Z2.ints
 refine xM (h:=?_)
 obtain ⟨e,he⟩:=Zaj (xs:=([1,2,4,8,16,32]:List Int)) (i:=k) om
 obtain ⟨bb3,_,hp3,rfl,hw3,hc3⟩:=hvq.row he
 refine xIp hp3 Tryz.underlying171 sz3 (h:=Zo (Zn rfl rfl lk3 rfl (hc3 _ 0 rfl 0 _ rfl) (xA (h:=Zv [_] rfl (Zh ?_)))))
 exact ZY .ret (.inl rfl) [_] t1 ⟨Za3 (Zrz he),rfl,rfl⟩

set_option maxHeartbeats 400000 in
theorem ZmF (k:Nat) (hk:k<5) (B:Kn):ZaL (pj J) 194 [.int .i64 k] B (.int .i64 (Zdg k)):=by
 refine Zc 7 Tryz.func194 rfl rfl rfl (Nat.le_of_ble_eq_true rfl) ?_
 refine Za (xA (h:=Za (xBs [(0,_),(1,_),(2,_),(3,_),(4,_)] [_,_,_,_,_] Tryz.underlying171 sz3 zo3 (h:=fun b1=>?_))))
 have hvq:Z2 B (ZaE b1 (([1,2,4,8,16]:List Int).map fun x=>.int .i64 x) 3) (some ⟨b1,0,none⟩) 5 3 1 Zbz ([1,2,4,8,16]:List Int):=Z2.ints
 refine xM (h:=?_)
 obtain ⟨e,he⟩:=Zaj (xs:=([1,2,4,8,16]:List Int)) (i:=k) om
 obtain ⟨bb3,_,hp3,rfl,hw3,hc3⟩:=hvq.row he
 refine xIp hp3 Tryz.underlying171 sz3 (h:=Zo (Zn rfl rfl lk3 rfl (hc3 _ 0 rfl 0 _ rfl) (xA (h:=Zv [_] rfl (Zh ?_)))))
 exact ZY .ret (.inl rfl) [_] t1 ⟨Za3 (ZpL he),rfl,rfl⟩

set_option maxHeartbeats 400000 in
theorem ZtI (q:Option Addr) (cp:Nat) (gs:List DGrant) (u:Str) (hr :∀y,y∈gs→0≤y.rights∧y.rights≤63) (B:Kn) (hg:SlK B q cp 2 ZL gs):ZaL (pj J) 113 [.slice q gs.length cp,str u] B (.int .i64 (ZdP gs u)):=by
 refine Zc 55 Tryz.func113 rfl rfl rfl (Nat.le_of_ble_eq_true rfl) ?_
 have hgn:=hg.len
 refine Za (xA (h:=Za (xA (h:=Zl (Za (xA (h:=Zp (ZQ (α:=Nat × Int) [0,1,4] (fun g=>[(5,.int .i64 g.2),(6,.int .i64 g.1)]) [] (fun g=>[]) (fun g Bx=>Bx=B∧g.1≤6∧g.2=ZfA gs u g.1) (fun g=>6 - g.1) (0,0) t2 rfl (⟨rfl,oz,rfl⟩) (fun g B1 hle1 hI=>?_)))))))))
 obtain ⟨rfl,hk,hs⟩:=hI
 have hbd:=Zi4 gs u g.1 hk
 refine ZO [(0,_),(1,_),(4,_),(5,_),(6,_)] [] t5 rfl (Zl (Za (xM (h:=Zag (h:=Zd rfl (fun g1=>?_) (fun g1=>?_))))))
 try simp only [sQ,ne_eq] at g1
 have hp:=ZkG (k:=g.1) oz
 refine Zj (Zf (Zl (Zp (Za (xA (h:=Zl (Za (xA (h:=Zp (ZQ (α:=Nat × Bool) [0,1,4,5,6,10] (fun o=>[(7,.bool o.2),(8,.int .i64 o.1)]) [] (fun o=>[]) (fun o Bx=>Bx=B1∧o.1≤gs.length∧o.2=(gs.take o.1).any (onB u (Zdg g.1))) (fun o=>gs.length - o.1) (0,false) t2 rfl (⟨rfl,Nat.zero_le _,rfl⟩) (fun o B2 hle2 hI=>?_)))))))))))
 obtain ⟨rfl,ho,hon⟩:=hI
 refine ZO [(0,_),(1,_),(4,_),(5,_),(6,_),(7,_),(8,_),(10,_)] [] t8 rfl (Zl (Za (xM (h:=xM (h:=xV Tryz.underlying65 (h:=Zag (h:=Zd rfl (fun g2=>?_) (fun g2=>?_))))))))
 try simp only [sQ,ne_eq] at g2
 obtain ⟨x,hx⟩:=Zaj (xs:=gs) (i:=o.1) oz
 have hrx:=hr x (List.mem_of_getElem? hx)
 refine Zj (Zf (Zl (Zp (Z8 (same _ _) mo kr ⟨rfl,rfl⟩ (fun _ _=>?_)))))
 refine aM 0 rfl (h:=aM 1 rfl (h:=ZaI (d:=20) rfl (fun g3=>?_) (fun g3=>?_)))
 try simp only [sQ,ne_eq] at g3
 refine aZ 2 rfl (h:=aZ 3 rfl (h:=aZ 4 rfl (h:=aZ 5 rfl (h:=aZ 6 rfl (h:=aZ 7 rfl (h:=aZ 8 rfl (h:=aZ 9 rfl (h:=aZ 10 rfl (h:=aZ 11 rfl (h:=aZ 12 rfl (h:=aZ 13 rfl (h:=aZ 14 rfl (h:=?_)))))))))))))
 refine aZ 15 rfl (h:=aZ 16 rfl (h:=aZ 17 rfl (h:=aZ 18 rfl (h:=aZ 19 rfl (h:=aZ 20 rfl (h:=aZ 21 rfl (h:=aZ 22 rfl (h:=aZ 23 rfl (h:=aZ 24 rfl (h:=aZ 25 rfl (h:=aZ 26 rfl (h:=aZ 27 rfl (h:=?_)))))))))))))
 refine aZ 28 rfl (h:=aPT 29 rfl (h:=aA 30 rfl (h:=ZC kr kr ?_)))
 refine Zz (Zf (Ze (xM (h:=xD (h:=xA (h:=?_))))))
 exact ZB (o.1+1,true) [] so2 ⟨rfl,so,by rw [ZdX hx,← hon,g3];rfl⟩ t8 rfl
 try simp only [sQ,ne_eq] at g3
 refine aM 2 rfl (h:=aM 3 rfl (h:=?_))
 obtain ⟨bb3,oo3,rfl⟩:=hg.base hx
 obtain ⟨_,⟨rfl,hb4⟩,hc4⟩:=hg.elem hx
 refine aIx 4 rfl Tryz.underlying65 ZbH (h:=aW 5 rfl ZcP (h:=aT 6 rfl (Zan fun D=>Zn rfl rfl lk9 rfl (hc4 _ 0 _ rfl) r4) (h:=aM 7 rfl (h:=Zq0 8 rfl (h:=aM 9 rfl (h:=ZaI (d:=28) rfl (fun g4=>?_) (fun g4=>?_)))))))
 try simp only [sQ,ne_eq] at g4
 refine aZ 10 rfl (h:=aZ 11 rfl (h:=aZ 12 rfl (h:=aZ 13 rfl (h:=aZ 14 rfl (h:=aZ 15 rfl (h:=aPT 16 rfl (h:=aM 17 rfl (h:=aM 18 rfl (h:=aM 19 rfl (h:=aIx 20 rfl Tryz.underlying65 ZbH (h:=aW 21 rfl ZgP (h:=aT 22 rfl (Zan fun D=>Zn rfl rfl lk3 rfl (hc4 _ 1 _ rfl) r4) (h:=?_)))))))))))))
 refine aM 23 rfl (h:=aT 24 rfl (Zan fun D=>ZaS rfl rfl Zug rfl (Zkm g.1 om2 _) r4) (h:=?_))
 refine aT 25 rfl (Zan fun D=>ZhR (a:=x.rights) (b:=(Zdg g.1)) (r:=Int.tdiv x.rights (Zdg g.1)) rfl rfl rfl rfl oz (Zjz oz oz oz) r4) (h:=?_)
 refine aT 26 rfl (Zan fun D=>Zhp (a:=(Int.tdiv x.rights (Zdg g.1))) (b:=2) (r:=Int.tmod (Int.tdiv x.rights (Zdg g.1)) 2) rfl rfl rfl rfl (by decide) rfl r4) (h:=?_)
 refine Zq1 27 rfl (h:=aPT 28 rfl (h:=aPF 29 rfl (h:=aA 30 rfl (h:=ZC kr kr ?_))))
 refine Zz (Zf (Ze (xM (h:=xD (h:=xA (h:=?_))))))
 exact ZB (o.1+1,decide (Int.tmod (Int.tdiv x.rights (Zdg g.1)) 2=1)) [] so2 ⟨rfl,so,by rw [ZdX hx,← hon,g3,onB];simp [g4]⟩ t8 rfl
 try simp only [sQ,ne_eq] at g4
 refine aM 10 rfl (h:=aM 11 rfl (h:=aIx 12 rfl Tryz.underlying65 ZbH (h:=aW 13 rfl ZcP (h:=aT 14 rfl (Zan fun D=>Zn rfl rfl lk9 rfl (hc4 _ 0 _ rfl) r4) (h:=Zq0 15 rfl (h:=aPF 16 rfl (h:=aM 17 rfl (h:=ZaI (d:=36) rfl (fun g5=>?_) (fun g5=>?_)))))))))
 try simp only [sQ,ne_eq] at g5
 refine aM 18 rfl (h:=aM 19 rfl (h:=aIx 20 rfl Tryz.underlying65 ZbH (h:=aW 21 rfl ZgP (h:=aT 22 rfl (Zan fun D=>Zn rfl rfl lk3 rfl (hc4 _ 1 _ rfl) r4) (h:=aM 23 rfl (h:=aT 24 rfl (Zan fun D=>ZaS rfl rfl Zug rfl (Zkm g.1 om2 _) r4) (h:=?_)))))))
 refine aT 25 rfl (Zan fun D=>ZhR (a:=x.rights) (b:=(Zdg g.1)) (r:=Int.tdiv x.rights (Zdg g.1)) rfl rfl rfl rfl oz (Zjz oz oz oz) r4) (h:=?_)
 refine aT 26 rfl (Zan fun D=>Zhp (a:=(Int.tdiv x.rights (Zdg g.1))) (b:=2) (r:=Int.tmod (Int.tdiv x.rights (Zdg g.1)) 2) rfl rfl rfl rfl (by decide) rfl r4) (h:=?_)
 refine Zq1 27 rfl (h:=aPT 28 rfl (h:=aPF 29 rfl (h:=aA 30 rfl (h:=ZC kr kr ?_))))
 refine Zz (Zf (Ze (xM (h:=xD (h:=xA (h:=?_))))))
 exact ZB (o.1+1,decide (Int.tmod (Int.tdiv x.rights (Zdg g.1)) 2=1)) [] so2 ⟨rfl,so,by rw [ZdX hx,← hon,g3,onB];simp [g5,anyone]⟩ t8 rfl
 try simp only [sQ,ne_eq] at g5
 refine aZ 18 rfl (h:=aZ 19 rfl (h:=aZ 20 rfl (h:=aZ 21 rfl (h:=aZ 22 rfl (h:=aZ 23 rfl (h:=aZ 24 rfl (h:=aZ 25 rfl (h:=aZ 26 rfl (h:=aZ 27 rfl (h:=aPF 28 rfl (h:=aPF 29 rfl (h:=aA 30 rfl (h:=?_)))))))))))))
 refine ZC kr kr ?_
 refine Zz (Zf (Ze (xM (h:=xD (h:=xA (h:=?_))))))
 exact ZB (o.1+1,false) [] so2 ⟨rfl,so,by rw [ZdX hx,← hon,g3,onB];simp [g4,g5,anyone]⟩ t8 rfl
 try simp only [sQ,ne_eq] at g2
 have hae:=ZqV hon oz
 refine ZT (Zah (ZZ (ZH (Zf (Za (xM (h:=Zd rfl (fun g6=>?_) (fun g6=>?_))))))))
 try simp only [sQ,ne_eq] at g6
 refine Ze (xM (h:=xM (h:=xR Zug rfl (Zkm g.1 om2 _) (h:=?_))))
 refine xD (h:=xA (h:=Zz (Zf (Ze (xM (h:=xD (h:=xA (h:=?_))))))))
 exact ZB (g.1+1,g.2+Zdg g.1) [] so2 ⟨rfl,so,by simp only [ZfA];rw [← hae,if_pos g6,hs]⟩ t5 rfl
 try simp only [sQ,ne_eq] at g6
 refine Zj (Zz (Zf (Ze (xM (h:=xD (h:=xA (h:=?_)))))))
 exact ZB (g.1+1,g.2) [] so2 ⟨rfl,so,by simp only [ZfA];rw [← hae,if_neg (by simp [g6]),hs]⟩ t5 rfl
 try simp only [sQ,ne_eq] at g1
 refine ZT (Zah (ZZ (ZH (Zf (Za (xM (h:=xA (h:=Zh ?_))))))))
 exact ZY .ret (.inl rfl) [_] t1 ⟨Za3 (by rw [hs,show g.1=6 from by omega];rfl),rfl,rfl⟩

set_option maxHeartbeats 400000 in
theorem Zio (n:Int) (B:Kn):ZaL (pj J) 174 [.int .i64 n] B (.bool (ZdO n)):=by
 refine Zc 5 Tryz.func174 rfl rfl rfl (Nat.le_of_ble_eq_true rfl) ?_
 refine Za (xA (h:=Za (xM (h:=xR Zeo rfl (Zcl _ _ _ _) (h:=xA (h:=Zh ?_))))))
 exact ZY .ret (.inl rfl) [_] t1 ⟨rfl,rfl,rfl⟩

set_option maxHeartbeats 400000 in
theorem ZnF (q1 q2 q3:Option Addr) (c1 c2 c3:Nat) (x:DHost) (k:Int) (u:Str) (r:Int) (f:DFolder) (hk0:0≤k) (hk:x.folders[k.toNat]? = some f) (hrr:ZhM x.folders) (h1:0<r) (B:Kn) (hf:SlK B q2 c2 5 Zb x.folders):ZaL (pj J) 65 [.agg #[str x.domain,.slice q1 x.users.length c1,.slice q2 x.folders.length c2,.int .i64 x.queue.next,.slice q3 x.queue.items.length c3],.int .i64 k,str u,.int .i64 r] B (.bool (Zo3 f u r)):=by
 refine Zc 31 Tryz.func65 rfl rfl rfl (Nat.le_of_ble_eq_true rfl) ?_
 have hfn:=hf.len
 have hkl:=(List.getElem?_eq_some_iff.1 hk).1
 have hrb:=Zmt f.grants u
 refine Za (xBx [_,_,_,_,_] (h:=fun b1=>xA (h:=Zv [_] rfl (Za (xM (h:=xW Z9 (h:=x1 ZcN 0 (h:=xM (h:=?_)))))))))
 obtain ⟨bb2,oo2,rfl⟩:=hf.base hk
 obtain ⟨_,⟨qg3,cg3,qm3,cm3,rfl,hg3,hm3,hb3,hb3b⟩,hc3⟩:=hf.elem hk
 have hg3n:=hg3.len
 have hm3n:=hm3.len
 have hm3s:=Zac hm3
 refine xIx Tryz.underlying24 Zbw (h:=xW Zc7 (h:=y1 lk9 hc3 0 (h:=Zc4 (h:=xM (h:=Zt (d:=17) rfl (fun g1=>?_) (fun g1=>?_))))))
 try simp only [sQ,ne_eq] at g1
 refine xP (h:=xP (h:=xP (h:=xP (h:=xP (h:=xP (h:=xP (h:=xP (h:=xP (h:=xP (h:=xP (h:=xP (h:=xT (h:=?_)))))))))))))
 refine xA (h:=Zh ?_)
 exact ZY .ret (.inl rfl) [_] t1 ⟨Zk (by simp [Zo3,g1]),rfl,rfl⟩
 try simp only [sQ,ne_eq] at g1
 refine xW Z9 (h:=x1 ZcN 0 (h:=xM (h:=xIx Tryz.underlying24 Zbw (h:=xW ZdV (h:=y1 ZrM hc3 2 (h:=xM (h:=xR Zxt rfl (ZtI _ _ f.grants u (by first | assumption | exact hrr _ (List.mem_of_getElem? (oy))) _ hg3) (h:=?_))))))))
 refine xM (h:=Zo (ZhR (a:=(ZdP f.grants u)) (b:=r) (r:=Int.tdiv (ZdP f.grants u) r) rfl rfl rfl rfl oz (Zjz oz oz oz) ?_))
 refine Zo (Zhp (a:=(Int.tdiv (ZdP f.grants u) r)) (b:=2) (r:=Int.tmod (Int.tdiv (ZdP f.grants u) r) 2) rfl rfl rfl rfl (by decide) rfl ?_)
 refine ZI (h:=xF (h:=xA (h:=Zh ?_)))
 exact ZY .ret (.inl rfl) [_] t1 ⟨Zk (by simp [Zo3,g1]),rfl,rfl⟩

set_option maxHeartbeats 400000 in
theorem Zei (q1 q2 q3:Option Addr) (c1 c2 c3:Nat) (x:DHost) (u:Str) (k r:Int) (hk:k<x.folders.length) (hrr:ZhM x.folders) (h1:0<r) (B:Kn) (hu:SlK B q1 c1 3 Zg x.users) (hf:SlK B q2 c2 5 Zb x.folders):ZaL (pj J) 26 [.agg #[str x.domain,.slice q1 x.users.length c1,.slice q2 x.folders.length c2,.int .i64 x.queue.next,.slice q3 x.queue.items.length c3],str u,.int .i64 k,.int .i64 r] B (.int .i64 (Zjh x.users x.folders u k r)):=by
 refine Zc 32 Tryz.func26 rfl rfl rfl (Nat.le_of_ble_eq_true rfl) ?_
 refine Za (xBx [_,_,_,_,_] (h:=fun b1=>xA (h:=Zv [_] rfl (Zl (Zp (Za (xW ZbD (h:=x1 ZhC 0 (h:=xM (h:=xR ZsY rfl (ZcZ _ _ _ _ _ hu) (h:=Zag (h:=xM (h:=?_)))))))))))))
 refine Zt (d:=15) rfl (fun g1=>?_) (fun g1=>?_)
 try simp only [sQ,ne_eq] at g1
 refine xP (h:=xP (h:=xT (h:=xA (h:=Zd (t:=true) rfl (fun _=>Za (xA (h:=Zh (ZE (Zs ?_))))) (fun h=>Bool.noConfusion h)))))
 exact ZY .ret (.inl rfl) [_] t1 ⟨Za3 (ZqP (.inl g1)).symm,rfl,rfl⟩
 try simp only [sQ,ne_eq] at g1
 refine xM (h:=Zag (h:=xF (h:=xA (h:=Zd rfl (fun g2=>?_) (fun g2=>?_)))))
 try simp only [sQ,ne_eq] at g2
 refine Za (xA (h:=Zh (ZE (Zs ?_))))
 exact ZY .ret (.inl rfl) [_] t1 ⟨Za3 (ZqP (.inr g2)).symm,rfl,rfl⟩
 try simp only [sQ,ne_eq] at g2
 have hfn:=hf.len
 obtain ⟨f,hf0⟩ :∃f,x.folders[k.toNat]? = some f:=⟨_,List.getElem?_eq_getElem oz⟩
 have hce:=Zuo (us:=x.users) (u:=u) (r:=r) oz hf0
 refine Za (xL [_,_,_,_,_] Z1 0 (h:=xM (h:=xM (h:=xR ZxM rfl (ZnF _ _ _ _ _ _ x k u 1 _ oz (oy) hrr oz _ hf) (h:=?_)))))
 refine xN (h:=xA (h:=Zd rfl (fun g3=>?_) (fun g3=>?_)))
 try simp only [sQ,ne_eq] at g3
 refine Za (xA (h:=Zh (ZE (Zs ?_))))
 exact ZY .ret (.inl rfl) [_] t1 ⟨Za3 (by rw [hce,if_pos g3]),rfl,rfl⟩
 try simp only [sQ,ne_eq] at g3
 refine Za (xL [_,_,_,_,_] Z1 0 (h:=xM (h:=xM (h:=xM (h:=xR ZxM rfl (ZnF _ _ _ _ _ _ x k u r _ oz (oy) hrr oz _ hf) (h:=?_))))))
 refine xN (h:=xA (h:=Zd rfl (fun g4=>?_) (fun g4=>?_)))
 try simp only [sQ,ne_eq] at g4
 refine Za (xA (h:=Zh (ZE (Zs ?_))))
 exact ZY .ret (.inl rfl) [_] t1 ⟨Za3 (by rw [hce,if_neg (by simp [g3]),if_pos g4]),rfl,rfl⟩
 try simp only [sQ,ne_eq] at g4
 refine Zj (Zz (Zf (Za (xA (h:=Zh ?_)))))
 exact ZY .ret (.inl rfl) [_] t1 ⟨Za3 (by rw [hce,if_neg (by simp [g3]),if_neg (by simp [g4])]),rfl,rfl⟩

set_option maxHeartbeats 400000 in
theorem Zip (q:Option Addr) (cp:Nat) (x:DBox) (B:Kn) (hm:SlK B q cp 3 ZM x.mail):ZA (pj J) 123 [.agg #[.int .i64 x.next,.slice q x.mail.length cp]] B [] (fun v B' Ls=>B'=B∧∃l a c,Ls=[l]∧v = .agg #[.int .i64 x.next,.slice a x.mail.length c]∧Z2 B l a c 196 3 ZM x.mail):=by
 refine Zc 9 Tryz.func123 rfl rfl rfl (Nat.le_of_ble_eq_true rfl) ?_
 have hxn:=hm.len
 refine Za (xBx [_,_] (h:=fun b1=>xAl [_,_] Zfg (h:=fun b2=>Zv [_,_] rfl (Za (xBs [] [] Tryz.underlying66 ZcJ ZgB (h:=fun b3=>xW ZaR (h:=x1 Zfv 0 (h:=Zo (ZaN (R:=ZM) 2 rfl (Z2.lit0 (R:=ZM)) rfl rfl rfl ZvZ ZvU rfl rfl rfl hm.rows ZM.one rfl om (fun l4 p4 c4 hv4=>?_))))))))))
 refine xW ZaR (h:=xS [_] 0 [_,_] Zwr (h:=Zv [_,_,_] rfl (Za (xL [_,_] ZbP 0 (h:=xS [_,_] 1 [_,_] ZcI (h:=Zv [_,_,_] rfl (Zh ?_)))))))
 exact Zad .ret (.inl rfl) [_] [2] rfl ⟨⟨_,rfl,.inr ⟨[_,_],ZbP,Zaf 1 rfl rfl rfl,rfl⟩⟩,trivial⟩ ⟨rfl,_,_,_,rfl,rfl,hv4⟩

set_option maxHeartbeats 400000 in
theorem ZmH (qa qb:Option Addr) (ca cb:Nat) (x:DFolder) (B:Kn) (hg:SlK B qa ca 2 ZL x.grants) (hm:SlK B qb cb 3 ZM x.mail):ZA (pj J) 78 [.agg #[str x.owner,str x.name,.slice qa x.grants.length ca,.int .i64 x.next,.slice qb x.mail.length cb]] B [] (fun v B' Ls=>B'=B∧∃l a c l' a' c',Ls=[l,l']∧v = .agg #[str x.owner,str x.name,.slice a x.grants.length c,.int .i64 x.next,.slice a' x.mail.length c']∧Z2 B l a c 162 2 ZL x.grants∧Z2 B l' a' c' 196 3 ZM x.mail):=by
 refine Zc 13 Tryz.func78 rfl rfl rfl (Nat.le_of_ble_eq_true rfl) ?_
 have hgn:=hg.len
 have hmn:=hm.len
 refine Za (xBx [_,_,_,_,_] (h:=fun b1=>xAl [_,_,_,_,_] Zd6 (h:=fun b2=>Zv [_,_] rfl (Za (xBs [] [] Tryz.underlying65 ZbH ZdI (h:=fun b3=>xW ZdV (h:=x1 ZrM 0 (h:=Zo (ZaN (R:=ZL) 2 rfl (Z2.lit0 (R:=ZL)) rfl rfl rfl ZqC Zpw rfl rfl rfl hg.rows ZL.one rfl om (fun l4 p4 c4 hv4=>?_))))))))))
 refine xW ZdV (h:=xS [_] 0 [_,_,_,_,_] ZuZ (h:=Zv [_,_,_] rfl (Za (xW Zb2 (h:=xL [_,_] ZbP 0 (h:=Zo (Zaa rfl rfl Zuj rfl (Zip _ _ (⟨x.next,x.mail⟩:DBox) _ hm) ?_)))))))
 rintro _ B5 _ hle5 ⟨hB5,l5,a5,c5,rfl,rfl,hs5⟩
 have hB5:=hB5.symm
 subst hB5
 refine xW Zb2 (h:=xS [_,_] 0 [_,_,_,_,_] ZcI (h:=Zv [_,_,_,_] rfl (Za (xL [_,_,_,_,_] Zja 0 (h:=xS [_,_,_,_,_] 1 [_,_,_,_,_] Zbw (h:=Zv [_,_,_,_] rfl (Zh ?_)))))))
 exact Zad .ret (.inl rfl) [_] [2,3] rfl ⟨⟨_,rfl,.inr ⟨[_,_,_,_,_],Zja,Zaf 1 rfl rfl rfl,rfl⟩⟩,trivial⟩ ⟨rfl,_,_,_,_,_,_,rfl,rfl,hv4,hs5⟩

set_option maxHeartbeats 400000 in
theorem Zbe (q1 q2 q3:Option Addr) (c1 c2 c3:Nat) (x:DHost) (B:Kn) (hu:SlK B q1 c1 3 Zg x.users) (hf:SlK B q2 c2 5 Zb x.folders) (hi:SlK B q3 c3 4 Zi x.queue.items):ZA (pj J) 36 [.agg #[str x.domain,.slice q1 x.users.length c1,.slice q2 x.folders.length c2,.int .i64 x.queue.next,.slice q3 x.queue.items.length c3]] B [] (fun v B' Ls=>∃l a c p1 d1 p3 d3,Ls=[l]∧v = .agg #[str x.domain,.slice p1 x.users.length d1,.slice a x.folders.length c,.int .i64 x.queue.next,.slice p3 x.queue.items.length d3]∧SlK B' p1 d1 3 Zg x.users∧Z2 B' l a c 70 5 Zb x.folders∧SlK B' p3 d3 4 Zi x.queue.items):=by
 refine Zc 35 Tryz.func36 rfl rfl rfl (Nat.le_of_ble_eq_true rfl) ?_
 have hun:=hu.len
 have hfn:=hf.len
 have hin:=hi.len
 refine Za (xBx [_,_,_,_,_] (h:=fun b1=>xAl [_,_,_,_,_] ZaW (h:=fun b2=>Zv [_,_] rfl (Zpc (α:=GHC × Gh DFolder) [0,1,2] (fun o=>[(3,ptr ⟨o.1.b,0,none⟩)]) (fun o=>[ZaE b1 [str x.domain,.slice q1 x.users.length c1,.slice q2 x.folders.length c2,.int .i64 x.queue.next,.slice q3 x.queue.items.length c3] 29,ZaE b2 [str [],.slice none 0 0,.slice none 0 0,.int .i64 0,.slice none 0 0] 29,o.2.l,ZaE o.1.b [str x.domain,.slice o.1.q1 x.users.length o.1.c1,.slice o.2.a o.2.xs.length o.2.c,.int .i64 x.queue.next,.slice o.1.q3 x.queue.items.length o.1.c3] 29]) (fun o Bx=>SlK Bx o.1.q1 o.1.c1 3 Zg x.users∧o.2.xs=[]∧Z2 Bx o.2.l o.2.a o.2.c 70 5 Zb o.2.xs∧SlK Bx o.1.q3 o.1.c3 4 Zi x.queue.items) ?_ (fun o B3 hle3 hF=>?_)))))
 refine Z8 (keeps _ [0] _) mo kr ⟨Kn.le.refl _,Zam.refl _ _⟩ (fun _ _=>?_)
 refine aW 0 rfl ZiK (h:=aT 1 rfl (ZG fun D B L hI=>Zn rfl rfl lk9 rfl (atL 0 (hI.2.1.trans rfl) rfl rfl) r4) (h:=aW 3 rfl ZbD (h:=aT 4 rfl (ZG fun D B L hI=>Zn rfl rfl ZhC rfl (atL 0 (hI.2.1.trans rfl) rfl rfl) r4) (h:=aW 7 rfl Zbg (h:=aT 8 rfl (ZG fun D B L hI=>Z6 [_,_] rfl rfl Zb9 rfl (Zaf 0 (hI.2.1.trans rfl) rfl rfl) r4) (h:=Zaq [2,6,11] kr kr kr ⟨?_,?_,?_⟩))))))
 refine (Zx (parts:=[]) [] rfl rfl Tryz.underlying23 ZeK ZgA rfl rfl rfl rfl rfl (fun b4=>⟨⟨Kn.le.refl _,t1⟩,(Zaq [5,6,11] kr kr kr ⟨?_,?_,?_⟩)⟩))
 refine (ZaN (R:=Zg) 2 rfl (Z2.lit0 (R:=Zg)) rfl rfl rfl ZnP Znl rfl rfl rfl hu.rows Zg.one rfl om (fun l5 p5 c5 hv5=>?_))
 refine ⟨⟨Kn.le.refl _,t1⟩,(ZaO 2 rfl hv5 Zg.mono om3 (fun B' hle'=>⟨hle',t1⟩) (fun B6 hle6 hr6=>?_))⟩
 replace hu:=hu.mono Zg.mono hle6
 replace hf:=hf.mono Zb.mono hle6
 replace hi:=hi.mono Zi.mono hle6
 have hr6n:=hr6.len
 refine Zaq [6,9,11] kr kr kr ⟨?_,?_,?_⟩
 refine (Zx (parts:=[]) [] rfl rfl Tryz.underlying24 Zbw Zd6 rfl rfl rfl rfl rfl (fun b7=>⟨⟨hle6,t1⟩,(Zaq [9,11] kr kr kr ⟨?_,?_⟩)⟩))
 refine (Zaa rfl rfl ZjU rfl (ZaC _ _ x.queue _ hi) ?_)
 rintro _ B8 _ hle8 ⟨l8,a8,c8,rfl,rfl,hv8⟩
 replace hu:=hu.mono Zg.mono hle8
 replace hf:=hf.mono Zb.mono hle8
 replace hi:=hi.mono Zi.mono hle8
 replace hr6:=hr6.mono Zg.mono hle8
 replace hv8:=hv8.mono Zi.mono Kn.less_le
 refine ⟨⟨(hle6.trans hle8),t1⟩,(ZaO 4 rfl hv8 Zi.mono om3 (fun B' hle'=>⟨(hle6.trans hle8).trans hle',t1⟩) (fun B9 hle9 hr9=>?_))⟩
 replace hu:=hu.mono Zg.mono hle9
 replace hf:=hf.mono Zb.mono hle9
 replace hi:=hi.mono Zi.mono hle9
 replace hr6:=hr6.mono Zg.mono hle9
 have hr9n:=hr9.len
 refine aT 10 rfl (ZG fun D B L hI=>ZaH (parts:=[(0,_),(1,_),(2,_),(3,_)]) [_,_,_,_,_] [_,_,_,_,_] rfl rfl ZdS ZaW rfl rfl rfl r4) (h:=Zu 11 kr rfl kr (Zao (l:=[_,_,_,_,_]) rfl rfl ZaW rfl (fun b10=>?_)))
 refine ⟨⟨((hle6.trans hle8).trans hle9),t1⟩,(ZV 12 kr rfl kr kr kr (ZN [_,_,_,_,_] 5 [_,_,_,_,_] rfl rfl Zav rfl rfl rfl rfl rfl rfl rfl rfl ?_))⟩
 exact ZK ⟨⟨_,_,_,_,_⟩,⟨0,0,_,_,_,[]⟩⟩ [0,1,3,5] ⟨hr6,rfl,Z2.lit0,hr9⟩ t4 rfl
 refine (Zao (l:=[_,_,_,_,_]) rfl rfl ZaW rfl (fun b11=>⟨⟨hle6,t1⟩,(Zu 9 kr rfl kr (Zaa rfl rfl ZjU rfl (ZaC _ _ x.queue _ hi) ?_))⟩))
 rintro _ B12 _ hle12 ⟨l12,a12,c12,rfl,rfl,hv12⟩
 replace hu:=hu.mono Zg.mono hle12
 replace hf:=hf.mono Zb.mono hle12
 replace hi:=hi.mono Zi.mono hle12
 replace hr6:=hr6.mono Zg.mono hle12
 replace hv12:=hv12.mono Zi.mono Kn.less_le
 refine ⟨⟨(hle6.trans hle12),t1⟩,(ZaO 5 rfl hv12 Zi.mono om3 (fun B' hle'=>⟨(hle6.trans hle12).trans hle',t1⟩) (fun B13 hle13 hr13=>?_))⟩
 replace hu:=hu.mono Zg.mono hle13
 replace hf:=hf.mono Zb.mono hle13
 replace hi:=hi.mono Zi.mono hle13
 replace hr6:=hr6.mono Zg.mono hle13
 have hr13n:=hr13.len
 refine aT 10 rfl (ZG fun D B L hI=>ZaH (parts:=[(0,_),(1,_),(2,_),(3,_)]) [_,_,_,_,_] [_,_,_,_,_] rfl rfl ZdS ZaW rfl rfl rfl r4) (h:=ZV 12 kr rfl kr kr kr (ZN [_,_,_,_,_] 4 [_,_,_,_,_] rfl rfl Zav rfl rfl rfl rfl rfl rfl rfl rfl ?_))
 exact ZK ⟨⟨_,_,_,_,_⟩,⟨0,0,_,_,_,[]⟩⟩ [0,1,3,4] ⟨hr6,rfl,Z2.lit0,hr13⟩ t4 rfl
 refine (Zaa rfl rfl ZjU rfl (ZaC _ _ x.queue _ hi) ?_)
 rintro _ B14 _ hle14 ⟨l14,a14,c14,rfl,rfl,hv14⟩
 replace hu:=hu.mono Zg.mono hle14
 replace hf:=hf.mono Zb.mono hle14
 replace hi:=hi.mono Zi.mono hle14
 replace hr6:=hr6.mono Zg.mono hle14
 replace hv14:=hv14.mono Zi.mono Kn.less_le
 refine ⟨⟨(hle6.trans hle14),t1⟩,(ZaO 3 rfl hv14 Zi.mono om3 (fun B' hle'=>⟨(hle6.trans hle14).trans hle',t1⟩) (fun B15 hle15 hr15=>?_))⟩
 replace hu:=hu.mono Zg.mono hle15
 replace hf:=hf.mono Zb.mono hle15
 replace hi:=hi.mono Zi.mono hle15
 replace hr6:=hr6.mono Zg.mono hle15
 have hr15n:=hr15.len
 refine Zaq [6,11] kr kr kr ⟨?_,?_⟩
 refine (Zx (parts:=[]) [] rfl rfl Tryz.underlying24 Zbw Zd6 rfl rfl rfl rfl rfl (fun b16=>⟨⟨((hle6.trans hle14).trans hle15),t1⟩,(aT 10 rfl (ZG fun D B L hI=>ZaH (parts:=[(0,_),(1,_),(2,_),(3,_)]) [_,_,_,_,_] [_,_,_,_,_] rfl rfl ZdS ZaW rfl rfl rfl r4) (h:=Zu 11 kr rfl kr (Zao (l:=[_,_,_,_,_]) rfl rfl ZaW rfl (fun b17=>?_))))⟩))
 refine ⟨⟨((hle6.trans hle14).trans hle15),t1⟩,(ZV 12 kr rfl kr kr kr (ZN [_,_,_,_,_] 5 [_,_,_,_,_] rfl rfl Zav rfl rfl rfl rfl rfl rfl rfl rfl ?_))⟩
 exact ZK ⟨⟨_,_,_,_,_⟩,⟨0,0,_,_,_,[]⟩⟩ [0,1,4,5] ⟨hr6,rfl,Z2.lit0,hr15⟩ t4 rfl
 refine (Zao (l:=[_,_,_,_,_]) rfl rfl ZaW rfl (fun b18=>⟨⟨((hle6.trans hle14).trans hle15),t1⟩,(Zu 6 kr rfl kr (Zx (parts:=[]) [] rfl rfl Tryz.underlying24 Zbw Zd6 rfl rfl rfl rfl rfl (fun b19=>?_)))⟩))
 refine ⟨⟨((hle6.trans hle14).trans hle15),t1⟩,(aT 10 rfl (ZG fun D B L hI=>ZaH (parts:=[(0,_),(1,_),(2,_),(3,_)]) [_,_,_,_,_] [_,_,_,_,_] rfl rfl ZdS ZaW rfl rfl rfl r4) (h:=ZV 12 kr rfl kr kr kr (ZN [_,_,_,_,_] 4 [_,_,_,_,_] rfl rfl Zav rfl rfl rfl rfl rfl rfl rfl rfl ?_)))⟩
 exact ZK ⟨⟨_,_,_,_,_⟩,⟨0,0,_,_,_,[]⟩⟩ [0,1,5,4] ⟨hr6,rfl,Z2.lit0,hr15⟩ t4 rfl
 refine (Zao (l:=[_,_,_,_,_]) rfl rfl ZaW rfl (fun b20=>⟨⟨hle6,t1⟩,(Zaq [6,9] kr kr kr ⟨?_,?_⟩)⟩))
 refine (Zx (parts:=[]) [] rfl rfl Tryz.underlying24 Zbw Zd6 rfl rfl rfl rfl rfl (fun b21=>⟨⟨hle6,t1⟩,(Zu 9 kr rfl kr (Zaa rfl rfl ZjU rfl (ZaC _ _ x.queue _ hi) ?_))⟩))
 rintro _ B22 _ hle22 ⟨l22,a22,c22,rfl,rfl,hv22⟩
 replace hu:=hu.mono Zg.mono hle22
 replace hf:=hf.mono Zb.mono hle22
 replace hi:=hi.mono Zi.mono hle22
 replace hr6:=hr6.mono Zg.mono hle22
 replace hv22:=hv22.mono Zi.mono Kn.less_le
 refine ⟨⟨(hle6.trans hle22),t1⟩,(ZaO 5 rfl hv22 Zi.mono om3 (fun B' hle'=>⟨(hle6.trans hle22).trans hle',t1⟩) (fun B23 hle23 hr23=>?_))⟩
 replace hu:=hu.mono Zg.mono hle23
 replace hf:=hf.mono Zb.mono hle23
 replace hi:=hi.mono Zi.mono hle23
 replace hr6:=hr6.mono Zg.mono hle23
 have hr23n:=hr23.len
 refine aT 10 rfl (ZG fun D B L hI=>ZaH (parts:=[(0,_),(1,_),(2,_),(3,_)]) [_,_,_,_,_] [_,_,_,_,_] rfl rfl ZdS ZaW rfl rfl rfl r4) (h:=ZV 12 kr rfl kr kr kr (ZN [_,_,_,_,_] 3 [_,_,_,_,_] rfl rfl Zav rfl rfl rfl rfl rfl rfl rfl rfl ?_))
 exact ZK ⟨⟨_,_,_,_,_⟩,⟨0,0,_,_,_,[]⟩⟩ [0,1,4,3] ⟨hr6,rfl,Z2.lit0,hr23⟩ t4 rfl
 refine (Zaa rfl rfl ZjU rfl (ZaC _ _ x.queue _ hi) ?_)
 rintro _ B24 _ hle24 ⟨l24,a24,c24,rfl,rfl,hv24⟩
 replace hu:=hu.mono Zg.mono hle24
 replace hf:=hf.mono Zb.mono hle24
 replace hi:=hi.mono Zi.mono hle24
 replace hr6:=hr6.mono Zg.mono hle24
 replace hv24:=hv24.mono Zi.mono Kn.less_le
 refine ⟨⟨(hle6.trans hle24),t1⟩,(ZaO 4 rfl hv24 Zi.mono om3 (fun B' hle'=>⟨(hle6.trans hle24).trans hle',t1⟩) (fun B25 hle25 hr25=>?_))⟩
 replace hu:=hu.mono Zg.mono hle25
 replace hf:=hf.mono Zb.mono hle25
 replace hi:=hi.mono Zi.mono hle25
 replace hr6:=hr6.mono Zg.mono hle25
 have hr25n:=hr25.len
 refine Zu 6 kr rfl kr (Zx (parts:=[]) [] rfl rfl Tryz.underlying24 Zbw Zd6 rfl rfl rfl rfl rfl (fun b26=>?_))
 refine ⟨⟨((hle6.trans hle24).trans hle25),t1⟩,(aT 10 rfl (ZG fun D B L hI=>ZaH (parts:=[(0,_),(1,_),(2,_),(3,_)]) [_,_,_,_,_] [_,_,_,_,_] rfl rfl ZdS ZaW rfl rfl rfl r4) (h:=ZV 12 kr rfl kr kr kr (ZN [_,_,_,_,_] 3 [_,_,_,_,_] rfl rfl Zav rfl rfl rfl rfl rfl rfl rfl rfl ?_)))⟩
 exact ZK ⟨⟨_,_,_,_,_⟩,⟨0,0,_,_,_,[]⟩⟩ [0,1,5,3] ⟨hr6,rfl,Z2.lit0,hr25⟩ t4 rfl
 refine (Zx (parts:=[]) [] rfl rfl Tryz.underlying24 Zbw Zd6 rfl rfl rfl rfl rfl (fun b27=>⟨⟨Kn.le.refl _,t1⟩,(Zaq [5,11] kr kr kr ⟨?_,?_⟩)⟩))
 refine (ZaN (R:=Zg) 2 rfl (Z2.lit0 (R:=Zg)) rfl rfl rfl ZnP Znl rfl rfl rfl hu.rows Zg.one rfl om (fun l28 p28 c28 hv28=>?_))
 refine ⟨⟨Kn.le.refl _,t1⟩,(ZaO 2 rfl hv28 Zg.mono om3 (fun B' hle'=>⟨hle',t1⟩) (fun B29 hle29 hr29=>?_))⟩
 replace hu:=hu.mono Zg.mono hle29
 replace hf:=hf.mono Zb.mono hle29
 replace hi:=hi.mono Zi.mono hle29
 have hr29n:=hr29.len
 refine Zaq [9,11] kr kr kr ⟨?_,?_⟩
 refine (Zaa rfl rfl ZjU rfl (ZaC _ _ x.queue _ hi) ?_)
 rintro _ B30 _ hle30 ⟨l30,a30,c30,rfl,rfl,hv30⟩
 replace hu:=hu.mono Zg.mono hle30
 replace hf:=hf.mono Zb.mono hle30
 replace hi:=hi.mono Zi.mono hle30
 replace hr29:=hr29.mono Zg.mono hle30
 replace hv30:=hv30.mono Zi.mono Kn.less_le
 refine ⟨⟨(hle29.trans hle30),t1⟩,(ZaO 4 rfl hv30 Zi.mono om3 (fun B' hle'=>⟨(hle29.trans hle30).trans hle',t1⟩) (fun B31 hle31 hr31=>?_))⟩
 replace hu:=hu.mono Zg.mono hle31
 replace hf:=hf.mono Zb.mono hle31
 replace hi:=hi.mono Zi.mono hle31
 replace hr29:=hr29.mono Zg.mono hle31
 have hr31n:=hr31.len
 refine aT 10 rfl (ZG fun D B L hI=>ZaH (parts:=[(0,_),(1,_),(2,_),(3,_)]) [_,_,_,_,_] [_,_,_,_,_] rfl rfl ZdS ZaW rfl rfl rfl r4) (h:=Zu 11 kr rfl kr (Zao (l:=[_,_,_,_,_]) rfl rfl ZaW rfl (fun b32=>?_)))
 refine ⟨⟨((hle29.trans hle30).trans hle31),t1⟩,(ZV 12 kr rfl kr kr kr (ZN [_,_,_,_,_] 5 [_,_,_,_,_] rfl rfl Zav rfl rfl rfl rfl rfl rfl rfl rfl ?_))⟩
 exact ZK ⟨⟨_,_,_,_,_⟩,⟨0,0,_,_,_,[]⟩⟩ [0,1,3,5] ⟨hr29,rfl,Z2.lit0,hr31⟩ t4 rfl
 refine (Zao (l:=[_,_,_,_,_]) rfl rfl ZaW rfl (fun b33=>⟨⟨hle29,t1⟩,(Zu 9 kr rfl kr (Zaa rfl rfl ZjU rfl (ZaC _ _ x.queue _ hi) ?_))⟩))
 rintro _ B34 _ hle34 ⟨l34,a34,c34,rfl,rfl,hv34⟩
 replace hu:=hu.mono Zg.mono hle34
 replace hf:=hf.mono Zb.mono hle34
 replace hi:=hi.mono Zi.mono hle34
 replace hr29:=hr29.mono Zg.mono hle34
 replace hv34:=hv34.mono Zi.mono Kn.less_le
 refine ⟨⟨(hle29.trans hle34),t1⟩,(ZaO 5 rfl hv34 Zi.mono om3 (fun B' hle'=>⟨(hle29.trans hle34).trans hle',t1⟩) (fun B35 hle35 hr35=>?_))⟩
 replace hu:=hu.mono Zg.mono hle35
 replace hf:=hf.mono Zb.mono hle35
 replace hi:=hi.mono Zi.mono hle35
 replace hr29:=hr29.mono Zg.mono hle35
 have hr35n:=hr35.len
 refine aT 10 rfl (ZG fun D B L hI=>ZaH (parts:=[(0,_),(1,_),(2,_),(3,_)]) [_,_,_,_,_] [_,_,_,_,_] rfl rfl ZdS ZaW rfl rfl rfl r4) (h:=ZV 12 kr rfl kr kr kr (ZN [_,_,_,_,_] 4 [_,_,_,_,_] rfl rfl Zav rfl rfl rfl rfl rfl rfl rfl rfl ?_))
 exact ZK ⟨⟨_,_,_,_,_⟩,⟨0,0,_,_,_,[]⟩⟩ [0,1,3,4] ⟨hr29,rfl,Z2.lit0,hr35⟩ t4 rfl
 refine (Zao (l:=[_,_,_,_,_]) rfl rfl ZaW rfl (fun b36=>⟨⟨Kn.le.refl _,t1⟩,(Zu 5 kr rfl kr (ZaN (R:=Zg) 2 rfl (Z2.lit0 (R:=Zg)) rfl rfl rfl ZnP Znl rfl rfl rfl hu.rows Zg.one rfl om (fun l37 p37 c37 hv37=>?_)))⟩))
 refine ⟨⟨Kn.le.refl _,t1⟩,(ZaO 2 rfl hv37 Zg.mono om3 (fun B' hle'=>⟨hle',t1⟩) (fun B38 hle38 hr38=>?_))⟩
 replace hu:=hu.mono Zg.mono hle38
 replace hf:=hf.mono Zb.mono hle38
 replace hi:=hi.mono Zi.mono hle38
 have hr38n:=hr38.len
 refine Zu 9 kr rfl kr (Zaa rfl rfl ZjU rfl (ZaC _ _ x.queue _ hi) ?_)
 rintro _ B39 _ hle39 ⟨l39,a39,c39,rfl,rfl,hv39⟩
 replace hu:=hu.mono Zg.mono hle39
 replace hf:=hf.mono Zb.mono hle39
 replace hi:=hi.mono Zi.mono hle39
 replace hr38:=hr38.mono Zg.mono hle39
 replace hv39:=hv39.mono Zi.mono Kn.less_le
 refine ⟨⟨(hle38.trans hle39),t1⟩,(ZaO 5 rfl hv39 Zi.mono om3 (fun B' hle'=>⟨(hle38.trans hle39).trans hle',t1⟩) (fun B40 hle40 hr40=>?_))⟩
 replace hu:=hu.mono Zg.mono hle40
 replace hf:=hf.mono Zb.mono hle40
 replace hi:=hi.mono Zi.mono hle40
 replace hr38:=hr38.mono Zg.mono hle40
 have hr40n:=hr40.len
 refine aT 10 rfl (ZG fun D B L hI=>ZaH (parts:=[(0,_),(1,_),(2,_),(3,_)]) [_,_,_,_,_] [_,_,_,_,_] rfl rfl ZdS ZaW rfl rfl rfl r4) (h:=ZV 12 kr rfl kr kr kr (ZN [_,_,_,_,_] 4 [_,_,_,_,_] rfl rfl Zav rfl rfl rfl rfl rfl rfl rfl rfl ?_))
 exact ZK ⟨⟨_,_,_,_,_⟩,⟨0,0,_,_,_,[]⟩⟩ [0,1,3,4] ⟨hr38,rfl,Z2.lit0,hr40⟩ t4 rfl
 refine (Zao (l:=[_,_,_,_,_]) rfl rfl ZaW rfl (fun b41=>⟨⟨Kn.le.refl _,t1⟩,(Zaq [5,6] kr kr kr ⟨?_,?_⟩)⟩))
 refine (ZaN (R:=Zg) 2 rfl (Z2.lit0 (R:=Zg)) rfl rfl rfl ZnP Znl rfl rfl rfl hu.rows Zg.one rfl om (fun l42 p42 c42 hv42=>?_))
 refine ⟨⟨Kn.le.refl _,t1⟩,(ZaO 2 rfl hv42 Zg.mono om3 (fun B' hle'=>⟨hle',t1⟩) (fun B43 hle43 hr43=>?_))⟩
 replace hu:=hu.mono Zg.mono hle43
 replace hf:=hf.mono Zb.mono hle43
 replace hi:=hi.mono Zi.mono hle43
 have hr43n:=hr43.len
 refine Zaq [6,9] kr kr kr ⟨?_,?_⟩
 refine (Zx (parts:=[]) [] rfl rfl Tryz.underlying24 Zbw Zd6 rfl rfl rfl rfl rfl (fun b44=>⟨⟨hle43,t1⟩,(Zu 9 kr rfl kr (Zaa rfl rfl ZjU rfl (ZaC _ _ x.queue _ hi) ?_))⟩))
 rintro _ B45 _ hle45 ⟨l45,a45,c45,rfl,rfl,hv45⟩
 replace hu:=hu.mono Zg.mono hle45
 replace hf:=hf.mono Zb.mono hle45
 replace hi:=hi.mono Zi.mono hle45
 replace hr43:=hr43.mono Zg.mono hle45
 replace hv45:=hv45.mono Zi.mono Kn.less_le
 refine ⟨⟨(hle43.trans hle45),t1⟩,(ZaO 5 rfl hv45 Zi.mono om3 (fun B' hle'=>⟨(hle43.trans hle45).trans hle',t1⟩) (fun B46 hle46 hr46=>?_))⟩
 replace hu:=hu.mono Zg.mono hle46
 replace hf:=hf.mono Zb.mono hle46
 replace hi:=hi.mono Zi.mono hle46
 replace hr43:=hr43.mono Zg.mono hle46
 have hr46n:=hr46.len
 refine aT 10 rfl (ZG fun D B L hI=>ZaH (parts:=[(0,_),(1,_),(2,_),(3,_)]) [_,_,_,_,_] [_,_,_,_,_] rfl rfl ZdS ZaW rfl rfl rfl r4) (h:=ZV 12 kr rfl kr kr kr (ZN [_,_,_,_,_] 3 [_,_,_,_,_] rfl rfl Zav rfl rfl rfl rfl rfl rfl rfl rfl ?_))
 exact ZK ⟨⟨_,_,_,_,_⟩,⟨0,0,_,_,_,[]⟩⟩ [0,1,4,3] ⟨hr43,rfl,Z2.lit0,hr46⟩ t4 rfl
 refine (Zaa rfl rfl ZjU rfl (ZaC _ _ x.queue _ hi) ?_)
 rintro _ B47 _ hle47 ⟨l47,a47,c47,rfl,rfl,hv47⟩
 replace hu:=hu.mono Zg.mono hle47
 replace hf:=hf.mono Zb.mono hle47
 replace hi:=hi.mono Zi.mono hle47
 replace hr43:=hr43.mono Zg.mono hle47
 replace hv47:=hv47.mono Zi.mono Kn.less_le
 refine ⟨⟨(hle43.trans hle47),t1⟩,(ZaO 4 rfl hv47 Zi.mono om3 (fun B' hle'=>⟨(hle43.trans hle47).trans hle',t1⟩) (fun B48 hle48 hr48=>?_))⟩
 replace hu:=hu.mono Zg.mono hle48
 replace hf:=hf.mono Zb.mono hle48
 replace hi:=hi.mono Zi.mono hle48
 replace hr43:=hr43.mono Zg.mono hle48
 have hr48n:=hr48.len
 refine Zu 6 kr rfl kr (Zx (parts:=[]) [] rfl rfl Tryz.underlying24 Zbw Zd6 rfl rfl rfl rfl rfl (fun b49=>?_))
 refine ⟨⟨((hle43.trans hle47).trans hle48),t1⟩,(aT 10 rfl (ZG fun D B L hI=>ZaH (parts:=[(0,_),(1,_),(2,_),(3,_)]) [_,_,_,_,_] [_,_,_,_,_] rfl rfl ZdS ZaW rfl rfl rfl r4) (h:=ZV 12 kr rfl kr kr kr (ZN [_,_,_,_,_] 3 [_,_,_,_,_] rfl rfl Zav rfl rfl rfl rfl rfl rfl rfl rfl ?_)))⟩
 exact ZK ⟨⟨_,_,_,_,_⟩,⟨0,0,_,_,_,[]⟩⟩ [0,1,5,3] ⟨hr43,rfl,Z2.lit0,hr48⟩ t4 rfl
 refine (Zx (parts:=[]) [] rfl rfl Tryz.underlying24 Zbw Zd6 rfl rfl rfl rfl rfl (fun b50=>⟨⟨Kn.le.refl _,t1⟩,(Zu 5 kr rfl kr (ZaN (R:=Zg) 2 rfl (Z2.lit0 (R:=Zg)) rfl rfl rfl ZnP Znl rfl rfl rfl hu.rows Zg.one rfl om (fun l51 p51 c51 hv51=>?_)))⟩))
 refine ⟨⟨Kn.le.refl _,t1⟩,(ZaO 2 rfl hv51 Zg.mono om3 (fun B' hle'=>⟨hle',t1⟩) (fun B52 hle52 hr52=>?_))⟩
 replace hu:=hu.mono Zg.mono hle52
 replace hf:=hf.mono Zb.mono hle52
 replace hi:=hi.mono Zi.mono hle52
 have hr52n:=hr52.len
 refine Zu 9 kr rfl kr (Zaa rfl rfl ZjU rfl (ZaC _ _ x.queue _ hi) ?_)
 rintro _ B53 _ hle53 ⟨l53,a53,c53,rfl,rfl,hv53⟩
 replace hu:=hu.mono Zg.mono hle53
 replace hf:=hf.mono Zb.mono hle53
 replace hi:=hi.mono Zi.mono hle53
 replace hr52:=hr52.mono Zg.mono hle53
 replace hv53:=hv53.mono Zi.mono Kn.less_le
 refine ⟨⟨(hle52.trans hle53),t1⟩,(ZaO 5 rfl hv53 Zi.mono om3 (fun B' hle'=>⟨(hle52.trans hle53).trans hle',t1⟩) (fun B54 hle54 hr54=>?_))⟩
 replace hu:=hu.mono Zg.mono hle54
 replace hf:=hf.mono Zb.mono hle54
 replace hi:=hi.mono Zi.mono hle54
 replace hr52:=hr52.mono Zg.mono hle54
 have hr54n:=hr54.len
 refine aT 10 rfl (ZG fun D B L hI=>ZaH (parts:=[(0,_),(1,_),(2,_),(3,_)]) [_,_,_,_,_] [_,_,_,_,_] rfl rfl ZdS ZaW rfl rfl rfl r4) (h:=ZV 12 kr rfl kr kr kr (ZN [_,_,_,_,_] 3 [_,_,_,_,_] rfl rfl Zav rfl rfl rfl rfl rfl rfl rfl rfl ?_))
 exact ZK ⟨⟨_,_,_,_,_⟩,⟨0,0,_,_,_,[]⟩⟩ [0,1,4,3] ⟨hr52,rfl,Z2.lit0,hr54⟩ t4 rfl
 refine (Zx (parts:=[]) [] rfl rfl Tryz.underlying24 Zbw Zd6 rfl rfl rfl rfl rfl (fun b55=>⟨⟨Kn.le.refl _,t1⟩,(Zaq [2,11] kr kr kr ⟨?_,?_⟩)⟩))
 refine (Zx (parts:=[]) [] rfl rfl Tryz.underlying23 ZeK ZgA rfl rfl rfl rfl rfl (fun b56=>⟨⟨Kn.le.refl _,t1⟩,(Zaq [5,11] kr kr kr ⟨?_,?_⟩)⟩))
 refine (ZaN (R:=Zg) 3 rfl (Z2.lit0 (R:=Zg)) rfl rfl rfl ZnP Znl rfl rfl rfl hu.rows Zg.one rfl om (fun l57 p57 c57 hv57=>?_))
 refine ⟨⟨Kn.le.refl _,t1⟩,(ZaO 3 rfl hv57 Zg.mono om3 (fun B' hle'=>⟨hle',t1⟩) (fun B58 hle58 hr58=>?_))⟩
 replace hu:=hu.mono Zg.mono hle58
 replace hf:=hf.mono Zb.mono hle58
 replace hi:=hi.mono Zi.mono hle58
 have hr58n:=hr58.len
 refine Zaq [9,11] kr kr kr ⟨?_,?_⟩
 refine (Zaa rfl rfl ZjU rfl (ZaC _ _ x.queue _ hi) ?_)
 rintro _ B59 _ hle59 ⟨l59,a59,c59,rfl,rfl,hv59⟩
 replace hu:=hu.mono Zg.mono hle59
 replace hf:=hf.mono Zb.mono hle59
 replace hi:=hi.mono Zi.mono hle59
 replace hr58:=hr58.mono Zg.mono hle59
 replace hv59:=hv59.mono Zi.mono Kn.less_le
 refine ⟨⟨(hle58.trans hle59),t1⟩,(ZaO 4 rfl hv59 Zi.mono om3 (fun B' hle'=>⟨(hle58.trans hle59).trans hle',t1⟩) (fun B60 hle60 hr60=>?_))⟩
 replace hu:=hu.mono Zg.mono hle60
 replace hf:=hf.mono Zb.mono hle60
 replace hi:=hi.mono Zi.mono hle60
 replace hr58:=hr58.mono Zg.mono hle60
 have hr60n:=hr60.len
 refine aT 10 rfl (ZG fun D B L hI=>ZaH (parts:=[(0,_),(1,_),(2,_),(3,_)]) [_,_,_,_,_] [_,_,_,_,_] rfl rfl ZdS ZaW rfl rfl rfl r4) (h:=Zu 11 kr rfl kr (Zao (l:=[_,_,_,_,_]) rfl rfl ZaW rfl (fun b61=>?_)))
 refine ⟨⟨((hle58.trans hle59).trans hle60),t1⟩,(ZV 12 kr rfl kr kr kr (ZN [_,_,_,_,_] 5 [_,_,_,_,_] rfl rfl Zav rfl rfl rfl rfl rfl rfl rfl rfl ?_))⟩
 exact ZK ⟨⟨_,_,_,_,_⟩,⟨0,0,_,_,_,[]⟩⟩ [0,1,2,5] ⟨hr58,rfl,Z2.lit0,hr60⟩ t4 rfl
 refine (Zao (l:=[_,_,_,_,_]) rfl rfl ZaW rfl (fun b62=>⟨⟨hle58,t1⟩,(Zu 9 kr rfl kr (Zaa rfl rfl ZjU rfl (ZaC _ _ x.queue _ hi) ?_))⟩))
 rintro _ B63 _ hle63 ⟨l63,a63,c63,rfl,rfl,hv63⟩
 replace hu:=hu.mono Zg.mono hle63
 replace hf:=hf.mono Zb.mono hle63
 replace hi:=hi.mono Zi.mono hle63
 replace hr58:=hr58.mono Zg.mono hle63
 replace hv63:=hv63.mono Zi.mono Kn.less_le
 refine ⟨⟨(hle58.trans hle63),t1⟩,(ZaO 5 rfl hv63 Zi.mono om3 (fun B' hle'=>⟨(hle58.trans hle63).trans hle',t1⟩) (fun B64 hle64 hr64=>?_))⟩
 replace hu:=hu.mono Zg.mono hle64
 replace hf:=hf.mono Zb.mono hle64
 replace hi:=hi.mono Zi.mono hle64
 replace hr58:=hr58.mono Zg.mono hle64
 have hr64n:=hr64.len
 refine aT 10 rfl (ZG fun D B L hI=>ZaH (parts:=[(0,_),(1,_),(2,_),(3,_)]) [_,_,_,_,_] [_,_,_,_,_] rfl rfl ZdS ZaW rfl rfl rfl r4) (h:=ZV 12 kr rfl kr kr kr (ZN [_,_,_,_,_] 4 [_,_,_,_,_] rfl rfl Zav rfl rfl rfl rfl rfl rfl rfl rfl ?_))
 exact ZK ⟨⟨_,_,_,_,_⟩,⟨0,0,_,_,_,[]⟩⟩ [0,1,2,4] ⟨hr58,rfl,Z2.lit0,hr64⟩ t4 rfl
 refine (Zao (l:=[_,_,_,_,_]) rfl rfl ZaW rfl (fun b65=>⟨⟨Kn.le.refl _,t1⟩,(Zu 5 kr rfl kr (ZaN (R:=Zg) 3 rfl (Z2.lit0 (R:=Zg)) rfl rfl rfl ZnP Znl rfl rfl rfl hu.rows Zg.one rfl om (fun l66 p66 c66 hv66=>?_)))⟩))
 refine ⟨⟨Kn.le.refl _,t1⟩,(ZaO 3 rfl hv66 Zg.mono om3 (fun B' hle'=>⟨hle',t1⟩) (fun B67 hle67 hr67=>?_))⟩
 replace hu:=hu.mono Zg.mono hle67
 replace hf:=hf.mono Zb.mono hle67
 replace hi:=hi.mono Zi.mono hle67
 have hr67n:=hr67.len
 refine Zu 9 kr rfl kr (Zaa rfl rfl ZjU rfl (ZaC _ _ x.queue _ hi) ?_)
 rintro _ B68 _ hle68 ⟨l68,a68,c68,rfl,rfl,hv68⟩
 replace hu:=hu.mono Zg.mono hle68
 replace hf:=hf.mono Zb.mono hle68
 replace hi:=hi.mono Zi.mono hle68
 replace hr67:=hr67.mono Zg.mono hle68
 replace hv68:=hv68.mono Zi.mono Kn.less_le
 refine ⟨⟨(hle67.trans hle68),t1⟩,(ZaO 5 rfl hv68 Zi.mono om3 (fun B' hle'=>⟨(hle67.trans hle68).trans hle',t1⟩) (fun B69 hle69 hr69=>?_))⟩
 replace hu:=hu.mono Zg.mono hle69
 replace hf:=hf.mono Zb.mono hle69
 replace hi:=hi.mono Zi.mono hle69
 replace hr67:=hr67.mono Zg.mono hle69
 have hr69n:=hr69.len
 refine aT 10 rfl (ZG fun D B L hI=>ZaH (parts:=[(0,_),(1,_),(2,_),(3,_)]) [_,_,_,_,_] [_,_,_,_,_] rfl rfl ZdS ZaW rfl rfl rfl r4) (h:=ZV 12 kr rfl kr kr kr (ZN [_,_,_,_,_] 4 [_,_,_,_,_] rfl rfl Zav rfl rfl rfl rfl rfl rfl rfl rfl ?_))
 exact ZK ⟨⟨_,_,_,_,_⟩,⟨0,0,_,_,_,[]⟩⟩ [0,1,2,4] ⟨hr67,rfl,Z2.lit0,hr69⟩ t4 rfl
 refine (Zao (l:=[_,_,_,_,_]) rfl rfl ZaW rfl (fun b70=>⟨⟨Kn.le.refl _,t1⟩,(Zu 2 kr rfl kr (Zx (parts:=[]) [] rfl rfl Tryz.underlying23 ZeK ZgA rfl rfl rfl rfl rfl (fun b71=>?_)))⟩))
 refine ⟨⟨Kn.le.refl _,t1⟩,(Zu 5 kr rfl kr (ZaN (R:=Zg) 4 rfl (Z2.lit0 (R:=Zg)) rfl rfl rfl ZnP Znl rfl rfl rfl hu.rows Zg.one rfl om (fun l72 p72 c72 hv72=>?_)))⟩
 refine ⟨⟨Kn.le.refl _,t1⟩,(ZaO 4 rfl hv72 Zg.mono om3 (fun B' hle'=>⟨hle',t1⟩) (fun B73 hle73 hr73=>?_))⟩
 replace hu:=hu.mono Zg.mono hle73
 replace hf:=hf.mono Zb.mono hle73
 replace hi:=hi.mono Zi.mono hle73
 have hr73n:=hr73.len
 refine Zu 9 kr rfl kr (Zaa rfl rfl ZjU rfl (ZaC _ _ x.queue _ hi) ?_)
 rintro _ B74 _ hle74 ⟨l74,a74,c74,rfl,rfl,hv74⟩
 replace hu:=hu.mono Zg.mono hle74
 replace hf:=hf.mono Zb.mono hle74
 replace hi:=hi.mono Zi.mono hle74
 replace hr73:=hr73.mono Zg.mono hle74
 replace hv74:=hv74.mono Zi.mono Kn.less_le
 refine ⟨⟨(hle73.trans hle74),t1⟩,(ZaO 5 rfl hv74 Zi.mono om3 (fun B' hle'=>⟨(hle73.trans hle74).trans hle',t1⟩) (fun B75 hle75 hr75=>?_))⟩
 replace hu:=hu.mono Zg.mono hle75
 replace hf:=hf.mono Zb.mono hle75
 replace hi:=hi.mono Zi.mono hle75
 replace hr73:=hr73.mono Zg.mono hle75
 have hr75n:=hr75.len
 refine aT 10 rfl (ZG fun D B L hI=>ZaH (parts:=[(0,_),(1,_),(2,_),(3,_)]) [_,_,_,_,_] [_,_,_,_,_] rfl rfl ZdS ZaW rfl rfl rfl r4) (h:=ZV 12 kr rfl kr kr kr (ZN [_,_,_,_,_] 3 [_,_,_,_,_] rfl rfl Zav rfl rfl rfl rfl rfl rfl rfl rfl ?_))
 exact ZK ⟨⟨_,_,_,_,_⟩,⟨0,0,_,_,_,[]⟩⟩ [0,1,2,3] ⟨hr73,rfl,Z2.lit0,hr75⟩ t4 rfl
 refine (Zao (l:=[_,_,_,_,_]) rfl rfl ZaW rfl (fun b76=>⟨⟨Kn.le.refl _,t1⟩,(Zaq [2,6] kr kr kr ⟨?_,?_⟩)⟩))
 refine (Zx (parts:=[]) [] rfl rfl Tryz.underlying23 ZeK ZgA rfl rfl rfl rfl rfl (fun b77=>⟨⟨Kn.le.refl _,t1⟩,(Zaq [5,6] kr kr kr ⟨?_,?_⟩)⟩))
 refine (ZaN (R:=Zg) 3 rfl (Z2.lit0 (R:=Zg)) rfl rfl rfl ZnP Znl rfl rfl rfl hu.rows Zg.one rfl om (fun l78 p78 c78 hv78=>?_))
 refine ⟨⟨Kn.le.refl _,t1⟩,(ZaO 3 rfl hv78 Zg.mono om3 (fun B' hle'=>⟨hle',t1⟩) (fun B79 hle79 hr79=>?_))⟩
 replace hu:=hu.mono Zg.mono hle79
 replace hf:=hf.mono Zb.mono hle79
 replace hi:=hi.mono Zi.mono hle79
 have hr79n:=hr79.len
 refine Zaq [6,9] kr kr kr ⟨?_,?_⟩
 refine (Zx (parts:=[]) [] rfl rfl Tryz.underlying24 Zbw Zd6 rfl rfl rfl rfl rfl (fun b80=>⟨⟨hle79,t1⟩,(Zu 9 kr rfl kr (Zaa rfl rfl ZjU rfl (ZaC _ _ x.queue _ hi) ?_))⟩))
 rintro _ B81 _ hle81 ⟨l81,a81,c81,rfl,rfl,hv81⟩
 replace hu:=hu.mono Zg.mono hle81
 replace hf:=hf.mono Zb.mono hle81
 replace hi:=hi.mono Zi.mono hle81
 replace hr79:=hr79.mono Zg.mono hle81
 replace hv81:=hv81.mono Zi.mono Kn.less_le
 refine ⟨⟨(hle79.trans hle81),t1⟩,(ZaO 5 rfl hv81 Zi.mono om3 (fun B' hle'=>⟨(hle79.trans hle81).trans hle',t1⟩) (fun B82 hle82 hr82=>?_))⟩
 replace hu:=hu.mono Zg.mono hle82
 replace hf:=hf.mono Zb.mono hle82
 replace hi:=hi.mono Zi.mono hle82
 replace hr79:=hr79.mono Zg.mono hle82
 have hr82n:=hr82.len
 refine aT 10 rfl (ZG fun D B L hI=>ZaH (parts:=[(0,_),(1,_),(2,_),(3,_)]) [_,_,_,_,_] [_,_,_,_,_] rfl rfl ZdS ZaW rfl rfl rfl r4) (h:=ZV 12 kr rfl kr kr kr (ZN [_,_,_,_,_] 2 [_,_,_,_,_] rfl rfl Zav rfl rfl rfl rfl rfl rfl rfl rfl ?_))
 exact ZK ⟨⟨_,_,_,_,_⟩,⟨0,0,_,_,_,[]⟩⟩ [0,1,4,2] ⟨hr79,rfl,Z2.lit0,hr82⟩ t4 rfl
 refine (Zaa rfl rfl ZjU rfl (ZaC _ _ x.queue _ hi) ?_)
 rintro _ B83 _ hle83 ⟨l83,a83,c83,rfl,rfl,hv83⟩
 replace hu:=hu.mono Zg.mono hle83
 replace hf:=hf.mono Zb.mono hle83
 replace hi:=hi.mono Zi.mono hle83
 replace hr79:=hr79.mono Zg.mono hle83
 replace hv83:=hv83.mono Zi.mono Kn.less_le
 refine ⟨⟨(hle79.trans hle83),t1⟩,(ZaO 4 rfl hv83 Zi.mono om3 (fun B' hle'=>⟨(hle79.trans hle83).trans hle',t1⟩) (fun B84 hle84 hr84=>?_))⟩
 replace hu:=hu.mono Zg.mono hle84
 replace hf:=hf.mono Zb.mono hle84
 replace hi:=hi.mono Zi.mono hle84
 replace hr79:=hr79.mono Zg.mono hle84
 have hr84n:=hr84.len
 refine Zu 6 kr rfl kr (Zx (parts:=[]) [] rfl rfl Tryz.underlying24 Zbw Zd6 rfl rfl rfl rfl rfl (fun b85=>?_))
 refine ⟨⟨((hle79.trans hle83).trans hle84),t1⟩,(aT 10 rfl (ZG fun D B L hI=>ZaH (parts:=[(0,_),(1,_),(2,_),(3,_)]) [_,_,_,_,_] [_,_,_,_,_] rfl rfl ZdS ZaW rfl rfl rfl r4) (h:=ZV 12 kr rfl kr kr kr (ZN [_,_,_,_,_] 2 [_,_,_,_,_] rfl rfl Zav rfl rfl rfl rfl rfl rfl rfl rfl ?_)))⟩
 exact ZK ⟨⟨_,_,_,_,_⟩,⟨0,0,_,_,_,[]⟩⟩ [0,1,5,2] ⟨hr79,rfl,Z2.lit0,hr84⟩ t4 rfl
 refine (Zx (parts:=[]) [] rfl rfl Tryz.underlying24 Zbw Zd6 rfl rfl rfl rfl rfl (fun b86=>⟨⟨Kn.le.refl _,t1⟩,(Zu 5 kr rfl kr (ZaN (R:=Zg) 3 rfl (Z2.lit0 (R:=Zg)) rfl rfl rfl ZnP Znl rfl rfl rfl hu.rows Zg.one rfl om (fun l87 p87 c87 hv87=>?_)))⟩))
 refine ⟨⟨Kn.le.refl _,t1⟩,(ZaO 3 rfl hv87 Zg.mono om3 (fun B' hle'=>⟨hle',t1⟩) (fun B88 hle88 hr88=>?_))⟩
 replace hu:=hu.mono Zg.mono hle88
 replace hf:=hf.mono Zb.mono hle88
 replace hi:=hi.mono Zi.mono hle88
 have hr88n:=hr88.len
 refine Zu 9 kr rfl kr (Zaa rfl rfl ZjU rfl (ZaC _ _ x.queue _ hi) ?_)
 rintro _ B89 _ hle89 ⟨l89,a89,c89,rfl,rfl,hv89⟩
 replace hu:=hu.mono Zg.mono hle89
 replace hf:=hf.mono Zb.mono hle89
 replace hi:=hi.mono Zi.mono hle89
 replace hr88:=hr88.mono Zg.mono hle89
 replace hv89:=hv89.mono Zi.mono Kn.less_le
 refine ⟨⟨(hle88.trans hle89),t1⟩,(ZaO 5 rfl hv89 Zi.mono om3 (fun B' hle'=>⟨(hle88.trans hle89).trans hle',t1⟩) (fun B90 hle90 hr90=>?_))⟩
 replace hu:=hu.mono Zg.mono hle90
 replace hf:=hf.mono Zb.mono hle90
 replace hi:=hi.mono Zi.mono hle90
 replace hr88:=hr88.mono Zg.mono hle90
 have hr90n:=hr90.len
 refine aT 10 rfl (ZG fun D B L hI=>ZaH (parts:=[(0,_),(1,_),(2,_),(3,_)]) [_,_,_,_,_] [_,_,_,_,_] rfl rfl ZdS ZaW rfl rfl rfl r4) (h:=ZV 12 kr rfl kr kr kr (ZN [_,_,_,_,_] 2 [_,_,_,_,_] rfl rfl Zav rfl rfl rfl rfl rfl rfl rfl rfl ?_))
 exact ZK ⟨⟨_,_,_,_,_⟩,⟨0,0,_,_,_,[]⟩⟩ [0,1,4,2] ⟨hr88,rfl,Z2.lit0,hr90⟩ t4 rfl
 refine (Zx (parts:=[]) [] rfl rfl Tryz.underlying24 Zbw Zd6 rfl rfl rfl rfl rfl (fun b91=>⟨⟨Kn.le.refl _,t1⟩,(Zu 2 kr rfl kr (Zx (parts:=[]) [] rfl rfl Tryz.underlying23 ZeK ZgA rfl rfl rfl rfl rfl (fun b92=>?_)))⟩))
 refine ⟨⟨Kn.le.refl _,t1⟩,(Zu 5 kr rfl kr (ZaN (R:=Zg) 4 rfl (Z2.lit0 (R:=Zg)) rfl rfl rfl ZnP Znl rfl rfl rfl hu.rows Zg.one rfl om (fun l93 p93 c93 hv93=>?_)))⟩
 refine ⟨⟨Kn.le.refl _,t1⟩,(ZaO 4 rfl hv93 Zg.mono om3 (fun B' hle'=>⟨hle',t1⟩) (fun B94 hle94 hr94=>?_))⟩
 replace hu:=hu.mono Zg.mono hle94
 replace hf:=hf.mono Zb.mono hle94
 replace hi:=hi.mono Zi.mono hle94
 have hr94n:=hr94.len
 refine Zu 9 kr rfl kr (Zaa rfl rfl ZjU rfl (ZaC _ _ x.queue _ hi) ?_)
 rintro _ B95 _ hle95 ⟨l95,a95,c95,rfl,rfl,hv95⟩
 replace hu:=hu.mono Zg.mono hle95
 replace hf:=hf.mono Zb.mono hle95
 replace hi:=hi.mono Zi.mono hle95
 replace hr94:=hr94.mono Zg.mono hle95
 replace hv95:=hv95.mono Zi.mono Kn.less_le
 refine ⟨⟨(hle94.trans hle95),t1⟩,(ZaO 5 rfl hv95 Zi.mono om3 (fun B' hle'=>⟨(hle94.trans hle95).trans hle',t1⟩) (fun B96 hle96 hr96=>?_))⟩
 replace hu:=hu.mono Zg.mono hle96
 replace hf:=hf.mono Zb.mono hle96
 replace hi:=hi.mono Zi.mono hle96
 replace hr94:=hr94.mono Zg.mono hle96
 have hr96n:=hr96.len
 refine aT 10 rfl (ZG fun D B L hI=>ZaH (parts:=[(0,_),(1,_),(2,_),(3,_)]) [_,_,_,_,_] [_,_,_,_,_] rfl rfl ZdS ZaW rfl rfl rfl r4) (h:=ZV 12 kr rfl kr kr kr (ZN [_,_,_,_,_] 2 [_,_,_,_,_] rfl rfl Zav rfl rfl rfl rfl rfl rfl rfl rfl ?_))
 exact ZK ⟨⟨_,_,_,_,_⟩,⟨0,0,_,_,_,[]⟩⟩ [0,1,3,2] ⟨hr94,rfl,Z2.lit0,hr96⟩ t4 rfl
 obtain ⟨hou,hoe,hv0,hoi⟩:=hF
 replace hu:=hu.mono Zg.mono hle3
 replace hf:=hf.mono Zb.mono hle3
 replace hi:=hi.mono Zi.mono hle3
 refine ZO [(0,_),(1,_),(2,_),(3,_)] [_,_,_,_] t4 rfl (Zl (Za (xA (h:=Zp (ZQ (α:=Gh DFolder) [0,1,2,3] (fun g=>[(4,.int .i64 g.k)]) [2,3] (fun g=>[g.l,ZaE o.1.b [str x.domain,.slice o.1.q1 x.users.length o.1.c1,.slice g.a g.xs.length g.c,.int .i64 x.queue.next,.slice o.1.q3 x.queue.items.length o.1.c3] 29]) (fun g Bx=>g.k≤x.folders.length∧g.xs=x.folders.take g.k∧Z2 Bx g.l g.a g.c 70 5 Zb g.xs) (fun g=>x.folders.length - g.k) ⟨0,0,_,_,_,_⟩ t1 rfl (⟨Nat.zero_le _,by rw [hoe];rfl,hv0⟩) (fun g B97 hle97 hI=>?_))))))
 obtain ⟨hk,hxs,hv⟩:=hI
 have hxn:=congrArg List.length hxs
 rw [List.length_take] at hxn
 replace hu:=hu.mono Zg.mono hle97
 replace hf:=hf.mono Zb.mono hle97
 replace hi:=hi.mono Zi.mono hle97
 replace hou:=hou.mono Zg.mono hle97
 replace hoi:=hoi.mono Zi.mono hle97
 refine ZO [(0,_),(1,_),(2,_),(3,_),(4,_)] [_,_,_,_] t5 rfl (Zl (Za (xM (h:=xW Z9 (h:=x1 ZcN 0 (h:=xV Tryz.underlying24 (h:=Zag (h:=Zd rfl (fun g1=>?_) (fun g1=>?_)))))))))
 try simp only [sQ,ne_eq] at g1
 refine Zj (Zf (Zl (Zp (Z8 (keeps _ [0,3] _) mo kr ⟨Kn.le.refl _,Zam.refl _ _⟩ (fun _ _=>?_)))))
 refine aW 0 rfl Z9 (h:=aT 1 rfl (ZG fun D B L hI=>Zn rfl rfl ZcN rfl (atL 3 (hI.2.2.1.trans rfl) rfl rfl) r4) (h:=aW 2 rfl Z9 (h:=aT 3 rfl (ZG fun D B L hI=>Zn rfl rfl ZcN rfl (atL 0 (hI.2.1.trans rfl) rfl rfl) r4) (h:=aM 4 rfl (h:=?_)))))
 obtain ⟨w,hw⟩:=Zaj (xs:=x.folders) (i:=g.k) om
 obtain ⟨bb99,oo99,rfl⟩:=hf.base hw
 obtain ⟨_,⟨qg100,cg100,qm100,cm100,rfl,hg100,hm100,hb100,hb100b⟩,hc100⟩:=hf.elem hw
 have hg100n:=hg100.len
 have hm100n:=hm100.len
 have hm100s:=Zac hm100
 refine aIx 5 rfl Tryz.underlying24 Zbw (h:=aT 6 rfl (ZG fun D B L hI=>Z6 [_,_,_,_,_] rfl rfl Zja rfl (Zid (hc100.mono hI.1) 0 rfl rfl) r4) (h:=Zu 7 kr rfl kr (Zaa rfl rfl Zyo rfl (ZmH _ _ _ _ w _ hg100 hm100) ?_)))
 rintro _ B101 _ hle101 ⟨rfl,l101,a101,c101,l101b,a101b,c101b,rfl,rfl,hs101,hs101b⟩
 refine ⟨⟨Kn.le.refl _,t2⟩,(ZaO 4 rfl hs101 ZL.mono om3 (fun B' hle'=>⟨hle',t2⟩) (fun B102 hle102 hr102=>?_))⟩
 replace hu:=hu.mono Zg.mono hle102
 replace hf:=hf.mono Zb.mono hle102
 replace hi:=hi.mono Zi.mono hle102
 replace hg100:=hg100.mono ZL.mono hle102
 replace hm100:=hm100.mono ZM.mono hle102
 replace hc100:=hc100.mono hle102
 replace hv:=hv.mono Zb.mono hle102
 replace hou:=hou.mono Zg.mono hle102
 replace hoi:=hoi.mono Zi.mono hle102
 replace hs101b:=hs101b.mono ZM.mono hle102
 have hr102n:=hr102.len
 refine ZaO 5 rfl hs101b ZM.mono om3 (fun B' hle'=>⟨hle102.trans hle',t2⟩) (fun B103 hle103 hr103=>?_)
 replace hu:=hu.mono Zg.mono hle103
 replace hf:=hf.mono Zb.mono hle103
 replace hi:=hi.mono Zi.mono hle103
 replace hg100:=hg100.mono ZL.mono hle103
 replace hm100:=hm100.mono ZM.mono hle103
 replace hc100:=hc100.mono hle103
 replace hr102:=hr102.mono ZL.mono hle103
 replace hv:=hv.mono Zb.mono hle103
 replace hou:=hou.mono Zg.mono hle103
 replace hoi:=hoi.mono Zi.mono hle103
 have hr103n:=hr103.len
 refine Zu 8 kr rfl kr (Zx (parts:=[(0,_)]) [_,_,_,_,_] rfl rfl Tryz.underlying24 Zbw Zd6 rfl rfl rfl rfl rfl (fun b104=>?_))
 refine ⟨⟨(hle102.trans hle103),t2⟩,(Zu 9 kr rfl kr (Zba (z:=⟨w.owner,w.name,w.grants,w.next,w.mail⟩) (R:=Zb) 2 rfl hv rfl rfl rfl ZiR Zi9 rfl rfl (ZaM.box 6 rfl) rfl rfl (⟨_,_,_,_,rfl,hr102,hr103,by first | assumption | omega | (simp;done) | (simp;omega),by first | assumption | omega | (simp;done) | (simp;omega)⟩) om (fun l105 p105 c105 hv105=>?_)))⟩
 refine ⟨⟨(hle102.trans hle103),t2⟩,(aW 10 rfl Z9 (h:=ZV 11 kr rfl kr kr kr (ZN [_] 3 [_,_,_,_,_] rfl rfl Zq9 rfl rfl rfl rfl rfl rfl rfl rfl ?_)))⟩
 refine Zz (Zf (Ze (xM (h:=xD (h:=xA (h:=?_))))))
 exact ZB ⟨g.k+1,0,l105,p105,c105,(g.xs ++ [⟨w.owner,w.name,w.grants,w.next,w.mail⟩])⟩ [0,1,2,3] so2 ⟨so,by simp only [];rw [Zaw hw,hxs],hv105⟩ t5 rfl
 try simp only [sQ,ne_eq] at g1
 have hxe:g.xs=x.folders:=by rw [hxs];exact List.take_of_length_le oz
 refine ZT (Zah (ZZ (ZH (Zf (Za (xL [_,_,_,_,_] Z1 3 (h:=xS [_,_,_,_,_] 1 [_,_,_,_,_] Zav (h:=Zv [_,_,_,_] rfl (Zh ?_)))))))))
 exact Zad .ret (.inl rfl) [_] [2] rfl ⟨⟨_,rfl,.inr ⟨[_,_,_,_,_],Z1,Zaf 1 rfl rfl rfl,rfl⟩⟩,trivial⟩ ⟨_,_,_,_,_,_,_,rfl,by rw [← hxe];rfl,hou,hxe ▸ hv,hoi⟩

set_option maxHeartbeats 400000 in
theorem Ziq (q:Option Addr) (cp:Nat) (x:DBox) (fl:Int) (t:Str) (ht:t.length≤2000000) (hb:Zbm x=true) (B:Kn) (hm:SlK B q cp 3 ZM x.mail):ZA (pj J) 176 [.agg #[.int .i64 x.next,.slice q x.mail.length cp],.int .i64 fl,str t] B [] (fun v B' Ls=>∃l a c,Ls=[l]∧v = .tuple #[.agg #[.int .i64 (ZgW x fl t).1.next,.slice a (ZgW x fl t).1.mail.length c],.bool (ZgW x fl t).2]∧Z2 B' l a c 196 3 ZM (ZgW x fl t).1.mail):=by
 refine Zc 36 Tryz.func176 rfl rfl rfl (Nat.le_of_ble_eq_true rfl) ?_
 have hxn:=hm.len
 have hbn:=Zdj hb
 refine Za (xBx [_,_] (h:=fun b1=>xAl [_,_] Zfg (h:=fun b2=>xA (h:=Zv [_,_] rfl (Za (xL [_,_] ZbP 0 (h:=Zo (Zaa rfl rfl Zuj rfl (Zip _ _ (⟨x.next,x.mail⟩:DBox) _ hm) ?_))))))))
 rintro _ B3 _ hle3 ⟨hB3,l3,a3,c3,rfl,rfl,hs3⟩
 have hB3:=hB3.symm
 subst hB3
 refine xAl [_,_] Zfg (h:=fun b4=>xS [_,_] 3 [_,_] ZcI (h:=Zv [_,_,_,_] rfl (Zl (Za (xW ZaR (h:=x1 Zfv 0 (h:=xV Tryz.underlying66 (h:=Zd8 (h:=xM (h:=Zt (d:=15) rfl (fun g1=>?_) (fun g1=>?_)))))))))))
 try simp only [sQ,ne_eq] at g1
 have hae:=Zl5 (fl:=fl) (t:=t) (b:=x) (.inl oz)
 rw [hae]
 refine xP (h:=xP (h:=xP (h:=xT (h:=Zd (t:=true) rfl (fun _=>Za (xL [_,_] ZbP 3 (h:=xS [_,_] 1 [_,_] ZcI (h:=xA (h:=Zv [_,_,_,_] rfl (Zh (Zs ?_))))))) (fun h=>Bool.noConfusion h)))))
 exact Zad .ret (.inl rfl) [_,_] [2] rfl ⟨⟨_,rfl,.inr ⟨[_,_],ZbP,Zaf 1 rfl rfl rfl,rfl⟩⟩,rfl,trivial⟩ ⟨_,_,_,rfl,rfl,hs3⟩
 try simp only [sQ,ne_eq] at g1
 refine xW Zco (h:=x1 lk3 0 (h:=ZbM (h:=xF (h:=Zd rfl (fun g2=>?_) (fun g2=>?_)))))
 try simp only [sQ,ne_eq] at g2
 have hae:=Zl5 (fl:=fl) (t:=t) (b:=x) (.inr oz)
 rw [hae]
 refine Za (xL [_,_] ZbP 3 (h:=xS [_,_] 1 [_,_] ZcI (h:=xA (h:=Zv [_,_,_,_] rfl (Zh (Zs ?_))))))
 exact Zad .ret (.inl rfl) [_,_] [2] rfl ⟨⟨_,rfl,.inr ⟨[_,_],ZbP,Zaf 1 rfl rfl rfl,rfl⟩⟩,rfl,trivial⟩ ⟨_,_,_,rfl,rfl,hs3⟩
 try simp only [sQ,ne_eq] at g2
 have hae:=Zur (fl:=fl) (t:=t) (b:=x) oz
 rw [hae]
 refine Zj (Zf (Za (xW ZaR (h:=x1 Zfv 3 (h:=xW Zco (h:=x1 lk3 0 (h:=xM (h:=xM (h:=xB [(0,_),(1,_),(2,_)] [_,_,_] [_,_,_] Zwx ZgB (h:=xBs [(0,_)] [_,_,_] Tryz.underlying66 ZcJ ZgB (h:=fun b5=>Zo (Zba (z:=⟨x.next,fl,t⟩) (R:=ZM) 2 rfl hs3 rfl rfl rfl ZvZ ZvU rfl rfl (ZaM.box 4 rfl) rfl rfl (⟨rfl,by first | assumption | omega | (simp;done) | (simp;omega)⟩) om (fun l6 p6 c6 hv6=>?_)))))))))))))
 refine xW ZaR (h:=xS [_] 3 [_,_] Zwr (h:=Zv [_,_,_,_,_] rfl (Za (xW Zco (h:=x1 lk3 0 (h:=xD (h:=xW Zco (h:=xS [_] 3 [_,_] sz3 (h:=Zv [_,_,_,_,_] rfl (Za (xL [_,_] ZbP 3 (h:=xS [_,_] 1 [_,_] ZcI (h:=?_)))))))))))))
 refine xA (h:=Zv [_,_,_,_,_] rfl (Zh ?_))
 exact Zad .ret (.inl rfl) [_,_] [2] rfl ⟨⟨_,rfl,.inr ⟨[_,_],ZbP,Zaf 1 rfl rfl rfl,rfl⟩⟩,rfl,trivial⟩ ⟨_,_,_,rfl,rfl,hv6⟩

set_option maxHeartbeats 400000 in
theorem ZhD (q1 q2 q3:Option Addr) (c1 c2 c3:Nat) (x:DHost) (k fl:Int) (t:Str) (ht:t.length≤20) (hok:ZJ x=true) (hk0:0≤k) (hk1:k<x.folders.length) (hd:x.domain.length≤2000000) (B:Kn) (hu:SlK B q1 c1 3 Zg x.users) (hf:SlK B q2 c2 5 Zb x.folders) (hi:SlK B q3 c3 4 Zi x.queue.items):ZA (pj J) 186 [.agg #[str x.domain,.slice q1 x.users.length c1,.slice q2 x.folders.length c2,.int .i64 x.queue.next,.slice q3 x.queue.items.length c3],.int .i64 k,.int .i64 fl,str t] B [] (fun v B' Ls=>Ls=[]∧∃p1 d1 p2 d2 p3 d3,v = .tuple #[.agg #[str (ZbN x k.toNat fl t).1.domain,.slice p1 (ZbN x k.toNat fl t).1.users.length d1,.slice p2 (ZbN x k.toNat fl t).1.folders.length d2,.int .i64 (ZbN x k.toNat fl t).1.queue.next,.slice p3 (ZbN x k.toNat fl t).1.queue.items.length d3],.int .i64 (ZbN x k.toNat fl t).2]∧SlK B' p1 d1 3 Zg (ZbN x k.toNat fl t).1.users∧SlK B' p2 d2 5 Zb (ZbN x k.toNat fl t).1.folders∧SlK B' p3 d3 4 Zi (ZbN x k.toNat fl t).1.queue.items∧(ZbN x k.toNat fl t).1.domain.length≤2000000):=by
 refine Zc 61 Tryz.func186 rfl rfl rfl (Nat.le_of_ble_eq_true rfl) ?_
 have hun:=hu.len
 have hfn:=hf.len
 have hin:=hi.len
 obtain ⟨f,hf0⟩ :∃f,x.folders[k.toNat]? = some f:=⟨_,List.getElem?_eq_getElem oz⟩
 have hfo:=Zbu hok hf0
 have hbo:=Zb0 hfo
 have hub:=ZmL hok f.owner
 have hoi:0≤Zdw x.users f.owner:=ZbS.2 (ZrD hfo)
 have hol:=Zqb x.users f.owner
 refine Za (xBx [_,_,_,_,_] (h:=fun b1=>xAl [_,_,_,_,_] ZaW (h:=fun b2=>xA (h:=Zv [_,_] rfl (Za (xL [_,_,_,_,_] Z1 0 (h:=Zo (Zaa rfl rfl ZnQ rfl (Zbe _ _ _ _ _ _ x _ hu hf hi) ?_))))))))
 rintro _ B3 _ hle3 ⟨l3,a3,c3,q13,c13,q33,c33,rfl,rfl,hu3,hs3,hi3⟩
 replace hu:=hu.mono Zg.mono hle3
 replace hf:=hf.mono Zb.mono hle3
 replace hi:=hi.mono Zi.mono hle3
 have hu3n:=hu3.len
 have hi3n:=hi3.len
 refine xAl [_,_,_,_,_] ZaW (h:=fun b4=>xS [_,_,_,_,_] 3 [_,_,_,_,_] Zav (h:=Zv [_,_,_,_] rfl (Za (xW Z9 (h:=x1 ZcN 0 (h:=xM (h:=?_)))))))
 obtain ⟨bb5,oo5,rfl⟩:=hf.base hf0
 obtain ⟨_,⟨qg6,cg6,qm6,cm6,rfl,hg6,hm6,hb6,hb6b⟩,hc6⟩:=hf.elem hf0
 have hg6n:=hg6.len
 have hm6n:=hm6.len
 have hm6s:=Zac hm6
 refine xIx Tryz.underlying24 Zbw (h:=xW Zc7 (h:=y1 lk9 hc6 0 (h:=xA (h:=Zl (Zl (Z8 (same _ _) mo kr ⟨rfl,rfl⟩ (fun _ _=>?_)))))))
 refine aT 0 rfl (Zan fun D=>Z6 [_,_,_,_,_] rfl rfl Z1 rfl (Zaf 0 rfl rfl rfl) r4) (h:=aM 1 rfl (h:=aT 2 rfl (Zan fun D=>ZaS rfl rfl ZxN rfl (Zls _ _ _ _ _ _ x _ _ hf) r4) (h:=aM 3 rfl (h:=aT 4 rfl (Zan fun D=>Zpe rfl rfl Tryz.underlying9 rfl r4) (h:=aD 5 rfl (h:=aW 6 rfl ZbD (h:=aT 7 rfl (Zan fun D=>Zn rfl rfl ZhC rfl (atL 0 rfl rfl rfl) r4) (h:=aW 8 rfl ZbD (h:=aT 9 rfl (Zan fun D=>Zn rfl rfl ZhC rfl (atL 0 rfl rfl rfl) r4) (h:=aM 10 rfl (h:=aT 11 rfl (Zan fun D=>ZaS rfl rfl ZsY rfl (ZcZ _ _ _ _ _ hu) r4) (h:=?_))))))))))))
 obtain ⟨w,hw⟩:=ZeP (xs:=x.users) (i:=(Zdw x.users f.owner)) om om
 obtain ⟨bb10,oo10,rfl⟩:=hu.base hw
 obtain ⟨_,⟨rfl,hb11,hb11b⟩,hc11⟩:=hu.elem hw
 refine aIx 12 rfl Tryz.underlying23 ZeK (h:=?_)
 have hqe:Zd1 x.users f.owner=w.quota:=by simp only [Zd1,hw]
 refine aW 13 rfl ZiJ (h:=aT 14 rfl (Zan fun D=>Zn rfl rfl lk3 rfl (hc11 _ 2 _ rfl) r4) (h:=Zm7 15 rfl (h:=ZC kr kr ?_)))
 refine Zf (Zd rfl (fun g1=>?_) (fun g1=>?_))
 try simp only [sQ,ne_eq] at g1
 refine Za (xL [_,_,_,_,_] Z1 3 (h:=Z5 2 rfl hs3 Zb.mono om3 (fun B12 hle12 hr12=>?_)))
 replace hu:=hu.mono Zg.mono hle12
 replace hf:=hf.mono Zb.mono hle12
 replace hi:=hi.mono Zi.mono hle12
 replace hu3:=hu3.mono Zg.mono hle12
 replace hi3:=hi3.mono Zi.mono hle12
 have hr12n:=hr12.len
 refine xS [_,_,_,_,_] 1 [_,_,_,_,_] Zav (h:=?_)
 rw [ZmA hf0 oz]
 refine xA (h:=Zv [_,_,_,_] rfl (Zh (Zs ?_)))
 exact Zad .ret (.inl rfl) [_,_] [] rfl ⟨⟨_,rfl,.inr ⟨[_,_,_,_,_],Z1,Zaf 1 rfl rfl rfl,rfl⟩⟩,rfl,trivial⟩ ⟨rfl,_,_,_,_,_,_,(by first | rfl | (simp only [DHost.withFolders,List.length_set];rfl)),hu3,hr12,hi3,by first | assumption | (rw [ZU.2.2.1];assumption)⟩
 try simp only [sQ,ne_eq] at g1
 have hal:=Zsy (⟨f.next,f.mail⟩:DBox) fl t
 have hfl:=hbo
 have hfm:f.mail.length≤10:=(Zdj hbo).2.2
 replace hal:(ZgW (⟨f.next,f.mail⟩:DBox) fl t).1.mail.length≤f.mail.length+1:=hal
 refine Zj (Zf (Za (xW Z9 (h:=x1 ZcN 0 (h:=xM (h:=xIx Tryz.underlying24 Zbw (h:=xW Zb2 (h:=yL [_,_] ZbP hc6 3 (h:=xM (h:=xM (h:=Zo (Zaa rfl rfl Zvx rfl (Ziq _ _ (⟨f.next,f.mail⟩:DBox) fl t oz (oy) _ hm6) ?_))))))))))))
 rintro _ B13 _ hle13 ⟨l13,a13,c13,rfl,rfl,hs13⟩
 replace hu:=hu.mono Zg.mono hle13
 replace hf:=hf.mono Zb.mono hle13
 replace hi:=hi.mono Zi.mono hle13
 replace hg6:=hg6.mono ZL.mono hle13
 replace hm6:=hm6.mono ZM.mono hle13
 replace hc6:=hc6.mono hle13
 replace hs3:=hs3.mono Zb.mono hle13
 replace hu3:=hu3.mono Zg.mono hle13
 replace hi3:=hi3.mono Zi.mono hle13
 replace hs13:=hs13.anyK (B':=B13) ZM.any
 refine xM (h:=xE (h:=Z5 4 rfl hs13 ZM.mono om3 (fun B14 hle14 hr14=>?_)))
 replace hu:=hu.mono Zg.mono hle14
 replace hf:=hf.mono Zb.mono hle14
 replace hi:=hi.mono Zi.mono hle14
 replace hg6:=hg6.mono ZL.mono hle14
 replace hm6:=hm6.mono ZM.mono hle14
 replace hc6:=hc6.mono hle14
 replace hs3:=hs3.mono Zb.mono hle14
 replace hu3:=hu3.mono Zg.mono hle14
 replace hi3:=hi3.mono Zi.mono hle14
 have hr14n:=hr14.len
 refine xE (h:=xAl [_,_] Zfg (h:=fun b15=>xS [_,_] 5 [_,_] ZcI (h:=xA (h:=Zv [_,_,_,_,_,_] rfl (Zl (Za (xM (h:=xN (h:=Zd rfl (fun g2=>?_) (fun g2=>?_))))))))))
 try simp only [sQ,ne_eq] at g2
 refine Za (xL [_,_,_,_,_] Z1 3 (h:=Z5 2 rfl hs3 Zb.mono om3 (fun B16 hle16 hr16=>?_)))
 replace hu:=hu.mono Zg.mono hle16
 replace hf:=hf.mono Zb.mono hle16
 replace hi:=hi.mono Zi.mono hle16
 replace hu3:=hu3.mono Zg.mono hle16
 replace hi3:=hi3.mono Zi.mono hle16
 replace hr14:=hr14.mono ZM.mono hle16
 have hr16n:=hr16.len
 refine xS [_,_,_,_,_] 1 [_,_,_,_,_] Zav (h:=?_)
 rw [Zoe hf0 oz g2]
 refine xA (h:=Zv [_,_,_,_,_,_] rfl (Zh (Zs ?_)))
 exact Zad .ret (.inl rfl) [_,_] [] rfl ⟨⟨_,rfl,.inr ⟨[_,_,_,_,_],Z1,Zaf 1 rfl rfl rfl,rfl⟩⟩,rfl,trivial⟩ ⟨rfl,_,_,_,_,_,_,(by first | rfl | (simp only [DHost.withFolders,List.length_set];rfl)),hu3,hr16,hi3,by first | assumption | (rw [ZU.2.2.1];assumption)⟩
 try simp only [sQ,ne_eq] at g2
 refine Zj (Zf (Za (xW Z9 (h:=x1 ZcN 3 (h:=xM (h:=xL [_,_] ZbP 5 (h:=?_)))))))
 obtain ⟨bb17,_,hp17,⟨qg17,cg17,qm17,cm17,rfl,hg17,hm17,hb17,hb17b⟩,hw17,hc17⟩:=hs3.row hf0
 have hg17n:=hg17.len
 have hm17n:=hm17.len
 have hm17s:=Zac hm17
 refine xIp hp17 Tryz.underlying24 Zbw (h:=xW Zb2 (h:=Zo (Zes (k:=(k).toNat) (off:=3) (⟨f.owner,f.name,f.grants,(ZgW f.box fl t).1.next,(ZgW f.box fl t).1.mail⟩) [_,_] 2 hs3 hp17 hf0 rfl rfl ZcI rfl rfl rfl rfl rfl rfl (by rintro _ ⟨_,_,_,_,rfl,e1,_,e3,e4⟩;exact ⟨_,_,_,_,rfl,e1,hr14,e3,e4⟩) (fun l18 hv18=>?_))))
 refine Zv [_,_,_,_,_,_] rfl (Za (xL [_,_,_,_,_] Z1 3 (h:=Z5 2 rfl hv18 Zb.mono om3 (fun B19 hle19 hr19=>?_))))
 replace hu:=hu.mono Zg.mono hle19
 replace hf:=hf.mono Zb.mono hle19
 replace hi:=hi.mono Zi.mono hle19
 replace hu3:=hu3.mono Zg.mono hle19
 replace hi3:=hi3.mono Zi.mono hle19
 replace hr14:=hr14.mono ZM.mono hle19
 have hr19n:=hr19.len
 refine xS [_,_,_,_,_] 1 [_,_,_,_,_] Zav (h:=?_)
 rw [Zof hf0 oz (show (ZgW (⟨f.next,f.mail⟩:DBox) fl t).2=true by simpa using g2)]
 refine xA (h:=Zv [_,_,_,_,_,_] rfl (Zh ?_))
 exact Zad .ret (.inl rfl) [_,_] [] rfl ⟨⟨_,rfl,.inr ⟨[_,_,_,_,_],Z1,Zaf 1 rfl rfl rfl,rfl⟩⟩,rfl,trivial⟩ ⟨rfl,_,_,_,_,_,_,(by first | rfl | (simp only [DHost.withFolders,List.length_set];rfl)),hu3,hr19,hi3,by first | assumption | (rw [ZU.2.2.1];assumption)⟩

set_option maxHeartbeats 400000 in
theorem ZpA (q1 q2 q3:Option Addr) (c1 c2 c3:Nat) (x:DHost) (by_ o n:Str) (fl:Int) (t:Str) (hb:by_.length≤2000000) (ho:o.length≤2000000) (hn:n.length≤2000000) (ht:t.length≤2000000) (hd:x.domain.length≤2000000) (B:Kn) (hu:SlK B q1 c1 3 Zg x.users) (hf:SlK B q2 c2 5 Zb x.folders) (hi:SlK B q3 c3 4 Zi x.queue.items):ZA (pj J) 180 [.agg #[str x.domain,.slice q1 x.users.length c1,.slice q2 x.folders.length c2,.int .i64 x.queue.next,.slice q3 x.queue.items.length c3],str by_,str o,str n,.int .i64 fl,str t] B [] (fun v B' Ls=>Ls=[]∧∃p1 d1 p2 d2 p3 d3,v = .tuple #[.agg #[str (Zku x by_ o n fl t).1.domain,.slice p1 (Zku x by_ o n fl t).1.users.length d1,.slice p2 (Zku x by_ o n fl t).1.folders.length d2,.int .i64 (Zku x by_ o n fl t).1.queue.next,.slice p3 (Zku x by_ o n fl t).1.queue.items.length d3],.int .i64 (Zku x by_ o n fl t).2]∧SlK B' p1 d1 3 Zg (Zku x by_ o n fl t).1.users∧SlK B' p2 d2 5 Zb (Zku x by_ o n fl t).1.folders∧SlK B' p3 d3 4 Zi (Zku x by_ o n fl t).1.queue.items∧(Zku x by_ o n fl t).1.domain.length≤2000000):=by
 refine Zc 50 Tryz.func180 rfl rfl rfl (Nat.le_of_ble_eq_true rfl) ?_
 have hun:=hu.len
 have hfn:=hf.len
 have hin:=hi.len
 have hix:=ZeA (inF o n) x.folders
 refine Za (xBx [_,_,_,_,_] (h:=fun b1=>xAl [_,_,_,_,_] ZaW (h:=fun b2=>xA (h:=Zv [_,_] rfl (Zl (Za (xL [_,_,_,_,_] Z1 0 (h:=xR Zrc rfl (ZbF _ _ _ _ _ _ x om2 _ hu hf hi) (h:=?_)))))))))
 refine xN (h:=xM (h:=Zt (d:=19) rfl (fun g1=>?_) (fun g1=>?_)))
 try simp only [sQ,ne_eq] at g1
 rw [Zku,if_pos (by simp [g1])]
 refine xP (h:=xP (h:=xP (h:=xT (h:=xM (h:=xP (h:=xP (h:=xP (h:=xT (h:=Zd (t:=true) rfl (fun _=>Za (xB [] [_,_,_,_,_] [_,_,_,_,_] ZdS ZaW (h:=xS [_,_,_,_,_] 1 [_,_,_,_,_] Zav (h:=?_)))) (fun h=>Bool.noConfusion h))))))))))
 refine xA (h:=Zv [_,_] rfl (Zh (Zs ?_)))
 exact Zad .ret (.inl rfl) [_,_] [] rfl ⟨⟨_,rfl,.inr ⟨[_,_,_,_,_],Z1,Zaf 1 rfl rfl rfl,rfl⟩⟩,rfl,trivial⟩ ⟨rfl,none,0,none,0,none,0,rfl,SlK.nil,SlK.nil,SlK.nil,by simp [ZaQ]⟩
 try simp only [sQ,ne_eq] at g1
 refine xM (h:=xR ZqF rfl (Ze3 _ _) (h:=xN (h:=xF (h:=xM (h:=Zt (d:=24) rfl (fun g2=>?_) (fun g2=>?_))))))
 try simp only [sQ,ne_eq] at g2
 rw [Zku,if_pos (by simp [ZaV,g2])]
 refine xP (h:=xP (h:=xP (h:=xT (h:=Zd (t:=true) rfl (fun _=>Za (xB [] [_,_,_,_,_] [_,_,_,_,_] ZdS ZaW (h:=xS [_,_,_,_,_] 1 [_,_,_,_,_] Zav (h:=xA (h:=Zv [_,_] rfl (Zh (Zs ?_))))))) (fun h=>Bool.noConfusion h)))))
 exact Zad .ret (.inl rfl) [_,_] [] rfl ⟨⟨_,rfl,.inr ⟨[_,_,_,_,_],Z1,Zaf 1 rfl rfl rfl,rfl⟩⟩,rfl,trivial⟩ ⟨rfl,none,0,none,0,none,0,rfl,SlK.nil,SlK.nil,SlK.nil,by simp [ZaQ]⟩
 try simp only [sQ,ne_eq] at g2
 refine xM (h:=xVs Tryz.underlying9 (h:=ZbM (h:=xF (h:=Zd rfl (fun g3=>?_) (fun g3=>?_)))))
 try simp only [sQ,ne_eq] at g3
 rw [Zku,if_pos (by simp;omega)]
 refine Za (xB [] [_,_,_,_,_] [_,_,_,_,_] ZdS ZaW (h:=xS [_,_,_,_,_] 1 [_,_,_,_,_] Zav (h:=xA (h:=Zv [_,_] rfl (Zh (Zs ?_))))))
 exact Zad .ret (.inl rfl) [_,_] [] rfl ⟨⟨_,rfl,.inr ⟨[_,_,_,_,_],Z1,Zaf 1 rfl rfl rfl,rfl⟩⟩,rfl,trivial⟩ ⟨rfl,none,0,none,0,none,0,rfl,SlK.nil,SlK.nil,SlK.nil,by simp [ZaQ]⟩
 try simp only [sQ,ne_eq] at g3
 have hnn : ¬ ¬ (ZJ x=true∧ZaV fl=true∧t.length≤20):=fun h=>h ⟨by simpa using g1,by simpa [ZaV] using g2,oz⟩
 have hrr:=Zcx (x:=x) (by simpa using g1)
 have hok:ZJ x=true:=by simpa using g1
 refine Zj (Zf (Za (xL [_,_,_,_,_] Z1 0 (h:=xM (h:=xM (h:=xR Zua rfl (Zdv _ _ _ _ _ _ x o n om2 om2 _ hf) (h:=?_)))))))
 refine xA (h:=Za (xL [_,_,_,_,_] Z1 0 (h:=xM (h:=xM (h:=xR Zvu rfl (Zei _ _ _ _ _ _ x by_ (Zbc (inF o n) x.folders) 8 oz hrr oz _ hu hf) (h:=?_))))))
 refine xA (h:=Zl (Za (xM (h:=ZbR (h:=Zd rfl (fun g4=>?_) (fun g4=>?_))))))
 try simp only [sQ,ne_eq] at g4
 refine Za (xL [_,_,_,_,_] Z1 0 (h:=Zo (Zaa rfl rfl ZnQ rfl (Zbe _ _ _ _ _ _ x _ hu hf hi) ?_)))
 rintro _ B7 _ hle7 ⟨l7,a7,c7,q17,c17,q37,c37,rfl,rfl,hu7,hs7,hi7⟩
 replace hu:=hu.mono Zg.mono hle7
 replace hf:=hf.mono Zb.mono hle7
 replace hi:=hi.mono Zi.mono hle7
 have hu7n:=hu7.len
 have hi7n:=hi7.len
 refine Z5 2 rfl hs7 Zb.mono om3 (fun B8 hle8 hr8=>?_)
 replace hu:=hu.mono Zg.mono hle8
 replace hf:=hf.mono Zb.mono hle8
 replace hi:=hi.mono Zi.mono hle8
 replace hu7:=hu7.mono Zg.mono hle8
 replace hi7:=hi7.mono Zi.mono hle8
 have hr8n:=hr8.len
 refine xM (h:=?_)
 rw [Zku,if_neg hnn,if_pos g4]
 refine xS [_,_,_,_,_] 1 [_,_,_,_,_] Zav (h:=xA (h:=Zv [_,_,_] rfl (Zh (Zs ?_))))
 exact Zad .ret (.inl rfl) [_,_] [] rfl ⟨⟨_,rfl,.inr ⟨[_,_,_,_,_],Z1,Zaf 1 rfl rfl rfl,rfl⟩⟩,rfl,trivial⟩ ⟨rfl,_,_,_,_,_,_,(by first | rfl | (simp only [DHost.withFolders,List.length_set];rfl)),hu7,hr8,hi7,by first | assumption | (rw [ZU.2.2.1];assumption)⟩
 try simp only [sQ,ne_eq] at g4
 obtain ⟨_,hk0,_,_,_⟩:=Zeq g4
 refine Zj (Zf (Za (xL [_,_,_,_,_] Z1 0 (h:=xM (h:=xM (h:=xM (h:=Zo (ZaG rfl rfl Zsi rfl (ZhD _ _ _ _ _ _ x (Zbc (inF o n) x.folders) fl t om2 (oy) oz oz om2 _ hu hf hi) ?_))))))))
 intro v9 B9 hle9
 rintro ⟨p19,d19,p29,d29,p39,d39,rfl,hu9,hf9,hi9,hd9⟩
 replace hu:=hu.mono Zg.mono hle9
 replace hf:=hf.mono Zb.mono hle9
 replace hi:=hi.mono Zi.mono hle9
 have hu9n:=hu9.len
 have hf9n:=hf9.len
 have hi9n:=hi9.len
 refine xE (h:=xE (h:=xS [_,_,_,_,_] 1 [_,_,_,_,_] Zav (h:=xA (h:=Zv [_,_] rfl (Zh ?_)))))
 rw [Zku,if_neg hnn,if_neg (fun h=>h g4)]
 exact Zad .ret (.inl rfl) [_,_] [] rfl ⟨⟨_,rfl,.inr ⟨[_,_,_,_,_],Z1,Zaf 1 rfl rfl rfl,rfl⟩⟩,rfl,trivial⟩ ⟨rfl,_,_,_,_,_,_,rfl,hu9,hf9,hi9,oy⟩

set_option maxHeartbeats 800000 in
theorem Zk8 (q1 q2 q3:Option Addr) (c1 c2 c3:Nat) (x:DHost) (u n:Str) (hul:u.length≤2000000) (hnl:n.length≤2000000) (hd:x.domain.length≤2000000) (B:Kn) (hu:SlK B q1 c1 3 Zg x.users) (hf:SlK B q2 c2 5 Zb x.folders) (hi:SlK B q3 c3 4 Zi x.queue.items):ZA (pj J) 178 [.agg #[str x.domain,.slice q1 x.users.length c1,.slice q2 x.folders.length c2,.int .i64 x.queue.next,.slice q3 x.queue.items.length c3],str u,str n] B [] (fun v B' Ls=>Ls=[]∧∃p1 d1 p2 d2 p3 d3,v = .tuple #[.agg #[str (Zbl x u n).1.domain,.slice p1 (Zbl x u n).1.users.length d1,.slice p2 (Zbl x u n).1.folders.length d2,.int .i64 (Zbl x u n).1.queue.next,.slice p3 (Zbl x u n).1.queue.items.length d3],.int .i64 (Zbl x u n).2]∧SlK B' p1 d1 3 Zg (Zbl x u n).1.users∧SlK B' p2 d2 5 Zb (Zbl x u n).1.folders∧SlK B' p3 d3 4 Zi (Zbl x u n).1.queue.items∧(Zbl x u n).1.domain.length≤2000000):=by
 refine Zc 80 Tryz.func178 rfl rfl rfl (Nat.le_of_ble_eq_true rfl) ?_
 have hun:=hu.len
 have hfn:=hf.len
 have hin:=hi.len
 have hix:=ZeA (inF u n) x.folders
 refine Za (xBx [_,_,_,_,_] (h:=fun b1=>xAl [_,_,_,_,_] ZaW (h:=fun b2=>xA (h:=Zv [_,_] rfl (Zl (Za (xL [_,_,_,_,_] Z1 0 (h:=xR Zrc rfl (ZbF _ _ _ _ _ _ x om2 _ hu hf hi) (h:=?_)))))))))
 refine xN (h:=xM (h:=Zt (d:=14) rfl (fun g1=>?_) (fun g1=>?_)))
 try simp only [sQ,ne_eq] at g1
 rw [Zbl,if_pos (by simp [g1])]
 refine xP (h:=xP (h:=xP (h:=xT (h:=Zd (t:=true) rfl (fun _=>Za (xB [] [_,_,_,_,_] [_,_,_,_,_] ZdS ZaW (h:=xS [_,_,_,_,_] 1 [_,_,_,_,_] Zav (h:=xA (h:=Zv [_,_] rfl (Zh (Zs ?_))))))) (fun h=>Bool.noConfusion h)))))
 exact Zad .ret (.inl rfl) [_,_] [] rfl ⟨⟨_,rfl,.inr ⟨[_,_,_,_,_],Z1,Zaf 1 rfl rfl rfl,rfl⟩⟩,rfl,trivial⟩ ⟨rfl,none,0,none,0,none,0,rfl,SlK.nil,SlK.nil,SlK.nil,by simp [ZaQ]⟩
 try simp only [sQ,ne_eq] at g1
 refine xM (h:=xR Zsh rfl (ZbW _ om2 _) (h:=?_))
 refine xN (h:=xF (h:=Zd rfl (fun g2=>?_) (fun g2=>?_)))
 try simp only [sQ,ne_eq] at g2
 rw [Zbl,if_pos (by simp [g2])]
 refine Za (xB [] [_,_,_,_,_] [_,_,_,_,_] ZdS ZaW (h:=xS [_,_,_,_,_] 1 [_,_,_,_,_] Zav (h:=xA (h:=Zv [_,_] rfl (Zh (Zs ?_))))))
 exact Zad .ret (.inl rfl) [_,_] [] rfl ⟨⟨_,rfl,.inr ⟨[_,_,_,_,_],Z1,Zaf 1 rfl rfl rfl,rfl⟩⟩,rfl,trivial⟩ ⟨rfl,none,0,none,0,none,0,rfl,SlK.nil,SlK.nil,SlK.nil,by simp [ZaQ]⟩
 try simp only [sQ,ne_eq] at g2
 have hok:ZJ x=true:=by simpa using g1
 have hnk:ZaA n=true:=by simpa using g2
 refine Zj (Zf (Za (xL [_,_,_,_,_] Z1 0 (h:=Zo (Zaa rfl rfl ZnQ rfl (Zbe _ _ _ _ _ _ x _ hu hf hi) ?_)))))
 rintro _ B5 _ hle5 ⟨l5,a5,c5,q15,c15,q35,c35,rfl,rfl,hu5,hs5,hi5⟩
 replace hu:=hu.mono Zg.mono hle5
 replace hf:=hf.mono Zb.mono hle5
 replace hi:=hi.mono Zi.mono hle5
 have hu5n:=hu5.len
 have hi5n:=hi5.len
 refine Z5 2 rfl hs5 Zb.mono om3 (fun B6 hle6 hr6=>?_)
 replace hu:=hu.mono Zg.mono hle6
 replace hf:=hf.mono Zb.mono hle6
 replace hi:=hi.mono Zi.mono hle6
 replace hu5:=hu5.mono Zg.mono hle6
 replace hi5:=hi5.mono Zi.mono hle6
 have hr6n:=hr6.len
 refine xAl [_,_,_,_,_] ZaW (h:=fun b7=>xS [_,_,_,_,_] 3 [_,_,_,_,_] Zav (h:=Zv [_,_,_,_] rfl (Zl (Zp (Za (xW ZbD (h:=x1 ZhC 0 (h:=xM (h:=xR ZsY rfl (ZcZ _ _ _ _ _ hu) (h:=Zag (h:=xA (h:=Zd rfl (fun g3=>?_) (fun g3=>?_)))))))))))))
 try simp only [sQ,ne_eq] at g3
 rw [Zbl,if_neg (fun h=>h ⟨hok,hnk⟩),if_pos g3]
 refine Za (xL [_,_,_,_,_] Z1 3 (h:=xS [_,_,_,_,_] 1 [_,_,_,_,_] Zav (h:=xA (h:=Zv [_,_,_,_] rfl (Zh (ZE (Zs ?_)))))))
 exact Zad .ret (.inl rfl) [_,_] [] rfl ⟨⟨_,rfl,.inr ⟨[_,_,_,_,_],Z1,Zaf 1 rfl rfl rfl,rfl⟩⟩,rfl,trivial⟩ ⟨rfl,_,_,_,_,_,_,(by first | rfl | (simp only [DHost.withFolders,List.length_set];rfl)),hu5,hr6,hi5,by first | assumption | (rw [ZU.2.2.1];assumption)⟩
 try simp only [sQ,ne_eq] at g3
 refine Za (xL [_,_,_,_,_] Z1 0 (h:=xM (h:=xM (h:=xR Zua rfl (Zdv _ _ _ _ _ _ x u n om2 om2 _ hf) (h:=?_)))))
 refine Zd8 (h:=xM (h:=Zt (d:=35) rfl (fun g4=>?_) (fun g4=>?_)))
 try simp only [sQ,ne_eq] at g4
 rw [Zbl,if_neg (fun h=>h ⟨hok,hnk⟩),if_neg oz,if_pos (.inl g4)]
 refine xP (h:=xP (h:=xP (h:=xP (h:=xT (h:=xA (h:=Zd (t:=true) rfl (fun _=>Za (xL [_,_,_,_,_] Z1 3 (h:=xS [_,_,_,_,_] 1 [_,_,_,_,_] Zav (h:=xA (h:=Zv [_,_,_,_] rfl (Zh (ZE (Zs ?_)))))))) (fun h=>Bool.noConfusion h)))))))
 exact Zad .ret (.inl rfl) [_,_] [] rfl ⟨⟨_,rfl,.inr ⟨[_,_,_,_,_],Z1,Zaf 1 rfl rfl rfl,rfl⟩⟩,rfl,trivial⟩ ⟨rfl,_,_,_,_,_,_,(by first | rfl | (simp only [DHost.withFolders,List.length_set];rfl)),hu5,hr6,hi5,by first | assumption | (rw [ZU.2.2.1];assumption)⟩
 try simp only [sQ,ne_eq] at g4
 refine xW Z9 (h:=x1 ZcN 0 (h:=xV Tryz.underlying24 (h:=Zd8 (h:=xF (h:=xA (h:=Zd rfl (fun g5=>?_) (fun g5=>?_)))))))
 try simp only [sQ,ne_eq] at g5
 rw [Zbl,if_neg (fun h=>h ⟨hok,hnk⟩),if_neg oz,if_pos (.inr oz)]
 refine Za (xL [_,_,_,_,_] Z1 3 (h:=xS [_,_,_,_,_] 1 [_,_,_,_,_] Zav (h:=xA (h:=Zv [_,_,_,_] rfl (Zh (ZE (Zs ?_)))))))
 exact Zad .ret (.inl rfl) [_,_] [] rfl ⟨⟨_,rfl,.inr ⟨[_,_,_,_,_],Z1,Zaf 1 rfl rfl rfl,rfl⟩⟩,rfl,trivial⟩ ⟨rfl,_,_,_,_,_,_,(by first | rfl | (simp only [DHost.withFolders,List.length_set];rfl)),hu5,hr6,hi5,by first | assumption | (rw [ZU.2.2.1];assumption)⟩
 try simp only [sQ,ne_eq] at g5
 refine Zj (Zz (Zf (Za (xM (h:=xM (h:=xBs [] [] Tryz.underlying65 ZbH ZdI (h:=fun b10=>xBs [] [] Tryz.underlying66 ZcJ ZgB (h:=fun b11=>xB [(0,_),(1,_)] [_,_] [_,_] Znw Zfg (h:=xB [(0,_),(1,_),(2,_),(3,_)] [_,_,_,_,_] [_,_,_,_,_] Zwv Zd6 (h:=Z5 4 rfl (Z2.lit0 (R:=ZL) (w:=2)) ZL.mono om3 (fun B12 hle12 hr12=>?_)))))))))))
 replace hu:=hu.mono Zg.mono hle12
 replace hf:=hf.mono Zb.mono hle12
 replace hi:=hi.mono Zi.mono hle12
 replace hu5:=hu5.mono Zg.mono hle12
 replace hr6:=hr6.mono Zb.mono hle12
 replace hi5:=hi5.mono Zi.mono hle12
 have hr12n:=hr12.len
 refine Z5 5 rfl (Z2.lit0 (R:=ZM) (w:=3)) ZM.mono om3 (fun B13 hle13 hr13=>?_)
 replace hu:=hu.mono Zg.mono hle13
 replace hf:=hf.mono Zb.mono hle13
 replace hi:=hi.mono Zi.mono hle13
 replace hr12:=hr12.mono ZL.mono hle13
 replace hu5:=hu5.mono Zg.mono hle13
 replace hr6:=hr6.mono Zb.mono hle13
 replace hi5:=hi5.mono Zi.mono hle13
 have hr13n:=hr13.len
 refine xAl [_,_,_,_,_] Zd6 (h:=fun b14=>xS [_,_,_,_,_] 6 [_,_,_,_,_] Zbw (h:=Zv [_,_,_,_,_,_,_] rfl (Za (xA (h:=Zl (Zp (ZQ (α:=Nat) [0,1,2,3,6,7,8,9,18,22,29] (fun k=>[(10,.int .i64 k)]) [] (fun k=>[]) (fun k Bx=>Bx=B13∧k≤x.folders.length∧∀y,y∈x.folders.take k→ZcO y (Ze0 u n)=true) (fun k=>x.folders.length - k) 0 t1 rfl (⟨rfl,Nat.zero_le _,by simp⟩) (fun k B15 hle15 hI=>?_))))))))
 obtain ⟨rfl,hk,hak⟩:=hI
 refine ZO [(0,_),(1,_),(2,_),(3,_),(6,_),(7,_),(8,_),(9,_),(10,_),(18,_),(22,_),(29,_)] [_,_,_,_,_,_,_] t12 rfl (Zl (Zl (Z8 (same _ _) mo kr ⟨rfl,rfl⟩ (fun _ _=>?_))))
 refine aM 0 rfl (h:=aW 1 rfl Z9 (h:=aT 2 rfl (Zan fun D=>Zn rfl rfl ZcN rfl (atL 3 rfl rfl rfl) r4) (h:=aV 3 rfl Tryz.underlying24 (h:=ZqZ 4 rfl (h:=aM 5 rfl (h:=ZaI (d:=53) rfl (fun g6=>?_) (fun g6=>?_)))))))
 try simp only [sQ,ne_eq] at g6
 refine aW 6 rfl Z9 (h:=aT 7 rfl (Zan fun D=>Zn rfl rfl ZcN rfl (atL 3 rfl rfl rfl) r4) (h:=aM 8 rfl (h:=?_)))
 obtain ⟨w,hw⟩:=Zaj (xs:=x.folders) (i:=k) om
 obtain ⟨bb17,oo17,rfl⟩:=hr6.base hw
 obtain ⟨_,⟨qg18,cg18,qm18,cm18,rfl,hg18,hm18,hb18,hb18b⟩,hc18⟩:=hr6.elem hw
 have hg18n:=hg18.len
 have hm18n:=hm18.len
 have hm18s:=Zac hm18
 refine aIx 9 rfl Tryz.underlying24 Zbw (h:=aT 10 rfl (Zan fun D=>Z6 [_,_,_,_,_] rfl rfl Zja rfl (Zid hc18 0 rfl rfl) r4) (h:=aT 11 rfl (Zan fun D=>Z6 [_,_,_,_,_] rfl rfl Zja rfl (Zaf 6 rfl rfl rfl) r4) (h:=aT 12 rfl (Zan fun D=>ZaS rfl rfl ZvC rfl (Zlt w ⟨u,n,[],1,[]⟩ _ _ _ _ _ _ _ _ _) r4) (h:=aPT 13 rfl (h:=ZC kr kr ?_)))))
 refine Zf (Zd rfl (fun g7=>?_) (fun g7=>?_))
 try simp only [sQ,ne_eq] at g7
 refine Zj (Zf (Zp (Ze (xM (h:=xD (h:=xA (h:=Zz ?_)))))))
 exact ZB (k+1) [0,1,2,3,4,5,6] so2 ⟨rfl,oz,Zbi hw hak g7⟩ t12 rfl
 try simp only [sQ,ne_eq] at g7
 refine ZT (Zah (ZZ (ZH (Zf (Zl (Z8 (keeps _ [3,6] _) mo kr ⟨Kn.le.refl _,Zam.refl _ _⟩ (fun _ _=>?_)))))))
 refine aW 1 rfl Z9 (h:=aT 2 rfl (ZG fun D B L hI=>Zn rfl rfl ZcN rfl (atL 3 (hI.2.1.trans rfl) rfl rfl) r4) (h:=aM 3 rfl (h:=?_)))
 obtain ⟨hq20,q20,cp20,hv20,hr20⟩:=hr6.cutE 0 k om om
 have hr20n:=hr20.len
 refine aT 4 rfl (ZG fun D B L hI=>Zg4 (a:=0) (b:=k) hv20 om hq20 rfl rfl Tryz.underlying24 Zbw rfl rfl ⟨_,_,rfl,by first | omega | (simp;done) | (simp;omega)⟩ r4) (h:=?_)
 refine aT 6 rfl (ZG fun D B L hI=>Z6 [_,_,_,_,_] rfl rfl Zja rfl (Zaf 6 (hI.2.2.1.trans rfl) rfl rfl) r4) (h:=aW 9 rfl Z9 (h:=aT 10 rfl (ZG fun D B L hI=>Zn rfl rfl ZcN rfl (atL 3 (hI.2.1.trans rfl) rfl rfl) r4) (h:=aM 11 rfl (h:=?_))))
 obtain ⟨hq21,q21,cp21,hv21,hr21⟩:=hr6.cutE k x.folders.length om om
 have hr21n:=hr21.len
 refine aT 12 rfl (ZG fun D B L hI=>Zg4 (a:=k) (b:=x.folders.length) hv21 om hq21 rfl rfl Tryz.underlying24 Zbw rfl ⟨_,_,rfl,by first | omega | (simp;done) | (simp;omega)⟩ rfl r4) (h:=?_)
 refine Zaq [0,7] kr kr kr ⟨?_,?_⟩
 refine (Zx (parts:=[]) [] rfl rfl Tryz.underlying24 Zbw Zd6 rfl rfl rfl rfl rfl (fun b22=>⟨⟨Kn.le.refl _,t2⟩,(Zaq [5,7] kr kr kr ⟨?_,?_⟩)⟩))
 refine (ZaN (R:=Zb) 7 rfl (Z2.lit0 (R:=Zb)) rfl rfl rfl ZiR Zi9 rfl rfl rfl hr20.rows Zb.one rfl om (fun l23 p23 c23 hv23=>?_))
 refine ⟨⟨Kn.le.refl _,t2⟩,(Zu 7 kr rfl kr (Zx (parts:=[(0,_)]) [_,_,_,_,_] rfl rfl Tryz.underlying24 Zbw Zd6 rfl rfl rfl rfl rfl (fun b24=>?_)))⟩
 refine ⟨⟨Kn.le.refl _,t2⟩,(Zu 8 kr rfl kr (Zba (z:=⟨u,n,[],1,[]⟩) (R:=Zb) 7 rfl hv23 rfl rfl rfl ZiR Zi9 rfl rfl (ZaM.box 8 rfl) rfl rfl (⟨_,_,_,_,rfl,hr12,hr13,by first | assumption | omega | (simp;done) | (simp;omega),by first | assumption | omega | (simp;done) | (simp;omega)⟩) om (fun l25 p25 c25 hv25=>?_)))⟩
 refine ⟨⟨Kn.le.refl _,t2⟩,(Zu 13 kr rfl kr (ZaN (R:=Zb) 7 rfl hv25 rfl rfl rfl ZiR Zi9 rfl rfl rfl hr21.rows Zb.one rfl om (fun l26 p26 c26 hv26=>?_)))⟩
 refine ⟨⟨Kn.le.refl _,t2⟩,(aW 14 rfl Z9 (h:=ZV 15 kr rfl kr kr kr (ZN [_] 3 [_,_,_,_,_] rfl rfl Zq9 rfl rfl rfl rfl rfl rfl rfl rfl ?_)))⟩
 refine Zf (Zv [_,_,_,_,_,_,_,_,_] rfl (Za (xL [_,_,_,_,_] Z1 3 (h:=Z5 7 rfl hv26 Zb.mono om3 (fun B27 hle27 hr27=>?_)))))
 replace hu:=hu.mono Zg.mono hle27
 replace hf:=hf.mono Zb.mono hle27
 replace hi:=hi.mono Zi.mono hle27
 replace hu5:=hu5.mono Zg.mono hle27
 replace hi5:=hi5.mono Zi.mono hle27
 replace hr12:=hr12.mono ZL.mono hle27
 replace hr13:=hr13.mono ZM.mono hle27
 have hr27n:=hr27.len
 refine xS [_,_,_,_,_] 1 [_,_,_,_,_] Zav (h:=?_)
 rw [Zcn (k:=k) hok hnk oz oz oz hk hak (.inr ⟨_,hw,g7⟩)]
 refine xA (h:=Zv [_,_,_,_,_,_,_,_,_] rfl (Zh ?_))
 exact Zad .ret (.inl rfl) [_,_] [] rfl ⟨⟨_,rfl,.inr ⟨[_,_,_,_,_],Z1,Zaf 1 rfl rfl rfl,rfl⟩⟩,rfl,trivial⟩ ⟨rfl,_,_,_,_,_,_,(by first | rfl | (simp only [DHost.withFolders,List.length_set];rfl)),hu5,hr27,hi5,oy⟩
 refine (Zx (parts:=[(0,_)]) [_,_,_,_,_] rfl rfl Tryz.underlying24 Zbw Zd6 rfl rfl rfl rfl rfl (fun b28=>⟨⟨Kn.le.refl _,t2⟩,(Zu 5 kr rfl kr (ZaN (R:=Zb) 7 rfl (Z2.lit0 (R:=Zb)) rfl rfl rfl ZiR Zi9 rfl rfl rfl hr20.rows Zb.one rfl om (fun l29 p29 c29 hv29=>?_)))⟩))
 refine ⟨⟨Kn.le.refl _,t2⟩,(Zu 8 kr rfl kr (Zba (z:=⟨u,n,[],1,[]⟩) (R:=Zb) 7 rfl hv29 rfl rfl rfl ZiR Zi9 rfl rfl (ZaM.box 8 rfl) rfl rfl (⟨_,_,_,_,rfl,hr12,hr13,by first | assumption | omega | (simp;done) | (simp;omega),by first | assumption | omega | (simp;done) | (simp;omega)⟩) om (fun l30 p30 c30 hv30=>?_)))⟩
 refine ⟨⟨Kn.le.refl _,t2⟩,(Zu 13 kr rfl kr (ZaN (R:=Zb) 7 rfl hv30 rfl rfl rfl ZiR Zi9 rfl rfl rfl hr21.rows Zb.one rfl om (fun l31 p31 c31 hv31=>?_)))⟩
 refine ⟨⟨Kn.le.refl _,t2⟩,(aW 14 rfl Z9 (h:=ZV 15 kr rfl kr kr kr (ZN [_] 3 [_,_,_,_,_] rfl rfl Zq9 rfl rfl rfl rfl rfl rfl rfl rfl ?_)))⟩
 refine Zf (Zv [_,_,_,_,_,_,_,_,_] rfl (Za (xL [_,_,_,_,_] Z1 3 (h:=Z5 7 rfl hv31 Zb.mono om3 (fun B32 hle32 hr32=>?_)))))
 replace hu:=hu.mono Zg.mono hle32
 replace hf:=hf.mono Zb.mono hle32
 replace hi:=hi.mono Zi.mono hle32
 replace hu5:=hu5.mono Zg.mono hle32
 replace hi5:=hi5.mono Zi.mono hle32
 replace hr12:=hr12.mono ZL.mono hle32
 replace hr13:=hr13.mono ZM.mono hle32
 have hr32n:=hr32.len
 refine xS [_,_,_,_,_] 1 [_,_,_,_,_] Zav (h:=?_)
 rw [Zcn (k:=k) hok hnk oz oz oz hk hak (.inr ⟨_,hw,g7⟩)]
 refine xA (h:=Zv [_,_,_,_,_,_,_,_,_] rfl (Zh ?_))
 exact Zad .ret (.inl rfl) [_,_] [] rfl ⟨⟨_,rfl,.inr ⟨[_,_,_,_,_],Z1,Zaf 1 rfl rfl rfl,rfl⟩⟩,rfl,trivial⟩ ⟨rfl,_,_,_,_,_,_,(by first | rfl | (simp only [DHost.withFolders,List.length_set];rfl)),hu5,hr32,hi5,oy⟩
 refine (Zx (parts:=[(0,_)]) [_,_,_,_,_] rfl rfl Tryz.underlying24 Zbw Zd6 rfl rfl rfl rfl rfl (fun b33=>⟨⟨Kn.le.refl _,t2⟩,(Zu 0 kr rfl kr (Zx (parts:=[]) [] rfl rfl Tryz.underlying24 Zbw Zd6 rfl rfl rfl rfl rfl (fun b34=>?_)))⟩))
 refine ⟨⟨Kn.le.refl _,t2⟩,(Zu 5 kr rfl kr (ZaN (R:=Zb) 8 rfl (Z2.lit0 (R:=Zb)) rfl rfl rfl ZiR Zi9 rfl rfl rfl hr20.rows Zb.one rfl om (fun l35 p35 c35 hv35=>?_)))⟩
 refine ⟨⟨Kn.le.refl _,t2⟩,(Zu 8 kr rfl kr (Zba (z:=⟨u,n,[],1,[]⟩) (R:=Zb) 8 rfl hv35 rfl rfl rfl ZiR Zi9 rfl rfl (ZaM.box 7 rfl) rfl rfl (⟨_,_,_,_,rfl,hr12,hr13,by first | assumption | omega | (simp;done) | (simp;omega),by first | assumption | omega | (simp;done) | (simp;omega)⟩) om (fun l36 p36 c36 hv36=>?_)))⟩
 refine ⟨⟨Kn.le.refl _,t2⟩,(Zu 13 kr rfl kr (ZaN (R:=Zb) 8 rfl hv36 rfl rfl rfl ZiR Zi9 rfl rfl rfl hr21.rows Zb.one rfl om (fun l37 p37 c37 hv37=>?_)))⟩
 refine ⟨⟨Kn.le.refl _,t2⟩,(aW 14 rfl Z9 (h:=ZV 15 kr rfl kr kr kr (ZN [_] 3 [_,_,_,_,_] rfl rfl Zq9 rfl rfl rfl rfl rfl rfl rfl rfl ?_)))⟩
 refine Zf (Zv [_,_,_,_,_,_,_,_,_] rfl (Za (xL [_,_,_,_,_] Z1 3 (h:=Z5 8 rfl hv37 Zb.mono om3 (fun B38 hle38 hr38=>?_)))))
 replace hu:=hu.mono Zg.mono hle38
 replace hf:=hf.mono Zb.mono hle38
 replace hi:=hi.mono Zi.mono hle38
 replace hu5:=hu5.mono Zg.mono hle38
 replace hi5:=hi5.mono Zi.mono hle38
 replace hr12:=hr12.mono ZL.mono hle38
 replace hr13:=hr13.mono ZM.mono hle38
 have hr38n:=hr38.len
 refine xS [_,_,_,_,_] 1 [_,_,_,_,_] Zav (h:=?_)
 rw [Zcn (k:=k) hok hnk oz oz oz hk hak (.inr ⟨_,hw,g7⟩)]
 refine xA (h:=Zv [_,_,_,_,_,_,_,_,_] rfl (Zh ?_))
 exact Zad .ret (.inl rfl) [_,_] [] rfl ⟨⟨_,rfl,.inr ⟨[_,_,_,_,_],Z1,Zaf 1 rfl rfl rfl,rfl⟩⟩,rfl,trivial⟩ ⟨rfl,_,_,_,_,_,_,(by first | rfl | (simp only [DHost.withFolders,List.length_set];rfl)),hu5,hr38,hi5,oy⟩
 try simp only [sQ,ne_eq] at g6
 refine aZ 6 rfl (h:=aZ 7 rfl (h:=aZ 8 rfl (h:=aZ 9 rfl (h:=aZ 10 rfl (h:=aZ 11 rfl (h:=aZ 12 rfl (h:=aPF 13 rfl (h:=ZC kr kr ?_))))))))
 refine Zf (Zd (t:=false) rfl (fun h=>Bool.noConfusion h) (fun _=>ZT (Zah (ZZ (ZH (Zf (Zl (Z8 (keeps _ [3,6] _) mo kr ⟨Kn.le.refl _,Zam.refl _ _⟩ (fun _ _=>?_)))))))))
 refine aW 1 rfl Z9 (h:=aT 2 rfl (ZG fun D B L hI=>Zn rfl rfl ZcN rfl (atL 3 (hI.2.1.trans rfl) rfl rfl) r4) (h:=aM 3 rfl (h:=?_)))
 obtain ⟨hq39,q39,cp39,hv39,hr39⟩:=hr6.cutE 0 k om om
 have hr39n:=hr39.len
 refine aT 4 rfl (ZG fun D B L hI=>Zg4 (a:=0) (b:=k) hv39 om hq39 rfl rfl Tryz.underlying24 Zbw rfl rfl ⟨_,_,rfl,by first | omega | (simp;done) | (simp;omega)⟩ r4) (h:=?_)
 refine aT 6 rfl (ZG fun D B L hI=>Z6 [_,_,_,_,_] rfl rfl Zja rfl (Zaf 6 (hI.2.2.1.trans rfl) rfl rfl) r4) (h:=aW 9 rfl Z9 (h:=aT 10 rfl (ZG fun D B L hI=>Zn rfl rfl ZcN rfl (atL 3 (hI.2.1.trans rfl) rfl rfl) r4) (h:=aM 11 rfl (h:=?_))))
 obtain ⟨hq40,q40,cp40,hv40,hr40⟩:=hr6.cutE k x.folders.length om om
 have hr40n:=hr40.len
 refine aT 12 rfl (ZG fun D B L hI=>Zg4 (a:=k) (b:=x.folders.length) hv40 om hq40 rfl rfl Tryz.underlying24 Zbw rfl ⟨_,_,rfl,by first | omega | (simp;done) | (simp;omega)⟩ rfl r4) (h:=?_)
 refine Zaq [0,7] kr kr kr ⟨?_,?_⟩
 refine (Zx (parts:=[]) [] rfl rfl Tryz.underlying24 Zbw Zd6 rfl rfl rfl rfl rfl (fun b41=>⟨⟨Kn.le.refl _,t2⟩,(Zaq [5,7] kr kr kr ⟨?_,?_⟩)⟩))
 refine (ZaN (R:=Zb) 7 rfl (Z2.lit0 (R:=Zb)) rfl rfl rfl ZiR Zi9 rfl rfl rfl hr39.rows Zb.one rfl om (fun l42 p42 c42 hv42=>?_))
 refine ⟨⟨Kn.le.refl _,t2⟩,(Zu 7 kr rfl kr (Zx (parts:=[(0,_)]) [_,_,_,_,_] rfl rfl Tryz.underlying24 Zbw Zd6 rfl rfl rfl rfl rfl (fun b43=>?_)))⟩
 refine ⟨⟨Kn.le.refl _,t2⟩,(Zu 8 kr rfl kr (Zba (z:=⟨u,n,[],1,[]⟩) (R:=Zb) 7 rfl hv42 rfl rfl rfl ZiR Zi9 rfl rfl (ZaM.box 8 rfl) rfl rfl (⟨_,_,_,_,rfl,hr12,hr13,by first | assumption | omega | (simp;done) | (simp;omega),by first | assumption | omega | (simp;done) | (simp;omega)⟩) om (fun l44 p44 c44 hv44=>?_)))⟩
 refine ⟨⟨Kn.le.refl _,t2⟩,(Zu 13 kr rfl kr (ZaN (R:=Zb) 7 rfl hv44 rfl rfl rfl ZiR Zi9 rfl rfl rfl hr40.rows Zb.one rfl om (fun l45 p45 c45 hv45=>?_)))⟩
 refine ⟨⟨Kn.le.refl _,t2⟩,(aW 14 rfl Z9 (h:=ZV 15 kr rfl kr kr kr (ZN [_] 3 [_,_,_,_,_] rfl rfl Zq9 rfl rfl rfl rfl rfl rfl rfl rfl ?_)))⟩
 refine Zf (Zv [_,_,_,_,_,_,_,_,_] rfl (Za (xL [_,_,_,_,_] Z1 3 (h:=Z5 7 rfl hv45 Zb.mono om3 (fun B46 hle46 hr46=>?_)))))
 replace hu:=hu.mono Zg.mono hle46
 replace hf:=hf.mono Zb.mono hle46
 replace hi:=hi.mono Zi.mono hle46
 replace hu5:=hu5.mono Zg.mono hle46
 replace hi5:=hi5.mono Zi.mono hle46
 replace hr12:=hr12.mono ZL.mono hle46
 replace hr13:=hr13.mono ZM.mono hle46
 have hr46n:=hr46.len
 refine xS [_,_,_,_,_] 1 [_,_,_,_,_] Zav (h:=?_)
 rw [Zcn (k:=k) hok hnk oz oz oz hk hak (.inl oz)]
 refine xA (h:=Zv [_,_,_,_,_,_,_,_,_] rfl (Zh ?_))
 exact Zad .ret (.inl rfl) [_,_] [] rfl ⟨⟨_,rfl,.inr ⟨[_,_,_,_,_],Z1,Zaf 1 rfl rfl rfl,rfl⟩⟩,rfl,trivial⟩ ⟨rfl,_,_,_,_,_,_,(by first | rfl | (simp only [DHost.withFolders,List.length_set];rfl)),hu5,hr46,hi5,oy⟩
 refine (Zx (parts:=[(0,_)]) [_,_,_,_,_] rfl rfl Tryz.underlying24 Zbw Zd6 rfl rfl rfl rfl rfl (fun b47=>⟨⟨Kn.le.refl _,t2⟩,(Zu 5 kr rfl kr (ZaN (R:=Zb) 7 rfl (Z2.lit0 (R:=Zb)) rfl rfl rfl ZiR Zi9 rfl rfl rfl hr39.rows Zb.one rfl om (fun l48 p48 c48 hv48=>?_)))⟩))
 refine ⟨⟨Kn.le.refl _,t2⟩,(Zu 8 kr rfl kr (Zba (z:=⟨u,n,[],1,[]⟩) (R:=Zb) 7 rfl hv48 rfl rfl rfl ZiR Zi9 rfl rfl (ZaM.box 8 rfl) rfl rfl (⟨_,_,_,_,rfl,hr12,hr13,by first | assumption | omega | (simp;done) | (simp;omega),by first | assumption | omega | (simp;done) | (simp;omega)⟩) om (fun l49 p49 c49 hv49=>?_)))⟩
 refine ⟨⟨Kn.le.refl _,t2⟩,(Zu 13 kr rfl kr (ZaN (R:=Zb) 7 rfl hv49 rfl rfl rfl ZiR Zi9 rfl rfl rfl hr40.rows Zb.one rfl om (fun l50 p50 c50 hv50=>?_)))⟩
 refine ⟨⟨Kn.le.refl _,t2⟩,(aW 14 rfl Z9 (h:=ZV 15 kr rfl kr kr kr (ZN [_] 3 [_,_,_,_,_] rfl rfl Zq9 rfl rfl rfl rfl rfl rfl rfl rfl ?_)))⟩
 refine Zf (Zv [_,_,_,_,_,_,_,_,_] rfl (Za (xL [_,_,_,_,_] Z1 3 (h:=Z5 7 rfl hv50 Zb.mono om3 (fun B51 hle51 hr51=>?_)))))
 replace hu:=hu.mono Zg.mono hle51
 replace hf:=hf.mono Zb.mono hle51
 replace hi:=hi.mono Zi.mono hle51
 replace hu5:=hu5.mono Zg.mono hle51
 replace hi5:=hi5.mono Zi.mono hle51
 replace hr12:=hr12.mono ZL.mono hle51
 replace hr13:=hr13.mono ZM.mono hle51
 have hr51n:=hr51.len
 refine xS [_,_,_,_,_] 1 [_,_,_,_,_] Zav (h:=?_)
 rw [Zcn (k:=k) hok hnk oz oz oz hk hak (.inl oz)]
 refine xA (h:=Zv [_,_,_,_,_,_,_,_,_] rfl (Zh ?_))
 exact Zad .ret (.inl rfl) [_,_] [] rfl ⟨⟨_,rfl,.inr ⟨[_,_,_,_,_],Z1,Zaf 1 rfl rfl rfl,rfl⟩⟩,rfl,trivial⟩ ⟨rfl,_,_,_,_,_,_,(by first | rfl | (simp only [DHost.withFolders,List.length_set];rfl)),hu5,hr51,hi5,oy⟩
 refine (Zx (parts:=[(0,_)]) [_,_,_,_,_] rfl rfl Tryz.underlying24 Zbw Zd6 rfl rfl rfl rfl rfl (fun b52=>⟨⟨Kn.le.refl _,t2⟩,(Zu 0 kr rfl kr (Zx (parts:=[]) [] rfl rfl Tryz.underlying24 Zbw Zd6 rfl rfl rfl rfl rfl (fun b53=>?_)))⟩))
 refine ⟨⟨Kn.le.refl _,t2⟩,(Zu 5 kr rfl kr (ZaN (R:=Zb) 8 rfl (Z2.lit0 (R:=Zb)) rfl rfl rfl ZiR Zi9 rfl rfl rfl hr39.rows Zb.one rfl om (fun l54 p54 c54 hv54=>?_)))⟩
 refine ⟨⟨Kn.le.refl _,t2⟩,(Zu 8 kr rfl kr (Zba (z:=⟨u,n,[],1,[]⟩) (R:=Zb) 8 rfl hv54 rfl rfl rfl ZiR Zi9 rfl rfl (ZaM.box 7 rfl) rfl rfl (⟨_,_,_,_,rfl,hr12,hr13,by first | assumption | omega | (simp;done) | (simp;omega),by first | assumption | omega | (simp;done) | (simp;omega)⟩) om (fun l55 p55 c55 hv55=>?_)))⟩
 refine ⟨⟨Kn.le.refl _,t2⟩,(Zu 13 kr rfl kr (ZaN (R:=Zb) 8 rfl hv55 rfl rfl rfl ZiR Zi9 rfl rfl rfl hr40.rows Zb.one rfl om (fun l56 p56 c56 hv56=>?_)))⟩
 refine ⟨⟨Kn.le.refl _,t2⟩,(aW 14 rfl Z9 (h:=ZV 15 kr rfl kr kr kr (ZN [_] 3 [_,_,_,_,_] rfl rfl Zq9 rfl rfl rfl rfl rfl rfl rfl rfl ?_)))⟩
 refine Zf (Zv [_,_,_,_,_,_,_,_,_] rfl (Za (xL [_,_,_,_,_] Z1 3 (h:=Z5 8 rfl hv56 Zb.mono om3 (fun B57 hle57 hr57=>?_)))))
 replace hu:=hu.mono Zg.mono hle57
 replace hf:=hf.mono Zb.mono hle57
 replace hi:=hi.mono Zi.mono hle57
 replace hu5:=hu5.mono Zg.mono hle57
 replace hi5:=hi5.mono Zi.mono hle57
 replace hr12:=hr12.mono ZL.mono hle57
 replace hr13:=hr13.mono ZM.mono hle57
 have hr57n:=hr57.len
 refine xS [_,_,_,_,_] 1 [_,_,_,_,_] Zav (h:=?_)
 rw [Zcn (k:=k) hok hnk oz oz oz hk hak (.inl oz)]
 refine xA (h:=Zv [_,_,_,_,_,_,_,_,_] rfl (Zh ?_))
 exact Zad .ret (.inl rfl) [_,_] [] rfl ⟨⟨_,rfl,.inr ⟨[_,_,_,_,_],Z1,Zaf 1 rfl rfl rfl,rfl⟩⟩,rfl,trivial⟩ ⟨rfl,_,_,_,_,_,_,(by first | rfl | (simp only [DHost.withFolders,List.length_set];rfl)),hu5,hr57,hi5,oy⟩

set_option maxRecDepth 4000 in
set_option maxHeartbeats 400000 in
theorem ZeW (q : Option Addr) (cp : Nat) (gs : List DGrant) (u : Str) (r : Int) (hul : u.length ≤ 2000000) (B : Kn) (hg : SlK B q cp 2 ZL gs) : ZA (pj J) 152 [.slice q gs.length cp, str u, .int .i64 r] B [] (fun v B' Ls => ∃ l a c, Ls = [l] ∧ v = .tuple #[.slice a (Zb3 gs u r).1.length c, .bool (Zb3 gs u r).2] ∧ Z2 B' l a c 162 2 ZL (Zb3 gs u r).1) := by
  refine Zc 80 Tryz.func152 rfl rfl rfl (Nat.le_of_ble_eq_true rfl) ?_
  have hgn := hg.len
  refine Za (xA (h:=xA (h:=Zl (Za (xM (h:=xR Zsl rfl (Zgf _ _ _ _ hg) (h:=xN (h:=xM (h:=Zt (d := 14) rfl (fun g1 => ?_) (fun g1 => ?_))))))))))
  try simp only [sQ, ne_eq] at g1
  rw [ZgX (by simp [g1])]
  refine xP (h:=xP (h:=xP (h:=xT (h:=xM (h:=xP (h:=xP (h:=xP (h:=xT (h:=Zd (t := true) rfl (fun _ => Za (xBs [] [] Tryz.underlying65 ZbH ZdI (h:=fun b2 => xA (h:=?_)))) (fun h => Bool.noConfusion h))))))))))
  refine xA (h:=Zv [_] rfl (Zh (Zs ?_)))
  exact Zad .ret (.inl rfl) [_, _] [0] rfl ⟨rfl, rfl, trivial⟩ ⟨_, _, _, rfl, rfl, Z2.lit0⟩
  try simp only [sQ, ne_eq] at g1
  refine xM (h:=xR Zsh rfl (ZbW _ (by first | assumption | omega | (simp; done) | (simp; omega)) _) (h:=?_))
  refine xN (h:=xF (h:=xM (h:=Zt (d := 19) rfl (fun g2 => ?_) (fun g2 => ?_))))
  try simp only [sQ, ne_eq] at g2
  rw [ZgX (by simp [g2])]
  refine xP (h:=xP (h:=xP (h:=xT (h:=Zd (t := true) rfl (fun _ => Za (xBs [] [] Tryz.underlying65 ZbH ZdI (h:=fun b4 => xA (h:=xA (h:=Zv [_] rfl (Zh (Zs ?_))))))) (fun h => Bool.noConfusion h)))))
  exact Zad .ret (.inl rfl) [_, _] [0] rfl ⟨rfl, rfl, trivial⟩ ⟨_, _, _, rfl, rfl, Z2.lit0⟩
  try simp only [sQ, ne_eq] at g2
  refine xM (h:=xR Zvy rfl (Zio _ _) (h:=xN (h:=xF (h:=Zd rfl (fun g3 => ?_) (fun g3 => ?_)))))
  try simp only [sQ, ne_eq] at g3
  rw [ZgX (by simp [g3])]
  refine Za (xBs [] [] Tryz.underlying65 ZbH ZdI (h:=fun b6 => xA (h:=xA (h:=Zv [_] rfl (Zh (Zs ?_))))))
  exact Zad .ret (.inl rfl) [_, _] [0] rfl ⟨rfl, rfl, trivial⟩ ⟨_, _, _, rfl, rfl, Z2.lit0⟩
  try simp only [sQ, ne_eq] at g3
  have hok : ZcB gs = true := by simpa using g1
  have hin : ZcB gs = true ∧ ZaA u = true ∧ ZdO r = true := ⟨hok, by simpa using g2, by simpa using g3⟩
  have hg4 := Zi7 hok
  refine Zj (Zf (Za (xBs [] [] Tryz.underlying65 ZbH ZdI (h:=fun b7 => xA (h:=Zv [_] rfl (Za (xM (h:=ZI (h:=xA (h:=Zl (Za (xA (h:=?_)))))))))))))
  refine Zp (ZQ (α := Gh2 DGrant Bool) [0, 1, 2, 6, 7, 23] (fun g => [(8, .slice g.a g.xs.length g.c), (9, .bool g.e), (10, .int .i64 g.k)]) [0] (fun g => [g.l]) (fun g Bx => Bx = B ∧ g.k ≤ gs.length ∧ (g.e, g.xs) = ZeI u r (gs.take g.k) ∧ g.xs.length ≤ 2 * g.k ∧ Z2 Bx g.l g.a g.c 162 2 ZL g.xs) (fun g => gs.length - g.k) ⟨0, 0, _, _, _, [], decide (r = 0)⟩ ⟨rfl, rfl, rfl, trivial⟩ rfl (⟨rfl, Nat.zero_le _, rfl, Nat.le_refl _, .lit0⟩) (fun g B8 hle8 hI => ?_))
  obtain ⟨rfl, hk, hs, hgl, hv⟩ := hI
  refine ZO [(0, _), (1, _), (2, _), (6, _), (7, _), (8, _), (9, _), (10, _), (23, _)] [_] ⟨rfl, rfl, rfl, rfl, rfl, rfl, rfl, rfl, rfl, trivial⟩ rfl (Zl (Za (xM (h:=xM (h:=xV Tryz.underlying65 (h:=Zag (h:=Zd rfl (fun g4 => ?_) (fun g4 => ?_))))))))
  try simp only [sQ, ne_eq] at g4
  refine Zj (Zf (Zl (Zp (Zl (Za (xM (h:=xN (h:=xM (h:=Zt (d := 36) rfl (fun g5 => ?_) (fun g5 => ?_))))))))))
  try simp only [sQ, ne_eq] at g5
  refine xM (h:=xM (h:=?_))
  obtain ⟨x, hx⟩ := Zaj (xs := gs) (i := g.k) (by first | omega | (simp; done) | (simp; omega))
  obtain ⟨bb10, oo10, rfl⟩ := hg.base hx
  obtain ⟨_, ⟨rfl, hb11⟩, hc11⟩ := hg.elem hx
  refine xIx Tryz.underlying65 ZbH (h:=xW ZcP (h:=y1 lk9 hc11 0 (h:=xM (h:=ZuC (h:=xT (h:=Zd rfl (fun g6 => ?_) (fun g6 => ?_)))))))
  try simp only [sQ, ne_eq] at g6
  refine Za (xM (h:=xM (h:=xM (h:=xB [(0, _), (1, _)] [_, _] [_, _] Zts ZdI (h:=xBs [(0, _)] [_, _] Tryz.underlying65 ZbH ZdI (h:=fun b12 => Zo (Zba (z := ⟨u, r⟩) (R := ZL) 0 rfl hv rfl rfl rfl ZqC Zpw rfl rfl (ZaM.box 1 rfl) rfl rfl (⟨rfl, by first | assumption | omega | (simp; done) | (simp; omega)⟩) (by first | omega | (simp; done) | (simp; omega)) (fun l13 p13 c13 hv13 => ?_))))))))
  refine xA (h:=Zv [_, _] rfl (Ze (xA (h:=Zf (Za (xM (h:=xM (h:=xIx Tryz.underlying65 ZbH (h:=xW ZcP (h:=y1 lk9 hc11 0 (h:=xM (h:=Zg0 (h:=?_)))))))))))))
  refine Zd rfl (fun g8 => ?_) (fun g8 => ?_)
  try simp only [sQ, ne_eq] at g8
  refine Ze (xM (h:=xM (h:=xM (h:=xIx Tryz.underlying65 ZbH (h:=yL [_, _] Zop hc11 0 (h:=xBs [(0, _)] [_, _] Tryz.underlying65 ZbH ZdI (h:=fun b14 => Zo (Zba (z := ⟨x.user, x.rights⟩) (R := ZL) 0 rfl hv13 rfl rfl rfl ZqC Zpw rfl rfl (ZaM.box 2 rfl) rfl rfl (⟨rfl, by first | assumption | omega | (simp; done) | (simp; omega)⟩) (by first | omega | (simp; done) | (simp; omega)) (fun l15 p15 c15 hv15 => ?_)))))))))
  refine xA (h:=Zz (Zf (Ze (xM (h:=xD (h:=xA (h:=?_)))))))
  exact ZB ⟨g.k + 1, 0, l15, p15, c15, ((g.xs ++ [⟨u, r⟩]) ++ [⟨x.user, x.rights⟩]), true⟩ [0] (by first | omega | (simp only []; omega)) ⟨rfl, by simp only []; omega, by simp only []; rw [Zcp hx, ← hs]; simp [Zfe, g5, g6, g8], by first | (simp only []; omega) | (simp; omega), hv15⟩ ⟨rfl, rfl, rfl, rfl, rfl, rfl, rfl, rfl, rfl, trivial⟩ rfl
  try simp only [sQ, ne_eq] at g8
  refine Zj (Zz (Zf (Ze (xM (h:=xD (h:=xA (h:=?_)))))))
  exact ZB ⟨g.k + 1, 0, l13, p13, c13, (g.xs ++ [⟨u, r⟩]), true⟩ [0] (by first | omega | (simp only []; omega)) ⟨rfl, by simp only []; omega, by simp only []; rw [Zcp hx, ← hs]; simp [Zfe, g5, g8 ▸ g6, g8], by first | (simp only []; omega) | (simp; omega), hv13⟩ ⟨rfl, rfl, rfl, rfl, rfl, rfl, rfl, rfl, rfl, trivial⟩ rfl
  try simp only [sQ, ne_eq] at g6
  refine Zj (Zf (Za (xM (h:=xM (h:=xIx Tryz.underlying65 ZbH (h:=xW ZcP (h:=y1 lk9 hc11 0 (h:=xM (h:=Zg0 (h:=Zd rfl (fun g8 => ?_) (fun g8 => ?_)))))))))))
  try simp only [sQ, ne_eq] at g8
  refine Ze (xM (h:=xM (h:=xM (h:=xIx Tryz.underlying65 ZbH (h:=yL [_, _] Zop hc11 0 (h:=xBs [(0, _)] [_, _] Tryz.underlying65 ZbH ZdI (h:=fun b16 => Zo (Zba (z := ⟨x.user, x.rights⟩) (R := ZL) 0 rfl hv rfl rfl rfl ZqC Zpw rfl rfl (ZaM.box 1 rfl) rfl rfl (⟨rfl, by first | assumption | omega | (simp; done) | (simp; omega)⟩) (by first | omega | (simp; done) | (simp; omega)) (fun l17 p17 c17 hv17 => ?_)))))))))
  refine xA (h:=Zz (Zf (Ze (xM (h:=xD (h:=xA (h:=?_)))))))
  exact ZB ⟨g.k + 1, 0, l17, p17, c17, (g.xs ++ [⟨x.user, x.rights⟩]), g.e⟩ [0] (by first | omega | (simp only []; omega)) ⟨rfl, by simp only []; omega, by simp only []; rw [Zcp hx, ← hs]; simp [Zfe, g5, g6, g8], by first | (simp only []; omega) | (simp; omega), hv17⟩ ⟨rfl, rfl, rfl, rfl, rfl, rfl, rfl, rfl, rfl, trivial⟩ rfl
  try simp only [sQ, ne_eq] at g8
  refine Zj (Zz (Zf (Ze (xM (h:=xD (h:=xA (h:=?_)))))))
  exact ZB ⟨g.k + 1, 0, g.l, g.a, g.c, g.xs, g.e⟩ [0] (by first | omega | (simp only []; omega)) ⟨rfl, by simp only []; omega, by simp only []; rw [Zcp hx, ← hs]; simp [Zfe, g5, g8 ▸ g6, g8], by first | (simp only []; omega) | (simp; omega), hv⟩ ⟨rfl, rfl, rfl, rfl, rfl, rfl, rfl, rfl, rfl, trivial⟩ rfl
  try simp only [sQ, ne_eq] at g5
  refine xP (h:=xP (h:=xP (h:=xP (h:=xP (h:=xP (h:=xP (h:=xF (h:=Zd (t := false) rfl (fun h => Bool.noConfusion h) (fun _ => Zj (Zf (Za (xM (h:=?_)))))))))))))
  refine xM (h:=?_)
  obtain ⟨x, hx⟩ := Zaj (xs := gs) (i := g.k) (by first | omega | (simp; done) | (simp; omega))
  obtain ⟨bb19, oo19, rfl⟩ := hg.base hx
  obtain ⟨_, ⟨rfl, hb20⟩, hc20⟩ := hg.elem hx
  refine xIx Tryz.underlying65 ZbH (h:=xW ZcP (h:=y1 lk9 hc20 0 (h:=xM (h:=Zg0 (h:=Zd rfl (fun g8 => ?_) (fun g8 => ?_))))))
  try simp only [sQ, ne_eq] at g8
  refine Ze (xM (h:=xM (h:=xM (h:=xIx Tryz.underlying65 ZbH (h:=yL [_, _] Zop hc20 0 (h:=xBs [(0, _)] [_, _] Tryz.underlying65 ZbH ZdI (h:=fun b21 => Zo (Zba (z := ⟨x.user, x.rights⟩) (R := ZL) 0 rfl hv rfl rfl rfl ZqC Zpw rfl rfl (ZaM.box 1 rfl) rfl rfl (⟨rfl, by first | assumption | omega | (simp; done) | (simp; omega)⟩) (by first | omega | (simp; done) | (simp; omega)) (fun l22 p22 c22 hv22 => ?_)))))))))
  refine xA (h:=Zz (Zf (Ze (xM (h:=xD (h:=xA (h:=?_)))))))
  exact ZB ⟨g.k + 1, 0, l22, p22, c22, (g.xs ++ [⟨x.user, x.rights⟩]), g.e⟩ [0] (by first | omega | (simp only []; omega)) ⟨rfl, by simp only []; omega, by simp only []; rw [Zcp hx, ← hs]; simp [Zfe, g5, g8], by first | (simp only []; omega) | (simp; omega), hv22⟩ ⟨rfl, rfl, rfl, rfl, rfl, rfl, rfl, rfl, rfl, trivial⟩ rfl
  try simp only [sQ, ne_eq] at g8
  refine Zj (Zz (Zf (Ze (xM (h:=xD (h:=xA (h:=?_)))))))
  exact ZB ⟨g.k + 1, 0, g.l, g.a, g.c, g.xs, g.e⟩ [0] (by first | omega | (simp only []; omega)) ⟨rfl, by simp only []; omega, by simp only []; rw [Zcp hx, ← hs]; simp [Zfe, g5, g8], by first | (simp only []; omega) | (simp; omega), hv⟩ ⟨rfl, rfl, rfl, rfl, rfl, rfl, rfl, rfl, rfl, trivial⟩ rfl
  try simp only [sQ, ne_eq] at g4
  rw [List.take_of_length_le (by omega)] at hs
  refine ZT (Zah (ZZ (ZH (Zf (Zl (Za (xM (h:=xN (h:=Zd rfl (fun g9 => ?_) (fun g9 => ?_))))))))))
  try simp only [sQ, ne_eq] at g9
  rw [g9] at hs
  refine Ze (xM (h:=xM (h:=xM (h:=xB [(0, _), (1, _)] [_, _] [_, _] Zts ZdI (h:=xBs [(0, _)] [_, _] Tryz.underlying65 ZbH ZdI (h:=fun b23 => Zo (Zba (z := ⟨u, r⟩) (R := ZL) 0 rfl hv rfl rfl rfl ZqC Zpw rfl rfl (ZaM.box 1 rfl) rfl rfl (⟨rfl, by first | assumption | omega | (simp; done) | (simp; omega)⟩) (by first | omega | (simp; done) | (simp; omega)) (fun l24 p24 c24 hv24 => ?_))))))))
  refine xA (h:=Zf (Zl (Za (xM (h:=Zo (ZhQ 0 rfl rfl rfl Zsl rfl (ZaL.borrow fun hm25 => Zgf _ _ _ _ (hv24.lend ZL.mono hm25 (by first | omega | (simp; done) | (simp; omega)))) ?_))))))
  refine xN (h:=Zv [_, _] rfl (Zd rfl (fun g7 => ?_) (fun g7 => ?_)))
  try simp only [sQ, ne_eq] at g7
  rw [Zl6 hin (by rw [ZgZ hs]; exact g7)]
  refine Za (xBs [] [] Tryz.underlying65 ZbH ZdI (h:=fun b26 => xM (h:=Zo (ZaN (R := ZL) 2 rfl (Z2.lit0 (R := ZL)) rfl rfl rfl ZqC Zpw rfl rfl rfl hg.rows ZL.one rfl (by first | omega | (simp; done) | (simp; omega)) (fun l27 p27 c27 hv27 => ?_)))))
  refine xA (h:=xA (h:=Zv [_, _, _] rfl (Zh (Zs ?_))))
  exact Zad .ret (.inl rfl) [_, _] [2] rfl ⟨rfl, rfl, trivial⟩ ⟨_, _, _, rfl, rfl, hv27⟩
  try simp only [sQ, ne_eq] at g7
  rw [Zj2 hin (by rw [ZgZ hs]; simpa using g7), ZgZ hs]
  refine Zj (Zf (Za (xM (h:=xA (h:=xA (h:=Zh ?_))))))
  exact Zad .ret (.inl rfl) [_, _] [0] rfl ⟨rfl, rfl, trivial⟩ ⟨_, _, _, rfl, rfl, hv24⟩
  try simp only [sQ, ne_eq] at g9
  rw [show g.e = true by simpa using g9] at hs
  refine Zj (Zf (Zl (Za (xM (h:=Zo (ZhQ 0 rfl rfl rfl Zsl rfl (ZaL.borrow fun hm28 => Zgf _ _ _ _ (hv.lend ZL.mono hm28 (by first | omega | (simp; done) | (simp; omega)))) ?_))))))
  refine xN (h:=Zd rfl (fun g7 => ?_) (fun g7 => ?_))
  try simp only [sQ, ne_eq] at g7
  rw [Zl6 hin (by rw [ZgY hs]; exact g7)]
  refine Za (xBs [] [] Tryz.underlying65 ZbH ZdI (h:=fun b29 => xM (h:=Zo (ZaN (R := ZL) 1 rfl (Z2.lit0 (R := ZL)) rfl rfl rfl ZqC Zpw rfl rfl rfl hg.rows ZL.one rfl (by first | omega | (simp; done) | (simp; omega)) (fun l30 p30 c30 hv30 => ?_)))))
  refine xA (h:=xA (h:=Zv [_, _] rfl (Zh (Zs ?_))))
  exact Zad .ret (.inl rfl) [_, _] [1] rfl ⟨rfl, rfl, trivial⟩ ⟨_, _, _, rfl, rfl, hv30⟩
  try simp only [sQ, ne_eq] at g7
  rw [Zj2 hin (by rw [ZgY hs]; simpa using g7), ZgY hs]
  refine Zj (Zf (Za (xM (h:=xA (h:=xA (h:=Zh ?_))))))
  exact Zad .ret (.inl rfl) [_, _] [0] rfl ⟨rfl, rfl, trivial⟩ ⟨_, _, _, rfl, rfl, hv⟩

set_option maxHeartbeats 400000 in
theorem Zmp (q1 q2 q3:Option Addr) (c1 c2 c3:Nat) (x:DHost) (by_ o n u:Str) (r:Int) (hbl:by_.length≤2000000) (hol:o.length≤2000000) (hnl:n.length≤2000000) (hul:u.length≤2000000) (hd:x.domain.length≤2000000) (B:Kn) (hu:SlK B q1 c1 3 Zg x.users) (hf:SlK B q2 c2 5 Zb x.folders) (hi:SlK B q3 c3 4 Zi x.queue.items):ZA (pj J) 179 [.agg #[str x.domain,.slice q1 x.users.length c1,.slice q2 x.folders.length c2,.int .i64 x.queue.next,.slice q3 x.queue.items.length c3],str by_,str o,str n,str u,.int .i64 r] B [] (fun v B' Ls=>Ls=[]∧∃p1 d1 p2 d2 p3 d3,v = .tuple #[.agg #[str (Zb1 x by_ o n u r).1.domain,.slice p1 (Zb1 x by_ o n u r).1.users.length d1,.slice p2 (Zb1 x by_ o n u r).1.folders.length d2,.int .i64 (Zb1 x by_ o n u r).1.queue.next,.slice p3 (Zb1 x by_ o n u r).1.queue.items.length d3],.int .i64 (Zb1 x by_ o n u r).2]∧SlK B' p1 d1 3 Zg (Zb1 x by_ o n u r).1.users∧SlK B' p2 d2 5 Zb (Zb1 x by_ o n u r).1.folders∧SlK B' p3 d3 4 Zi (Zb1 x by_ o n u r).1.queue.items∧(Zb1 x by_ o n u r).1.domain.length≤2000000):=by
 refine Zc 76 Tryz.func179 rfl rfl rfl (Nat.le_of_ble_eq_true rfl) ?_
 have hun:=hu.len
 have hfn:=hf.len
 have hin:=hi.len
 have hix:=ZeA (inF o n) x.folders
 refine Za (xBx [_,_,_,_,_] (h:=fun b1=>xAl [_,_,_,_,_] ZaW (h:=fun b2=>xA (h:=Zv [_,_] rfl (Zl (Za (xL [_,_,_,_,_] Z1 0 (h:=xR Zrc rfl (ZbF _ _ _ _ _ _ x om2 _ hu hf hi) (h:=?_)))))))))
 refine xN (h:=xM (h:=Zt (d:=22) rfl (fun g1=>?_) (fun g1=>?_)))
 try simp only [sQ,ne_eq] at g1
 rw [Zb1,if_pos (by simp [g1])]
 refine xP (h:=xP (h:=xP (h:=xT (h:=Zd (t:=true) rfl (fun _=>Za (xB [] [_,_,_,_,_] [_,_,_,_,_] ZdS ZaW (h:=xS [_,_,_,_,_] 1 [_,_,_,_,_] Zav (h:=xA (h:=Zv [_,_] rfl (Zh (Zs ?_))))))) (fun h=>Bool.noConfusion h)))))
 exact Zad .ret (.inl rfl) [_,_] [] rfl ⟨⟨_,rfl,.inr ⟨[_,_,_,_,_],Z1,Zaf 1 rfl rfl rfl,rfl⟩⟩,rfl,trivial⟩ ⟨rfl,none,0,none,0,none,0,rfl,SlK.nil,SlK.nil,SlK.nil,by simp [ZaQ]⟩
 try simp only [sQ,ne_eq] at g1
 refine xM (h:=xR Zvy rfl (Zio _ _) (h:=xN (h:=xF (h:=Zd rfl (fun g2=>?_) (fun g2=>?_)))))
 try simp only [sQ,ne_eq] at g2
 rw [Zb1,if_pos (by simp [g2])]
 refine Za (xB [] [_,_,_,_,_] [_,_,_,_,_] ZdS ZaW (h:=xS [_,_,_,_,_] 1 [_,_,_,_,_] Zav (h:=xA (h:=Zv [_,_] rfl (Zh (Zs ?_))))))
 exact Zad .ret (.inl rfl) [_,_] [] rfl ⟨⟨_,rfl,.inr ⟨[_,_,_,_,_],Z1,Zaf 1 rfl rfl rfl,rfl⟩⟩,rfl,trivial⟩ ⟨rfl,none,0,none,0,none,0,rfl,SlK.nil,SlK.nil,SlK.nil,by simp [ZaQ]⟩
 try simp only [sQ,ne_eq] at g2
 have hok:ZJ x=true:=by simpa using g1
 have hrr:=Zcx hok
 have hnn : ¬ ¬ (ZJ x=true∧ZdO r=true):=fun h=>h ⟨hok,by simpa using g2⟩
 refine Zj (Zf (Za (xL [_,_,_,_,_] Z1 0 (h:=Zo (Zaa rfl rfl ZnQ rfl (Zbe _ _ _ _ _ _ x _ hu hf hi) ?_)))))
 rintro _ B5 _ hle5 ⟨l5,a5,c5,q15,c15,q35,c35,rfl,rfl,hu5,hs5,hi5⟩
 replace hu:=hu.mono Zg.mono hle5
 replace hf:=hf.mono Zb.mono hle5
 replace hi:=hi.mono Zi.mono hle5
 have hu5n:=hu5.len
 have hi5n:=hi5.len
 refine xAl [_,_,_,_,_] ZaW (h:=fun b6=>xS [_,_,_,_,_] 3 [_,_,_,_,_] Zav (h:=Zv [_,_,_,_] rfl (Za (xL [_,_,_,_,_] Z1 0 (h:=xM (h:=xM (h:=xR Zua rfl (Zdv _ _ _ _ _ _ x o n om2 om2 _ hf) (h:=?_))))))))
 refine xA (h:=Za (xL [_,_,_,_,_] Z1 0 (h:=xM (h:=xM (h:=xR Zvu rfl (Zei _ _ _ _ _ _ x by_ (Zbc (inF o n) x.folders) 32 oz hrr oz _ hu hf) (h:=?_))))))
 refine xA (h:=Zl (Zp (Za (xM (h:=ZbR (h:=xA (h:=Zd rfl (fun g3=>?_) (fun g3=>?_))))))))
 try simp only [sQ,ne_eq] at g3
 refine Za (xL [_,_,_,_,_] Z1 3 (h:=Z5 2 rfl hs5 Zb.mono om3 (fun B9 hle9 hr9=>?_)))
 replace hu:=hu.mono Zg.mono hle9
 replace hf:=hf.mono Zb.mono hle9
 replace hi:=hi.mono Zi.mono hle9
 replace hu5:=hu5.mono Zg.mono hle9
 replace hi5:=hi5.mono Zi.mono hle9
 have hr9n:=hr9.len
 refine xM (h:=?_)
 rw [Zb1,if_neg hnn,if_pos g3]
 refine xS [_,_,_,_,_] 1 [_,_,_,_,_] Zav (h:=xA (h:=Zv [_,_,_,_] rfl (Zh (ZE (Zs ?_)))))
 exact Zad .ret (.inl rfl) [_,_] [] rfl ⟨⟨_,rfl,.inr ⟨[_,_,_,_,_],Z1,Zaf 1 rfl rfl rfl,rfl⟩⟩,rfl,trivial⟩ ⟨rfl,_,_,_,_,_,_,(by first | rfl | (simp only [DHost.withFolders,List.length_set];rfl)),hu5,hr9,hi5,by first | assumption | (rw [ZU.2.2.1];assumption)⟩
 try simp only [sQ,ne_eq] at g3
 refine Za (xM (h:=Zg0 (h:=xM (h:=Zt (d:=46) rfl (fun g4=>?_) (fun g4=>?_)))))
 try simp only [sQ,ne_eq] at g4
 refine xW ZbD (h:=x1 ZhC 0 (h:=xM (h:=xR ZsY rfl (ZcZ _ _ _ _ _ hu) (h:=Zag (h:=xT (h:=xA (h:=Zd rfl (fun g5=>?_) (fun g5=>?_))))))))
 try simp only [sQ,ne_eq] at g5
 refine Za (xL [_,_,_,_,_] Z1 3 (h:=Z5 2 rfl hs5 Zb.mono om3 (fun B11 hle11 hr11=>?_)))
 replace hu:=hu.mono Zg.mono hle11
 replace hf:=hf.mono Zb.mono hle11
 replace hi:=hi.mono Zi.mono hle11
 replace hu5:=hu5.mono Zg.mono hle11
 replace hi5:=hi5.mono Zi.mono hle11
 have hr11n:=hr11.len
 refine xS [_,_,_,_,_] 1 [_,_,_,_,_] Zav (h:=?_)
 rw [Zb1,if_neg hnn,if_neg (fun h=>h g3),if_pos ⟨g4,g5⟩]
 refine xA (h:=Zv [_,_,_,_] rfl (Zh (ZE (Zs ?_))))
 exact Zad .ret (.inl rfl) [_,_] [] rfl ⟨⟨_,rfl,.inr ⟨[_,_,_,_,_],Z1,Zaf 1 rfl rfl rfl,rfl⟩⟩,rfl,trivial⟩ ⟨rfl,_,_,_,_,_,_,(by first | rfl | (simp only [DHost.withFolders,List.length_set];rfl)),hu5,hr11,hi5,by first | assumption | (rw [ZU.2.2.1];assumption)⟩
 try simp only [sQ,ne_eq] at g5
 have hne : ¬ (u≠anyone∧Zdw x.users u<0):=fun h=>absurd h.2 oz
 obtain ⟨_,hk0,_,_,_⟩:=Zeq g3
 have hge:Zb1 x by_ o n u r=Ze7 x (Zbc (inF o n) x.folders).toNat u r:=by rw [Zb1,if_neg hnn,if_neg (fun h=>h g3),if_neg hne]
 refine Zj (Zz (Zf (Za (xW Z9 (h:=x1 ZcN 0 (h:=xM (h:=?_)))))))
 obtain ⟨fd,hfd⟩:=ZeP (xs:=x.folders) (i:=(Zbc (inF o n) x.folders)) om om
 obtain ⟨bb13,oo13,rfl⟩:=hf.base hfd
 obtain ⟨_,⟨qg14,cg14,qm14,cm14,rfl,hg14,hm14,hb14,hb14b⟩,hc14⟩:=hf.elem hfd
 have hg14n:=hg14.len
 have hm14n:=hm14.len
 have hm14s:=Zac hm14
 refine xIx Tryz.underlying24 Zbw (h:=?_)
 have hacl:=Zfq fd.grants u r
 have hfg:=Zgr (Zbu hok hfd)
 refine xW ZdV (h:=y1 ZrM hc14 2 (h:=xM (h:=xM (h:=Zo (Zaa rfl rfl Zuh rfl (ZeW _ _ fd.grants u r om2 _ hg14) ?_)))))
 rintro _ B15 _ hle15 ⟨l15,a15,c15,rfl,rfl,hs15⟩
 replace hu:=hu.mono Zg.mono hle15
 replace hf:=hf.mono Zb.mono hle15
 replace hi:=hi.mono Zi.mono hle15
 replace hg14:=hg14.mono ZL.mono hle15
 replace hm14:=hm14.mono ZM.mono hle15
 replace hc14:=hc14.mono hle15
 replace hs5:=hs5.mono Zb.mono hle15
 replace hu5:=hu5.mono Zg.mono hle15
 replace hi5:=hi5.mono Zi.mono hle15
 have hs15n:=hs15.cap
 replace hs15:=hs15.anyK (B':=B15) ZL.any
 refine xM (h:=xE (h:=xE (h:=xA (h:=Z5 4 rfl hs15 ZL.mono om3 (fun B16 hle16 hr16=>?_)))))
 replace hu:=hu.mono Zg.mono hle16
 replace hf:=hf.mono Zb.mono hle16
 replace hi:=hi.mono Zi.mono hle16
 replace hg14:=hg14.mono ZL.mono hle16
 replace hm14:=hm14.mono ZM.mono hle16
 replace hc14:=hc14.mono hle16
 replace hs5:=hs5.mono Zb.mono hle16
 replace hu5:=hu5.mono Zg.mono hle16
 replace hi5:=hi5.mono Zi.mono hle16
 have hr16n:=hr16.len
 refine xA (h:=Zv [_,_,_,_,_] rfl (Zl (Za (xM (h:=xN (h:=Zd rfl (fun g6=>?_) (fun g6=>?_)))))))
 try simp only [sQ,ne_eq] at g6
 refine Za (xL [_,_,_,_,_] Z1 3 (h:=Z5 2 rfl hs5 Zb.mono om3 (fun B17 hle17 hr17=>?_)))
 replace hu:=hu.mono Zg.mono hle17
 replace hf:=hf.mono Zb.mono hle17
 replace hi:=hi.mono Zi.mono hle17
 replace hr16:=hr16.mono ZL.mono hle17
 replace hu5:=hu5.mono Zg.mono hle17
 replace hi5:=hi5.mono Zi.mono hle17
 have hr17n:=hr17.len
 refine xS [_,_,_,_,_] 1 [_,_,_,_,_] Zav (h:=?_)
 rw [hge,ZjN hfd g6]
 refine xA (h:=Zv [_,_,_,_,_] rfl (Zh (Zs ?_)))
 exact Zad .ret (.inl rfl) [_,_] [] rfl ⟨⟨_,rfl,.inr ⟨[_,_,_,_,_],Z1,Zaf 1 rfl rfl rfl,rfl⟩⟩,rfl,trivial⟩ ⟨rfl,_,_,_,_,_,_,(by first | rfl | (simp only [DHost.withFolders,List.length_set];rfl)),hu5,hr17,hi5,by first | assumption | (rw [ZU.2.2.1];assumption)⟩
 try simp only [sQ,ne_eq] at g6
 refine Zj (Zf (Za (xW Z9 (h:=x1 ZcN 3 (h:=xM (h:=xM (h:=?_)))))))
 obtain ⟨bb18,_,hp18,⟨qg18,cg18,qm18,cm18,rfl,hg18,hm18,hb18,hb18b⟩,hw18,hc18⟩:=hs5.row hfd
 have hg18n:=hg18.len
 have hm18n:=hm18.len
 have hm18s:=Zac hm18
 refine xIp hp18 Tryz.underlying24 Zbw (h:=xW ZdV (h:=Zo (Zes (k:=((Zbc (inF o n) x.folders)).toNat) (off:=2) (⟨fd.owner,fd.name,(Zb3 fd.grants u r).1,fd.next,fd.mail⟩) [_] 2 hs5 hp18 hfd rfl rfl ZuZ rfl rfl rfl rfl rfl rfl (by rintro _ ⟨_,_,_,_,rfl,_,e2,e3,e4⟩;exact ⟨_,_,_,_,rfl,hr16,e2,e3,e4⟩) (fun l19 hv19=>?_))))
 refine Zv [_,_,_,_,_] rfl (Za (xL [_,_,_,_,_] Z1 3 (h:=Z5 2 rfl hv19 Zb.mono om3 (fun B20 hle20 hr20=>?_))))
 replace hu:=hu.mono Zg.mono hle20
 replace hf:=hf.mono Zb.mono hle20
 replace hi:=hi.mono Zi.mono hle20
 replace hr16:=hr16.mono ZL.mono hle20
 replace hu5:=hu5.mono Zg.mono hle20
 replace hi5:=hi5.mono Zi.mono hle20
 have hr20n:=hr20.len
 refine xS [_,_,_,_,_] 1 [_,_,_,_,_] Zav (h:=?_)
 rw [hge,ZiF hfd (by simpa using g6)]
 refine xA (h:=Zv [_,_,_,_,_] rfl (Zh ?_))
 exact Zad .ret (.inl rfl) [_,_] [] rfl ⟨⟨_,rfl,.inr ⟨[_,_,_,_,_],Z1,Zaf 1 rfl rfl rfl,rfl⟩⟩,rfl,trivial⟩ ⟨rfl,_,_,_,_,_,_,(by first | rfl | (simp only [DHost.withFolders,List.length_set];rfl)),hu5,hr20,hi5,by first | assumption | (rw [ZU.2.2.1];assumption)⟩
 try simp only [sQ,ne_eq] at g4
 have hne : ¬ (u≠anyone∧Zdw x.users u<0):=fun h=>h.1 g4
 obtain ⟨_,hk0,_,_,_⟩:=Zeq g3
 have hge:Zb1 x by_ o n u r=Ze7 x (Zbc (inF o n) x.folders).toNat u r:=by rw [Zb1,if_neg hnn,if_neg (fun h=>h g3),if_neg hne]
 refine xP (h:=xP (h:=xP (h:=xP (h:=xP (h:=xF (h:=xA (h:=Zd (t:=false) rfl (fun h=>Bool.noConfusion h) (fun _=>Zj (Zz (Zf (Za (xW Z9 (h:=x1 ZcN 0 (h:=?_))))))))))))))
 refine xM (h:=?_)
 obtain ⟨fd,hfd⟩:=ZeP (xs:=x.folders) (i:=(Zbc (inF o n) x.folders)) om om
 obtain ⟨bb22,oo22,rfl⟩:=hf.base hfd
 obtain ⟨_,⟨qg23,cg23,qm23,cm23,rfl,hg23,hm23,hb23,hb23b⟩,hc23⟩:=hf.elem hfd
 have hg23n:=hg23.len
 have hm23n:=hm23.len
 have hm23s:=Zac hm23
 refine xIx Tryz.underlying24 Zbw (h:=?_)
 have hacl:=Zfq fd.grants u r
 have hfg:=Zgr (Zbu hok hfd)
 refine xW ZdV (h:=y1 ZrM hc23 2 (h:=xM (h:=xM (h:=Zo (Zaa rfl rfl Zuh rfl (ZeW _ _ fd.grants u r om2 _ hg23) ?_)))))
 rintro _ B24 _ hle24 ⟨l24,a24,c24,rfl,rfl,hs24⟩
 replace hu:=hu.mono Zg.mono hle24
 replace hf:=hf.mono Zb.mono hle24
 replace hi:=hi.mono Zi.mono hle24
 replace hg23:=hg23.mono ZL.mono hle24
 replace hm23:=hm23.mono ZM.mono hle24
 replace hc23:=hc23.mono hle24
 replace hs5:=hs5.mono Zb.mono hle24
 replace hu5:=hu5.mono Zg.mono hle24
 replace hi5:=hi5.mono Zi.mono hle24
 have hs24n:=hs24.cap
 replace hs24:=hs24.anyK (B':=B24) ZL.any
 refine xM (h:=xE (h:=xE (h:=xA (h:=Z5 4 rfl hs24 ZL.mono om3 (fun B25 hle25 hr25=>?_)))))
 replace hu:=hu.mono Zg.mono hle25
 replace hf:=hf.mono Zb.mono hle25
 replace hi:=hi.mono Zi.mono hle25
 replace hg23:=hg23.mono ZL.mono hle25
 replace hm23:=hm23.mono ZM.mono hle25
 replace hc23:=hc23.mono hle25
 replace hs5:=hs5.mono Zb.mono hle25
 replace hu5:=hu5.mono Zg.mono hle25
 replace hi5:=hi5.mono Zi.mono hle25
 have hr25n:=hr25.len
 refine xA (h:=Zv [_,_,_,_,_] rfl (Zl (Za (xM (h:=xN (h:=Zd rfl (fun g6=>?_) (fun g6=>?_)))))))
 try simp only [sQ,ne_eq] at g6
 refine Za (xL [_,_,_,_,_] Z1 3 (h:=Z5 2 rfl hs5 Zb.mono om3 (fun B26 hle26 hr26=>?_)))
 replace hu:=hu.mono Zg.mono hle26
 replace hf:=hf.mono Zb.mono hle26
 replace hi:=hi.mono Zi.mono hle26
 replace hr25:=hr25.mono ZL.mono hle26
 replace hu5:=hu5.mono Zg.mono hle26
 replace hi5:=hi5.mono Zi.mono hle26
 have hr26n:=hr26.len
 refine xS [_,_,_,_,_] 1 [_,_,_,_,_] Zav (h:=?_)
 rw [hge,ZjN hfd g6]
 refine xA (h:=Zv [_,_,_,_,_] rfl (Zh (Zs ?_)))
 exact Zad .ret (.inl rfl) [_,_] [] rfl ⟨⟨_,rfl,.inr ⟨[_,_,_,_,_],Z1,Zaf 1 rfl rfl rfl,rfl⟩⟩,rfl,trivial⟩ ⟨rfl,_,_,_,_,_,_,(by first | rfl | (simp only [DHost.withFolders,List.length_set];rfl)),hu5,hr26,hi5,by first | assumption | (rw [ZU.2.2.1];assumption)⟩
 try simp only [sQ,ne_eq] at g6
 refine Zj (Zf (Za (xW Z9 (h:=x1 ZcN 3 (h:=xM (h:=xM (h:=?_)))))))
 obtain ⟨bb27,_,hp27,⟨qg27,cg27,qm27,cm27,rfl,hg27,hm27,hb27,hb27b⟩,hw27,hc27⟩:=hs5.row hfd
 have hg27n:=hg27.len
 have hm27n:=hm27.len
 have hm27s:=Zac hm27
 refine xIp hp27 Tryz.underlying24 Zbw (h:=xW ZdV (h:=Zo (Zes (k:=((Zbc (inF o n) x.folders)).toNat) (off:=2) (⟨fd.owner,fd.name,(Zb3 fd.grants u r).1,fd.next,fd.mail⟩) [_] 2 hs5 hp27 hfd rfl rfl ZuZ rfl rfl rfl rfl rfl rfl (by rintro _ ⟨_,_,_,_,rfl,_,e2,e3,e4⟩;exact ⟨_,_,_,_,rfl,hr25,e2,e3,e4⟩) (fun l28 hv28=>?_))))
 refine Zv [_,_,_,_,_] rfl (Za (xL [_,_,_,_,_] Z1 3 (h:=Z5 2 rfl hv28 Zb.mono om3 (fun B29 hle29 hr29=>?_))))
 replace hu:=hu.mono Zg.mono hle29
 replace hf:=hf.mono Zb.mono hle29
 replace hi:=hi.mono Zi.mono hle29
 replace hr25:=hr25.mono ZL.mono hle29
 replace hu5:=hu5.mono Zg.mono hle29
 replace hi5:=hi5.mono Zi.mono hle29
 have hr29n:=hr29.len
 refine xS [_,_,_,_,_] 1 [_,_,_,_,_] Zav (h:=?_)
 rw [hge,ZiF hfd (by simpa using g6)]
 refine xA (h:=Zv [_,_,_,_,_] rfl (Zh ?_))
 exact Zad .ret (.inl rfl) [_,_] [] rfl ⟨⟨_,rfl,.inr ⟨[_,_,_,_,_],Z1,Zaf 1 rfl rfl rfl,rfl⟩⟩,rfl,trivial⟩ ⟨rfl,_,_,_,_,_,_,(by first | rfl | (simp only [DHost.withFolders,List.length_set];rfl)),hu5,hr29,hi5,by first | assumption | (rw [ZU.2.2.1];assumption)⟩

end Go.Proofs.YtpgdailphhongaaGreatDoor
