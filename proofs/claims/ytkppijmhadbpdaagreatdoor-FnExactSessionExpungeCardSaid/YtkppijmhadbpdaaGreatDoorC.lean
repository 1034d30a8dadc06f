/-
  WHAT THE FUNCTIONS THAT THE LAWS REACH COMPUTE: each function's contract, proved off its printed body (the text is written by program). No condition beyond those that each theorem states.
-/
import Derived.Test.YtkppijmhadbpdaaGreatDoorC2
namespace Go.Proofs.YtkppijmhadbpdaaGreatDoor
open Go Go.BL
set_option linter.unusedVariables false
set_option linter.unusedSimpArgs false
set_option maxRecDepth 4000
set_option maxHeartbeats 6400000
variable {J : JoinT}
theorem Ziq (q:Option Addr) (cp:Nat) (xs:List Int) (k m n:Nat) (hmn:m=n) (he:xs=Zee k n) (hk:k+1*n≤900000000000000) (B:Kn) (hx0:SlK B q cp 1 Zag xs):Zaa (pj J) 30 [.slice q m cp,.int .i64 k] B (.int .i64 ((k+1*n:Nat):Int)):=by
 refine cB 21 Tryz.func30 (h:=?_)
 have hxn:=hx0.len
 have hxl:xs.length=n:=by rw [he];exact ZeN _ _
 refine Za (xA (h:=Zc (Za (xA (h:=Zh (Zz (α:=Nat) [0] (fun g=>[(1,.int .i64 ((k+1*g:Nat):Int)),(5,.int .i64 g)]) [] (fun g=>[]) (fun g Bx=>Bx=B∧g≤n) (fun g=>n - g) 0 t2 rfl (⟨rfl,Nat.zero_le _⟩) (fun g B1 hle1 hI=>?_)))))))
 obtain ⟨rfl,hi⟩:=hI
 refine ZC [(0,_),(1,_),(5,_)] [] t3 rfl (Zc (Za (xM (h:=xM (h:=xV Tryz.underlying65 (h:=ZF (h:=Zb rfl (fun g1=>?_) (fun g1=>?_))))))))
 try simp only [sQ,ne_eq] at g1
 have hx:xs[g]? = some (((k+1*g:Nat):Int):Int):=by rw [he];exact ZnA oz
 refine wSk (Zc (Zh (Zc (Za (xM (h:=xM (h:=?_)))))))
 obtain ⟨bb2,oo2,rfl⟩:=hx0.base hx
 obtain ⟨_,rfl,hc3⟩:=hx0.elem hx
 refine xIx Tryz.underlying65 sz3 (h:=y1 lk3 hc3 0 (h:=xM (h:=ZaL (h:=Zb rfl (fun h1=>by simp at h1) (fun h1=>?_)))))
 try simp only [sQ,ne_eq] at h1
 refine wSk (Zf (xM (h:=xD (h:=xA (h:=ZP (Zo (Zf (xM (h:=xD (h:=xA (h:=?_)))))))))))
 exact ZD (g+1) [] so2 ⟨rfl,oz⟩ t3 rfl
 try simp only [sQ,ne_eq] at g1
 refine ZE (ZV (ZH (Zw (Zo (Za (xM (h:=xA (h:=Ze ?_))))))))
 exact eR t1 ⟨ZG (by rw [show g=n from by omega]),rfl,rfl⟩

theorem Zkg (b:Nat) (xs:List DMail) (s:Cells) (hn:xs.length≤2000000) (B:Kn) (hs:MLw 195 198 b xs s):Zv (pj J) 123 [ptr ⟨b,0,none⟩] B [s] (fun v B' Ls=>B'=B∧∃l a c,Ls=[l]∧v = .slice a xs.length c∧ZN Kn.none l a c 99 3 Z6 xs):=by
 refine cB 28 Tryz.func123 (h:=?_)
 obtain ⟨p,vl,n0,s0,hn0,hp,hl⟩:=hs
 refine Zel 0 rfl hp (tL2 (Za (xA (h:=Za (xM (h:=xNc (h:=xW ZhG (h:=x1 lk3 0 (h:=Zk (Za2 (m:=0) (c:=n0) (by_:=32) [.int .i64 0,.int .i64 0,.string ⟨#[]⟩] rfl rfl ZuZ Zn9 rfl rfl ⟨_,_,rfl,by first | omega | (simp;done) | (simp;omega)⟩ ⟨_,_,rfl,by first | omega | (simp;done) | (simp;omega)⟩ om om (fun b1=>?_)))))))))))
 have hv1:=ZN.zeros (B:=Kn.none) (b:=b1) (T:=99) (R:=Z6) (d:=(⟨0,0,[]⟩:DMail)) (m:=0) (c:=n0) (zs:=[.int .i64 0,.int .i64 0,.string ⟨#[]⟩]) rfl (⟨rfl,by simp⟩) om
 refine xA (h:=tL3 (Zc (Za (xM (h:=xNc (h:=xW ZlZ (h:=x1 Zh2 0 (h:=xA (h:=Zh (Zz (α:=MOf) [0,2] (fun g=>[(3,.slice g.q g.ys.length g.c),(4,.pointer g.p)]) [1,2] (fun g=>[g.cells,g.l]) (fun g Bx=>Bx=B∧g.ys ++ g.xs=xs∧Ze4 198 (.pointer g.p) g.xs g.cells∧ZN Kn.none g.l g.q g.c 99 3 Z6 g.ys) (fun g=>g.xs.length) ⟨p,[],xs,_,_,_,_⟩ t2 rfl (⟨rfl,rfl,hl,hv1⟩) (fun g B2 hle2 hI=>?_)))))))))))
 obtain ⟨rfl,hxs,hl,hv⟩:=hI
 refine ZC [(0,_),(2,_),(3,_),(4,_)] [_,_,_] t4 rfl (Zc (Za (xM (h:=Zk (Zom rfl rfl rfl rfl rfl (Zf3 Tryz.underlying193) (Zb rfl (fun g1=>?_) (fun g1=>?_)))))))
 obtain ⟨y,ys,b8,np,rest8,hp8,hrest,hperm,hy8,hl8⟩:=hl.more (by simpa using g1)
 rw [hp8]
 have hlen:=congrArg List.length hxs
 rw [List.length_append,hrest,List.length_cons] at hlen
 replace hlen:g.ys.length+1≤2000000:=by omega
 refine Zel 1 rfl hperm (tL4 (wSk (Zc (Zh (Zf (xM (h:=xM (h:=xNc (h:=xW ZpW (h:=xL [_,_,_] ZmI 1 (h:=xBs [(0,_)] [_,_,_] Tryz.underlying91 Zf7 Zn9 (h:=fun b3=>Zk (Zhc (z:=⟨y.uid,y.flags,y.text⟩) (R:=Z6) 2 rfl hv rfl rfl rfl ZuZ Zwv rfl rfl (ZcG.box 4 rfl) rfl rfl (⟨rfl,by first | assumption | omega | (simp;done) | (simp;omega)⟩) om (fun l4 p4 c4 hv4=>?_))))))))))))))
 refine xA (h:=ZP (Zo (Zf (xM (h:=xNc (h:=xW Zjd (h:=x1 Zh2 1 (h:=xA (h:=?_)))))))))
 exact ZD ⟨np,g.ys ++ [y],ys,l4,p4,c4,rest8⟩ [0,3,2] (by rw [hrest];simp) ⟨rfl,by rw [← hxs,hrest];simp,hl8,hv4⟩ t4 rfl
 rw [hl.done (by simpa using g1),List.append_nil] at hxs
 subst hxs
 refine ZE (ZV (ZH (Zw (Zo (Za (xM (h:=xA (h:=Ze ?_))))))))
 exact eN [2] rfl t1 ⟨rfl,_,_,_,rfl,rfl,hv⟩

theorem Zl0 (a o:Int) (B:Kn):Zaa (pj J) 122 [.int .i64 a,.int .i64 o] B (.bool ((Zct a && Zct o) && decide (Ztk a o=o))):=by
 refine cB 18 Tryz.func122 (h:=?_)
 refine Za (xA (h:=Za (xM (h:=xR ZuJ rfl (Zfu _ _) (h:=xM (h:=Zy (d:=7) rfl (fun g1=>?_) (fun g1=>?_)))))))
 refine xM (h:=xR ZuJ rfl (Zfu _ _) (h:=xT (h:=xM (h:=Zy (d:=11) rfl (fun g2=>?_) (fun g2=>?_)))))
 refine xM (h:=xM (h:=Zk (ZsZ rfl rfl rfl rfl (xM (h:=ZjC (h:=xT (h:=xA (h:=Ze ?_))))))))
 exact eR t1 ⟨Zd (by simp [Zct] at *;try omega),rfl,rfl⟩
 refine xP (h:=xP (h:=xP (h:=xP (h:=xP (h:=xF (h:=xA (h:=Ze ?_)))))))
 exact eR t1 ⟨Zd (by simp [Zct] at *;try omega),rfl,rfl⟩
 refine xP (h:=xP (h:=xF (h:=xM (h:=xP (h:=xP (h:=xP (h:=xP (h:=xP (h:=xF (h:=xA (h:=Ze ?_)))))))))))
 exact eR t1 ⟨Zd (by simp [Zct] at *;try omega),rfl,rfl⟩

theorem ZpA (q:Option Addr) (cp:Nat) (x:DBox) (B:Kn) (hx:SlK B q cp 3 Z6 x.mail):Zv (pj J) 69 [.agg #[.int .i64 x.next,.slice q x.mail.length cp]] B [] (fun v B' Ls=>∃l a c l' a' c',Ls=[l,l']∧v = .tuple #[.agg #[.int .i64 (expunge x).1.next,.slice a (expunge x).1.mail.length c],.slice a' (expunge x).2.length c']∧ZN Kn.none l a c 99 3 Z6 (expunge x).1.mail∧ZN Kn.none l' a' c' 3 1 Zag (expunge x).2):=by
 refine cB 57 Tryz.func69 (h:=?_)
 have hxn:=hx.len
 refine Za (xBx [_,_] (h:=fun b1=>xAl [_,_] Zm4 (h:=fun b2=>xA (h:=tL2 (Za (xBs [] [] Tryz.underlying65 sz3 zo3 (h:=fun b3=>xA (h:=tL3 (Zc (Za (xL [_,_] ZgV 0 (h:=xR ZuL rfl (Zhw _ _ (⟨x.next,x.mail⟩:DBox) _ hx) (h:=xN (h:=Zb rfl (fun g1=>?_) (fun g1=>?_)))))))))))))))
 refine Za (xB [] [_,_] [_,_] ZvC Zm4 (h:=Zo9 (xM (h:=?_))))
 rw [expunge,if_neg (by simpa using g1)]
 refine xS [_,_] 1 [_,_] Zmr (h:=xA (h:=tL4 (Ze (Zn ?_))))
 exact ZeC .ret (.inl rfl) [_,_] [3,2] rfl ⟨⟨_,rfl,.inr ⟨[_,_],ZgV,ZbT 1 rfl rfl rfl,rfl⟩⟩,rfl,trivial⟩ ⟨_,none,0,_,_,_,rfl,rfl,ZN.nil,ZN.lit0⟩
 have hok:ZcF x=true:=by simpa using g1
 refine wSk (Za (xW Za9 (h:=x1 Zh0 0 (h:=xC ZyW rfl (ZnC _ _ x.mail _ hx) (h:=?_)))))
 rintro _ Bk _ hlek ⟨bk,sk,rfl,rfl,hsk⟩
 refine xA (h:=tL4 ?_)
 obtain ⟨p0,vl0,s0,hp0,hl0⟩:=hsk.chain
 refine Zel 3 rfl hp0 (ZwU (tL6 (Za (xA (h:=Zc (Za (xM (h:=xNc (h:=xW ZlZ (h:=xA (h:=Zh (Zz (α:=ExM) [0,1,2,3,5,11] (fun g=>[(4,.slice g.a g.ys.length g.c),(6,.int .i64 g.n),(7,ptr ⟨g.bl,g.o,none⟩)]) [2,3,4,5] (fun g=>[g.l,ZK g.bl g.cs g.Tc,g.cells,g.rest]) (fun g Bx=>Bx=Bk∧g.don ++ g.xs=x.mail∧g.pre=Zbi g.don∧g.ys=(Zex g.don).2∧g.ys.length≤g.don.length∧g.n=g.pre.length+1∧ZhW 195 198 bk vl0 (.int .i64 x.mail.length) g.bl g.o g.cs g.Tc g.rest g.pre∧g.cs[g.o]? = some (.pointer g.p)∧Ze4 198 (.pointer g.p) g.xs g.cells∧ZN Bx g.l g.a g.c 3 1 Zag g.ys) (fun g=>g.xs.length) ⟨[],[],x.mail,p0,bk,0,[.pointer p0,vl0,.int .i64 x.mail.length],195,[],_,_,_,_,[],1⟩ t3 rfl (⟨rfl,rfl,rfl,rfl,Nat.le_refl _,rfl,.init,rfl,hl0,.lit0⟩) (fun g B6 hle6 hI=>?_)))))))))))))
 obtain ⟨rfl,hdn,hpr,hys,hyl,hnn,hlk,hcs,hl,hv⟩:=hI
 refine ZC [(0,_),(1,_),(2,_),(3,_),(4,_),(5,_),(6,_),(7,_),(11,_)] [_,_,_,_,_,_] t9 rfl (Zc (Za (xM (h:=xNc (h:=Zk (Zm rfl rfl Zh2 rfl (atL 3 rfl rfl hcs) (Zk (Zom rfl rfl rfl rfl rfl (Zf3 Tryz.underlying193) (Zb rfl (fun g2=>?_) (fun g2=>?_))))))))))
 obtain ⟨y,ys,b8,np,rest8,hp8,hrest,hperm,hy8,hl8⟩:=hl.more (by simpa using g2)
 rw [hp8] at hcs ⊢
 have hset:=Zms hcs
 have hcl:=Zbl hcs
 have hyx:x.mail[g.don.length]? = some y:=by rw [← hdn,hrest];simp
 have hlen:=congrArg List.length hdn
 rw [List.length_append,hrest,List.length_cons] at hlen
 have hpq:g.pre.length≤2000000:=by rw [hpr];exact Nat.le_trans (List.length_filter_le _ _) oz
 refine Zel 4 rfl hperm (wSk (Zh (Zc (Za (xM (h:=xNc (h:=Zk (Zm rfl rfl Zh2 rfl (atL 3 rfl rfl hcs) ?_))))))))
 have hfo:Zct y.flags=true:=by
    have hmo:=(ZfF hok).1 y (List.mem_of_getElem? hyx)
    simp only [Zcj,Bool.and_eq_true,decide_eq_true_eq] at hmo
    simp only [Zct,Bool.and_eq_true,decide_eq_true_eq]
    exact hmo.1.2
 refine xNc (h:=xW ZpW (h:=xW Zf0 (h:=x1 lk3 4 (h:=xR ZyV rfl (Zl0 y.flags 8 _) (h:=tL7 (Zb rfl (fun g3=>?_) (fun g3=>?_)))))))
 have hdel:Zjn y=true:=by rw [Zjn,← Zv4 hfo];simpa using g3
 refine Za (xM (h:=xM (h:=xBs [(0,_)] [_] Tryz.underlying65 sz3 zo3 (h:=fun b8=>Zk (Zhc (z:=(↑g.n:Int)) (R:=Zag) 2 rfl hv rfl rfl rfl Zzp Zzh rfl rfl (ZcG.box 7 rfl) rfl rfl (rfl) om (fun l9 p9 c9 hv9=>?_))))))
 refine xA (h:=tL8 (Za (xM (h:=xM (h:=xNc (h:=Zk (Zm rfl rfl Zh2 rfl (atL 3 rfl rfl hcs) (xNc (h:=xW Zjd (h:=x1 Zh2 4 (h:=xNc (h:=Zk (ZM [_] 3 (g.cs.set g.o (.pointer np)) rfl rfl ZoL rfl rfl rfl rfl rfl rfl (by rw [Nat.ble_eq];exact hcl) (ZoV hcl) ?_)))))))))))))
 refine tL8 (ZE (ZV (Zw ?_)))
 exact ZD ⟨g.don ++ [y],g.pre,ys,np,g.bl,g.o,g.cs.set g.o (.pointer np),g.Tc,g.rest,rest8,l9,p9,c9,(g.ys ++ [(↑g.n:Int)]),g.n⟩ [0,1,2,3,6,5] (by rw [hrest];simp) ⟨rfl,by rw [← hdn,hrest];simp,by simp only [];rw [ZlG hdel];exact hpr,by simp only [];rw [Zkv hdel,← hpr,← hnn,← hys],by simp;omega,hnn,hlk.put _,List.getElem?_set_self hcl,hl8,hv9⟩ t9 rfl
 have hdel:Zjn y=false:=by rw [Zjn,← Zv4 hfo];simpa using g3
 refine wSk (Za (xM (h:=xNc (h:=Zk (Zm rfl rfl Zh2 rfl (atL 3 rfl rfl hcs) (xNc (h:=xW Zjd (h:=xA (h:=Zfk 5 3 rfl rfl (by decide) ?_)))))))))
 refine Zf (xM (h:=xD (h:=xA (h:=ZP ?_))))
 exact ZD ⟨g.don ++ [y],g.pre ++ [y],ys,np,b8,3,Ze1 y (.pointer np),198,ZK g.bl g.cs g.Tc ++ g.rest,rest8,g.l,g.a,g.c,g.ys,g.n+1⟩ [0,1,2,4,6,5] (by rw [hrest];simp) ⟨rfl,by rw [← hdn,hrest];simp,by simp only [];rw [Zkm hdel,← hpr],by simp only [];rw [ZlW hdel,← hys],by simp;omega,by simp [hnn],hset ▸ hlk.step hy8,rfl,hl8,hv⟩ t9 rfl
 rw [hl.done (by simpa using g2),List.append_nil] at hdn
 have hpn:g.p=none:=Option.isNone_iff_eq_none.1 (by simpa using g2)
 rw [hpn] at hcs
 have hw9:=hlk.done hxn (Zms hcs) (List.perm_append_comm (l₁:=g.rest) (l₂:=ZK g.bl g.cs g.Tc))
 have hpl:g.pre.length≤2000000:=by rw [hpr,hdn];exact Nat.le_trans (List.length_filter_le _ _) hxn
 refine Zfk 3 5 rfl rfl (by decide) ?_
 refine ZE (ZV (ZH (Zw (Zo (Zc (Z2 (keeps _ [0] _) mo kr ⟨Kn.le.refl _,ZaY.refl _ _⟩ (fun _ _=>?_)))))))
 refine aW 0 rfl ZeA (h:=aT 1 rfl (ZO fun D B L hI=>Zm rfl rfl lk3 rfl (atL 0 (hI.2.1.trans rfl) rfl rfl) r4) (h:=aM 2 rfl (h:=aM 5 rfl (h:=ZA 3 kr rfl kr (Zby [3] rfl rfl rfl rfl ZyU rfl (Zkg _ g.pre _ hpl _ hw9) ?_)))))
 rintro _ B10 _ hle10 ⟨rfl,l10,a10,c10,rfl,rfl,hm10⟩
 refine ⟨⟨Kn.le.refl _,t1⟩,(aT 4 rfl (ZO fun D B L hI=>Zak (parts:=[(0,_),(1,_)]) [_,_] [_,_] rfl rfl ZvC Zm4 rfl rfl rfl r4) (h:=Zbz 6 kr rfl kr kr (ZM [_,_] 1 [_,_] rfl rfl Zmr rfl rfl rfl rfl rfl rfl rfl rfl ?_)))⟩
 refine aA 7 rfl (h:=Zt kr kr ?_)
 refine Zo (tL6 (Ze ?_))
 rw [expunge,if_pos hok,← hdn,← hpr,← hys]
 exact ZeC .ret (.inl rfl) [_,_] [3,2] rfl ⟨⟨_,rfl,.inr ⟨[_,_],ZgV,ZbT 1 rfl rfl rfl,rfl⟩⟩,rfl,trivial⟩ ⟨_,_,_,_,_,_,rfl,rfl,hm10,hv.anyK Zag.any⟩

theorem Zv6 (b be:Nat) (q1 q2 q3:Option Addr) (c1 c2 c3:Nat) (x:DHost) (l1 l2 l3:Cells) (k:Nat) (f:DFolder) (hfx:x.folders[k]? = some f) (hn1:x.users.length≤2000000) (hn2:x.folders.length≤2000000) (qe:Option Addr) (ce:Nat) (le:Cells) (hml:f.mail.length≤10) (a:Nat→Addr) (B:Kn) (hu:ZN Kn.none l1 q1 c1 141 3 Zs x.users) (hf:ZaP l2 q2 c2 96 5 (ZU 259 99) x.folders) (hi:ZaP l3 q3 c3 145 4 (ZaR 9) x.queue.items) (hy:ZN Kn.none le qe ce 3 1 Zag ([]:List Int)):Zv (pj J) 68 [ptr ⟨b,2,none⟩,.int .i64 k,ptr ⟨be,0,none⟩] B [ZK b [.int .i32 1,.int .u32 0,str x.domain,.slice q1 x.users.length c1,.slice q2 x.folders.length c2,.int .i64 x.queue.next,.slice q3 x.queue.items.length c3] 160,l1,l2,l3,ZK be [.slice qe ([]:List Int).length ce] 65,le] (fun v B' Ls=>∃q1' c1' q2' c2' q3' c3' l1' l2' l3' qe' ce' le',Ls=[ZK b [.int .i32 1,.int .u32 0,str (x.withFolders (x.folders.set k (f.withBox (expunge (⟨f.next,f.mail⟩:DBox)).1))).domain,.slice q1' (x.withFolders (x.folders.set k (f.withBox (expunge (⟨f.next,f.mail⟩:DBox)).1))).users.length c1',.slice q2' (x.withFolders (x.folders.set k (f.withBox (expunge (⟨f.next,f.mail⟩:DBox)).1))).folders.length c2',.int .i64 (x.withFolders (x.folders.set k (f.withBox (expunge (⟨f.next,f.mail⟩:DBox)).1))).queue.next,.slice q3' (x.withFolders (x.folders.set k (f.withBox (expunge (⟨f.next,f.mail⟩:DBox)).1))).queue.items.length c3'] 160,l1',l2',l3',ZK be [.slice qe' ((expunge (⟨f.next,f.mail⟩:DBox)).2).length ce'] 65,le']∧v=errv 372 a (0)∧ZN Kn.none l1' q1' c1' 141 3 Zs (x.withFolders (x.folders.set k (f.withBox (expunge (⟨f.next,f.mail⟩:DBox)).1))).users∧ZaP l2' q2' c2' 96 5 (ZU 259 99) (x.withFolders (x.folders.set k (f.withBox (expunge (⟨f.next,f.mail⟩:DBox)).1))).folders∧ZaP l3' q3' c3' 145 4 (ZaR 9) (x.withFolders (x.folders.set k (f.withBox (expunge (⟨f.next,f.mail⟩:DBox)).1))).queue.items∧ZN Kn.none le' qe' ce' 3 1 Zag ((expunge (⟨f.next,f.mail⟩:DBox)).2)):=by
 refine cB 25 Tryz.func68 (h:=?_)
 have hfk:=(List.getElem?_eq_some_iff.1 hfx).1
 have hxl:(expunge (⟨f.next,f.mail⟩:DBox)).1.mail.length≤f.mail.length∧(expunge (⟨f.next,f.mail⟩:DBox)).2.length≤f.mail.length:=ZfC (⟨f.next,f.mail⟩:DBox)
 have hml9:(f.withBox (expunge (⟨f.next,f.mail⟩:DBox)).1).mail.length≤2000000:=Nat.le_trans hxl.1 oz
 obtain ⟨bq,_,_,lre,hpq,⟨qg,cg,qm,cm,ia,ib,rfl,rfl,hvg,hvm,ho9,hn9,hx9,hy9⟩,hwq,hqq,hcl,hcr,hkk⟩:=hf.cellA hfx
 refine Za (xA (h:=Zc (Z2 (keeps _ [0,2] _) mo kr ⟨Kn.le.refl _,ZaY.refl _ _⟩ (fun _ _=>?_))))
 refine aM 0 rfl (h:=aNc 1 rfl (h:=aW 2 rfl Zay (h:=aT 3 rfl (ZO fun D B L hI=>Zm rfl rfl ZeO rfl (atL 0 (hI.2.1.trans rfl) rfl rfl) r4) (h:=aM 4 rfl (h:=aM 5 rfl (h:=aNc 6 rfl (h:=aW 7 rfl Zay (h:=aT 8 rfl (ZO fun D B L hI=>Zm rfl rfl ZeO rfl (atL 0 (hI.2.1.trans rfl) rfl rfl) r4) (h:=aM 9 rfl (h:=aT 10 rfl (ZO fun D B L hI=>ZjE hpq rfl rfl Tryz.underlying24 Zb0 rfl rfl oz oz r4) (h:=?_)))))))))))
 refine aW 11 rfl Zcb (h:=aT 12 rfl (ZO fun D B L hI=>Z0 [_,_] rfl rfl ZgV rfl (ZzK (hcl _ _ 2 (hI.2.2.1.trans rfl)) 3 rfl rfl) r4) (h:=ZA 13 kr rfl kr (Zby [2] rfl rfl rfl rfl Zz7 rfl (Zv.borrow fun hm9=>ZpA _ _ (⟨f.next,f.mail⟩:DBox) _ (hvm.knownF oz fun p hp=>hm9 p (hqq.mem_iff.2 (by simp [hp])))) ?_)))
 rintro _ B1 _ hle1 ⟨BB1,_,rfl,hB1,_,hm1,_,l1,a1,c1,l1b,a1b,c1b,rfl,rfl,hs1,hs1b⟩
 replace hu:=hu.mono Zs.mono hle1
 refine ⟨⟨hle1,t2⟩,(aM 14 rfl (h:=aE 15 rfl (h:=aE 16 rfl (h:=aT 17 rfl (ZO fun D B L hI=>ZjE hpq rfl rfl Tryz.underlying24 Zb0 rfl rfl oz oz r4) (h:=?_)))))⟩
 refine aW 18 rfl Zcb (h:=Zbz 19 kr rfl kr kr (Zu6 (R:=(ZU 259 99)) (x0:=f) (f.withBox (expunge (⟨f.next,f.mail⟩:DBox)).1) (us:=[_,_]) (sz:=5) (k:=k) 3 2 [6] rfl rfl hf hpq hfx rfl rfl Zmr rfl rfl rfl rfl (Nat.le_of_ble_eq_true rfl) (by rintro _ _ ⟨_,_,_,_,_,_,rfl,rfl,k1,k2,k3,k4,k5,k6⟩;exact ⟨_,_,⟨_,_,_,_,_,_,rfl,rfl,k1,hs1,k3,k4,k5,hml9⟩,by simpa [List.append_assoc] using List.Perm.append_left _ List.perm_append_comm⟩) (fun l2 hd2=>?_)))
 refine Zad 20 kr rfl kr kr kr (ZM [_] 4 [_] rfl rfl Zze rfl rfl rfl rfl rfl rfl rfl rfl ?_)
 refine Zo (tL8 (Za (xA (h:=Ze ?_))))
 simp only [DHost.withFolders,List.length_set]
 exact eN [0,1,2,3,4,7] rfl t1 ⟨_,_,_,_,_,_,_,_,_,_,_,_,rfl,rfl,hu,hd2,hi,hs1b⟩

theorem ZcS (hJ:Joins Tryz.prog J) (q1 q2 q3:Option Addr) (c1 c2 c3:Nat) (x:DHost) (u o n:Str) (hul:u.length≤2000000) (hol:o.length≤2000000) (hnl:n.length≤2000000) (hd:x.domain.length≤2000000) (a:Nat→Addr) (B:Kn) (hE:ErrsB 372 [0,1,2,3] B a) (hu:SlK B q1 c1 3 Zs x.users) (hf:SlK B q2 c2 5 Zu x.folders) (hi:SlK B q3 c3 4 ZI x.queue.items):Zv (pj J) 26 [.agg #[str x.domain,.slice q1 x.users.length c1,.slice q2 x.folders.length c2,.int .i64 x.queue.next,.slice q3 x.queue.items.length c3],.agg #[str u,str o,str n]] B [] (fun v B' Ls=>∃q1 c1 q2 c2 q3 c3 l1 l2 l3 qe ce le,Ls=[l1,l2,l3,le]∧v = .tuple #[.agg #[str (Zl x ⟨u,o,n⟩).1.domain,.slice q1 (Zl x ⟨u,o,n⟩).1.users.length c1,.slice q2 (Zl x ⟨u,o,n⟩).1.folders.length c2,.int .i64 (Zl x ⟨u,o,n⟩).1.queue.next,.slice q3 (Zl x ⟨u,o,n⟩).1.queue.items.length c3],.slice qe (Zl x ⟨u,o,n⟩).2.1.length ce,.int .i64 (Zl x ⟨u,o,n⟩).2.2]∧ZN Kn.none l1 q1 c1 141 3 Zs (Zl x ⟨u,o,n⟩).1.users∧ZaP l2 q2 c2 96 5 (ZU 259 99) (Zl x ⟨u,o,n⟩).1.folders∧ZaP l3 q3 c3 145 4 (ZaR 9) (Zl x ⟨u,o,n⟩).1.queue.items∧ZN Kn.none le qe ce 3 1 Zag (Zl x ⟨u,o,n⟩).2.1):=by
 refine cB 21 Tryz.func26 (h:=?_)
 have hun:=hu.len
 have hfn:=hf.len
 have hin:=hi.len
 refine Za (xBx [_,_,_,_,_] (h:=fun b1=>xBx [_,_,_] (h:=fun b2=>xAl [_,_,_,_,_] Zce (h:=fun b3=>xA (h:=xA (h:=tL3 (Za (xBs [] [] Tryz.underlying65 sz3 zo3 (h:=fun b4=>xAl [_] ZzG (h:=fun b5=>xS [_] 4 [_] Zze (h:=tL5 (Za (xL [_,_,_,_,_] Zc6 0 (h:=xL [_,_,_] Zwz 1 (h:=Zk (Zdy (xs:=[]) (ys:=[_]) rfl rfl rfl rfl (xK [4,3] rfl ZAo rfl (ZtI _ _ _ _ _ _ x u o n hul hol hnl _ 16 68 _ (ZgG x (ZbR (inF o n) x.folders).toNat (expunge (Zgt x (ZbR (inF o n) x.folders).toNat)).1) 0 (by decide) Zz8 hJ _ _ _ _ [] (expunge (Zgt x (ZbR (inF o n) x.folders).toNat)).2 (by simp) hd a _ hE hu hf hi ZN.lit0 (fun har hok h2 hr B2 b q1 q2 q3 c1 c2 c3 l1 l2 l3 hle k1 k2 k3=>by (obtain ⟨k,f,hk,hfx⟩:=Zqv hr;have hat:(if ZcV x.users x.folders u o n 16=0 then ZbR (inF o n) x.folders else -1)=(k:Int):=(by rw [if_pos hr,hk]);have hRX:(ZgG x (ZbR (inF o n) x.folders).toNat (expunge (Zgt x (ZbR (inF o n) x.folders).toNat)).1)=x.withFolders (x.folders.set k (f.withBox (expunge (⟨f.next,f.mail⟩:DBox)).1)):=(by rw [hk,Int.toNat_natCast,ZeY hfx,Zhj hfx];rfl);have hYS:(expunge (Zgt x (ZbR (inF o n) x.folders).toNat)).2=(expunge (⟨f.next,f.mail⟩:DBox)).2:=(by rw [hk,Int.toNat_natCast,ZeY hfx];rfl);have hml:f.mail.length≤10:=(ZeX (ZeS (Zez hok hfx))).2.2;rw [hat,hRX,hYS];exact Zv6 b _ _ _ _ _ _ _ x l1 l2 l3 k f hfx oz oz _ _ _ hml a B2 k1 k2 k3 ZN.lit0))) (h:=?_))))))))))))))))))
 rintro _ B6 _ hle6 ⟨Y6,d6,YY6,q16,c16,q26,c26,q36,c36,l16,l26,l36,qe6,ce6,le6,hYd6,rfl,rfl,hu6,hf6,hi6,hy6⟩
 obtain ⟨rfl,rfl,rfl⟩:=ZtJ rfl rfl hYd6
 refine xM (h:=xE (h:=xE (h:=xAl [_,_,_,_,_] Zce (h:=fun b7=>xS [_,_,_,_,_] 8 [_,_,_,_,_] Zdh (h:=xA (h:=tL9 (Zc (Z2 (keeps _ [4,8] _) mo kr ⟨Kn.le.refl _,ZaY.refl _ _⟩ (fun _ _=>?_)))))))))
 refine aT 0 rfl (ZO fun D B L hI=>Z0 [_,_,_,_,_] rfl rfl Zc6 rfl (ZbT 8 (hI.2.2.1.trans rfl) rfl rfl) r4) (h:=aT 1 rfl (ZO fun D B L hI=>Zm rfl rfl ZzP rfl (atL 4 (hI.2.1.trans rfl) rfl rfl) r4) (h:=aM 2 rfl (h:=ZA 3 kr rfl kr (ZM [_,_,_,_,_] 2 [_,_,_,_,_] rfl rfl Zdh rfl rfl rfl rfl rfl rfl rfl rfl ?_))))
 refine ⟨⟨Kn.le.refl _,t2⟩,(aA 4 rfl (h:=aA 5 rfl (h:=Zt kr kr ?_)))⟩
 refine Zo (tL9 (Ze ?_))
 exact ZeC .ret (.inl rfl) [_,_,_] [5,6,7,3] rfl ⟨⟨_,rfl,.inr ⟨[_,_,_,_,_],Zc6,ZbT 2 rfl rfl rfl,rfl⟩⟩,rfl,rfl,trivial⟩ ⟨_,_,_,_,_,_,_,_,_,_,_,_,rfl,rfl,hu6.anyK Zs.any,hf6,hi6,hy6⟩

theorem Zl1 (q1 q2 q3:Option Addr) (c1 c2 c3:Nat) (x:DHost) (hd:x.domain.length≤140737488355328) (u y z:Str) (hw1:u.length≤140737488355328) (hw2:y.length≤140737488355328) (hw3:z.length≤140737488355328) (B:Kn) (a:Nat→Addr) (hE:ErrsB 372 [0,1,2,3] B a) (hu:SlB B q1 c1 3 ZkV x.users) (hf:SlB B q2 c2 5 ZeG x.folders) (hi:SlB B q3 c3 4 ZhX x.queue.items) :∃code,Tryz.f5.body=some code∧wpS (pj (Zn8 Tryz.prog)) 146 code (ZfH (pj (Zn8 Tryz.prog)) [.tmp 4] (fun v B' Ls=>v = .bool true)) (Zdc [.agg #[str x.domain,.slice q1 x.users.length c1,.slice q2 x.folders.length c2,.int .i64 x.queue.next,.slice q3 x.queue.items.length c3],.agg #[str u,str y,str z]] 0) [] B []:=by
 have hJ:=ZlH Tryz.prog
 refine ⟨_,rfl,(Za (xBx [_,_,_,_,_] (h:=fun b1=>xBx [_,_,_] (h:=fun b2=>xA (h:=tL2 (Za (xA (h:=Za (xL [_,_,_,_,_] ZvN 0 (h:=xM (h:=xR ZAt rfl (Zrr _ _ _ _ _ _ x om 1048576 om om _ hu hf hi) (h:=?_))))))))))))⟩
 refine xA (h:=Zc (Za (xM (h:=ZF (h:=Zb rfl (fun g1=>?_) (fun g1=>?_))))))
 try simp only [sQ,ne_eq] at g1
 refine Za (xA (h:=Ze (Zn ?_)))
 exact eR t1 rfl
 try simp only [sQ,ne_eq] at g1
 have hsg:=Zcm (left:=1048576) oz g1
 refine wSk (Za (xL [_,_,_] Zwy 1 (h:=xM (h:=xR ZAs rfl (Zk8 u y z om2 om2 om2 (szI 1048576 (Zc1 x)) om2 om2 _) (h:=?_)))))
 refine xA (h:=Zc (Za (xM (h:=ZF (h:=Zb rfl (fun g2=>?_) (fun g2=>?_))))))
 try simp only [sQ,ne_eq] at g2
 refine Za (xA (h:=Ze (Zn ?_)))
 exact eR t1 rfl
 try simp only [sQ,ne_eq] at g2
 have hsg2:=Zcm oz g2
 have hsz:Zc1 x≤1048576:=by have:=hsg.2;omega
 have hsu:=hsg2.2
 have hsz2:=ZpE hsz
 have hkh:=Zxp hsz
 replace hu:=Zk3 hu hsz2.2.1
 replace hf:=Zi9 hf hsz2.2.2.1
 replace hi:=ZlI hi hsz2.2.2.2
 have hun:=hu.len
 have hfn:=hf.len
 have hin:=hi.len
 obtain ⟨hka,hkb,hkc,hkd⟩:=Zuc (x:=x) (s:=⟨u,y,z⟩)
 have hkl:=Zuw (x:=x) (s:=⟨u,y,z⟩)
 refine wSk (Zmj (α:=GX) [0,1,2,3,4,5,23,28] (fun o=>[(6,ptr ⟨o.b,0,none⟩),(7,.slice o.q4 (Zl x ⟨u,y,z⟩).2.1.length o.c4),(8,.int .i64 (Zl x ⟨u,y,z⟩).2.2)]) (fun o=>[ZK b1 [str x.domain,.slice q1 x.users.length c1,.slice q2 x.folders.length c2,.int .i64 x.queue.next,.slice q3 x.queue.items.length c3] 49,ZK b2 [str u,str y,str z] 50,ZK o.b [str (Zl x ⟨u,y,z⟩).1.domain,.slice o.q1 (Zl x ⟨u,y,z⟩).1.users.length o.c1,.slice o.q2 (Zl x ⟨u,y,z⟩).1.folders.length o.c2,.int .i64 (Zl x ⟨u,y,z⟩).1.queue.next,.slice o.q3 (Zl x ⟨u,y,z⟩).1.queue.items.length o.c3] 29]) (fun o Bx=>SlK Bx o.q1 o.c1 3 Zs (Zl x ⟨u,y,z⟩).1.users∧SlK Bx o.q2 o.c2 5 Zu (Zl x ⟨u,y,z⟩).1.folders∧SlK Bx o.q3 o.c3 4 ZI (Zl x ⟨u,y,z⟩).1.queue.items∧(Zl x ⟨u,y,z⟩).1.domain.length≤2000000∧SlK Bx o.q4 o.c4 1 Zag (Zl x ⟨u,y,z⟩).2.1) ?_ (fun o B5 hle5 hF=>?_))
 refine Z2 (keeps _ [0,1] _) mo kr ⟨Kn.le.refl _,ZaY.refl _ _⟩ (fun _ _=>?_)
 refine aT 0 rfl (ZO fun D B L hI=>Z0 [_,_,_,_,_] rfl rfl ZvN rfl (ZbT 0 (hI.2.1.trans rfl) rfl rfl) r4) (h:=aT 2 rfl (ZO fun D B L hI=>Z0 [_,_,_] rfl rfl Zwy rfl (ZbT 1 (hI.2.2.1.trans rfl) rfl rfl) r4) (h:=ZaE [1,9] kr kr kr ⟨?_,?_⟩))
 refine (Zap rfl rfl Zu1 rfl (ZeJ _ _ _ _ _ _ x _ hu hf hi om2) ?_)
 rintro _ B6 _ hle6 ⟨q6,c6,l6,q6b,c6b,l6b,q6c,c6c,l6c,rfl,rfl,rfl,hv6,hv6b,hv6c⟩
 refine ⟨⟨Kn.le.refl _,t2⟩,(Zbx [_,_,_,_,_] rfl ?_)⟩
 refine ZkT 2 rfl hv6 Zs.any om (fun B' hle'=>⟨hle',t2⟩) (fun B7 hle7 hr7=>?_)
 obtain ⟨hu,hf,hi⟩:=up3 hle7 hu hf hi
 replace hE:=hE.mono hle7
 have hr7n:=hr7.len
 refine Zff 3 rfl hv6b ZU.known Zu.mono om (fun B' hle'=>⟨hle7.trans hle',t2⟩) (fun B8 hle8 hr8=>?_)
 obtain ⟨hu,hf,hi,hr7⟩:=up4 hle8 hu hf hi hr7
 replace hE:=hE.mono hle8
 have hr8n:=hr8.len
 refine Zff 4 rfl hv6c ZaR.known ZI.mono om (fun B' hle'=>⟨(hle7.trans hle8).trans hle',t2⟩) (fun B9 hle9 hr9=>?_)
 obtain ⟨hu,hf,hi,hr7,hr8⟩:=up5 hle9 hu hf hi hr7 hr8
 replace hE:=hE.mono hle9
 have hr9n:=hr9.len
 refine ZaE [3,9] kr kr kr ⟨?_,?_⟩
 refine (Z8 rfl rfl ZuK rfl (ZbL u y z _) (⟨⟨((hle7.trans hle8).trans hle9),t2⟩,(Zbx [_,_,_,_,_] rfl ?_)⟩))
 refine ZaE [4,9] kr kr kr ⟨?_,?_⟩
 refine (Zha rfl rfl ZwE rfl (ZeK _ _ _ _ _ _ x (⟨u,y,z⟩) om2 om2 om2 om2 _ hr7 hr8 hr9) ?_)
 intro v11 B11 hle11
 rintro ⟨p111,d111,p211,d211,p311,d311,p411,d411,rfl,hu11,hf11,hi11,hg11,hd11⟩
 obtain ⟨hu,hf,hi,hr7,hr8,hr9⟩:=up6 hle11 hu hf hi hr7 hr8 hr9
 replace hE:=hE.mono hle11
 have hu11n:=hu11.len
 have hf11n:=hf11.len
 have hi11n:=hi11.len
 have hg11n:=hg11.len
 refine ⟨⟨(((hle7.trans hle8).trans hle9).trans hle11),t2⟩,(Zbx [_,_,_,_,_] rfl ?_)⟩
 refine aM 5 rfl (h:=aE 6 rfl (h:=aE 7 rfl (h:=aE 8 rfl (h:=ZA 9 kr rfl kr (Zav (l:=[_,_,_,_,_]) rfl rfl Zce rfl (fun b12=>?_))))))
 refine ⟨⟨(((hle7.trans hle8).trans hle9).trans hle11),t2⟩,(Zbz 10 kr rfl kr kr (ZM [_,_,_,_,_] 5 [_,_,_,_,_] rfl rfl Zdh rfl rfl rfl rfl rfl rfl rfl rfl ?_))⟩
 refine aA 11 rfl (h:=aA 12 rfl (h:=Zt kr kr ?_))
 exact Zaj ⟨_,_,_,_,_,_,_,_,_,[],[],[],[]⟩ [0,1,5] ⟨hu11,hf11,hi11,oy,hg11⟩ t11 rfl
 refine (Zav (l:=[_,_,_,_,_]) rfl rfl Zce rfl (fun b13=>⟨⟨((hle7.trans hle8).trans hle9),t2⟩,(ZA 4 kr rfl kr (Zha rfl rfl ZwE rfl (ZeK _ _ _ _ _ _ x (⟨u,y,z⟩) om2 om2 om2 om2 _ hr7 hr8 hr9) ?_))⟩))
 intro v14 B14 hle14
 rintro ⟨p114,d114,p214,d214,p314,d314,p414,d414,rfl,hu14,hf14,hi14,hg14,hd14⟩
 obtain ⟨hu,hf,hi,hr7,hr8,hr9⟩:=up6 hle14 hu hf hi hr7 hr8 hr9
 replace hE:=hE.mono hle14
 have hu14n:=hu14.len
 have hf14n:=hf14.len
 have hi14n:=hi14.len
 have hg14n:=hg14.len
 refine ⟨⟨(((hle7.trans hle8).trans hle9).trans hle14),t2⟩,(Zbx [_,_,_,_,_,_] rfl ?_)⟩
 refine aM 5 rfl (h:=aE 6 rfl (h:=aE 7 rfl (h:=aE 8 rfl (h:=Zbz 10 kr rfl kr kr (ZM [_,_,_,_,_] 5 [_,_,_,_,_] rfl rfl Zdh rfl rfl rfl rfl rfl rfl rfl rfl ?_)))))
 refine aA 11 rfl (h:=aA 12 rfl (h:=Zt kr kr ?_))
 exact Zaj ⟨_,_,_,_,_,_,_,_,_,[],[],[],[]⟩ [0,1,5] ⟨hu14,hf14,hi14,oy,hg14⟩ t11 rfl
 refine (Zav (l:=[_,_,_,_,_]) rfl rfl Zce rfl (fun b15=>⟨⟨((hle7.trans hle8).trans hle9),t2⟩,(ZA 3 kr rfl kr (Z8 rfl rfl ZuK rfl (ZbL u y z _) ?_))⟩))
 refine ⟨⟨((hle7.trans hle8).trans hle9),t2⟩,(Zbx [_,_,_,_,_,_] rfl ?_)⟩
 refine ZA 4 kr rfl kr (Zha rfl rfl ZwE rfl (ZeK _ _ _ _ _ _ x (⟨u,y,z⟩) om2 om2 om2 om2 _ hr7 hr8 hr9) ?_)
 intro v17 B17 hle17
 rintro ⟨p117,d117,p217,d217,p317,d317,p417,d417,rfl,hu17,hf17,hi17,hg17,hd17⟩
 obtain ⟨hu,hf,hi⟩:=up3 hle17 hu hf hi
 replace hE:=hE.mono hle17
 have hu17n:=hu17.len
 have hf17n:=hf17.len
 have hi17n:=hi17.len
 have hg17n:=hg17.len
 refine ⟨⟨(((hle7.trans hle8).trans hle9).trans hle17),t2⟩,(Zbx [_,_,_,_,_,_] rfl ?_)⟩
 refine aM 5 rfl (h:=aE 6 rfl (h:=aE 7 rfl (h:=aE 8 rfl (h:=Zbz 10 kr rfl kr kr (ZM [_,_,_,_,_] 5 [_,_,_,_,_] rfl rfl Zdh rfl rfl rfl rfl rfl rfl rfl rfl ?_)))))
 refine aA 11 rfl (h:=aA 12 rfl (h:=Zt kr kr ?_))
 exact Zaj ⟨_,_,_,_,_,_,_,_,_,[],[],[],[]⟩ [0,1,5] ⟨hu17,hf17,hi17,oy,hg17⟩ t11 rfl
 refine (Zav (l:=[_,_,_,_,_]) rfl rfl Zce rfl (fun b18=>⟨⟨Kn.le.refl _,t2⟩,(ZA 1 kr rfl kr (Zap rfl rfl Zu1 rfl (ZeJ _ _ _ _ _ _ x _ hu hf hi om2) ?_))⟩))
 rintro _ B19 _ hle19 ⟨q19,c19,l19,q19b,c19b,l19b,q19c,c19c,l19c,rfl,rfl,rfl,hv19,hv19b,hv19c⟩
 refine ⟨⟨Kn.le.refl _,t2⟩,(Zbx [_,_,_,_,_,_] rfl ?_)⟩
 refine ZkT 3 rfl hv19 Zs.any om (fun B' hle'=>⟨hle',t2⟩) (fun B20 hle20 hr20=>?_)
 obtain ⟨hu,hf,hi⟩:=up3 hle20 hu hf hi
 replace hE:=hE.mono hle20
 have hr20n:=hr20.len
 refine Zff 4 rfl hv19b ZU.known Zu.mono om (fun B' hle'=>⟨hle20.trans hle',t2⟩) (fun B21 hle21 hr21=>?_)
 obtain ⟨hu,hf,hi,hr20⟩:=up4 hle21 hu hf hi hr20
 replace hE:=hE.mono hle21
 have hr21n:=hr21.len
 refine Zff 5 rfl hv19c ZaR.known ZI.mono om (fun B' hle'=>⟨(hle20.trans hle21).trans hle',t2⟩) (fun B22 hle22 hr22=>?_)
 obtain ⟨hu,hf,hi,hr20,hr21⟩:=up5 hle22 hu hf hi hr20 hr21
 replace hE:=hE.mono hle22
 have hr22n:=hr22.len
 refine ZA 3 kr rfl kr (Z8 rfl rfl ZuK rfl (ZbL u y z _) ?_)
 refine ⟨⟨((hle20.trans hle21).trans hle22),t2⟩,(Zbx [_,_,_,_,_,_] rfl ?_)⟩
 refine ZA 4 kr rfl kr (Zha rfl rfl ZwE rfl (ZeK _ _ _ _ _ _ x (⟨u,y,z⟩) om2 om2 om2 om2 _ hr20 hr21 hr22) ?_)
 intro v24 B24 hle24
 rintro ⟨p124,d124,p224,d224,p324,d324,p424,d424,rfl,hu24,hf24,hi24,hg24,hd24⟩
 obtain ⟨hu,hf,hi⟩:=up3 hle24 hu hf hi
 replace hE:=hE.mono hle24
 have hu24n:=hu24.len
 have hf24n:=hf24.len
 have hi24n:=hi24.len
 have hg24n:=hg24.len
 refine ⟨⟨(((hle20.trans hle21).trans hle22).trans hle24),t2⟩,(Zbx [_,_,_,_,_,_] rfl ?_)⟩
 refine aM 5 rfl (h:=aE 6 rfl (h:=aE 7 rfl (h:=aE 8 rfl (h:=Zbz 10 kr rfl kr kr (ZM [_,_,_,_,_] 2 [_,_,_,_,_] rfl rfl Zdh rfl rfl rfl rfl rfl rfl rfl rfl ?_)))))
 refine aA 11 rfl (h:=aA 12 rfl (h:=Zt kr kr ?_))
 exact Zaj ⟨_,_,_,_,_,_,_,_,_,[],[],[],[]⟩ [0,1,2] ⟨hu24,hf24,hi24,oy,hg24⟩ t11 rfl
 obtain ⟨hw1,hw2,hw3,hw5,hw4⟩:=hF
 have hw1n:=hw1.len
 have hw2n:=hw2.len
 have hw3n:=hw3.len
 have hw4n:=hw4.len
 obtain ⟨hu,hf,hi⟩:=up3 hle5 hu hf hi
 replace hE:=hE.mono hle5
 refine ZC [(0,_),(1,_),(2,_),(3,_),(4,_),(5,_),(6,_),(7,_),(8,_),(23,_),(28,_)] [_,_,_] t11 rfl (Za (xL [_,_,_,_,_] ZvN 0 (h:=xC Zu1 rfl (ZeJ _ _ _ _ _ _ x _ hu hf hi om2) (h:=?_))))
 rintro _ B25 _ hle25 ⟨q25,c25,l25,q25b,c25b,l25b,q25c,c25c,l25c,rfl,rfl,rfl,hv25,hv25b,hv25c⟩
 refine xAl [_,_,_,_,_] Zce (h:=fun b26=>xS [_,_,_,_,_] 6 [_,_,_,_,_] Zdh (h:=tL7 (Zmj (α:=GX) [0,1,2,3,4,5,6,7,8,9,23,28] (fun o2=>[(10,ptr ⟨o2.b,0,none⟩),(11,.slice o2.q4 (Zl x ⟨u,y,z⟩).2.1.length o2.c4),(12,.int .i64 (Zl x ⟨u,y,z⟩).2.2)]) (fun o2=>[ZK b1 [str x.domain,.slice q1 x.users.length c1,.slice q2 x.folders.length c2,.int .i64 x.queue.next,.slice q3 x.queue.items.length c3] 49,ZK b2 [str u,str y,str z] 50,ZK o.b [str (Zl x ⟨u,y,z⟩).1.domain,.slice o.q1 (Zl x ⟨u,y,z⟩).1.users.length o.c1,.slice o.q2 (Zl x ⟨u,y,z⟩).1.folders.length o.c2,.int .i64 (Zl x ⟨u,y,z⟩).1.queue.next,.slice o.q3 (Zl x ⟨u,y,z⟩).1.queue.items.length o.c3] 29,l25,l25b,l25c,ZK b26 [str x.domain,.slice q25 x.users.length c25,.slice q25b x.folders.length c25b,.int .i64 x.queue.next,.slice q25c x.queue.items.length c25c] 29,o2.l1,o2.l2,o2.l3,o2.l4,ZK o2.b [str (Zl x ⟨u,y,z⟩).1.domain,.slice o2.q1 (Zl x ⟨u,y,z⟩).1.users.length o2.c1,.slice o2.q2 (Zl x ⟨u,y,z⟩).1.folders.length o2.c2,.int .i64 (Zl x ⟨u,y,z⟩).1.queue.next,.slice o2.q3 (Zl x ⟨u,y,z⟩).1.queue.items.length o2.c3] 29]) (fun o2 Bx=>ZN Kn.none o2.l1 o2.q1 o2.c1 141 3 Zs (Zl x ⟨u,y,z⟩).1.users∧ZaP o2.l2 o2.q2 o2.c2 96 5 (ZU 259 99) (Zl x ⟨u,y,z⟩).1.folders∧ZaP o2.l3 o2.q3 o2.c3 145 4 (ZaR 9) (Zl x ⟨u,y,z⟩).1.queue.items∧ZN Kn.none o2.l4 o2.q4 o2.c4 3 1 Zag (Zl x ⟨u,y,z⟩).2.1) ?_ (fun o2 B27 hle27 hF=>?_))))
 refine Z2 (keeps _ [1,6] _) mo kr ⟨Kn.le.refl _,ZaY.refl _ _⟩ (fun _ _=>?_)
 refine aT 0 rfl (ZO fun D B L hI=>Z0 [_,_,_,_,_] rfl rfl Zc6 rfl (ZbT 6 (hI.2.2.1.trans rfl) rfl rfl) r4) (h:=aT 1 rfl (ZO fun D B L hI=>Z0 [_,_,_] rfl rfl Zwy rfl (ZbT 1 (hI.2.1.trans rfl) rfl rfl) r4) (h:=aT 2 rfl (ZO fun D B L hI=>Z8 rfl rfl ZuK rfl (ZbL u y z _) r4) (h:=ZaE [3,8] kr kr kr ⟨?_,?_⟩)))
 refine (Zby [3,4,5] rfl rfl rfl rfl Zu0 rfl (Zv.borrowK 3 fun hm29=>ZcS hJ _ _ _ _ _ _ x u y z om2 om2 om2 om2 a _ (hE.mono (Kn.le_add _ _)) (hv25.lendK Zs.any 0 rfl hm29 om) (hv25b.lendK ZU.known Zu.mono 1 rfl hm29 om) (hv25c.lendK ZaR.known ZI.mono 2 rfl hm29 om)) ?_)
 rintro _ B29 _ hle29 ⟨BB29,_,rfl,hB29,_,hm29,_,q129,c129,q229,c229,q329,c329,l129,l229,l329,qe29,ce29,le29,rfl,rfl,hu29,hf29,hi29,hy29⟩
 obtain ⟨hu,hf,hi⟩:=up3 hle29 hu hf hi
 replace hw4:=hw4.mono Zag.mono hle29
 replace hw1:=hw1.mono Zs.mono hle29
 replace hw2:=hw2.mono Zu.mono hle29
 replace hw3:=hw3.mono ZI.mono hle29
 replace hv25:=hv25.mono Zs.mono hle29
 replace hE:=hE.mono hle29
 refine ⟨⟨hle29,t2⟩,(Zbx [_,_,_,_,_,_,_,_,_,_,_] rfl ?_)⟩
 refine aM 4 rfl (h:=aE 5 rfl (h:=aE 6 rfl (h:=aE 7 rfl (h:=ZA 8 kr rfl kr (Zav (l:=[_,_,_,_,_]) rfl rfl Zce rfl (fun b30=>?_))))))
 refine ⟨⟨hle29,t2⟩,(Zbz 9 kr rfl kr kr (ZM [_,_,_,_,_] 11 [_,_,_,_,_] rfl rfl Zdh rfl rfl rfl rfl rfl rfl rfl rfl ?_))⟩
 refine aA 10 rfl (h:=aA 11 rfl (h:=Zt kr kr ?_))
 exact ZdG ⟨_,_,_,_,_,_,_,_,_,_,_,_,_⟩ [_,_,_,_,_,_,_,_,_,_,_,_] rfl [0,1,2,3,4,5,6,7,8,9,10,11] ⟨hu29.anyK Zs.any,hf29,hi29,hy29.anyK Zag.any⟩ t15 rfl
 refine (Zav (l:=[_,_,_,_,_]) rfl rfl Zce rfl (fun b31=>⟨⟨Kn.le.refl _,t2⟩,(ZA 3 kr rfl kr (Zby [3,4,5] rfl rfl rfl rfl Zu0 rfl (Zv.borrowK 3 fun hm32=>ZcS hJ _ _ _ _ _ _ x u y z om2 om2 om2 om2 a _ (hE.mono (Kn.le_add _ _)) (hv25.lendK Zs.any 0 rfl hm32 om) (hv25b.lendK ZU.known Zu.mono 1 rfl hm32 om) (hv25c.lendK ZaR.known ZI.mono 2 rfl hm32 om)) ?_))⟩))
 rintro _ B32 _ hle32 ⟨BB32,_,rfl,hB32,_,hm32,_,q132,c132,q232,c232,q332,c332,l132,l232,l332,qe32,ce32,le32,rfl,rfl,hu32,hf32,hi32,hy32⟩
 obtain ⟨hu,hf,hi⟩:=up3 hle32 hu hf hi
 replace hw4:=hw4.mono Zag.mono hle32
 replace hw1:=hw1.mono Zs.mono hle32
 replace hw2:=hw2.mono Zu.mono hle32
 replace hw3:=hw3.mono ZI.mono hle32
 replace hv25:=hv25.mono Zs.mono hle32
 replace hE:=hE.mono hle32
 refine ⟨⟨hle32,t2⟩,(Zbx [_,_,_,_,_,_,_,_,_,_,_,_] rfl ?_)⟩
 refine aM 4 rfl (h:=aE 5 rfl (h:=aE 6 rfl (h:=aE 7 rfl (h:=Zbz 9 kr rfl kr kr (ZM [_,_,_,_,_] 7 [_,_,_,_,_] rfl rfl Zdh rfl rfl rfl rfl rfl rfl rfl rfl ?_)))))
 refine aA 10 rfl (h:=aA 11 rfl (h:=Zt kr kr ?_))
 exact ZdG ⟨_,_,_,_,_,_,_,_,_,_,_,_,_⟩ [_,_,_,_,_,_,_,_,_,_,_,_] rfl [0,1,2,3,4,5,6,8,9,10,11,7] ⟨hu32.anyK Zs.any,hf32,hi32,hy32.anyK Zag.any⟩ t15 rfl
 obtain ⟨hg1,hg2,hg3,hg4⟩:=hF
 obtain ⟨hu,hf,hi⟩:=up3 hle27 hu hf hi
 replace hw4:=hw4.mono Zag.mono hle27
 replace hw1:=hw1.mono Zs.mono hle27
 replace hw2:=hw2.mono Zu.mono hle27
 replace hw3:=hw3.mono ZI.mono hle27
 replace hE:=hE.mono hle27
 refine ZC [(0,_),(1,_),(2,_),(3,_),(4,_),(5,_),(6,_),(7,_),(8,_),(9,_),(10,_),(11,_),(12,_),(23,_),(28,_)] [_,_,_,_,_,_,_,_,_,_,_,_] t15 rfl (Zc (Za (xL [_,_,_,_,_] Zc6 11 (h:=xL [_,_,_,_,_] Zc6 2 (h:=Zk (ZgE [7,8,9] rfl rfl rfl rfl rfl ZwF rfl (Zaa.borrowL fun hm33=>ZgY _ _ _ _ _ _ _ _ _ _ _ _ ((Zl x ⟨u,y,z⟩).1) ((Zl x ⟨u,y,z⟩).1) _ (hg1.lendK Zs.any 0 rfl hm33 om) (hg2.lendK ZU.known Zu.mono 1 rfl hm33 om) (hg3.lendK ZaR.known ZI.mono 2 rfl hm33 om) (hw1.mono Zs.mono (Kn.le_add _ _)) (hw2.mono Zu.mono (Kn.le_add _ _)) (hw3.mono ZI.mono (Kn.le_add _ _))) ?_))))))
 refine xN (h:=xM (h:=Zy (d:=52) rfl (fun g4=>by simp at g4) (fun g4=>?_)))
 try simp only [sQ,ne_eq] at g4
 refine xM (h:=xM (h:=Zk (Ze7 10 rfl rfl rfl ZxH rfl (Zaa.borrow fun hm34=>Zjj _ _ _ _ _ _ _ ((hg4.anyK Zag.any).lend Zag.mono hm34 om) (hw4.mono Zag.mono (Kn.le_add _ _))) ?_)))
 refine xN (h:=xF (h:=xM (h:=Zy (d:=58) rfl (fun g4b=>by simp at g4b) (fun g4b=>?_))))
 try simp only [sQ,ne_eq] at g4b
 refine xM (h:=xM (h:=ZaL (h:=xF (h:=Zb rfl (fun g5=>by simp at g5) (fun g5=>?_)))))
 try simp only [sQ,ne_eq] at g5
 refine wSk (Zc (Zc (Z2 (keeps _ [0,6] _) mo kr ⟨Kn.le.refl _,ZaY.refl _ _⟩ (fun _ _=>?_))))
 refine aT 0 rfl (ZO fun D B L hI=>Z0 [_,_,_,_,_] rfl rfl Zc6 rfl (ZbT 6 (hI.2.2.1.trans rfl) rfl rfl) r4) (h:=aT 1 rfl (ZO fun D B L hI=>Z0 [_,_,_,_,_] rfl rfl ZvN rfl (ZbT 0 (hI.2.1.trans rfl) rfl rfl) r4) (h:=ZA 2 kr rfl kr (Zap rfl rfl Zu1 rfl (ZeJ _ _ _ _ _ _ x _ hu hf hi om2) ?_)))
 rintro _ B35 _ hle35 ⟨q35,c35,l35,q35b,c35b,l35b,q35c,c35c,l35c,rfl,rfl,rfl,hv35,hv35b,hv35c⟩
 refine ⟨⟨Kn.le.refl _,t2⟩,(Zbx [_,_,_,_,_,_,_,_,_,_,_,_,_,_,_] rfl ?_)⟩
 refine ZkT 12 rfl hv35 Zs.any om (fun B' hle'=>⟨hle',t2⟩) (fun B36 hle36 hr36=>?_)
 obtain ⟨hu,hf,hi⟩:=up3 hle36 hu hf hi
 replace hw4:=hw4.mono Zag.mono hle36
 replace hw1:=hw1.mono Zs.mono hle36
 replace hw2:=hw2.mono Zu.mono hle36
 replace hw3:=hw3.mono ZI.mono hle36
 replace hv25:=hv25.mono Zs.mono hle36
 replace hg1:=hg1.mono Zs.mono hle36
 replace hg4:=hg4.mono Zag.mono hle36
 replace hE:=hE.mono hle36
 have hr36n:=hr36.len
 refine Zff 13 rfl hv35b ZU.known Zu.mono om (fun B' hle'=>⟨hle36.trans hle',t2⟩) (fun B37 hle37 hr37=>?_)
 obtain ⟨hu,hf,hi⟩:=up3 hle37 hu hf hi
 replace hw4:=hw4.mono Zag.mono hle37
 replace hr36:=up1 hle37 hr36
 replace hw1:=hw1.mono Zs.mono hle37
 replace hw2:=hw2.mono Zu.mono hle37
 replace hw3:=hw3.mono ZI.mono hle37
 replace hv25:=hv25.mono Zs.mono hle37
 replace hg1:=hg1.mono Zs.mono hle37
 replace hg4:=hg4.mono Zag.mono hle37
 replace hE:=hE.mono hle37
 have hr37n:=hr37.len
 refine Zff 14 rfl hv35c ZaR.known ZI.mono om (fun B' hle'=>⟨(hle36.trans hle37).trans hle',t2⟩) (fun B38 hle38 hr38=>?_)
 obtain ⟨hu,hf,hi⟩:=up3 hle38 hu hf hi
 replace hw4:=hw4.mono Zag.mono hle38
 obtain ⟨hr36,hr37⟩:=up2 hle38 hr36 hr37
 replace hw1:=hw1.mono Zs.mono hle38
 replace hw2:=hw2.mono Zu.mono hle38
 replace hw3:=hw3.mono ZI.mono hle38
 replace hv25:=hv25.mono Zs.mono hle38
 replace hg1:=hg1.mono Zs.mono hle38
 replace hg4:=hg4.mono Zag.mono hle38
 replace hE:=hE.mono hle38
 have hr38n:=hr38.len
 refine ZA 3 kr rfl kr (ZgE [3,4,5] rfl rfl rfl rfl rfl ZwF rfl (Zaa.borrowL fun hm39=>ZgY _ _ _ _ _ _ _ _ _ _ _ _ x x _ (hv25.lendK Zs.any 0 rfl hm39 om) (hv25b.lendK ZU.known Zu.mono 1 rfl hm39 om) (hv25c.lendK ZaR.known ZI.mono 2 rfl hm39 om) (hr36.mono Zs.mono (Kn.le_add _ _)) (hr37.mono Zu.mono (Kn.le_add _ _)) (hr38.mono ZI.mono (Kn.le_add _ _))) ?_)
 refine ⟨⟨((hle36.trans hle37).trans hle38),t2⟩,(Zbx [_,_,_,_,_,_,_,_,_,_,_,_,_,_,_] rfl ?_)⟩
 refine aN 4 rfl (h:=Zt kr kr ?_)
 refine Zo (Zw5 (Zb rfl (fun g6=>by simp at g6) (fun g6=>?_)))
 try simp only [sQ,ne_eq] at g6
 refine wSk (Za (xA (h:=Za (xL [_,_,_,_,_] Zc6 6 (h:=xM (h:=xK [3,4,5] rfl ZzB rfl (Zil _ _ _ _ _ _ x _ _ _ 1 oa oz oz oz _ (hv25.anyK Zs.any) hv25b hv25c) (h:=?_)))))))
 rintro _ B40 _ hle40 ⟨rfl,l40a,l40b,l40c,rfl,rfl,hs40a,hs40b,hs40c⟩
 refine xA (h:=Zw5 (Zc (Za (xM (h:=ZF (h:=xM (h:=Zy (d:=73) rfl (fun g7=>by first | omega | (simp at g7;done) | (simp at g7;omega)) (fun g7=>?_))))))))
 try simp only [sQ,ne_eq] at g7
 refine Zk (Z0 [_,_,_,_,_] rfl rfl Zc6 rfl (ZbT 11 rfl rfl rfl) ?_)
 refine Zk (Z0 [_,_,_,_,_] rfl rfl Zc6 rfl (ZbT 2 rfl rfl rfl) ?_)
 refine Zk (ZgE [7,8,9] rfl rfl rfl rfl rfl ZwF rfl (Zaa.borrowL fun hm41=>ZgY _ _ _ _ _ _ _ _ _ _ _ _ ((Zl x ⟨u,y,z⟩).1) ((Zl x ⟨u,y,z⟩).1) _ (hg1.lendK Zs.any 0 rfl hm41 (by first | omega | (simp;done) | (simp;omega))) (hg2.lendK ZU.known Zu.mono 1 rfl hm41 (by first | omega | (simp;done) | (simp;omega))) (hg3.lendK ZaR.known ZI.mono 2 rfl hm41 (by first | omega | (simp;done) | (simp;omega))) (hw1.mono Zs.mono (Kn.le_add _ _)) (hw2.mono Zu.mono (Kn.le_add _ _)) (hw3.mono ZI.mono (Kn.le_add _ _))) ?_)
 refine xN (h:=xF (h:=xM (h:=Zy (d:=79) rfl (fun g8=>by simp at g8) (fun g8=>?_))))
 try simp only [sQ,ne_eq] at g8
 refine Zk (Zbe rfl rfl rfl ?_)
 refine Zk (Zbe rfl rfl rfl ?_)
 refine Zk (Ze7 10 rfl rfl rfl ZxH rfl (Zaa.borrow fun hm42=>Zjj _ _ _ _ _ _ _ ((hg4.anyK Zag.any).lend Zag.mono hm42 (by first | omega | (simp;done) | (simp;omega))) (hw4.mono Zag.mono (Kn.le_add _ _))) ?_)
 refine xN (h:=xF (h:=xM (h:=Zy (d:=85) rfl (fun g8b=>by simp at g8b) (fun g8b=>?_))))
 try simp only [sQ,ne_eq] at g8b
 refine xM (h:=xM (h:=ZaL (h:=xF (h:=Zb rfl (fun g9=>by simp at g9) (fun g9=>?_)))))
 try simp only [sQ,ne_eq] at g9
 refine ZX ?_
 refine Zo ?_
 refine Za ?_
 refine Zk (Zbp rfl rfl rfl ?_)
 refine Za ?_
 refine Zk (Z0 [_,_,_,_,_] rfl rfl Zc6 rfl (ZbT 11 rfl rfl rfl) ?_)
 refine Zk (Zbe rfl rfl rfl ?_)
 refine Zk (Zby [7,8,9] rfl rfl rfl rfl ZzB rfl (Zil _ _ _ _ _ _ ((Zl x ⟨u,y,z⟩).1) _ _ _ 1 (by first | assumption | omega) (by omega) (by omega) (by omega) _ (hg1.anyK Zs.any) hg2 hg3) ?_)
 rintro _ B43 _ hle43 ⟨rfl,l43a,l43b,l43c,rfl,rfl,hs43a,hs43b,hs43c⟩
 refine Zk (Zbp rfl rfl rfl ?_)
 refine ZsO [_,_,_,_,_,_,_,_,_,_,_,_,_,_,_] rfl ?_
 refine Za ?_
 refine Zk (Zbe rfl rfl rfl ?_)
 refine Zk (Zbe rfl rfl rfl ?_)
 refine Zk (Zby [10] rfl rfl rfl rfl ZAr rfl (ZnB _ _ ((Zl x ⟨u,y,z⟩).2.1) _ (kH 1 ((Zl x ⟨u,y,z⟩).1)) (by omega) (by omega) _ (hg4.anyK Zag.any)) ?_)
 rintro _ B44 _ hle44 ⟨rfl,l44,rfl,rfl,hs44⟩
 refine xA (h:=Zw5 (Za (xA (h:=Za (xL [_,_,_,_,_] Zc6 11 (h:=xM (h:=Zk (ZgE [7,8,9] rfl rfl rfl rfl rfl ZzA rfl (Zaa.borrowL fun hm45=>Zir _ _ _ _ _ _ (Zl x ⟨u,y,z⟩).1 1 oa _ (hs43a.lendK Zs.any 0 rfl hm45 (by simp only [Zat,ZaD,Zbk,Zbb,Zd3];omega)) (hs43b.lendK ZU.known Zu.mono 1 rfl hm45 (by simp only [Zat,ZaD,Zbk,Zbb,Zd3];omega)) (hs43c.lendK ZaR.known ZI.mono 2 rfl hm45 (by simp only [Zat,ZaD,Zbk,Zbb,Zd3];omega))) ?_))))))))
 refine xA (h:=Zc (Za (xM (h:=ZF (h:=Zb rfl (fun ga=>by first | omega | (simp at ga;done) | (simp at ga;omega)) (fun ga=>?_))))))
 try simp only [sQ,ne_eq] at ga
 have hll:(Zee (kH 1 (Zl x ⟨u,y,z⟩).1) (Zl x ⟨u,y,z⟩).2.1.length).length≤2000000:=by rw [ZeN];omega
 refine wSk (Za (xM (h:=xM (h:=Zk (Ze7 10 rfl rfl rfl Zzz rfl (Zaa.borrow fun hm46=>Ziq _ _ _ (kH 1 (Zl x ⟨u,y,z⟩).1) _ (Zl x ⟨u,y,z⟩).2.1.length (by first | rfl | exact ZeN _ _) rfl oz _ ((hs44.anyK Zag.any).lend Zag.mono hm46 om)) ?_)))))
 refine xA (h:=Zc (Za (xM (h:=ZF (h:=Zb rfl (fun gb=>by first | omega | (simp at gb;done) | (simp at gb;omega)) (fun gb=>?_))))))
 try simp only [sQ,ne_eq] at gb
 refine wSk (Zc (Za (xM (h:=xM (h:=ZaL (h:=Zb rfl (fun gc=>by simp at gc) (fun gc=>?_)))))))
 try simp only [sQ,ne_eq] at gc
 refine wSk (Zmj (α:=GX) [0,1,2,3,4,5,6,7,8,9,10,11,12,13,14,15,23,28,62,67,89,100,105,108] (fun o3=>[(16,ptr ⟨o3.b,0,none⟩),(17,.slice o3.q4 (Zl x ⟨u,y,z⟩).2.1.length o3.c4),(18,.int .i64 (Zl x ⟨u,y,z⟩).2.2)]) (fun o3=>[ZK o.b [str (Zl x ⟨u,y,z⟩).1.domain,.slice o.q1 (Zl x ⟨u,y,z⟩).1.users.length o.c1,.slice o.q2 (Zl x ⟨u,y,z⟩).1.folders.length o.c2,.int .i64 (Zl x ⟨u,y,z⟩).1.queue.next,.slice o.q3 (Zl x ⟨u,y,z⟩).1.queue.items.length o.c3] 29,l43a,l43b,l43c,l44,ZK o2.b [str (Zl x ⟨u,y,z⟩).1.domain,.slice o2.q1 (Zl x ⟨u,y,z⟩).1.users.length o2.c1,.slice o2.q2 (Zl x ⟨u,y,z⟩).1.folders.length o2.c2,.int .i64 (Zl x ⟨u,y,z⟩).1.queue.next,.slice o2.q3 (Zl x ⟨u,y,z⟩).1.queue.items.length o2.c3] 29,o3.l1,o3.l2,o3.l3,o3.l4,ZK o3.b [str (Zl x ⟨u,y,z⟩).1.domain,.slice o3.q1 (Zl x ⟨u,y,z⟩).1.users.length o3.c1,.slice o3.q2 (Zl x ⟨u,y,z⟩).1.folders.length o3.c2,.int .i64 (Zl x ⟨u,y,z⟩).1.queue.next,.slice o3.q3 (Zl x ⟨u,y,z⟩).1.queue.items.length o3.c3] 29]) (fun o3 Bx=>ZN Kn.none o3.l1 o3.q1 o3.c1 141 3 Zs (Zl x ⟨u,y,z⟩).1.users∧ZaP o3.l2 o3.q2 o3.c2 96 5 (ZU 259 99) (Zl x ⟨u,y,z⟩).1.folders∧ZaP o3.l3 o3.q3 o3.c3 145 4 (ZaR 9) (Zl x ⟨u,y,z⟩).1.queue.items∧ZN Kn.none o3.l4 o3.q4 o3.c4 3 1 Zag (Zl x ⟨u,y,z⟩).2.1) ?_ (fun o3 B47 hle47 hF=>?_))
 refine Z2 (keeps _ [0,1] _) mo kr ⟨Kn.le.refl _,ZaY.refl _ _⟩ (fun _ _=>?_)
 refine aT 0 rfl (ZO fun D B L hI=>Z0 [_,_,_,_,_] rfl rfl ZvN rfl (ZbT 0 (hI.2.1.trans rfl) rfl rfl) r4) (h:=aT 2 rfl (ZO fun D B L hI=>Z0 [_,_,_] rfl rfl Zwy rfl (ZbT 1 (hI.2.2.1.trans rfl) rfl rfl) r4) (h:=ZaE [1,9] kr kr kr ⟨?_,?_⟩))
 refine (Zap rfl rfl Zu1 rfl (ZeJ _ _ _ _ _ _ x _ hu hf hi om2) ?_)
 rintro _ B48 _ hle48 ⟨q48,c48,l48,q48b,c48b,l48b,q48c,c48c,l48c,rfl,rfl,rfl,hv48,hv48b,hv48c⟩
 refine ⟨⟨Kn.le.refl _,t2⟩,(Zbx [_,_,_,_,_,_,_,_,_,_,_,_,_,_,_,_,_,_] rfl ?_)⟩
 refine ZkT 15 rfl hv48 Zs.any om (fun B' hle'=>⟨hle',t2⟩) (fun B49 hle49 hr49=>?_)
 obtain ⟨hu,hf,hi⟩:=up3 hle49 hu hf hi
 replace hw4:=hw4.mono Zag.mono hle49
 replace hw1:=hw1.mono Zs.mono hle49
 replace hw2:=hw2.mono Zu.mono hle49
 replace hw3:=hw3.mono ZI.mono hle49
 replace hs43a:=hs43a.mono Zs.mono hle49
 replace hs44:=hs44.mono Zag.mono hle49
 replace hE:=hE.mono hle49
 have hr49n:=hr49.len
 refine Zff 16 rfl hv48b ZU.known Zu.mono om (fun B' hle'=>⟨hle49.trans hle',t2⟩) (fun B50 hle50 hr50=>?_)
 obtain ⟨hu,hf,hi⟩:=up3 hle50 hu hf hi
 replace hw4:=hw4.mono Zag.mono hle50
 replace hr49:=up1 hle50 hr49
 replace hw1:=hw1.mono Zs.mono hle50
 replace hw2:=hw2.mono Zu.mono hle50
 replace hw3:=hw3.mono ZI.mono hle50
 replace hs43a:=hs43a.mono Zs.mono hle50
 replace hs44:=hs44.mono Zag.mono hle50
 replace hE:=hE.mono hle50
 have hr50n:=hr50.len
 refine Zff 17 rfl hv48c ZaR.known ZI.mono om (fun B' hle'=>⟨(hle49.trans hle50).trans hle',t2⟩) (fun B51 hle51 hr51=>?_)
 obtain ⟨hu,hf,hi⟩:=up3 hle51 hu hf hi
 replace hw4:=hw4.mono Zag.mono hle51
 obtain ⟨hr49,hr50⟩:=up2 hle51 hr49 hr50
 replace hw1:=hw1.mono Zs.mono hle51
 replace hw2:=hw2.mono Zu.mono hle51
 replace hw3:=hw3.mono ZI.mono hle51
 replace hs43a:=hs43a.mono Zs.mono hle51
 replace hs44:=hs44.mono Zag.mono hle51
 replace hE:=hE.mono hle51
 have hr51n:=hr51.len
 refine ZaE [3,9] kr kr kr ⟨?_,?_⟩
 refine (Z8 rfl rfl ZuK rfl (ZbL u y z _) (⟨⟨((hle49.trans hle50).trans hle51),t2⟩,(Zbx [_,_,_,_,_,_,_,_,_,_,_,_,_,_,_,_,_,_] rfl ?_)⟩))
 refine ZaE [4,9] kr kr kr ⟨?_,?_⟩
 refine (Zap rfl rfl Zu0 rfl (ZcS hJ _ _ _ _ _ _ x u y z om2 om2 om2 om2 a _ hE hr49 hr50 hr51) ?_)
 rintro _ B53 _ hle53 ⟨q153,c153,q253,c253,q353,c353,l153,l253,l353,qe53,ce53,le53,rfl,rfl,hu53,hf53,hi53,hy53⟩
 obtain ⟨hu,hf,hi⟩:=up3 hle53 hu hf hi
 replace hw4:=hw4.mono Zag.mono hle53
 obtain ⟨hr49,hr50,hr51⟩:=up3 hle53 hr49 hr50 hr51
 replace hw1:=hw1.mono Zs.mono hle53
 replace hw2:=hw2.mono Zu.mono hle53
 replace hw3:=hw3.mono ZI.mono hle53
 replace hs43a:=hs43a.mono Zs.mono hle53
 replace hs44:=hs44.mono Zag.mono hle53
 replace hE:=hE.mono hle53
 refine ⟨⟨(((hle49.trans hle50).trans hle51).trans hle53),t2⟩,(Zbx [_,_,_,_,_,_,_,_,_,_,_,_,_,_,_,_,_,_,_,_,_,_] rfl ?_)⟩
 refine aM 5 rfl (h:=aE 6 rfl (h:=aE 7 rfl (h:=aE 8 rfl (h:=ZA 9 kr rfl kr (Zav (l:=[_,_,_,_,_]) rfl rfl Zce rfl (fun b54=>?_))))))
 refine ⟨⟨(((hle49.trans hle50).trans hle51).trans hle53),t2⟩,(Zbz 10 kr rfl kr kr (ZM [_,_,_,_,_] 22 [_,_,_,_,_] rfl rfl Zdh rfl rfl rfl rfl rfl rfl rfl rfl ?_))⟩
 refine aA 11 rfl (h:=aA 12 rfl (h:=Zt kr kr ?_))
 exact ZdG ⟨_,_,_,_,_,_,_,_,_,_,_,_,_⟩ [_,_,_,_,_,_,_,_,_,_,_,_,_,_,_,_,_,_,_,_,_,_,_] rfl [2,7,8,9,10,11,18,19,20,21,22] ⟨hu53.anyK Zs.any,hf53,hi53,hy53.anyK Zag.any⟩ ⟨rfl,rfl,rfl,rfl,rfl,rfl,rfl,rfl,rfl,rfl,rfl,rfl,rfl,rfl,rfl,rfl,rfl,rfl,rfl,rfl,rfl,rfl,rfl,rfl,rfl,rfl,rfl,trivial⟩ rfl
 refine (Zav (l:=[_,_,_,_,_]) rfl rfl Zce rfl (fun b55=>⟨⟨((hle49.trans hle50).trans hle51),t2⟩,(ZA 4 kr rfl kr (Zap rfl rfl Zu0 rfl (ZcS hJ _ _ _ _ _ _ x u y z om2 om2 om2 om2 a _ hE hr49 hr50 hr51) ?_))⟩))
 rintro _ B56 _ hle56 ⟨q156,c156,q256,c256,q356,c356,l156,l256,l356,qe56,ce56,le56,rfl,rfl,hu56,hf56,hi56,hy56⟩
 obtain ⟨hu,hf,hi⟩:=up3 hle56 hu hf hi
 replace hw4:=hw4.mono Zag.mono hle56
 obtain ⟨hr49,hr50,hr51⟩:=up3 hle56 hr49 hr50 hr51
 replace hw1:=hw1.mono Zs.mono hle56
 replace hw2:=hw2.mono Zu.mono hle56
 replace hw3:=hw3.mono ZI.mono hle56
 replace hs43a:=hs43a.mono Zs.mono hle56
 replace hs44:=hs44.mono Zag.mono hle56
 replace hE:=hE.mono hle56
 refine ⟨⟨(((hle49.trans hle50).trans hle51).trans hle56),t2⟩,(Zbx [_,_,_,_,_,_,_,_,_,_,_,_,_,_,_,_,_,_,_,_,_,_,_] rfl ?_)⟩
 refine aM 5 rfl (h:=aE 6 rfl (h:=aE 7 rfl (h:=aE 8 rfl (h:=Zbz 10 kr rfl kr kr (ZM [_,_,_,_,_] 18 [_,_,_,_,_] rfl rfl Zdh rfl rfl rfl rfl rfl rfl rfl rfl ?_)))))
 refine aA 11 rfl (h:=aA 12 rfl (h:=Zt kr kr ?_))
 exact ZdG ⟨_,_,_,_,_,_,_,_,_,_,_,_,_⟩ [_,_,_,_,_,_,_,_,_,_,_,_,_,_,_,_,_,_,_,_,_,_,_] rfl [2,7,8,9,10,11,19,20,21,22,18] ⟨hu56.anyK Zs.any,hf56,hi56,hy56.anyK Zag.any⟩ ⟨rfl,rfl,rfl,rfl,rfl,rfl,rfl,rfl,rfl,rfl,rfl,rfl,rfl,rfl,rfl,rfl,rfl,rfl,rfl,rfl,rfl,rfl,rfl,rfl,rfl,rfl,rfl,trivial⟩ rfl
 refine (Zav (l:=[_,_,_,_,_]) rfl rfl Zce rfl (fun b57=>⟨⟨((hle49.trans hle50).trans hle51),t2⟩,(ZA 3 kr rfl kr (Z8 rfl rfl ZuK rfl (ZbL u y z _) ?_))⟩))
 refine ⟨⟨((hle49.trans hle50).trans hle51),t2⟩,(Zbx [_,_,_,_,_,_,_,_,_,_,_,_,_,_,_,_,_,_,_] rfl ?_)⟩
 refine ZA 4 kr rfl kr (Zap rfl rfl Zu0 rfl (ZcS hJ _ _ _ _ _ _ x u y z om2 om2 om2 om2 a _ hE hr49 hr50 hr51) ?_)
 rintro _ B59 _ hle59 ⟨q159,c159,q259,c259,q359,c359,l159,l259,l359,qe59,ce59,le59,rfl,rfl,hu59,hf59,hi59,hy59⟩
 obtain ⟨hu,hf,hi⟩:=up3 hle59 hu hf hi
 replace hw4:=hw4.mono Zag.mono hle59
 replace hw1:=hw1.mono Zs.mono hle59
 replace hw2:=hw2.mono Zu.mono hle59
 replace hw3:=hw3.mono ZI.mono hle59
 replace hs43a:=hs43a.mono Zs.mono hle59
 replace hs44:=hs44.mono Zag.mono hle59
 replace hE:=hE.mono hle59
 refine ⟨⟨(((hle49.trans hle50).trans hle51).trans hle59),t2⟩,(Zbx [_,_,_,_,_,_,_,_,_,_,_,_,_,_,_,_,_,_,_,_,_,_,_] rfl ?_)⟩
 refine aM 5 rfl (h:=aE 6 rfl (h:=aE 7 rfl (h:=aE 8 rfl (h:=Zbz 10 kr rfl kr kr (ZM [_,_,_,_,_] 18 [_,_,_,_,_] rfl rfl Zdh rfl rfl rfl rfl rfl rfl rfl rfl ?_)))))
 refine aA 11 rfl (h:=aA 12 rfl (h:=Zt kr kr ?_))
 exact ZdG ⟨_,_,_,_,_,_,_,_,_,_,_,_,_⟩ [_,_,_,_,_,_,_,_,_,_,_,_,_,_,_,_,_,_,_,_,_,_,_] rfl [2,7,8,9,10,11,19,20,21,22,18] ⟨hu59.anyK Zs.any,hf59,hi59,hy59.anyK Zag.any⟩ ⟨rfl,rfl,rfl,rfl,rfl,rfl,rfl,rfl,rfl,rfl,rfl,rfl,rfl,rfl,rfl,rfl,rfl,rfl,rfl,rfl,rfl,rfl,rfl,rfl,rfl,rfl,rfl,trivial⟩ rfl
 refine (Zav (l:=[_,_,_,_,_]) rfl rfl Zce rfl (fun b60=>⟨⟨Kn.le.refl _,t2⟩,(ZA 1 kr rfl kr (Zap rfl rfl Zu1 rfl (ZeJ _ _ _ _ _ _ x _ hu hf hi om2) ?_))⟩))
 rintro _ B61 _ hle61 ⟨q61,c61,l61,q61b,c61b,l61b,q61c,c61c,l61c,rfl,rfl,rfl,hv61,hv61b,hv61c⟩
 refine ⟨⟨Kn.le.refl _,t2⟩,(Zbx [_,_,_,_,_,_,_,_,_,_,_,_,_,_,_,_,_,_,_] rfl ?_)⟩
 refine ZkT 16 rfl hv61 Zs.any om (fun B' hle'=>⟨hle',t2⟩) (fun B62 hle62 hr62=>?_)
 replace hw4:=hw4.mono Zag.mono hle62
 replace hw1:=hw1.mono Zs.mono hle62
 replace hw2:=hw2.mono Zu.mono hle62
 replace hw3:=hw3.mono ZI.mono hle62
 replace hs43a:=hs43a.mono Zs.mono hle62
 replace hs44:=hs44.mono Zag.mono hle62
 replace hE:=hE.mono hle62
 have hr62n:=hr62.len
 refine Zff 17 rfl hv61b ZU.known Zu.mono om (fun B' hle'=>⟨hle62.trans hle',t2⟩) (fun B63 hle63 hr63=>?_)
 replace hw4:=hw4.mono Zag.mono hle63
 replace hr62:=up1 hle63 hr62
 replace hw1:=hw1.mono Zs.mono hle63
 replace hw2:=hw2.mono Zu.mono hle63
 replace hw3:=hw3.mono ZI.mono hle63
 replace hs43a:=hs43a.mono Zs.mono hle63
 replace hs44:=hs44.mono Zag.mono hle63
 replace hE:=hE.mono hle63
 have hr63n:=hr63.len
 refine Zff 18 rfl hv61c ZaR.known ZI.mono om (fun B' hle'=>⟨(hle62.trans hle63).trans hle',t2⟩) (fun B64 hle64 hr64=>?_)
 replace hw4:=hw4.mono Zag.mono hle64
 obtain ⟨hr62,hr63⟩:=up2 hle64 hr62 hr63
 replace hw1:=hw1.mono Zs.mono hle64
 replace hw2:=hw2.mono Zu.mono hle64
 replace hw3:=hw3.mono ZI.mono hle64
 replace hs43a:=hs43a.mono Zs.mono hle64
 replace hs44:=hs44.mono Zag.mono hle64
 replace hE:=hE.mono hle64
 have hr64n:=hr64.len
 refine ZA 3 kr rfl kr (Z8 rfl rfl ZuK rfl (ZbL u y z _) ?_)
 refine ⟨⟨((hle62.trans hle63).trans hle64),t2⟩,(Zbx [_,_,_,_,_,_,_,_,_,_,_,_,_,_,_,_,_,_,_] rfl ?_)⟩
 refine ZA 4 kr rfl kr (Zap rfl rfl Zu0 rfl (ZcS hJ _ _ _ _ _ _ x u y z om2 om2 om2 om2 a _ hE hr62 hr63 hr64) ?_)
 rintro _ B66 _ hle66 ⟨q166,c166,q266,c266,q366,c366,l166,l266,l366,qe66,ce66,le66,rfl,rfl,hu66,hf66,hi66,hy66⟩
 replace hw4:=hw4.mono Zag.mono hle66
 replace hw1:=hw1.mono Zs.mono hle66
 replace hw2:=hw2.mono Zu.mono hle66
 replace hw3:=hw3.mono ZI.mono hle66
 replace hs43a:=hs43a.mono Zs.mono hle66
 replace hs44:=hs44.mono Zag.mono hle66
 refine ⟨⟨(((hle62.trans hle63).trans hle64).trans hle66),t2⟩,(Zbx [_,_,_,_,_,_,_,_,_,_,_,_,_,_,_,_,_,_,_,_,_,_,_] rfl ?_)⟩
 refine aM 5 rfl (h:=aE 6 rfl (h:=aE 7 rfl (h:=aE 8 rfl (h:=Zbz 10 kr rfl kr kr (ZM [_,_,_,_,_] 15 [_,_,_,_,_] rfl rfl Zdh rfl rfl rfl rfl rfl rfl rfl rfl ?_)))))
 refine aA 11 rfl (h:=aA 12 rfl (h:=Zt kr kr ?_))
 exact ZdG ⟨_,_,_,_,_,_,_,_,_,_,_,_,_⟩ [_,_,_,_,_,_,_,_,_,_,_,_,_,_,_,_,_,_,_,_,_,_,_] rfl [2,7,8,9,10,11,19,20,21,22,15] ⟨hu66.anyK Zs.any,hf66,hi66,hy66.anyK Zag.any⟩ ⟨rfl,rfl,rfl,rfl,rfl,rfl,rfl,rfl,rfl,rfl,rfl,rfl,rfl,rfl,rfl,rfl,rfl,rfl,rfl,rfl,rfl,rfl,rfl,rfl,rfl,rfl,rfl,trivial⟩ rfl
 obtain ⟨hh1,hh2,hh3,hh4⟩:=hF
 replace hw4:=hw4.mono Zag.mono hle47
 replace hw1:=hw1.mono Zs.mono hle47
 replace hw2:=hw2.mono Zu.mono hle47
 replace hw3:=hw3.mono ZI.mono hle47
 refine ZC [(0,_),(1,_),(2,_),(3,_),(4,_),(5,_),(6,_),(7,_),(8,_),(9,_),(10,_),(11,_),(12,_),(13,_),(14,_),(15,_),(16,_),(17,_),(18,_),(23,_),(28,_),(62,_),(67,_),(89,_),(100,_),(105,_),(108,_)] [_,_,_,_,_,_,_,_,_,_,_] ⟨rfl,rfl,rfl,rfl,rfl,rfl,rfl,rfl,rfl,rfl,rfl,rfl,rfl,rfl,rfl,rfl,rfl,rfl,rfl,rfl,rfl,rfl,rfl,rfl,rfl,rfl,rfl,trivial⟩ rfl (Zc (Za (xL [_,_,_,_,_] Zc6 10 (h:=xL [_,_,_,_,_] Zc6 0 (h:=Zk (ZgE [6,7,8] rfl rfl rfl rfl rfl ZwF rfl (Zaa.borrowL fun hm67=>ZgY _ _ _ _ _ _ _ _ _ _ _ _ ((Zl x ⟨u,y,z⟩).1) ((Zl x ⟨u,y,z⟩).1) _ (hh1.lendK Zs.any 0 rfl hm67 om) (hh2.lendK ZU.known Zu.mono 1 rfl hm67 om) (hh3.lendK ZaR.known ZI.mono 2 rfl hm67 om) (hw1.mono Zs.mono (Kn.le_add _ _)) (hw2.mono Zu.mono (Kn.le_add _ _)) (hw3.mono ZI.mono (Kn.le_add _ _))) ?_))))))
 refine xN (h:=xM (h:=Zy (d:=122) rfl (fun gd=>by simp at gd) (fun gd=>?_)))
 try simp only [sQ,ne_eq] at gd
 refine xM (h:=xM (h:=Zk (Ze7 9 rfl rfl rfl ZxH rfl (Zaa.borrow fun hm68=>Zjj _ _ _ _ _ _ _ ((hh4.anyK Zag.any).lend Zag.mono hm68 om) (hw4.mono Zag.mono (Kn.le_add _ _))) ?_)))
 refine xN (h:=xF (h:=xM (h:=Zy (d:=128) rfl (fun gdb=>by simp at gdb) (fun gdb=>?_))))
 try simp only [sQ,ne_eq] at gdb
 refine xM (h:=xM (h:=ZaL (h:=xF (h:=Zb rfl (fun ge=>by simp at ge) (fun ge=>?_)))))
 try simp only [sQ,ne_eq] at ge
 refine wSk (Za (xA (h:=Za (xL [_,_,_,_,_] Zc6 5 (h:=xM (h:=Zk (ZgE [1,2,3] rfl rfl rfl rfl rfl ZzA rfl (Zaa.borrowL fun hm69=>Zir _ _ _ _ _ _ (Zl x ⟨u,y,z⟩).1 1 oa _ (hs43a.lendK Zs.any 0 rfl hm69 (by simp only [Zat,ZaD,Zbk,Zbb,Zd3];omega)) (hs43b.lendK ZU.known Zu.mono 1 rfl hm69 (by simp only [Zat,ZaD,Zbk,Zbb,Zd3];omega)) (hs43c.lendK ZaR.known ZI.mono 2 rfl hm69 (by simp only [Zat,ZaD,Zbk,Zbb,Zd3];omega))) ?_)))))))
 refine xA (h:=Zc (Za (xM (h:=ZF (h:=Zb rfl (fun gf=>by first | omega | (simp at gf;done) | (simp at gf;omega)) (fun gf=>?_))))))
 try simp only [sQ,ne_eq] at gf
 refine wSk (Za (xM (h:=xM (h:=Zk (Ze7 4 rfl rfl rfl Zzz rfl (Zaa.borrow fun hm70=>Ziq _ _ _ (kH 1 (Zl x ⟨u,y,z⟩).1) _ (Zl x ⟨u,y,z⟩).2.1.length (by first | rfl | exact ZeN _ _) rfl oz _ ((hs44.anyK Zag.any).lend Zag.mono hm70 om)) ?_)))))
 refine xA (h:=Zc (Za (xM (h:=ZF (h:=Zb rfl (fun gg=>by first | omega | (simp at gg;done) | (simp at gg;omega)) (fun gg=>?_))))))
 try simp only [sQ,ne_eq] at gg
 refine wSk (Zc (Za (xM (h:=xM (h:=ZaL (h:=Zb rfl (fun gh=>by simp at gh) (fun gh=>?_)))))))
 try simp only [sQ,ne_eq] at gh
 refine wSk (Za (xA (h:=Ze ?_)))
 exact eR t1 rfl

end Go.Proofs.YtkppijmhadbpdaaGreatDoor
