/-
  THE WALK'S LOGIC: owned cells and known cells, goroutines started and awaited, calls, loops, data, and plain laws on lists: no program in sight.
-/
import Derived.Test.YtgbecfimpgknnaaGreatQ0
namespace Go.BL
set_option linter.unusedVariables false
set_option linter.unusedSimpArgs false
set_option linter.unusedSectionVars false
open Go.Conc Go.ConcN Go.RowKit Go.Conc.Lib Go.ConcR.Gen Go.ConcN.Gen
open Go.ConcR (KK wgBlock WgAt stA smA rd wr mk Payload)
set_option linter.unusedVariables false
set_option linter.unusedSectionVars false
variable [Payload] {L : WgLink} {P : Program} {Wg C n : Nat} {val : Nat → Value} {K : Goroutine → Kn → Cells → Prop} {j : Nat} {B : Kn} {Lc : Cells} {b₀ : Frame} {a₀ : Act} {ops₀ : Array Oper} {i₀ : Nat} {rest₀ : List Nat} {k₀ : List Item} {cs : List Frame}
variable {Jn : JoinT} {X : Lg ⟨P, Jn⟩}
set_option maxRecDepth 100000 in
set_option maxHeartbeats 8000000 in
theorem waitL (H : WgLib P L) (hK : ∀ g B L, X.R g B L → K g B L) (hT : X.R (G (b₀.at (a₀.put ((ops₀[i₀]?).bind (·.dst)) (.tuple #[])) (.inRegion ops₀ rest₀ :: k₀)) cs) B ((C, .cells ((List.range n).map val).toArray Payload.ety (0, 0)) :: Lc)) (M : Nat) (hM : M < 2147483648) (T : Array Value) (hT84 : T.size = 84) (t0 : T[0]? = some (.pointer (some ⟨Wg, 0, none⟩))) :
    PhaseR P L.tWg Wg C n val K (ldOf M) n (G ((base L.wait).at ⟨T, []⟩ [.code (L7 L), .inLoop (L7 L), .inBlock 0]) (b₀.at a₀ (.inRegion ops₀ (i₀ :: rest₀) :: k₀) :: cs)) B Lc := by
  lib_facts
  induction M using Nat.strongRecOn generalizing T with
  | _ M ih =>
    obtain ⟨v0, v1, v2, v3, v4, v5, v6, v7, v8, v9, v10, v11, v12, v13, v14, v15, v16, v17, v18, v19, v20, v21, v22, v23, v24, v25, v26, v27, v28, v29, v30, v31, v32, v33, v34, v35, v36, v37, v38, v39, v40, v41, v42, v43, v44, v45, v46, v47, v48, v49, v50, v51, v52, v53, v54, v55, v56, v57, v58, v59, v60, v61, v62, v63, v64, v65, v66, v67, v68, v69, v70, v71, v72, v73, v74, v75, v76, v77, v78, v79, v80, v81, v82, v83, rfl⟩ := array84 T hT84
    simp only [List.getElem?_toArray, List.getElem?_cons_zero, Option.some.injEq] at t0
    subst t0
    simp only [L7, body_wait, waitFn, Option.getD_some]
    by_cases hM : M = 0
    · subst hM
      simp only [ldOf, if_pos rfl]
      refine phz 120 rfl (fun w hF => ?_)
      (refine Goes.step rfl (fun _ h₁ => ?_); replace hF := (fun _ h => h) hF h₁; clear h₁; rw [stepG_block]; simp only [goes_go]; refine ⟨by (refine di_none ?_; intro e he; simp at he), ?_⟩)
      (refine Goes.step rfl (fun _ h₁ => ?_); replace hF := (fun _ h => h) hF h₁; clear h₁; rw [stepG_seq]; simp only [goes_go]; refine ⟨by (refine di_none ?_; intro e he; simp at he), ?_⟩)
      (refine Goes.step rfl (fun _ h₁ => ?_); replace hF := (fun _ h => h) hF h₁; clear h₁; rw [stepG_region]; simp only [goes_go, List.size_toArray, List.length_cons, List.length_nil, Nat.reduceAdd, Nat.zero_add, List.range, List.range.loop]; refine ⟨by (refine di_none ?_; intro e he; simp at he), ?_⟩)
      (refine Goes.step rfl (fun _ h₁ => ?_); replace hF := (fun _ h => h) hF h₁; clear h₁)
      refine goes_oper_k rfl rfl (by k_ne) (fun K hK => ?_)
      go_simp
      refine hK _ _ ⟨?_, ?_⟩
      · (refine di_none ?_; intro e he; have hm := mem_listed he; simp [go_sem, *] at hm)
      clear hK K
      try w_num
      (refine Goes.step rfl (fun _ h₁ => ?_); replace hF := (fun _ h => h) hF h₁; clear h₁)
      refine goes_oper_k rfl rfl (by k_ne) (fun K hK => ?_)
      go_simp
      refine hK _ _ ⟨?_, ?_⟩
      · (refine di_none ?_; intro e he; have hm := mem_listed he; simp [go_sem, *] at hm)
      clear hK K
      try w_num
      (refine Goes.step rfl (fun _ h₁ => ?_); replace hF := (fun _ h => h) hF h₁; clear h₁)
      refine goes_oper_k rfl rfl (by k_ne) (fun K hK => ?_)
      go_simp
      refine hK _ _ ⟨?_, ?_⟩
      · (refine di_none ?_; intro e he; have hm := mem_listed he; simp [go_sem, *] at hm)
      clear hK K
      try w_num
      (refine Goes.step rfl (fun _ h₁ => ?_); replace hF := (fun _ h => h) hF h₁; clear h₁; refine goes_call rfl rfl (by k_ne) rfl H.f_uLoad (nm_uLoad L) rfl ⟨by (refine di_none ?_; intro e he; simp at he), ?_⟩; walk_nrmf uLoadFn)
      (refine Goes.step rfl (fun _ h₁ => ?_); replace hF := (fun _ h => h) hF h₁; clear h₁; rw [stepG_seq]; simp only [goes_go]; refine ⟨by (refine di_none ?_; intro e he; simp at he), ?_⟩)
      (refine Goes.step rfl (fun _ h₁ => ?_); replace hF := (fun _ h => h) hF h₁; clear h₁; rw [stepG_region]; simp only [goes_go, List.size_toArray, List.length_cons, List.length_nil, Nat.reduceAdd, Nat.zero_add, List.range, List.range.loop]; refine ⟨by (refine di_none ?_; intro e he; simp at he), ?_⟩)
      (refine Goes.step rfl (fun _ h₁ => ?_); replace hF := (fun _ h => h) hF h₁; clear h₁)
      refine goes_oper_k rfl rfl (by k_ne) (fun K hK => ?_)
      go_simp
      refine hK _ _ ⟨?_, ?_⟩
      · (refine di_none ?_; intro e he; have hm := mem_listed he; simp [go_sem, *] at hm)
      clear hK K
      try w_num
      (refine Goes.step rfl (fun _ h₁ => ?_); replace hF := (fun _ h => h) hF h₁; clear h₁; rw [stepG_region_end]; simp only [goes_go]; refine ⟨by (refine di_none ?_; intro e he; simp at he), ?_⟩)
      (refine Goes.step rfl (fun _ h₁ => ?_); replace hF := (fun _ h => h) hF h₁; clear h₁; rw [stepG_seq]; simp only [goes_go]; refine ⟨by (refine di_none ?_; intro e he; simp at he), ?_⟩)
      (refine Goes.step rfl (fun _ h₁ => ?_); replace hF := (fun _ h => h) hF h₁; clear h₁; rw [stepG_region]; simp only [goes_go, List.size_toArray, List.length_cons, List.length_nil, Nat.reduceAdd, Nat.zero_add, List.range, List.range.loop]; refine ⟨by (refine di_none ?_; intro e he; simp at he), ?_⟩)
      (refine Goes.step rfl (fun _ h₁ => ?_); replace hF := (fun _ h => h) hF h₁; clear h₁)
      refine goes_oper_k rfl rfl (by k_ne) (fun K hK => ?_)
      go_simp
      refine hK _ _ ⟨?_, ?_⟩
      · (refine di_none ?_; intro e he; have hm := mem_listed he; simp [go_sem, *] at hm)
      clear hK K
      try w_num
      (refine Goes.step rfl (fun _ h₁ => ?_); replace hF := (fun _ h => h) hF h₁; clear h₁)
      refine goes_oper_k rfl rfl (by k_ne) (fun K hK => ?_)
      go_simp
      refine hK _ _ ⟨?_, ?_⟩
      · (refine di_none ?_; intro e he; have hm := mem_listed he; simp [go_sem, *] at hm)
      clear hK K
      try w_num
      (refine Goes.step rfl (fun _ h₁ => ?_); replace hF := (fun _ h => h) hF h₁; clear h₁)
      refine goes_oper_k rfl rfl (by k_ne) (fun K hK => ?_)
      go_simp
      refine hK _ _ ⟨?_, ?_⟩
      · (refine di_none ?_; intro e he; have hm := mem_listed he; simp [go_sem, *] at hm)
      clear hK K
      try w_num
      refine Goes.stop (fun _ _ => ?_)
      refine PhaseR.ld0 rfl (fun w s hw => stepG_load_atomic (v := 0) rfl rfl (by k_ne) rfl H.f_loadU64 (x_loadU64_n L) (x_loadU64_b L) (x_loadU64_x L) .u64 (x_loadU64_f L) rfl hw.cellSt) ?_
      refine phz 120 rfl (fun w hF => ?_)
      walk_nrm
      (refine Goes.step rfl (fun _ h₁ => ?_); replace hF := (fun _ h => h) hF h₁; clear h₁)
      refine goes_oper_k rfl rfl (by k_ne) (fun K hK => ?_)
      go_simp
      refine hK _ _ ⟨?_, ?_⟩
      · (refine di_none ?_; intro e he; have hm := mem_listed he; simp [go_sem, *] at hm)
      clear hK K
      try w_num
      (refine Goes.step rfl (fun _ h₁ => ?_); replace hF := (fun _ h => h) hF h₁; clear h₁; rw [stepG_region_end]; simp only [goes_go]; refine ⟨by (refine di_none ?_; intro e he; simp at he), ?_⟩)
      (refine Goes.step rfl (fun _ h₁ => ?_); replace hF := (fun _ h => h) hF h₁; clear h₁; rw [stepG_ret']; simp only [goes_go]; refine ⟨by (refine di_none ?_; intro e he; simp at he), ?_⟩)
      (refine Goes.step rfl (fun _ h₁ => ?_); replace hF := (fun _ h => h) hF h₁; clear h₁; refine goes_leave1 rfl rfl H.f_uLoad rfl ⟨by (refine di_none ?_; intro e he; simp at he), ?_⟩; walk_nrm)
      (refine Goes.step rfl (fun _ h₁ => ?_); replace hF := (fun _ h => h) hF h₁; clear h₁)
      refine goes_oper_k rfl rfl (by k_ne) (fun K hK => ?_)
      go_simp
      refine hK _ _ ⟨?_, ?_⟩
      · (refine di_none ?_; intro e he; have hm := mem_listed he; simp [go_sem, *] at hm)
      clear hK K
      try w_num
      (refine Goes.step rfl (fun _ h₁ => ?_); replace hF := (fun _ h => h) hF h₁; clear h₁; rw [stepG_region_end]; simp only [goes_go]; refine ⟨by (refine di_none ?_; intro e he; simp at he), ?_⟩)
      (refine Goes.step rfl (fun _ h₁ => ?_); replace hF := (fun _ h => h) hF h₁; clear h₁; rw [stepG_seq]; simp only [goes_go]; refine ⟨by (refine di_none ?_; intro e he; simp at he), ?_⟩)
      (refine Goes.step rfl (fun _ h₁ => ?_); replace hF := (fun _ h => h) hF h₁; clear h₁; rw [stepG_region]; simp only [goes_go, List.size_toArray, List.length_cons, List.length_nil, Nat.reduceAdd, Nat.zero_add, List.range, List.range.loop]; refine ⟨by (refine di_none ?_; intro e he; simp at he), ?_⟩)
      (refine Goes.step rfl (fun _ h₁ => ?_); replace hF := (fun _ h => h) hF h₁; clear h₁)
      refine goes_oper_k rfl rfl (by k_ne) (fun K hK => ?_)
      go_simp
      refine hK _ _ ⟨?_, ?_⟩
      · (refine di_none ?_; intro e he; have hm := mem_listed he; simp [go_sem, *] at hm)
      clear hK K
      try w_num
      (refine Goes.step rfl (fun _ h₁ => ?_); replace hF := (fun _ h => h) hF h₁; clear h₁)
      refine goes_oper_k rfl rfl (by k_ne) (fun K hK => ?_)
      go_simp
      refine hK _ _ ⟨?_, ?_⟩
      · (refine di_none ?_; intro e he; have hm := mem_listed he; simp [go_sem, *] at hm)
      clear hK K
      try w_num
      (refine Goes.step rfl (fun _ h₁ => ?_); replace hF := (fun _ h => h) hF h₁; clear h₁)
      refine goes_oper_k rfl rfl (by k_ne) (fun K hK => ?_)
      go_simp
      refine hK _ _ ⟨?_, ?_⟩
      · (refine di_none ?_; intro e he; have hm := mem_listed he; simp [go_sem, *] at hm)
      clear hK K
      try w_num
      (refine Goes.step rfl (fun _ h₁ => ?_); replace hF := (fun _ h => h) hF h₁; clear h₁)
      refine goes_oper_k rfl rfl (by k_ne) (fun K hK => ?_)
      go_simp
      refine hK _ _ ⟨?_, ?_⟩
      · (refine di_none ?_; intro e he; have hm := mem_listed he; simp [go_sem, *] at hm)
      clear hK K
      try w_num
      (refine Goes.step rfl (fun _ h₁ => ?_); replace hF := (fun _ h => h) hF h₁; clear h₁; rw [stepG_region_end]; simp only [goes_go]; refine ⟨by (refine di_none ?_; intro e he; simp at he), ?_⟩)
      (refine Goes.step rfl (fun _ h₁ => ?_); replace hF := (fun _ h => h) hF h₁; clear h₁; rw [stepG_seq]; simp only [goes_go]; refine ⟨by (refine di_none ?_; intro e he; simp at he), ?_⟩)
      (refine Goes.step rfl (fun _ h₁ => ?_); replace hF := (fun _ h => h) hF h₁; clear h₁; rw [stepG_region]; simp only [goes_go, List.size_toArray, List.length_cons, List.length_nil, Nat.reduceAdd, Nat.zero_add, List.range, List.range.loop]; refine ⟨by (refine di_none ?_; intro e he; simp at he), ?_⟩)
      (refine Goes.step rfl (fun _ h₁ => ?_); replace hF := (fun _ h => h) hF h₁; clear h₁)
      refine goes_oper_k rfl rfl (by k_ne) (fun K hK => ?_)
      go_simp
      refine hK _ _ ⟨?_, ?_⟩
      · (refine di_none ?_; intro e he; have hm := mem_listed he; simp [go_sem, *] at hm)
      clear hK K
      try w_num
      (refine Goes.step rfl (fun _ h₁ => ?_); replace hF := (fun _ h => h) hF h₁; clear h₁)
      refine goes_oper_k rfl rfl (by k_ne) (fun K hK => ?_)
      go_simp
      refine hK _ _ ⟨?_, ?_⟩
      · (refine di_none ?_; intro e he; have hm := mem_listed he; simp [go_sem, *] at hm)
      clear hK K
      try w_num
      (refine Goes.step rfl (fun _ h₁ => ?_); replace hF := (fun _ h => h) hF h₁; clear h₁)
      refine goes_oper_k rfl rfl (by k_ne) (fun K hK => ?_)
      go_simp
      refine hK _ _ ⟨?_, ?_⟩
      · (refine di_none ?_; intro e he; have hm := mem_listed he; simp [go_sem, *] at hm)
      clear hK K
      try w_num
      (refine Goes.step rfl (fun _ h₁ => ?_); replace hF := (fun _ h => h) hF h₁; clear h₁)
      refine goes_oper_k rfl rfl (by k_ne) (fun K hK => ?_)
      go_simp
      refine hK _ _ ⟨?_, ?_⟩
      · (refine di_none ?_; intro e he; have hm := mem_listed he; simp [go_sem, *] at hm)
      clear hK K
      try w_num
      (refine Goes.step rfl (fun _ h₁ => ?_); replace hF := (fun _ h => h) hF h₁; clear h₁; rw [stepG_region_end]; simp only [goes_go]; refine ⟨by (refine di_none ?_; intro e he; simp at he), ?_⟩)
      (refine Goes.step rfl (fun _ h₁ => ?_); replace hF := (fun _ h => h) hF h₁; clear h₁; rw [stepG_seq]; simp only [goes_go]; refine ⟨by (refine di_none ?_; intro e he; simp at he), ?_⟩)
      (refine Goes.step rfl (fun _ h₁ => ?_); replace hF := (fun _ h => h) hF h₁; clear h₁; rw [stepG_seq]; simp only [goes_go]; refine ⟨by (refine di_none ?_; intro e he; simp at he), ?_⟩)
      (refine Goes.step rfl (fun _ h₁ => ?_); replace hF := (fun _ h => h) hF h₁; clear h₁; rw [stepG_region]; simp only [goes_go, List.size_toArray, List.length_cons, List.length_nil, Nat.reduceAdd, Nat.zero_add, List.range, List.range.loop]; refine ⟨by (refine di_none ?_; intro e he; simp at he), ?_⟩)
      (refine Goes.step rfl (fun _ h₁ => ?_); replace hF := (fun _ h => h) hF h₁; clear h₁)
      refine goes_oper_k rfl rfl (by k_ne) (fun K hK => ?_)
      go_simp
      refine hK _ _ ⟨?_, ?_⟩
      · (refine di_none ?_; intro e he; have hm := mem_listed he; simp [go_sem, *] at hm)
      clear hK K
      try w_num
      (refine Goes.step rfl (fun _ h₁ => ?_); replace hF := (fun _ h => h) hF h₁; clear h₁)
      refine goes_oper_k rfl rfl (by k_ne) (fun K hK => ?_)
      go_simp
      refine hK _ _ ⟨?_, ?_⟩
      · (refine di_none ?_; intro e he; have hm := mem_listed he; simp [go_sem, *] at hm)
      clear hK K
      try w_num
      (refine Goes.step rfl (fun _ h₁ => ?_); replace hF := (fun _ h => h) hF h₁; clear h₁; rw [stepG_region_end]; simp only [goes_go]; refine ⟨by (refine di_none ?_; intro e he; simp at he), ?_⟩)
      (refine Goes.step rfl (fun _ h₁ => ?_); replace hF := (fun _ h => h) hF h₁; clear h₁; rw [stepG_cond (t := true) rfl]; simp only [goes_go, if_true, if_false, Bool.false_eq_true, ↓reduceIte]; refine ⟨by (refine di_none ?_; intro e he; simp at he), ?_⟩)
      (refine Goes.step rfl (fun _ h₁ => ?_); replace hF := (fun _ h => h) hF h₁; clear h₁; rw [stepG_seq]; simp only [goes_go]; refine ⟨by (refine di_none ?_; intro e he; simp at he), ?_⟩)
      (refine Goes.step rfl (fun _ h₁ => ?_); replace hF := (fun _ h => h) hF h₁; clear h₁; rw [stepG_cond (t := true) rfl]; simp only [goes_go, if_true, if_false, Bool.false_eq_true, ↓reduceIte]; refine ⟨by (refine di_none ?_; intro e he; simp at he), ?_⟩)
      (refine Goes.step rfl (fun _ h₁ => ?_); replace hF := (fun _ h => h) hF h₁; clear h₁; rw [stepG_seq]; simp only [goes_go]; refine ⟨by (refine di_none ?_; intro e he; simp at he), ?_⟩)
      (refine Goes.step rfl (fun _ h₁ => ?_); replace hF := (fun _ h => h) hF h₁; clear h₁; rw [stepG_region]; simp only [goes_go, List.size_toArray, List.length_cons, List.length_nil, Nat.reduceAdd, Nat.zero_add, List.range, List.range.loop]; refine ⟨by (refine di_none ?_; intro e he; simp at he), ?_⟩)
      refine Goes.stop (fun _ _ => ?_)
      refine PhaseR.enaW rfl (fun w _ => stepG_mark0 .enable (by simp) rfl rfl (by k_ne) rfl H.f_enable (x_enable_n L) (x_enable_b L) (x_enable_x L) (x_enable_f L)) ?_
      refine phz 120 rfl (fun w hF => ?_)
      walk_nrm
      (refine Goes.step rfl (fun _ h₁ => ?_); replace hF := (fun _ h => h) hF h₁; clear h₁; rw [stepG_region_end]; simp only [goes_go]; refine ⟨by (refine di_none ?_; intro e he; simp at he), ?_⟩)
      (refine Goes.step rfl (fun _ h₁ => ?_); replace hF := (fun _ h => h) hF h₁; clear h₁; rw [stepG_region]; simp only [goes_go, List.size_toArray, List.length_cons, List.length_nil, Nat.reduceAdd, Nat.zero_add, List.range, List.range.loop]; refine ⟨by (refine di_none ?_; intro e he; simp at he), ?_⟩)
      (refine Goes.step rfl (fun _ h₁ => ?_); replace hF := (fun _ h => h) hF h₁; clear h₁)
      refine goes_oper_k rfl rfl (by k_ne) (fun K hK => ?_)
      go_simp
      refine hK _ _ ⟨?_, ?_⟩
      · (refine di_none ?_; intro e he; have hm := mem_listed he; simp [go_sem, *] at hm)
      clear hK K
      try w_num
      (refine Goes.step rfl (fun _ h₁ => ?_); replace hF := (fun _ h => h) hF h₁; clear h₁)
      refine goes_oper_k rfl rfl (by k_ne) (fun Kx hKx => ?_)
      have hcv := run_convert_to_unsafe (P := P) H.underlying_tWgP H.underlying_tUP H.room_tWg (WgLive.cell0 hF.2).choose_spec
      have hce := fun es => events_convert_to_unsafe (P := P) H.underlying_tWgP H.underlying_tUP H.room_tWg (WgLive.cell0 hF.2).choose_spec es
      go_simp
      refine hKx _ _ ⟨?_, ?_⟩
      · (refine di_none ?_; intro ex hex; have hmx := mem_listed hex; simp [go_sem, hce] at hmx)
      clear hKx Kx hcv hce
      refine Goes.stop (fun _ _ => ?_)
      refine PhaseR.acq rfl (fun w _ => stepG_markAt .acquire (by simp) rfl rfl (by k_ne) rfl H.f_acquire (x_acquire_n L) (x_acquire_b L) (x_acquire_x L) (x_acquire_f L) (by simp [Act.eval, stA])) ?_
      refine hK _ _ _ ?_
      walk_nrm
      refine Lg.ctl _ rfl (fun _ => stepG_region_end) ?_
      refine Lg.ctl _ rfl (fun _ => stepG_seq) ?_
      refine Lg.ctl _ rfl (fun _ => stepG_seq) ?_
      (refine Lg.ctl _ rfl (fun _ => stepG_region) ?_; simp only [List.size_toArray, List.length_cons, List.length_nil, Nat.reduceAdd, Nat.zero_add, List.range, List.range.loop])
      (refine Lg.goV (.int .u32 0) rfl rfl (by k_ne) (fun _ => by go_simp; try (first | w_num | decide)) (fun _ => by simp [go_sem, *]) ?_; walk_nrm)
      (refine Lg.goV (.bool true) rfl rfl (by k_ne) (fun _ => by go_simp; try (first | w_num | decide)) (fun _ => by simp [go_sem, *]) ?_; walk_nrm)
      (refine Lg.goV (.bool true) rfl rfl (by k_ne) (fun _ => by go_simp; try (first | w_num | decide)) (fun _ => by simp [go_sem, *]) ?_; walk_nrm)
      (refine Lg.goV (.int .u64 0) rfl rfl (by k_ne) (fun _ => by go_simp; try (first | w_num | decide)) (fun _ => by simp [go_sem, *]) ?_; walk_nrm)
      (refine Lg.goV (.int .u64 0) rfl rfl (by k_ne) (fun _ => by go_simp; try (first | w_num | decide)) (fun _ => by simp [go_sem, *]) ?_; walk_nrm)
      (refine Lg.goV (.bool false) rfl rfl (by k_ne) (fun _ => by go_simp; try (first | w_num | decide)) (fun _ => by simp [go_sem, *]) ?_; walk_nrm)
      (refine Lg.goV (.bool false) rfl rfl (by k_ne) (fun _ => by go_simp; try (first | w_num | decide)) (fun _ => by simp [go_sem, *]) ?_; walk_nrm)
      (refine Lg.goV (.bool false) rfl rfl (by k_ne) (fun _ => by go_simp; try (first | w_num | decide)) (fun _ => by simp [go_sem, *]) ?_; walk_nrm)
      (refine Lg.ctl _ rfl (fun _ => stepG_unwanted rfl rfl) ?_; walk_nrm)
      (refine Lg.ctl _ rfl (fun _ => stepG_unwanted rfl rfl) ?_; walk_nrm)
      (refine Lg.goV (.bool false) rfl rfl (by k_ne) (fun _ => by go_simp; try (first | w_num | decide)) (fun _ => by simp [go_sem, *]) ?_; walk_nrm)
      refine Lg.ctl _ rfl (fun _ => stepG_region_end) ?_
      (refine Lg.ctl _ rfl (fun _ => stepG_cond (t := false) rfl) ?_; simp only [if_true, if_false, Bool.false_eq_true, ↓reduceIte])
      refine Lg.ctl _ rfl (fun _ => stepG_skip) ?_
      refine Lg.ctl _ rfl (fun _ => stepG_ret') ?_
      refine Lg.leave0 rfl rfl H.f_wait rfl ?_
      exact hT
    · simp only [ldOf, if_neg hM]
      refine phz 120 rfl (fun w hF => ?_)
      (refine Goes.step rfl (fun _ h₁ => ?_); replace hF := (fun _ h => h) hF h₁; clear h₁; rw [stepG_block]; simp only [goes_go]; refine ⟨by (refine di_none ?_; intro e he; simp at he), ?_⟩)
      (refine Goes.step rfl (fun _ h₁ => ?_); replace hF := (fun _ h => h) hF h₁; clear h₁; rw [stepG_seq]; simp only [goes_go]; refine ⟨by (refine di_none ?_; intro e he; simp at he), ?_⟩)
      (refine Goes.step rfl (fun _ h₁ => ?_); replace hF := (fun _ h => h) hF h₁; clear h₁; rw [stepG_region]; simp only [goes_go, List.size_toArray, List.length_cons, List.length_nil, Nat.reduceAdd, Nat.zero_add, List.range, List.range.loop]; refine ⟨by (refine di_none ?_; intro e he; simp at he), ?_⟩)
      (refine Goes.step rfl (fun _ h₁ => ?_); replace hF := (fun _ h => h) hF h₁; clear h₁)
      refine goes_oper_k rfl rfl (by k_ne) (fun K hK => ?_)
      go_simp
      refine hK _ _ ⟨?_, ?_⟩
      · (refine di_none ?_; intro e he; have hm := mem_listed he; simp [go_sem, *] at hm)
      clear hK K
      try w_num
      (refine Goes.step rfl (fun _ h₁ => ?_); replace hF := (fun _ h => h) hF h₁; clear h₁)
      refine goes_oper_k rfl rfl (by k_ne) (fun K hK => ?_)
      go_simp
      refine hK _ _ ⟨?_, ?_⟩
      · (refine di_none ?_; intro e he; have hm := mem_listed he; simp [go_sem, *] at hm)
      clear hK K
      try w_num
      (refine Goes.step rfl (fun _ h₁ => ?_); replace hF := (fun _ h => h) hF h₁; clear h₁)
      refine goes_oper_k rfl rfl (by k_ne) (fun K hK => ?_)
      go_simp
      refine hK _ _ ⟨?_, ?_⟩
      · (refine di_none ?_; intro e he; have hm := mem_listed he; simp [go_sem, *] at hm)
      clear hK K
      try w_num
      (refine Goes.step rfl (fun _ h₁ => ?_); replace hF := (fun _ h => h) hF h₁; clear h₁; refine goes_call rfl rfl (by k_ne) rfl H.f_uLoad (nm_uLoad L) rfl ⟨by (refine di_none ?_; intro e he; simp at he), ?_⟩; walk_nrmf uLoadFn)
      (refine Goes.step rfl (fun _ h₁ => ?_); replace hF := (fun _ h => h) hF h₁; clear h₁; rw [stepG_seq]; simp only [goes_go]; refine ⟨by (refine di_none ?_; intro e he; simp at he), ?_⟩)
      (refine Goes.step rfl (fun _ h₁ => ?_); replace hF := (fun _ h => h) hF h₁; clear h₁; rw [stepG_region]; simp only [goes_go, List.size_toArray, List.length_cons, List.length_nil, Nat.reduceAdd, Nat.zero_add, List.range, List.range.loop]; refine ⟨by (refine di_none ?_; intro e he; simp at he), ?_⟩)
      (refine Goes.step rfl (fun _ h₁ => ?_); replace hF := (fun _ h => h) hF h₁; clear h₁)
      refine goes_oper_k rfl rfl (by k_ne) (fun K hK => ?_)
      go_simp
      refine hK _ _ ⟨?_, ?_⟩
      · (refine di_none ?_; intro e he; have hm := mem_listed he; simp [go_sem, *] at hm)
      clear hK K
      try w_num
      (refine Goes.step rfl (fun _ h₁ => ?_); replace hF := (fun _ h => h) hF h₁; clear h₁; rw [stepG_region_end]; simp only [goes_go]; refine ⟨by (refine di_none ?_; intro e he; simp at he), ?_⟩)
      (refine Goes.step rfl (fun _ h₁ => ?_); replace hF := (fun _ h => h) hF h₁; clear h₁; rw [stepG_seq]; simp only [goes_go]; refine ⟨by (refine di_none ?_; intro e he; simp at he), ?_⟩)
      (refine Goes.step rfl (fun _ h₁ => ?_); replace hF := (fun _ h => h) hF h₁; clear h₁; rw [stepG_region]; simp only [goes_go, List.size_toArray, List.length_cons, List.length_nil, Nat.reduceAdd, Nat.zero_add, List.range, List.range.loop]; refine ⟨by (refine di_none ?_; intro e he; simp at he), ?_⟩)
      (refine Goes.step rfl (fun _ h₁ => ?_); replace hF := (fun _ h => h) hF h₁; clear h₁)
      refine goes_oper_k rfl rfl (by k_ne) (fun K hK => ?_)
      go_simp
      refine hK _ _ ⟨?_, ?_⟩
      · (refine di_none ?_; intro e he; have hm := mem_listed he; simp [go_sem, *] at hm)
      clear hK K
      try w_num
      (refine Goes.step rfl (fun _ h₁ => ?_); replace hF := (fun _ h => h) hF h₁; clear h₁)
      refine goes_oper_k rfl rfl (by k_ne) (fun K hK => ?_)
      go_simp
      refine hK _ _ ⟨?_, ?_⟩
      · (refine di_none ?_; intro e he; have hm := mem_listed he; simp [go_sem, *] at hm)
      clear hK K
      try w_num
      (refine Goes.step rfl (fun _ h₁ => ?_); replace hF := (fun _ h => h) hF h₁; clear h₁)
      refine goes_oper_k rfl rfl (by k_ne) (fun K hK => ?_)
      go_simp
      refine hK _ _ ⟨?_, ?_⟩
      · (refine di_none ?_; intro e he; have hm := mem_listed he; simp [go_sem, *] at hm)
      clear hK K
      try w_num
      refine Goes.stop (fun _ _ => ?_)
      refine PhaseR.ldb rfl (fun w v s hv hw => stepG_load_atomic (v := (v : Int) * KK) rfl rfl (by k_ne) rfl H.f_loadU64 (x_loadU64_n L) (x_loadU64_b L) (x_loadU64_x L) .u64 (x_loadU64_f L) rfl hw.cellSt) ?_ (fun v hv0 hvM hv => ?_)
      · have e0 : ((0 : Nat) : Int) * KK = 0 := by simp
        rw [e0]
        clear e0
        refine phz 120 rfl (fun w hF => ?_)
        walk_nrm
        (refine Goes.step rfl (fun _ h₁ => ?_); replace hF := (fun _ h => h) hF h₁; clear h₁)
        refine goes_oper_k rfl rfl (by k_ne) (fun K hK => ?_)
        go_simp
        refine hK _ _ ⟨?_, ?_⟩
        · (refine di_none ?_; intro e he; have hm := mem_listed he; simp [go_sem, *] at hm)
        clear hK K
        try w_num
        (refine Goes.step rfl (fun _ h₁ => ?_); replace hF := (fun _ h => h) hF h₁; clear h₁; rw [stepG_region_end]; simp only [goes_go]; refine ⟨by (refine di_none ?_; intro e he; simp at he), ?_⟩)
        (refine Goes.step rfl (fun _ h₁ => ?_); replace hF := (fun _ h => h) hF h₁; clear h₁; rw [stepG_ret']; simp only [goes_go]; refine ⟨by (refine di_none ?_; intro e he; simp at he), ?_⟩)
        (refine Goes.step rfl (fun _ h₁ => ?_); replace hF := (fun _ h => h) hF h₁; clear h₁; refine goes_leave1 rfl rfl H.f_uLoad rfl ⟨by (refine di_none ?_; intro e he; simp at he), ?_⟩; walk_nrm)
        (refine Goes.step rfl (fun _ h₁ => ?_); replace hF := (fun _ h => h) hF h₁; clear h₁)
        refine goes_oper_k rfl rfl (by k_ne) (fun K hK => ?_)
        go_simp
        refine hK _ _ ⟨?_, ?_⟩
        · (refine di_none ?_; intro e he; have hm := mem_listed he; simp [go_sem, *] at hm)
        clear hK K
        try w_num
        (refine Goes.step rfl (fun _ h₁ => ?_); replace hF := (fun _ h => h) hF h₁; clear h₁; rw [stepG_region_end]; simp only [goes_go]; refine ⟨by (refine di_none ?_; intro e he; simp at he), ?_⟩)
        (refine Goes.step rfl (fun _ h₁ => ?_); replace hF := (fun _ h => h) hF h₁; clear h₁; rw [stepG_seq]; simp only [goes_go]; refine ⟨by (refine di_none ?_; intro e he; simp at he), ?_⟩)
        (refine Goes.step rfl (fun _ h₁ => ?_); replace hF := (fun _ h => h) hF h₁; clear h₁; rw [stepG_region]; simp only [goes_go, List.size_toArray, List.length_cons, List.length_nil, Nat.reduceAdd, Nat.zero_add, List.range, List.range.loop]; refine ⟨by (refine di_none ?_; intro e he; simp at he), ?_⟩)
        (refine Goes.step rfl (fun _ h₁ => ?_); replace hF := (fun _ h => h) hF h₁; clear h₁)
        refine goes_oper_k rfl rfl (by k_ne) (fun K hK => ?_)
        go_simp
        refine hK _ _ ⟨?_, ?_⟩
        · (refine di_none ?_; intro e he; have hm := mem_listed he; simp [go_sem, *] at hm)
        clear hK K
        try w_num
        (refine Goes.step rfl (fun _ h₁ => ?_); replace hF := (fun _ h => h) hF h₁; clear h₁)
        refine goes_oper_k rfl rfl (by k_ne) (fun K hK => ?_)
        go_simp
        refine hK _ _ ⟨?_, ?_⟩
        · (refine di_none ?_; intro e he; have hm := mem_listed he; simp [go_sem, *] at hm)
        clear hK K
        try w_num
        (refine Goes.step rfl (fun _ h₁ => ?_); replace hF := (fun _ h => h) hF h₁; clear h₁)
        refine goes_oper_k rfl rfl (by k_ne) (fun K hK => ?_)
        go_simp
        refine hK _ _ ⟨?_, ?_⟩
        · (refine di_none ?_; intro e he; have hm := mem_listed he; simp [go_sem, *] at hm)
        clear hK K
        try w_num
        (refine Goes.step rfl (fun _ h₁ => ?_); replace hF := (fun _ h => h) hF h₁; clear h₁)
        refine goes_oper_k rfl rfl (by k_ne) (fun K hK => ?_)
        go_simp
        refine hK _ _ ⟨?_, ?_⟩
        · (refine di_none ?_; intro e he; have hm := mem_listed he; simp [go_sem, *] at hm)
        clear hK K
        try w_num
        (refine Goes.step rfl (fun _ h₁ => ?_); replace hF := (fun _ h => h) hF h₁; clear h₁; rw [stepG_region_end]; simp only [goes_go]; refine ⟨by (refine di_none ?_; intro e he; simp at he), ?_⟩)
        (refine Goes.step rfl (fun _ h₁ => ?_); replace hF := (fun _ h => h) hF h₁; clear h₁; rw [stepG_seq]; simp only [goes_go]; refine ⟨by (refine di_none ?_; intro e he; simp at he), ?_⟩)
        (refine Goes.step rfl (fun _ h₁ => ?_); replace hF := (fun _ h => h) hF h₁; clear h₁; rw [stepG_region]; simp only [goes_go, List.size_toArray, List.length_cons, List.length_nil, Nat.reduceAdd, Nat.zero_add, List.range, List.range.loop]; refine ⟨by (refine di_none ?_; intro e he; simp at he), ?_⟩)
        (refine Goes.step rfl (fun _ h₁ => ?_); replace hF := (fun _ h => h) hF h₁; clear h₁)
        refine goes_oper_k rfl rfl (by k_ne) (fun K hK => ?_)
        go_simp
        refine hK _ _ ⟨?_, ?_⟩
        · (refine di_none ?_; intro e he; have hm := mem_listed he; simp [go_sem, *] at hm)
        clear hK K
        try w_num
        (refine Goes.step rfl (fun _ h₁ => ?_); replace hF := (fun _ h => h) hF h₁; clear h₁)
        refine goes_oper_k rfl rfl (by k_ne) (fun K hK => ?_)
        go_simp
        refine hK _ _ ⟨?_, ?_⟩
        · (refine di_none ?_; intro e he; have hm := mem_listed he; simp [go_sem, *] at hm)
        clear hK K
        try w_num
        (refine Goes.step rfl (fun _ h₁ => ?_); replace hF := (fun _ h => h) hF h₁; clear h₁)
        refine goes_oper_k rfl rfl (by k_ne) (fun K hK => ?_)
        go_simp
        refine hK _ _ ⟨?_, ?_⟩
        · (refine di_none ?_; intro e he; have hm := mem_listed he; simp [go_sem, *] at hm)
        clear hK K
        try w_num
        (refine Goes.step rfl (fun _ h₁ => ?_); replace hF := (fun _ h => h) hF h₁; clear h₁)
        refine goes_oper_k rfl rfl (by k_ne) (fun K hK => ?_)
        go_simp
        refine hK _ _ ⟨?_, ?_⟩
        · (refine di_none ?_; intro e he; have hm := mem_listed he; simp [go_sem, *] at hm)
        clear hK K
        try w_num
        (refine Goes.step rfl (fun _ h₁ => ?_); replace hF := (fun _ h => h) hF h₁; clear h₁; rw [stepG_region_end]; simp only [goes_go]; refine ⟨by (refine di_none ?_; intro e he; simp at he), ?_⟩)
        (refine Goes.step rfl (fun _ h₁ => ?_); replace hF := (fun _ h => h) hF h₁; clear h₁; rw [stepG_seq]; simp only [goes_go]; refine ⟨by (refine di_none ?_; intro e he; simp at he), ?_⟩)
        (refine Goes.step rfl (fun _ h₁ => ?_); replace hF := (fun _ h => h) hF h₁; clear h₁; rw [stepG_seq]; simp only [goes_go]; refine ⟨by (refine di_none ?_; intro e he; simp at he), ?_⟩)
        (refine Goes.step rfl (fun _ h₁ => ?_); replace hF := (fun _ h => h) hF h₁; clear h₁; rw [stepG_region]; simp only [goes_go, List.size_toArray, List.length_cons, List.length_nil, Nat.reduceAdd, Nat.zero_add, List.range, List.range.loop]; refine ⟨by (refine di_none ?_; intro e he; simp at he), ?_⟩)
        (refine Goes.step rfl (fun _ h₁ => ?_); replace hF := (fun _ h => h) hF h₁; clear h₁)
        refine goes_oper_k rfl rfl (by k_ne) (fun K hK => ?_)
        go_simp
        refine hK _ _ ⟨?_, ?_⟩
        · (refine di_none ?_; intro e he; have hm := mem_listed he; simp [go_sem, *] at hm)
        clear hK K
        try w_num
        (refine Goes.step rfl (fun _ h₁ => ?_); replace hF := (fun _ h => h) hF h₁; clear h₁)
        refine goes_oper_k rfl rfl (by k_ne) (fun K hK => ?_)
        go_simp
        refine hK _ _ ⟨?_, ?_⟩
        · (refine di_none ?_; intro e he; have hm := mem_listed he; simp [go_sem, *] at hm)
        clear hK K
        try w_num
        (refine Goes.step rfl (fun _ h₁ => ?_); replace hF := (fun _ h => h) hF h₁; clear h₁; rw [stepG_region_end]; simp only [goes_go]; refine ⟨by (refine di_none ?_; intro e he; simp at he), ?_⟩)
        (refine Goes.step rfl (fun _ h₁ => ?_); replace hF := (fun _ h => h) hF h₁; clear h₁; rw [stepG_cond (t := true) rfl]; simp only [goes_go, if_true, if_false, Bool.false_eq_true, ↓reduceIte]; refine ⟨by (refine di_none ?_; intro e he; simp at he), ?_⟩)
        (refine Goes.step rfl (fun _ h₁ => ?_); replace hF := (fun _ h => h) hF h₁; clear h₁; rw [stepG_seq]; simp only [goes_go]; refine ⟨by (refine di_none ?_; intro e he; simp at he), ?_⟩)
        (refine Goes.step rfl (fun _ h₁ => ?_); replace hF := (fun _ h => h) hF h₁; clear h₁; rw [stepG_cond (t := true) rfl]; simp only [goes_go, if_true, if_false, Bool.false_eq_true, ↓reduceIte]; refine ⟨by (refine di_none ?_; intro e he; simp at he), ?_⟩)
        (refine Goes.step rfl (fun _ h₁ => ?_); replace hF := (fun _ h => h) hF h₁; clear h₁; rw [stepG_seq]; simp only [goes_go]; refine ⟨by (refine di_none ?_; intro e he; simp at he), ?_⟩)
        (refine Goes.step rfl (fun _ h₁ => ?_); replace hF := (fun _ h => h) hF h₁; clear h₁; rw [stepG_region]; simp only [goes_go, List.size_toArray, List.length_cons, List.length_nil, Nat.reduceAdd, Nat.zero_add, List.range, List.range.loop]; refine ⟨by (refine di_none ?_; intro e he; simp at he), ?_⟩)
        refine Goes.stop (fun _ _ => ?_)
        refine PhaseR.enaW rfl (fun w _ => stepG_mark0 .enable (by simp) rfl rfl (by k_ne) rfl H.f_enable (x_enable_n L) (x_enable_b L) (x_enable_x L) (x_enable_f L)) ?_
        refine phz 120 rfl (fun w hF => ?_)
        walk_nrm
        (refine Goes.step rfl (fun _ h₁ => ?_); replace hF := (fun _ h => h) hF h₁; clear h₁; rw [stepG_region_end]; simp only [goes_go]; refine ⟨by (refine di_none ?_; intro e he; simp at he), ?_⟩)
        (refine Goes.step rfl (fun _ h₁ => ?_); replace hF := (fun _ h => h) hF h₁; clear h₁; rw [stepG_region]; simp only [goes_go, List.size_toArray, List.length_cons, List.length_nil, Nat.reduceAdd, Nat.zero_add, List.range, List.range.loop]; refine ⟨by (refine di_none ?_; intro e he; simp at he), ?_⟩)
        (refine Goes.step rfl (fun _ h₁ => ?_); replace hF := (fun _ h => h) hF h₁; clear h₁)
        refine goes_oper_k rfl rfl (by k_ne) (fun K hK => ?_)
        go_simp
        refine hK _ _ ⟨?_, ?_⟩
        · (refine di_none ?_; intro e he; have hm := mem_listed he; simp [go_sem, *] at hm)
        clear hK K
        try w_num
        (refine Goes.step rfl (fun _ h₁ => ?_); replace hF := (fun _ h => h) hF h₁; clear h₁)
        refine goes_oper_k rfl rfl (by k_ne) (fun Kx hKx => ?_)
        have hcv := run_convert_to_unsafe (P := P) H.underlying_tWgP H.underlying_tUP H.room_tWg (WgLive.cell0 hF.2).choose_spec
        have hce := fun es => events_convert_to_unsafe (P := P) H.underlying_tWgP H.underlying_tUP H.room_tWg (WgLive.cell0 hF.2).choose_spec es
        go_simp
        refine hKx _ _ ⟨?_, ?_⟩
        · (refine di_none ?_; intro ex hex; have hmx := mem_listed hex; simp [go_sem, hce] at hmx)
        clear hKx Kx hcv hce
        refine Goes.stop (fun _ _ => ?_)
        refine PhaseR.acq rfl (fun w _ => stepG_markAt .acquire (by simp) rfl rfl (by k_ne) rfl H.f_acquire (x_acquire_n L) (x_acquire_b L) (x_acquire_x L) (x_acquire_f L) (by simp [Act.eval, stA])) ?_
        refine hK _ _ _ ?_
        walk_nrm
        refine Lg.ctl _ rfl (fun _ => stepG_region_end) ?_
        refine Lg.ctl _ rfl (fun _ => stepG_seq) ?_
        refine Lg.ctl _ rfl (fun _ => stepG_seq) ?_
        (refine Lg.ctl _ rfl (fun _ => stepG_region) ?_; simp only [List.size_toArray, List.length_cons, List.length_nil, Nat.reduceAdd, Nat.zero_add, List.range, List.range.loop])
        (refine Lg.goV (.int .u32 0) rfl rfl (by k_ne) (fun _ => by go_simp; try (first | w_num | decide)) (fun _ => by simp [go_sem, *]) ?_; walk_nrm)
        (refine Lg.goV (.bool true) rfl rfl (by k_ne) (fun _ => by go_simp; try (first | w_num | decide)) (fun _ => by simp [go_sem, *]) ?_; walk_nrm)
        (refine Lg.goV (.bool true) rfl rfl (by k_ne) (fun _ => by go_simp; try (first | w_num | decide)) (fun _ => by simp [go_sem, *]) ?_; walk_nrm)
        (refine Lg.goV (.int .u64 0) rfl rfl (by k_ne) (fun _ => by go_simp; try (first | w_num | decide)) (fun _ => by simp [go_sem, *]) ?_; walk_nrm)
        (refine Lg.goV (.int .u64 0) rfl rfl (by k_ne) (fun _ => by go_simp; try (first | w_num | decide)) (fun _ => by simp [go_sem, *]) ?_; walk_nrm)
        (refine Lg.goV (.bool false) rfl rfl (by k_ne) (fun _ => by go_simp; try (first | w_num | decide)) (fun _ => by simp [go_sem, *]) ?_; walk_nrm)
        (refine Lg.goV (.bool false) rfl rfl (by k_ne) (fun _ => by go_simp; try (first | w_num | decide)) (fun _ => by simp [go_sem, *]) ?_; walk_nrm)
        (refine Lg.goV (.bool false) rfl rfl (by k_ne) (fun _ => by go_simp; try (first | w_num | decide)) (fun _ => by simp [go_sem, *]) ?_; walk_nrm)
        (refine Lg.ctl _ rfl (fun _ => stepG_unwanted rfl rfl) ?_; walk_nrm)
        (refine Lg.ctl _ rfl (fun _ => stepG_unwanted rfl rfl) ?_; walk_nrm)
        (refine Lg.goV (.bool false) rfl rfl (by k_ne) (fun _ => by go_simp; try (first | w_num | decide)) (fun _ => by simp [go_sem, *]) ?_; walk_nrm)
        refine Lg.ctl _ rfl (fun _ => stepG_region_end) ?_
        (refine Lg.ctl _ rfl (fun _ => stepG_cond (t := false) rfl) ?_; simp only [if_true, if_false, Bool.false_eq_true, ↓reduceIte])
        refine Lg.ctl _ rfl (fun _ => stepG_skip) ?_
        refine Lg.ctl _ rfl (fun _ => stepG_ret') ?_
        refine Lg.leave0 rfl rfl H.f_wait rfl ?_
        exact hT
      · obtain ⟨S, hS⟩ : ∃ S : Int, (v : Int) * KK = S := ⟨_, rfl⟩
        have a1 : S / 4294967296 = (v : Int) := by rw [← hS]; simp only [KK]; omega
        have b1 : bits .and .u64 S 2147483648 = 0 := by rw [← hS]; have := st_flag v 0 (by omega) (by omega); simpa [KK] using this
        have b2 : bits .and .u64 S 2147483647 = 0 := by rw [← hS]; have := st_waiters v 0 (by omega) (by omega); simpa [KK] using this
        have c1 : IntKind.i32.wrap (v : Int) = (v : Int) := by rw [IntKind.wrap_i32]; omega
        have w1 : IntKind.u64.wrap (S + 1) = S + 1 := by rw [IntKind.wrap_u64, ← hS]; simp only [KK]; omega
        have q3 : decide ((v : Int) < 0) = false := decide_eq_false (by omega)
        have q4 : decide (0 < (v : Int)) = true := decide_eq_true (by omega)
        have q5 : ((v : Int) == 0) = false := by simp; omega
        have q6 : decide ((v : Int) = 0) = false := decide_eq_false (by omega)
        rw [hS]
        refine phz 120 rfl (fun w hF => ?_)
        walk_nrm
        (refine Goes.step rfl (fun _ h₁ => ?_); replace hF := (fun _ h => h) hF h₁; clear h₁)
        refine goes_oper_k rfl rfl (by k_ne) (fun K hK => ?_)
        go_simp
        refine hK _ _ ⟨?_, ?_⟩
        · (refine di_none ?_; intro e he; have hm := mem_listed he; simp [go_sem, *] at hm)
        clear hK K
        try w_num
        (refine Goes.step rfl (fun _ h₁ => ?_); replace hF := (fun _ h => h) hF h₁; clear h₁; rw [stepG_region_end]; simp only [goes_go]; refine ⟨by (refine di_none ?_; intro e he; simp at he), ?_⟩)
        (refine Goes.step rfl (fun _ h₁ => ?_); replace hF := (fun _ h => h) hF h₁; clear h₁; rw [stepG_ret']; simp only [goes_go]; refine ⟨by (refine di_none ?_; intro e he; simp at he), ?_⟩)
        (refine Goes.step rfl (fun _ h₁ => ?_); replace hF := (fun _ h => h) hF h₁; clear h₁; refine goes_leave1 rfl rfl H.f_uLoad rfl ⟨by (refine di_none ?_; intro e he; simp at he), ?_⟩; walk_nrm)
        (refine Goes.step rfl (fun _ h₁ => ?_); replace hF := (fun _ h => h) hF h₁; clear h₁)
        refine goes_oper_k rfl rfl (by k_ne) (fun K hK => ?_)
        go_simp
        refine hK _ _ ⟨?_, ?_⟩
        · (refine di_none ?_; intro e he; have hm := mem_listed he; simp [go_sem, *] at hm)
        clear hK K
        try w_num
        (refine Goes.step rfl (fun _ h₁ => ?_); replace hF := (fun _ h => h) hF h₁; clear h₁; rw [stepG_region_end]; simp only [goes_go]; refine ⟨by (refine di_none ?_; intro e he; simp at he), ?_⟩)
        (refine Goes.step rfl (fun _ h₁ => ?_); replace hF := (fun _ h => h) hF h₁; clear h₁; rw [stepG_seq]; simp only [goes_go]; refine ⟨by (refine di_none ?_; intro e he; simp at he), ?_⟩)
        (refine Goes.step rfl (fun _ h₁ => ?_); replace hF := (fun _ h => h) hF h₁; clear h₁; rw [stepG_region]; simp only [goes_go, List.size_toArray, List.length_cons, List.length_nil, Nat.reduceAdd, Nat.zero_add, List.range, List.range.loop]; refine ⟨by (refine di_none ?_; intro e he; simp at he), ?_⟩)
        (refine Goes.step rfl (fun _ h₁ => ?_); replace hF := (fun _ h => h) hF h₁; clear h₁)
        refine goes_oper_k rfl rfl (by k_ne) (fun K hK => ?_)
        go_simp
        refine hK _ _ ⟨?_, ?_⟩
        · (refine di_none ?_; intro e he; have hm := mem_listed he; simp [go_sem, *] at hm)
        clear hK K
        try w_num
        (refine Goes.step rfl (fun _ h₁ => ?_); replace hF := (fun _ h => h) hF h₁; clear h₁)
        refine goes_oper_k rfl rfl (by k_ne) (fun K hK => ?_)
        go_simp
        refine hK _ _ ⟨?_, ?_⟩
        · (refine di_none ?_; intro e he; have hm := mem_listed he; simp [go_sem, *] at hm)
        clear hK K
        try w_num
        (refine Goes.step rfl (fun _ h₁ => ?_); replace hF := (fun _ h => h) hF h₁; clear h₁)
        refine goes_oper_k rfl rfl (by k_ne) (fun K hK => ?_)
        go_simp
        refine hK _ _ ⟨?_, ?_⟩
        · (refine di_none ?_; intro e he; have hm := mem_listed he; simp [go_sem, *] at hm)
        clear hK K
        try w_num
        (refine Goes.step rfl (fun _ h₁ => ?_); replace hF := (fun _ h => h) hF h₁; clear h₁)
        refine goes_oper_k rfl rfl (by k_ne) (fun K hK => ?_)
        go_simp
        refine hK _ _ ⟨?_, ?_⟩
        · (refine di_none ?_; intro e he; have hm := mem_listed he; simp [go_sem, *] at hm)
        clear hK K
        try w_num
        (refine Goes.step rfl (fun _ h₁ => ?_); replace hF := (fun _ h => h) hF h₁; clear h₁; rw [stepG_region_end]; simp only [goes_go]; refine ⟨by (refine di_none ?_; intro e he; simp at he), ?_⟩)
        (refine Goes.step rfl (fun _ h₁ => ?_); replace hF := (fun _ h => h) hF h₁; clear h₁; rw [stepG_seq]; simp only [goes_go]; refine ⟨by (refine di_none ?_; intro e he; simp at he), ?_⟩)
        (refine Goes.step rfl (fun _ h₁ => ?_); replace hF := (fun _ h => h) hF h₁; clear h₁; rw [stepG_region]; simp only [goes_go, List.size_toArray, List.length_cons, List.length_nil, Nat.reduceAdd, Nat.zero_add, List.range, List.range.loop]; refine ⟨by (refine di_none ?_; intro e he; simp at he), ?_⟩)
        (refine Goes.step rfl (fun _ h₁ => ?_); replace hF := (fun _ h => h) hF h₁; clear h₁)
        refine goes_oper_k rfl rfl (by k_ne) (fun K hK => ?_)
        go_simp
        refine hK _ _ ⟨?_, ?_⟩
        · (refine di_none ?_; intro e he; have hm := mem_listed he; simp [go_sem, *] at hm)
        clear hK K
        try w_num
        (refine Goes.step rfl (fun _ h₁ => ?_); replace hF := (fun _ h => h) hF h₁; clear h₁)
        refine goes_oper_k rfl rfl (by k_ne) (fun K hK => ?_)
        go_simp
        refine hK _ _ ⟨?_, ?_⟩
        · (refine di_none ?_; intro e he; have hm := mem_listed he; simp [go_sem, *] at hm)
        clear hK K
        try w_num
        (refine Goes.step rfl (fun _ h₁ => ?_); replace hF := (fun _ h => h) hF h₁; clear h₁)
        refine goes_oper_k rfl rfl (by k_ne) (fun K hK => ?_)
        go_simp
        refine hK _ _ ⟨?_, ?_⟩
        · (refine di_none ?_; intro e he; have hm := mem_listed he; simp [go_sem, *] at hm)
        clear hK K
        try w_num
        (refine Goes.step rfl (fun _ h₁ => ?_); replace hF := (fun _ h => h) hF h₁; clear h₁)
        refine goes_oper_k rfl rfl (by k_ne) (fun K hK => ?_)
        go_simp
        refine hK _ _ ⟨?_, ?_⟩
        · (refine di_none ?_; intro e he; have hm := mem_listed he; simp [go_sem, *] at hm)
        clear hK K
        try w_num
        (refine Goes.step rfl (fun _ h₁ => ?_); replace hF := (fun _ h => h) hF h₁; clear h₁; rw [stepG_region_end]; simp only [goes_go]; refine ⟨by (refine di_none ?_; intro e he; simp at he), ?_⟩)
        (refine Goes.step rfl (fun _ h₁ => ?_); replace hF := (fun _ h => h) hF h₁; clear h₁; rw [stepG_seq]; simp only [goes_go]; refine ⟨by (refine di_none ?_; intro e he; simp at he), ?_⟩)
        (refine Goes.step rfl (fun _ h₁ => ?_); replace hF := (fun _ h => h) hF h₁; clear h₁; rw [stepG_seq]; simp only [goes_go]; refine ⟨by (refine di_none ?_; intro e he; simp at he), ?_⟩)
        (refine Goes.step rfl (fun _ h₁ => ?_); replace hF := (fun _ h => h) hF h₁; clear h₁; rw [stepG_region]; simp only [goes_go, List.size_toArray, List.length_cons, List.length_nil, Nat.reduceAdd, Nat.zero_add, List.range, List.range.loop]; refine ⟨by (refine di_none ?_; intro e he; simp at he), ?_⟩)
        (refine Goes.step rfl (fun _ h₁ => ?_); replace hF := (fun _ h => h) hF h₁; clear h₁)
        refine goes_oper_k rfl rfl (by k_ne) (fun K hK => ?_)
        go_simp
        refine hK _ _ ⟨?_, ?_⟩
        · (refine di_none ?_; intro e he; have hm := mem_listed he; simp [go_sem, *] at hm)
        clear hK K
        try w_num
        (refine Goes.step rfl (fun _ h₁ => ?_); replace hF := (fun _ h => h) hF h₁; clear h₁)
        refine goes_oper_k rfl rfl (by k_ne) (fun K hK => ?_)
        go_simp
        refine hK _ _ ⟨?_, ?_⟩
        · (refine di_none ?_; intro e he; have hm := mem_listed he; simp [go_sem, *] at hm)
        clear hK K
        try w_num
        (refine Goes.step rfl (fun _ h₁ => ?_); replace hF := (fun _ h => h) hF h₁; clear h₁; rw [stepG_region_end]; simp only [goes_go]; refine ⟨by (refine di_none ?_; intro e he; simp at he), ?_⟩)
        (refine Goes.step rfl (fun _ h₁ => ?_); replace hF := (fun _ h => h) hF h₁; clear h₁; rw [stepG_cond (t := false) (by first | rfl | (simp [Act.eval]; omega))]; simp only [goes_go, if_true, if_false, Bool.false_eq_true, ↓reduceIte]; refine ⟨by (refine di_none ?_; intro e he; simp at he), ?_⟩)
        (refine Goes.step rfl (fun _ h₁ => ?_); replace hF := (fun _ h => h) hF h₁; clear h₁; rw [stepG_skip]; simp only [goes_go]; refine ⟨by (refine di_none ?_; intro e he; simp at he), ?_⟩)
        (refine Goes.step rfl (fun _ h₁ => ?_); replace hF := (fun _ h => h) hF h₁; clear h₁; rw [stepG_seq]; simp only [goes_go]; refine ⟨by (refine di_none ?_; intro e he; simp at he), ?_⟩)
        (refine Goes.step rfl (fun _ h₁ => ?_); replace hF := (fun _ h => h) hF h₁; clear h₁; rw [stepG_region]; simp only [goes_go, List.size_toArray, List.length_cons, List.length_nil, Nat.reduceAdd, Nat.zero_add, List.range, List.range.loop]; refine ⟨by (refine di_none ?_; intro e he; simp at he), ?_⟩)
        (refine Goes.step rfl (fun _ h₁ => ?_); replace hF := (fun _ h => h) hF h₁; clear h₁)
        refine goes_oper_k rfl rfl (by k_ne) (fun K hK => ?_)
        go_simp
        refine hK _ _ ⟨?_, ?_⟩
        · (refine di_none ?_; intro e he; have hm := mem_listed he; simp [go_sem, *] at hm)
        clear hK K
        try w_num
        (refine Goes.step rfl (fun _ h₁ => ?_); replace hF := (fun _ h => h) hF h₁; clear h₁)
        refine goes_oper_k rfl rfl (by k_ne) (fun K hK => ?_)
        go_simp
        refine hK _ _ ⟨?_, ?_⟩
        · (refine di_none ?_; intro e he; have hm := mem_listed he; simp [go_sem, *] at hm)
        clear hK K
        try w_num
        (refine Goes.step rfl (fun _ h₁ => ?_); replace hF := (fun _ h => h) hF h₁; clear h₁)
        refine goes_oper_k rfl rfl (by k_ne) (fun K hK => ?_)
        go_simp
        refine hK _ _ ⟨?_, ?_⟩
        · (refine di_none ?_; intro e he; have hm := mem_listed he; simp [go_sem, *] at hm)
        clear hK K
        try w_num
        (refine Goes.step rfl (fun _ h₁ => ?_); replace hF := (fun _ h => h) hF h₁; clear h₁)
        refine goes_oper_k rfl rfl (by k_ne) (fun K hK => ?_)
        go_simp
        refine hK _ _ ⟨?_, ?_⟩
        · (refine di_none ?_; intro e he; have hm := mem_listed he; simp [go_sem, *] at hm)
        clear hK K
        try w_num
        (refine Goes.step rfl (fun _ h₁ => ?_); replace hF := (fun _ h => h) hF h₁; clear h₁)
        refine goes_oper_k rfl rfl (by k_ne) (fun K hK => ?_)
        go_simp
        refine hK _ _ ⟨?_, ?_⟩
        · (refine di_none ?_; intro e he; have hm := mem_listed he; simp [go_sem, *] at hm)
        clear hK K
        try w_num
        (refine Goes.step rfl (fun _ h₁ => ?_); replace hF := (fun _ h => h) hF h₁; clear h₁)
        refine goes_oper_k rfl rfl (by k_ne) (fun K hK => ?_)
        go_simp
        refine hK _ _ ⟨?_, ?_⟩
        · (refine di_none ?_; intro e he; have hm := mem_listed he; simp [go_sem, *] at hm)
        clear hK K
        try w_num
        (refine Goes.step rfl (fun _ h₁ => ?_); replace hF := (fun _ h => h) hF h₁; clear h₁; refine goes_call rfl rfl (by k_ne) rfl H.f_uCas (nm_uCas L) rfl ⟨by (refine di_none ?_; intro e he; simp at he), ?_⟩; walk_nrmf uCasFn)
        (refine Goes.step rfl (fun _ h₁ => ?_); replace hF := (fun _ h => h) hF h₁; clear h₁; rw [stepG_seq]; simp only [goes_go]; refine ⟨by (refine di_none ?_; intro e he; simp at he), ?_⟩)
        (refine Goes.step rfl (fun _ h₁ => ?_); replace hF := (fun _ h => h) hF h₁; clear h₁; rw [stepG_region]; simp only [goes_go, List.size_toArray, List.length_cons, List.length_nil, Nat.reduceAdd, Nat.zero_add, List.range, List.range.loop]; refine ⟨by (refine di_none ?_; intro e he; simp at he), ?_⟩)
        (refine Goes.step rfl (fun _ h₁ => ?_); replace hF := (fun _ h => h) hF h₁; clear h₁)
        refine goes_oper_k rfl rfl (by k_ne) (fun K hK => ?_)
        go_simp
        refine hK _ _ ⟨?_, ?_⟩
        · (refine di_none ?_; intro e he; have hm := mem_listed he; simp [go_sem, *] at hm)
        clear hK K
        try w_num
        (refine Goes.step rfl (fun _ h₁ => ?_); replace hF := (fun _ h => h) hF h₁; clear h₁; rw [stepG_region_end]; simp only [goes_go]; refine ⟨by (refine di_none ?_; intro e he; simp at he), ?_⟩)
        (refine Goes.step rfl (fun _ h₁ => ?_); replace hF := (fun _ h => h) hF h₁; clear h₁; rw [stepG_seq]; simp only [goes_go]; refine ⟨by (refine di_none ?_; intro e he; simp at he), ?_⟩)
        (refine Goes.step rfl (fun _ h₁ => ?_); replace hF := (fun _ h => h) hF h₁; clear h₁; rw [stepG_region]; simp only [goes_go, List.size_toArray, List.length_cons, List.length_nil, Nat.reduceAdd, Nat.zero_add, List.range, List.range.loop]; refine ⟨by (refine di_none ?_; intro e he; simp at he), ?_⟩)
        (refine Goes.step rfl (fun _ h₁ => ?_); replace hF := (fun _ h => h) hF h₁; clear h₁)
        refine goes_oper_k rfl rfl (by k_ne) (fun K hK => ?_)
        go_simp
        refine hK _ _ ⟨?_, ?_⟩
        · (refine di_none ?_; intro e he; have hm := mem_listed he; simp [go_sem, *] at hm)
        clear hK K
        try w_num
        (refine Goes.step rfl (fun _ h₁ => ?_); replace hF := (fun _ h => h) hF h₁; clear h₁)
        refine goes_oper_k rfl rfl (by k_ne) (fun K hK => ?_)
        go_simp
        refine hK _ _ ⟨?_, ?_⟩
        · (refine di_none ?_; intro e he; have hm := mem_listed he; simp [go_sem, *] at hm)
        clear hK K
        try w_num
        (refine Goes.step rfl (fun _ h₁ => ?_); replace hF := (fun _ h => h) hF h₁; clear h₁)
        refine goes_oper_k rfl rfl (by k_ne) (fun K hK => ?_)
        go_simp
        refine hK _ _ ⟨?_, ?_⟩
        · (refine di_none ?_; intro e he; have hm := mem_listed he; simp [go_sem, *] at hm)
        clear hK K
        try w_num
        (refine Goes.step rfl (fun _ h₁ => ?_); replace hF := (fun _ h => h) hF h₁; clear h₁)
        refine goes_oper_k rfl rfl (by k_ne) (fun K hK => ?_)
        go_simp
        refine hK _ _ ⟨?_, ?_⟩
        · (refine di_none ?_; intro e he; have hm := mem_listed he; simp [go_sem, *] at hm)
        clear hK K
        try w_num
        (refine Goes.step rfl (fun _ h₁ => ?_); replace hF := (fun _ h => h) hF h₁; clear h₁)
        refine goes_oper_k rfl rfl (by k_ne) (fun K hK => ?_)
        go_simp
        refine hK _ _ ⟨?_, ?_⟩
        · (refine di_none ?_; intro e he; have hm := mem_listed he; simp [go_sem, *] at hm)
        clear hK K
        try w_num
        refine Goes.stop (fun _ _ => ?_)
        refine PhaseR.cas rfl (fun w s hw => (stepG_cas_hit (v := S) (n := S + 1) rfl rfl (by k_ne) rfl H.f_casU64 (x_casU64_n L) (x_casU64_b L) (x_casU64_x L) .u64 (x_casU64_f L) rfl rfl rfl (hS ▸ hw.cellSt) (hw.thaw 0)).trans (by rw [hS]; rfl)) ?_ (fun w v' s hv' hne hw => stepG_cas_miss (v := (v' : Int) * KK) (old := S) (n := S + 1) rfl rfl (by k_ne) rfl H.f_casU64 (x_casU64_n L) (x_casU64_b L) (x_casU64_x L) .u64 (x_casU64_f L) rfl rfl rfl hw.cellSt (hw.thaw 0) (by rw [← hS]; simp only [KK]; omega)) ?_
        · refine phz 120 rfl (fun w hF => ?_)
          walk_nrm
          (refine Goes.step rfl (fun _ h₁ => ?_); replace hF := (fun _ h => h) hF h₁; clear h₁)
          refine goes_oper_k rfl rfl (by k_ne) (fun K hK => ?_)
          go_simp
          refine hK _ _ ⟨?_, ?_⟩
          · (refine di_none ?_; intro e he; have hm := mem_listed he; simp [go_sem, *] at hm)
          clear hK K
          try w_num
          (refine Goes.step rfl (fun _ h₁ => ?_); replace hF := (fun _ h => h) hF h₁; clear h₁; rw [stepG_region_end]; simp only [goes_go]; refine ⟨by (refine di_none ?_; intro e he; simp at he), ?_⟩)
          (refine Goes.step rfl (fun _ h₁ => ?_); replace hF := (fun _ h => h) hF h₁; clear h₁; rw [stepG_ret']; simp only [goes_go]; refine ⟨by (refine di_none ?_; intro e he; simp at he), ?_⟩)
          (refine Goes.step rfl (fun _ h₁ => ?_); replace hF := (fun _ h => h) hF h₁; clear h₁; refine goes_leave1 rfl rfl H.f_uCas rfl ⟨by (refine di_none ?_; intro e he; simp at he), ?_⟩; walk_nrm)
          (refine Goes.step rfl (fun _ h₁ => ?_); replace hF := (fun _ h => h) hF h₁; clear h₁; rw [stepG_region_end]; simp only [goes_go]; refine ⟨by (refine di_none ?_; intro e he; simp at he), ?_⟩)
          (refine Goes.step rfl (fun _ h₁ => ?_); replace hF := (fun _ h => h) hF h₁; clear h₁; rw [stepG_cond (t := true) (by first | rfl | (simp [Act.eval]; omega))]; simp only [goes_go, if_true, if_false, Bool.false_eq_true, ↓reduceIte]; refine ⟨by (refine di_none ?_; intro e he; simp at he), ?_⟩)
          (refine Goes.step rfl (fun _ h₁ => ?_); replace hF := (fun _ h => h) hF h₁; clear h₁; rw [stepG_seq]; simp only [goes_go]; refine ⟨by (refine di_none ?_; intro e he; simp at he), ?_⟩)
          (refine Goes.step rfl (fun _ h₁ => ?_); replace hF := (fun _ h => h) hF h₁; clear h₁; rw [stepG_seq]; simp only [goes_go]; refine ⟨by (refine di_none ?_; intro e he; simp at he), ?_⟩)
          (refine Goes.step rfl (fun _ h₁ => ?_); replace hF := (fun _ h => h) hF h₁; clear h₁; rw [stepG_region]; simp only [goes_go, List.size_toArray, List.length_cons, List.length_nil, Nat.reduceAdd, Nat.zero_add, List.range, List.range.loop]; refine ⟨by (refine di_none ?_; intro e he; simp at he), ?_⟩)
          (refine Goes.step rfl (fun _ h₁ => ?_); replace hF := (fun _ h => h) hF h₁; clear h₁)
          refine goes_oper_k rfl rfl (by k_ne) (fun K hK => ?_)
          go_simp
          refine hK _ _ ⟨?_, ?_⟩
          · (refine di_none ?_; intro e he; have hm := mem_listed he; simp [go_sem, *] at hm)
          clear hK K
          try w_num
          (refine Goes.step rfl (fun _ h₁ => ?_); replace hF := (fun _ h => h) hF h₁; clear h₁)
          refine goes_oper_k rfl rfl (by k_ne) (fun K hK => ?_)
          go_simp
          refine hK _ _ ⟨?_, ?_⟩
          · (refine di_none ?_; intro e he; have hm := mem_listed he; simp [go_sem, *] at hm)
          clear hK K
          try w_num
          (refine Goes.step rfl (fun _ h₁ => ?_); replace hF := (fun _ h => h) hF h₁; clear h₁)
          refine goes_oper_k rfl rfl (by k_ne) (fun K hK => ?_)
          go_simp
          refine hK _ _ ⟨?_, ?_⟩
          · (refine di_none ?_; intro e he; have hm := mem_listed he; simp [go_sem, *] at hm)
          clear hK K
          try w_num
          (refine Goes.step rfl (fun _ h₁ => ?_); replace hF := (fun _ h => h) hF h₁; clear h₁)
          refine goes_oper_k rfl rfl (by k_ne) (fun K hK => ?_)
          go_simp
          refine hK _ _ ⟨?_, ?_⟩
          · (refine di_none ?_; intro e he; have hm := mem_listed he; simp [go_sem, *] at hm)
          clear hK K
          try w_num
          (refine Goes.step rfl (fun _ h₁ => ?_); replace hF := (fun _ h => h) hF h₁; clear h₁; rw [stepG_region_end]; simp only [goes_go]; refine ⟨by (refine di_none ?_; intro e he; simp at he), ?_⟩)
          (refine Goes.step rfl (fun _ h₁ => ?_); replace hF := (fun _ h => h) hF h₁; clear h₁; rw [stepG_cond (t := true) (by first | rfl | (simp [Act.eval]; omega))]; simp only [goes_go, if_true, if_false, Bool.false_eq_true, ↓reduceIte]; refine ⟨by (refine di_none ?_; intro e he; simp at he), ?_⟩)
          (refine Goes.step rfl (fun _ h₁ => ?_); replace hF := (fun _ h => h) hF h₁; clear h₁; rw [stepG_region]; simp only [goes_go, List.size_toArray, List.length_cons, List.length_nil, Nat.reduceAdd, Nat.zero_add, List.range, List.range.loop]; refine ⟨by (refine di_none ?_; intro e he; simp at he), ?_⟩)
          (refine Goes.step rfl (fun _ h₁ => ?_); replace hF := (fun _ h => h) hF h₁; clear h₁)
          refine goes_oper_k rfl rfl (by k_ne) (fun K hK => ?_)
          go_simp
          refine hK _ _ ⟨?_, ?_⟩
          · (refine di_none ?_; intro e he; have hm := mem_listed he; simp [go_sem, *] at hm)
          clear hK K
          try w_num
          (refine Goes.step rfl (fun _ h₁ => ?_); replace hF := (fun _ h => h) hF h₁; clear h₁)
          refine goes_oper_k rfl rfl (by k_ne) (fun K hK => ?_)
          go_simp
          refine hK _ _ ⟨?_, ?_⟩
          · (refine di_none ?_; intro e he; have hm := mem_listed he; simp [go_sem, *] at hm)
          clear hK K
          try w_num
          (refine Goes.step rfl (fun _ h₁ => ?_); replace hF := (fun _ h => h) hF h₁; clear h₁)
          refine goes_oper_k rfl rfl (by k_ne) (fun K hK => ?_)
          go_simp
          refine hK _ _ ⟨?_, ?_⟩
          · (refine di_none ?_; intro e he; have hm := mem_listed he; simp [go_sem, *] at hm)
          clear hK K
          try w_num
          (refine Goes.step rfl (fun _ h₁ => ?_); replace hF := (fun _ h => h) hF h₁; clear h₁)
          refine goes_oper_k rfl rfl (by k_ne) (fun Kx hKx => ?_)
          have hcv := run_convert_to_unsafe (P := P) H.underlying_tPU32 H.underlying_tUP H.room_tU32 (WgLive.cell1 hF.2).choose_spec
          have hce := fun es => events_convert_to_unsafe (P := P) H.underlying_tPU32 H.underlying_tUP H.room_tU32 (WgLive.cell1 hF.2).choose_spec es
          go_simp
          refine hKx _ _ ⟨?_, ?_⟩
          · (refine di_none ?_; intro ex hex; have hmx := mem_listed hex; simp [go_sem, hce] at hmx)
          clear hKx Kx hcv hce
          (refine Goes.step rfl (fun _ h₁ => ?_); replace hF := (fun _ h => h) hF h₁; clear h₁)
          rw [stepG_markAt .write (by simp) rfl rfl (by k_ne) rfl H.f_raceWrite (x_raceWrite_n L) (x_raceWrite_b L) (x_raceWrite_x L) (x_raceWrite_f L) (ad := ⟨Wg, 1, none⟩) (by simp [Act.eval] <;> rfl)]
          simp only [goes_go]
          refine ⟨di_said ⟨_, rfl, .inr rfl⟩, ?_⟩
          walk_nrm
          (refine Goes.step rfl (fun _ h₁ => ?_); replace hF := (fun _ h => h) hF h₁; clear h₁; rw [stepG_region_end]; simp only [goes_go]; refine ⟨by (refine di_none ?_; intro e he; simp at he), ?_⟩)
          (refine Goes.step rfl (fun _ h₁ => ?_); replace hF := (fun _ h => h) hF h₁; clear h₁; rw [stepG_seq]; simp only [goes_go]; refine ⟨by (refine di_none ?_; intro e he; simp at he), ?_⟩)
          (refine Goes.step rfl (fun _ h₁ => ?_); replace hF := (fun _ h => h) hF h₁; clear h₁; rw [stepG_region]; simp only [goes_go, List.size_toArray, List.length_cons, List.length_nil, Nat.reduceAdd, Nat.zero_add, List.range, List.range.loop]; refine ⟨by (refine di_none ?_; intro e he; simp at he), ?_⟩)
          (refine Goes.step rfl (fun _ h₁ => ?_); replace hF := (fun _ h => h) hF h₁; clear h₁)
          refine goes_oper_k rfl rfl (by k_ne) (fun K hK => ?_)
          go_simp
          refine hK _ _ ⟨?_, ?_⟩
          · (refine di_none ?_; intro e he; have hm := mem_listed he; simp [go_sem, *] at hm)
          clear hK K
          try w_num
          (refine Goes.step rfl (fun _ h₁ => ?_); replace hF := (fun _ h => h) hF h₁; clear h₁; rw [stepG_region_end]; simp only [goes_go]; refine ⟨by (refine di_none ?_; intro e he; simp at he), ?_⟩)
          (refine Goes.step rfl (fun _ h₁ => ?_); replace hF := (fun _ h => h) hF h₁; clear h₁; rw [stepG_seq]; simp only [goes_go]; refine ⟨by (refine di_none ?_; intro e he; simp at he), ?_⟩)
          (refine Goes.step rfl (fun _ h₁ => ?_); replace hF := (fun _ h => h) hF h₁; clear h₁; rw [stepG_seq]; simp only [goes_go]; refine ⟨by (refine di_none ?_; intro e he; simp at he), ?_⟩)
          (refine Goes.step rfl (fun _ h₁ => ?_); replace hF := (fun _ h => h) hF h₁; clear h₁; rw [stepG_region]; simp only [goes_go, List.size_toArray, List.length_cons, List.length_nil, Nat.reduceAdd, Nat.zero_add, List.range, List.range.loop]; refine ⟨by (refine di_none ?_; intro e he; simp at he), ?_⟩)
          (refine Goes.step rfl (fun _ h₁ => ?_); replace hF := (fun _ h => h) hF h₁; clear h₁)
          refine goes_oper_k rfl rfl (by k_ne) (fun K hK => ?_)
          go_simp
          refine hK _ _ ⟨?_, ?_⟩
          · (refine di_none ?_; intro e he; have hm := mem_listed he; simp [go_sem, *] at hm)
          clear hK K
          try w_num
          (refine Goes.step rfl (fun _ h₁ => ?_); replace hF := (fun _ h => h) hF h₁; clear h₁)
          refine goes_oper_k rfl rfl (by k_ne) (fun K hK => ?_)
          go_simp
          refine hK _ _ ⟨?_, ?_⟩
          · (refine di_none ?_; intro e he; have hm := mem_listed he; simp [go_sem, *] at hm)
          clear hK K
          try w_num
          (refine Goes.step rfl (fun _ h₁ => ?_); replace hF := (fun _ h => h) hF h₁; clear h₁)
          refine goes_oper_k rfl rfl (by k_ne) (fun K hK => ?_)
          go_simp
          refine hK _ _ ⟨?_, ?_⟩
          · (refine di_none ?_; intro e he; have hm := mem_listed he; simp [go_sem, *] at hm)
          clear hK K
          try w_num
          (refine Goes.step rfl (fun _ h₁ => ?_); replace hF := (fun _ h => h) hF h₁; clear h₁)
          refine goes_oper_k rfl rfl (by k_ne) (fun K hK => ?_)
          go_simp
          refine hK _ _ ⟨?_, ?_⟩
          · (refine di_none ?_; intro e he; have hm := mem_listed he; simp [go_sem, *] at hm)
          clear hK K
          try w_num
          (refine Goes.step rfl (fun _ h₁ => ?_); replace hF := (fun _ h => h) hF h₁; clear h₁; rw [stepG_unwanted rfl rfl]; simp only [goes_go]; refine ⟨by (refine di_none ?_; intro e he; simp at he), ?_⟩; walk_nrm)
          (refine Goes.step rfl (fun _ h₁ => ?_); replace hF := (fun _ h => h) hF h₁; clear h₁)
          refine goes_oper_k rfl rfl (by k_ne) (fun K hK => ?_)
          go_simp
          refine hK _ _ ⟨?_, ?_⟩
          · (refine di_none ?_; intro e he; have hm := mem_listed he; simp [go_sem, *] at hm)
          clear hK K
          try w_num
          (refine Goes.step rfl (fun _ h₁ => ?_); replace hF := (fun _ h => h) hF h₁; clear h₁; rw [stepG_region_end]; simp only [goes_go]; refine ⟨by (refine di_none ?_; intro e he; simp at he), ?_⟩)
          (refine Goes.step rfl (fun _ h₁ => ?_); replace hF := (fun _ h => h) hF h₁; clear h₁; rw [stepG_cond (t := false) (by first | rfl | (simp [Act.eval]; omega))]; simp only [goes_go, if_true, if_false, Bool.false_eq_true, ↓reduceIte]; refine ⟨by (refine di_none ?_; intro e he; simp at he), ?_⟩)
          (refine Goes.step rfl (fun _ h₁ => ?_); replace hF := (fun _ h => h) hF h₁; clear h₁; rw [stepG_skip]; simp only [goes_go]; refine ⟨by (refine di_none ?_; intro e he; simp at he), ?_⟩)
          (refine Goes.step rfl (fun _ h₁ => ?_); replace hF := (fun _ h => h) hF h₁; clear h₁; rw [stepG_seq]; simp only [goes_go]; refine ⟨by (refine di_none ?_; intro e he; simp at he), ?_⟩)
          (refine Goes.step rfl (fun _ h₁ => ?_); replace hF := (fun _ h => h) hF h₁; clear h₁; rw [stepG_region]; simp only [goes_go, List.size_toArray, List.length_cons, List.length_nil, Nat.reduceAdd, Nat.zero_add, List.range, List.range.loop]; refine ⟨by (refine di_none ?_; intro e he; simp at he), ?_⟩)
          (refine Goes.step rfl (fun _ h₁ => ?_); replace hF := (fun _ h => h) hF h₁; clear h₁)
          refine goes_oper_k rfl rfl (by k_ne) (fun K hK => ?_)
          go_simp
          refine hK _ _ ⟨?_, ?_⟩
          · (refine di_none ?_; intro e he; have hm := mem_listed he; simp [go_sem, *] at hm)
          clear hK K
          try w_num
          (refine Goes.step rfl (fun _ h₁ => ?_); replace hF := (fun _ h => h) hF h₁; clear h₁)
          refine goes_oper_k rfl rfl (by k_ne) (fun K hK => ?_)
          go_simp
          refine hK _ _ ⟨?_, ?_⟩
          · (refine di_none ?_; intro e he; have hm := mem_listed he; simp [go_sem, *] at hm)
          clear hK K
          try w_num
          (refine Goes.step rfl (fun _ h₁ => ?_); replace hF := (fun _ h => h) hF h₁; clear h₁)
          refine goes_oper_k rfl rfl (by k_ne) (fun K hK => ?_)
          go_simp
          refine hK _ _ ⟨?_, ?_⟩
          · (refine di_none ?_; intro e he; have hm := mem_listed he; simp [go_sem, *] at hm)
          clear hK K
          try w_num
          (refine Goes.step rfl (fun _ h₁ => ?_); replace hF := (fun _ h => h) hF h₁; clear h₁)
          refine goes_oper_k rfl rfl (by k_ne) (fun K hK => ?_)
          go_simp
          refine hK _ _ ⟨?_, ?_⟩
          · (refine di_none ?_; intro e he; have hm := mem_listed he; simp [go_sem, *] at hm)
          clear hK K
          try w_num
          refine Goes.stop (fun _ _ => ?_)
          refine PhaseR.sem rfl rfl (fun w st s hw => stepG_semacquire_wait rfl rfl rfl H.f_semacquire (x_semacquire_n L) (x_semacquire_b L) (x_semacquire_x L) (x_semacquire_f L) (by simp [Act.eval, smA]) hw.cellSm) (fun w s hf => (stepG_semacquire (n := 1) rfl rfl (by k_ne) rfl H.f_semacquire (x_semacquire_n L) (x_semacquire_b L) (x_semacquire_x L) (x_semacquire_f L) (by simp [Act.eval, smA]) hf.cellSm (by k_ne) (hf.thaw 1)).trans (by rfl)) ?_
          refine phz 120 rfl (fun w hF => ?_)
          walk_nrm
          (refine Goes.step rfl (fun _ h₁ => ?_); replace hF := (fun _ h => h) hF h₁; clear h₁; rw [stepG_region_end]; simp only [goes_go]; refine ⟨by (refine di_none ?_; intro e he; simp at he), ?_⟩)
          (refine Goes.step rfl (fun _ h₁ => ?_); replace hF := (fun _ h => h) hF h₁; clear h₁; rw [stepG_seq]; simp only [goes_go]; refine ⟨by (refine di_none ?_; intro e he; simp at he), ?_⟩)
          (refine Goes.step rfl (fun _ h₁ => ?_); replace hF := (fun _ h => h) hF h₁; clear h₁; rw [stepG_region]; simp only [goes_go, List.size_toArray, List.length_cons, List.length_nil, Nat.reduceAdd, Nat.zero_add, List.range, List.range.loop]; refine ⟨by (refine di_none ?_; intro e he; simp at he), ?_⟩)
          (refine Goes.step rfl (fun _ h₁ => ?_); replace hF := (fun _ h => h) hF h₁; clear h₁)
          refine goes_oper_k rfl rfl (by k_ne) (fun K hK => ?_)
          go_simp
          refine hK _ _ ⟨?_, ?_⟩
          · (refine di_none ?_; intro e he; have hm := mem_listed he; simp [go_sem, *] at hm)
          clear hK K
          try w_num
          (refine Goes.step rfl (fun _ h₁ => ?_); replace hF := (fun _ h => h) hF h₁; clear h₁)
          refine goes_oper_k rfl rfl (by k_ne) (fun K hK => ?_)
          go_simp
          refine hK _ _ ⟨?_, ?_⟩
          · (refine di_none ?_; intro e he; have hm := mem_listed he; simp [go_sem, *] at hm)
          clear hK K
          try w_num
          (refine Goes.step rfl (fun _ h₁ => ?_); replace hF := (fun _ h => h) hF h₁; clear h₁)
          refine goes_oper_k rfl rfl (by k_ne) (fun K hK => ?_)
          go_simp
          refine hK _ _ ⟨?_, ?_⟩
          · (refine di_none ?_; intro e he; have hm := mem_listed he; simp [go_sem, *] at hm)
          clear hK K
          try w_num
          (refine Goes.step rfl (fun _ h₁ => ?_); replace hF := (fun _ h => h) hF h₁; clear h₁; refine goes_call rfl rfl (by k_ne) rfl H.f_uLoad (nm_uLoad L) rfl ⟨by (refine di_none ?_; intro e he; simp at he), ?_⟩; walk_nrmf uLoadFn)
          (refine Goes.step rfl (fun _ h₁ => ?_); replace hF := (fun _ h => h) hF h₁; clear h₁; rw [stepG_seq]; simp only [goes_go]; refine ⟨by (refine di_none ?_; intro e he; simp at he), ?_⟩)
          (refine Goes.step rfl (fun _ h₁ => ?_); replace hF := (fun _ h => h) hF h₁; clear h₁; rw [stepG_region]; simp only [goes_go, List.size_toArray, List.length_cons, List.length_nil, Nat.reduceAdd, Nat.zero_add, List.range, List.range.loop]; refine ⟨by (refine di_none ?_; intro e he; simp at he), ?_⟩)
          (refine Goes.step rfl (fun _ h₁ => ?_); replace hF := (fun _ h => h) hF h₁; clear h₁)
          refine goes_oper_k rfl rfl (by k_ne) (fun K hK => ?_)
          go_simp
          refine hK _ _ ⟨?_, ?_⟩
          · (refine di_none ?_; intro e he; have hm := mem_listed he; simp [go_sem, *] at hm)
          clear hK K
          try w_num
          (refine Goes.step rfl (fun _ h₁ => ?_); replace hF := (fun _ h => h) hF h₁; clear h₁; rw [stepG_region_end]; simp only [goes_go]; refine ⟨by (refine di_none ?_; intro e he; simp at he), ?_⟩)
          (refine Goes.step rfl (fun _ h₁ => ?_); replace hF := (fun _ h => h) hF h₁; clear h₁; rw [stepG_seq]; simp only [goes_go]; refine ⟨by (refine di_none ?_; intro e he; simp at he), ?_⟩)
          (refine Goes.step rfl (fun _ h₁ => ?_); replace hF := (fun _ h => h) hF h₁; clear h₁; rw [stepG_region]; simp only [goes_go, List.size_toArray, List.length_cons, List.length_nil, Nat.reduceAdd, Nat.zero_add, List.range, List.range.loop]; refine ⟨by (refine di_none ?_; intro e he; simp at he), ?_⟩)
          (refine Goes.step rfl (fun _ h₁ => ?_); replace hF := (fun _ h => h) hF h₁; clear h₁)
          refine goes_oper_k rfl rfl (by k_ne) (fun K hK => ?_)
          go_simp
          refine hK _ _ ⟨?_, ?_⟩
          · (refine di_none ?_; intro e he; have hm := mem_listed he; simp [go_sem, *] at hm)
          clear hK K
          try w_num
          (refine Goes.step rfl (fun _ h₁ => ?_); replace hF := (fun _ h => h) hF h₁; clear h₁)
          refine goes_oper_k rfl rfl (by k_ne) (fun K hK => ?_)
          go_simp
          refine hK _ _ ⟨?_, ?_⟩
          · (refine di_none ?_; intro e he; have hm := mem_listed he; simp [go_sem, *] at hm)
          clear hK K
          try w_num
          (refine Goes.step rfl (fun _ h₁ => ?_); replace hF := (fun _ h => h) hF h₁; clear h₁)
          refine goes_oper_k rfl rfl (by k_ne) (fun K hK => ?_)
          go_simp
          refine hK _ _ ⟨?_, ?_⟩
          · (refine di_none ?_; intro e he; have hm := mem_listed he; simp [go_sem, *] at hm)
          clear hK K
          try w_num
          refine Goes.stop (fun _ _ => ?_)
          refine PhaseR.ld2 rfl (fun w s hw => stepG_load_atomic (v := 0) rfl rfl (by k_ne) rfl H.f_loadU64 (x_loadU64_n L) (x_loadU64_b L) (x_loadU64_x L) .u64 (x_loadU64_f L) rfl hw.cellSt) ?_
          refine phz 120 rfl (fun w hF => ?_)
          walk_nrm
          (refine Goes.step rfl (fun _ h₁ => ?_); replace hF := (fun _ h => h) hF h₁; clear h₁)
          refine goes_oper_k rfl rfl (by k_ne) (fun K hK => ?_)
          go_simp
          refine hK _ _ ⟨?_, ?_⟩
          · (refine di_none ?_; intro e he; have hm := mem_listed he; simp [go_sem, *] at hm)
          clear hK K
          try w_num
          (refine Goes.step rfl (fun _ h₁ => ?_); replace hF := (fun _ h => h) hF h₁; clear h₁; rw [stepG_region_end]; simp only [goes_go]; refine ⟨by (refine di_none ?_; intro e he; simp at he), ?_⟩)
          (refine Goes.step rfl (fun _ h₁ => ?_); replace hF := (fun _ h => h) hF h₁; clear h₁; rw [stepG_ret']; simp only [goes_go]; refine ⟨by (refine di_none ?_; intro e he; simp at he), ?_⟩)
          (refine Goes.step rfl (fun _ h₁ => ?_); replace hF := (fun _ h => h) hF h₁; clear h₁; refine goes_leave1 rfl rfl H.f_uLoad rfl ⟨by (refine di_none ?_; intro e he; simp at he), ?_⟩; walk_nrm)
          (refine Goes.step rfl (fun _ h₁ => ?_); replace hF := (fun _ h => h) hF h₁; clear h₁)
          refine goes_oper_k rfl rfl (by k_ne) (fun K hK => ?_)
          go_simp
          refine hK _ _ ⟨?_, ?_⟩
          · (refine di_none ?_; intro e he; have hm := mem_listed he; simp [go_sem, *] at hm)
          clear hK K
          try w_num
          (refine Goes.step rfl (fun _ h₁ => ?_); replace hF := (fun _ h => h) hF h₁; clear h₁)
          refine goes_oper_k rfl rfl (by k_ne) (fun K hK => ?_)
          go_simp
          refine hK _ _ ⟨?_, ?_⟩
          · (refine di_none ?_; intro e he; have hm := mem_listed he; simp [go_sem, *] at hm)
          clear hK K
          try w_num
          (refine Goes.step rfl (fun _ h₁ => ?_); replace hF := (fun _ h => h) hF h₁; clear h₁; rw [stepG_region_end]; simp only [goes_go]; refine ⟨by (refine di_none ?_; intro e he; simp at he), ?_⟩)
          (refine Goes.step rfl (fun _ h₁ => ?_); replace hF := (fun _ h => h) hF h₁; clear h₁; rw [stepG_seq]; simp only [goes_go]; refine ⟨by (refine di_none ?_; intro e he; simp at he), ?_⟩)
          (refine Goes.step rfl (fun _ h₁ => ?_); replace hF := (fun _ h => h) hF h₁; clear h₁; rw [stepG_cond (t := true) rfl]; simp only [goes_go, if_true, if_false, Bool.false_eq_true, ↓reduceIte]; refine ⟨by (refine di_none ?_; intro e he; simp at he), ?_⟩)
          (refine Goes.step rfl (fun _ h₁ => ?_); replace hF := (fun _ h => h) hF h₁; clear h₁; rw [stepG_seq]; simp only [goes_go]; refine ⟨by (refine di_none ?_; intro e he; simp at he), ?_⟩)
          (refine Goes.step rfl (fun _ h₁ => ?_); replace hF := (fun _ h => h) hF h₁; clear h₁; rw [stepG_region]; simp only [goes_go, List.size_toArray, List.length_cons, List.length_nil, Nat.reduceAdd, Nat.zero_add, List.range, List.range.loop]; refine ⟨by (refine di_none ?_; intro e he; simp at he), ?_⟩)
          refine Goes.stop (fun _ _ => ?_)
          refine PhaseR.enaW rfl (fun w _ => stepG_mark0 .enable (by simp) rfl rfl (by k_ne) rfl H.f_enable (x_enable_n L) (x_enable_b L) (x_enable_x L) (x_enable_f L)) ?_
          refine phz 120 rfl (fun w hF => ?_)
          walk_nrm
          (refine Goes.step rfl (fun _ h₁ => ?_); replace hF := (fun _ h => h) hF h₁; clear h₁; rw [stepG_region_end]; simp only [goes_go]; refine ⟨by (refine di_none ?_; intro e he; simp at he), ?_⟩)
          (refine Goes.step rfl (fun _ h₁ => ?_); replace hF := (fun _ h => h) hF h₁; clear h₁; rw [stepG_region]; simp only [goes_go, List.size_toArray, List.length_cons, List.length_nil, Nat.reduceAdd, Nat.zero_add, List.range, List.range.loop]; refine ⟨by (refine di_none ?_; intro e he; simp at he), ?_⟩)
          (refine Goes.step rfl (fun _ h₁ => ?_); replace hF := (fun _ h => h) hF h₁; clear h₁)
          refine goes_oper_k rfl rfl (by k_ne) (fun K hK => ?_)
          go_simp
          refine hK _ _ ⟨?_, ?_⟩
          · (refine di_none ?_; intro e he; have hm := mem_listed he; simp [go_sem, *] at hm)
          clear hK K
          try w_num
          (refine Goes.step rfl (fun _ h₁ => ?_); replace hF := (fun _ h => h) hF h₁; clear h₁)
          refine goes_oper_k rfl rfl (by k_ne) (fun Kx hKx => ?_)
          have hcv := run_convert_to_unsafe (P := P) H.underlying_tWgP H.underlying_tUP H.room_tWg (WgLive.cell0 hF.2).choose_spec
          have hce := fun es => events_convert_to_unsafe (P := P) H.underlying_tWgP H.underlying_tUP H.room_tWg (WgLive.cell0 hF.2).choose_spec es
          go_simp
          refine hKx _ _ ⟨?_, ?_⟩
          · (refine di_none ?_; intro ex hex; have hmx := mem_listed hex; simp [go_sem, hce] at hmx)
          clear hKx Kx hcv hce
          refine Goes.stop (fun _ _ => ?_)
          refine PhaseR.acq rfl (fun w _ => stepG_markAt .acquire (by simp) rfl rfl (by k_ne) rfl H.f_acquire (x_acquire_n L) (x_acquire_b L) (x_acquire_x L) (x_acquire_f L) (by simp [Act.eval, stA])) ?_
          refine hK _ _ _ ?_
          walk_nrm
          refine Lg.ctl _ rfl (fun _ => stepG_region_end) ?_
          refine Lg.ctl _ rfl (fun _ => stepG_seq) ?_
          refine Lg.ctl _ rfl (fun _ => stepG_seq) ?_
          (refine Lg.ctl _ rfl (fun _ => stepG_region) ?_; simp only [List.size_toArray, List.length_cons, List.length_nil, Nat.reduceAdd, Nat.zero_add, List.range, List.range.loop])
          (refine Lg.goV (.bool false) rfl rfl (by k_ne) (fun _ => by go_simp; try (first | w_num | decide)) (fun _ => by simp [go_sem, *]) ?_; walk_nrm)
          refine Lg.ctl _ rfl (fun _ => stepG_region_end) ?_
          (refine Lg.ctl _ rfl (fun _ => stepG_cond (t := false) rfl) ?_; simp only [if_true, if_false, Bool.false_eq_true, ↓reduceIte])
          refine Lg.ctl _ rfl (fun _ => stepG_skip) ?_
          refine Lg.ctl _ rfl (fun _ => stepG_ret') ?_
          refine Lg.leave0 rfl rfl H.f_wait rfl ?_
          exact hT
        · refine phz 120 rfl (fun w hF => ?_)
          walk_nrm
          (refine Goes.step rfl (fun _ h₁ => ?_); replace hF := (fun _ h => h) hF h₁; clear h₁)
          refine goes_oper_k rfl rfl (by k_ne) (fun K hK => ?_)
          go_simp
          refine hK _ _ ⟨?_, ?_⟩
          · (refine di_none ?_; intro e he; have hm := mem_listed he; simp [go_sem, *] at hm)
          clear hK K
          try w_num
          (refine Goes.step rfl (fun _ h₁ => ?_); replace hF := (fun _ h => h) hF h₁; clear h₁; rw [stepG_region_end]; simp only [goes_go]; refine ⟨by (refine di_none ?_; intro e he; simp at he), ?_⟩)
          (refine Goes.step rfl (fun _ h₁ => ?_); replace hF := (fun _ h => h) hF h₁; clear h₁; rw [stepG_ret']; simp only [goes_go]; refine ⟨by (refine di_none ?_; intro e he; simp at he), ?_⟩)
          (refine Goes.step rfl (fun _ h₁ => ?_); replace hF := (fun _ h => h) hF h₁; clear h₁; refine goes_leave1 rfl rfl H.f_uCas rfl ⟨by (refine di_none ?_; intro e he; simp at he), ?_⟩; walk_nrm)
          (refine Goes.step rfl (fun _ h₁ => ?_); replace hF := (fun _ h => h) hF h₁; clear h₁; rw [stepG_region_end]; simp only [goes_go]; refine ⟨by (refine di_none ?_; intro e he; simp at he), ?_⟩)
          (refine Goes.step rfl (fun _ h₁ => ?_); replace hF := (fun _ h => h) hF h₁; clear h₁; rw [stepG_cond (t := false) (by first | rfl | (simp [Act.eval]; omega))]; simp only [goes_go, if_true, if_false, Bool.false_eq_true, ↓reduceIte]; refine ⟨by (refine di_none ?_; intro e he; simp at he), ?_⟩)
          (refine Goes.step rfl (fun _ h₁ => ?_); replace hF := (fun _ h => h) hF h₁; clear h₁; rw [stepG_skip]; simp only [goes_go]; refine ⟨by (refine di_none ?_; intro e he; simp at he), ?_⟩)
          (refine Goes.step rfl (fun _ h₁ => ?_); replace hF := (fun _ h => h) hF h₁; clear h₁; rw [stepG_inBlock]; simp only [goes_go]; refine ⟨by (refine di_none ?_; intro e he; simp at he), ?_⟩)
          (refine Goes.step rfl (fun _ h₁ => ?_); replace hF := (fun _ h => h) hF h₁; clear h₁; rw [stepG_inLoop]; simp only [goes_go]; refine ⟨by (refine di_none ?_; intro e he; simp at he), ?_⟩)
          refine Goes.stop (fun _ _ => ?_)
          exact ih (v - 1) (by omega) (by omega) _ (by simp) (by simp)
set_option maxRecDepth 100000 in
set_option maxHeartbeats 8000000 in
theorem waitR (H : WgLib P L) (hn : n < 2147483648) (hK : ∀ g B L, X.R g B L → K g B L) (hT : X.R (G (b₀.at (a₀.put ((ops₀[i₀]?).bind (·.dst)) (.tuple #[])) (.inRegion ops₀ rest₀ :: k₀)) cs) B ((C, .cells ((List.range n).map val).toArray Payload.ety (0, 0)) :: Lc)) (A : Array Value) (hA : A = #[.pointer (some ⟨Wg, 0, none⟩), undef, undef, undef, undef, undef, undef, undef, undef, undef, undef, undef, undef, undef, undef, undef, undef, undef, undef, undef, undef, undef, undef, undef, undef, undef, undef, undef, undef, undef, undef, undef, undef, undef, undef, undef, undef, undef, undef, undef, undef, undef, undef, undef, undef, undef, undef, undef, undef, undef, undef, undef, undef, undef, undef, undef, undef, undef, undef, undef, undef, undef, undef, undef, undef, undef, undef, undef, undef, undef, undef, undef, undef, undef, undef, undef, undef, undef, undef, undef, undef, undef, undef, undef]) :
    PhaseR P L.tWg Wg C n val K .a5 n (G ((base L.wait).at ⟨A, []⟩ [.code (body_wait L)]) (b₀.at a₀ (.inRegion ops₀ (i₀ :: rest₀) :: k₀) :: cs)) B Lc := by
  subst hA
  lib_facts
  simp only [body_wait, waitFn, Option.getD_some]
  refine phz 120 rfl (fun w hF => ?_)
  (refine Goes.step rfl (fun _ h₁ => ?_); replace hF := (fun _ h => h) hF h₁; clear h₁; rw [stepG_seq]; simp only [goes_go]; refine ⟨by (refine di_none ?_; intro e he; simp at he), ?_⟩)
  (refine Goes.step rfl (fun _ h₁ => ?_); replace hF := (fun _ h => h) hF h₁; clear h₁; rw [stepG_cond (t := true) rfl]; simp only [goes_go, if_true, if_false, Bool.false_eq_true, ↓reduceIte]; refine ⟨by (refine di_none ?_; intro e he; simp at he), ?_⟩)
  (refine Goes.step rfl (fun _ h₁ => ?_); replace hF := (fun _ h => h) hF h₁; clear h₁; rw [stepG_region]; simp only [goes_go, List.size_toArray, List.length_cons, List.length_nil, Nat.reduceAdd, Nat.zero_add, List.range, List.range.loop]; refine ⟨by (refine di_none ?_; intro e he; simp at he), ?_⟩)
  refine Goes.stop (fun _ _ => ?_)
  refine PhaseR.disW rfl (fun w _ => stepG_mark0 .disable (by simp) rfl rfl (by k_ne) rfl H.f_disable (x_disable_n L) (x_disable_b L) (x_disable_x L) (x_disable_f L)) ?_
  refine phz 120 rfl (fun w hF => ?_)
  walk_nrm
  (refine Goes.step rfl (fun _ h₁ => ?_); replace hF := (fun _ h => h) hF h₁; clear h₁; rw [stepG_region_end]; simp only [goes_go]; refine ⟨by (refine di_none ?_; intro e he; simp at he), ?_⟩)
  (refine Goes.step rfl (fun _ h₁ => ?_); replace hF := (fun _ h => h) hF h₁; clear h₁; rw [stepG_block]; simp only [goes_go]; refine ⟨by (refine di_none ?_; intro e he; simp at he), ?_⟩)
  (refine Goes.step rfl (fun _ h₁ => ?_); replace hF := (fun _ h => h) hF h₁; clear h₁; rw [stepG_loop]; simp only [goes_go]; refine ⟨by (refine di_none ?_; intro e he; simp at he), ?_⟩)
  refine Goes.stop (fun _ _ => ?_)
  exact waitL H hK hT n hn _ (by simp) (by simp)
end Go.BL
namespace Go.BL
set_option linter.unusedVariables false
set_option linter.unusedSimpArgs false
set_option linter.unusedSectionVars false
open Go.Conc Go.ConcN
open Go.ConcR (KK wgBlock WgAt stA smA rd wr mk Payload g_of_ofEvents)
set_option linter.unusedVariables false
set_option linter.unusedSectionVars false
theorem sat_at0 {B : Kn} {L : Cells} {w : World} {d : Nat} (s : Sat B L w) : Sat B L (w.at d) := ⟨s.ro, s.own, s.nodup, s.apart⟩
theorem Sat.left0 {B : Kn} {L L' : Cells} {w : World} (s : Sat B (L ++ L') w) : Sat B L w := by
  refine ⟨s.ro, fun p hp => s.own p (List.mem_append.2 (.inl hp)), ?_, fun p hp => s.apart p (List.mem_append.2 (.inl hp))⟩
  have := s.nodup
  rw [List.map_append] at this
  exact (List.nodup_append.1 this).1
theorem mem_lt0 {B : Kn} {L : Cells} {w : World} (s : Sat B L w) {b : Nat} (h : (B.mem b).isSome = true) : b < w.heap.size := by
  obtain ⟨o, ho⟩ := Option.isSome_iff_exists.1 h
  exact s.ltB ho
section
variable {Shun : Loc → Prop} {hs hs' : Nat} {t u : Trace}
theorem PastB.app (h : PastB Shun hs t) (hu : ∀ op ∈ u, op.g = 0 ∧ (op.act ≠ .mark .disable ∧ op.act ≠ .mark .enable) ∧ ∀ x, op.act.touch? = some x → ∃ b, blkOf x.loc = some b ∧ ((∀ l, blkOf l = some b → ¬ Shun l) ∨ hs ≤ b)) (hl : ∀ op ∈ u, LowT hs' op) (hle : hs ≤ hs') : PastB Shun hs' (t ++ u) := by
  have hug : ∀ op ∈ u, op.g = 0 := fun op hop => (hu op hop).1
  refine ⟨fun said => noRace_append (h.clean said) hug fun i a ha op hop b hb hc => ?_, fun i a ha hm => ?_, fun i g hg hne hc => ?_, by rw [Deaf_still t 0 u (fun op hop => (hu op hop).2.1)]; exact h.hears, fun op hop => (Array.mem_append.1 hop).elim (fun x => (h.seen op x).mono hle) (hl op)⟩
  · obtain ⟨bb, hbb, hx⟩ := (hu op hop).2.2 b hb
    have hab : blkOf a.loc = some bb := by rw [hc.1]; exact hbb
    have hm : a.loc.isMemory = true := by cases hl : a.loc <;> rw [hl] at hab <;> first | rfl | cases hab
    rcases hx with hx | hx
    · rcases h.known i a ha hm with hk | ⟨hk, _⟩
      · exact hk
      · exact absurd hk (hx _ hab)
    · obtain ⟨x, hx', hxa⟩ := touch_of ha
      have := h.seen x (Array.mem_of_getElem? hx') a bb hxa hab
      omega
  · obtain ⟨x, hx, hxa⟩ := touch_of ha
    rcases getElem?_append_cases hx with ⟨hi, hx'⟩ | ⟨_, hxu⟩
    · exact (h.known i a (touchAt_of hx' ▸ hxa) hm).imp (·.app u) id
    · have := knows_own hx
      rw [hug x hxu] at this
      exact .inl this
  · obtain ⟨x, hx, hxg⟩ := Option.map_eq_some_iff.1 hg
    rcases getElem?_append_cases hx with ⟨hi, hx'⟩ | ⟨_, hxu⟩
    · obtain ⟨q, h1, h2⟩ := h.over i g (by rw [← g?_old (u := u) hi]; exact hg) hne ((counts_old hi).1 hc)
      have hq : q < t.size := by
        obtain ⟨z, hz, _⟩ := Option.map_eq_some_iff.1 h1
        exact lt_size_of_getElem? hz
      exact ⟨q, by rw [g?_old hq]; exact h1, hb_app u h2⟩
    · rw [hug x hxu] at hxg
      exact absurd hxg.symm hne
theorem PastB.mute {x : Nat} (h : PastB Shun hs t) (hx0 : x ≠ 0) (hu : ∀ op ∈ u, op.g = x ∧ op.act.touch? = none) : PastB Shun hs (t ++ u) := by
  have no : ∀ op ∈ u, ∀ b, op.act.touch? = some b → False := fun op hop b hb => by rw [(hu op hop).2] at hb; cases hb
  have old : ∀ {i : Nat} {a : Touch}, touchAt (t ++ u) i = some a → touchAt t i = some a ∧ i < t.size := by
    intro i a ha
    obtain ⟨z, hz, hza⟩ := touch_of ha
    rcases getElem?_append_cases hz with ⟨hi, hz'⟩ | ⟨_, hzu⟩
    · exact ⟨by rw [touchAt_of hz']; exact hza, hi⟩
    · exact (no z hzu a hza).elim
  refine ⟨fun said => noRace_append (h.clean said) (fun op hop => (hu op hop).1) fun i a _ op hop b hb _ => (no op hop b hb).elim, fun i a ha hm => (h.known i a (old ha).1 hm).imp (·.app u) id, fun i g hg hne hc => ?_, by rw [Deaf_other t hx0 u (fun op hop => (hu op hop).1)]; exact h.hears,
    fun op hop => (Array.mem_append.1 hop).elim (h.seen op) fun hy z b hz _ => (no op hy z hz).elim⟩
  have hcl := hc
  obtain ⟨z, hz, _⟩ := hc
  obtain ⟨_, hi⟩ := old hz
  obtain ⟨q, h1, h2⟩ := h.over i g (by rw [← g?_old (u := u) hi]; exact hg) hne ((counts_old hi).1 hcl)
  have hq : q < t.size := by
    obtain ⟨z, hz, _⟩ := Option.map_eq_some_iff.1 h1
    exact lt_size_of_getElem? hz
  exact ⟨q, by rw [g?_old hq]; exact h1, hb_app _ h2⟩
end
section
variable {P : Program} {Post : Value → World → Prop} {W : World} {Shun : Loc → Prop} {gs : Array Goroutine} {w w' : World} {sl : Option (Nat × Nat)} {t : Trace} {q : Nat → Nat} {g g' : Goroutine} {B B' : Kn} {L L' : Cells}
theorem Ends.ended {m : Machine} {o : Outcome} {ops : Array MemOp} (hs : stepT P m = (.ended o w', ops)) (hq : Good P Post m o w' (t ++ ops)) : Ends P Post m t :=
  ⟨0, m, o, w', t ++ ops, by simp [runNT, hs], rfl, by simp [step, hs], hq⟩
theorem FrameS.at (h : FrameS P W Shun gs w t q g B L) (d : Nat) : FrameS P W Shun gs (w.at d) t q g B L :=
  ⟨h.g0, h.old, h.past, h.gs, sat_at0 h.sat, h.shun, ⟨h.kw.same, h.kw.size, h.kw.fz, h.kw.tape, h.kw.os, h.kw.output⟩, h.lowL⟩
theorem FrameS.awake (h : FrameS P W Shun gs w t q g B L) (hr : g.status = .running) : ∀ g ∈ gs, Go.Conc.awake g := by
  intro x hx
  obtain ⟨i, hi, rfl⟩ := Array.mem_iff_getElem.1 hx
  have hgx : gs[i]? = some gs[i] := Array.getElem?_eq_getElem hi
  rcases Nat.eq_zero_or_pos i with rfl | hpos
  · have := h.g0
    rw [hgx] at this
    rw [Option.some.inj this]
    exact awake_of (.inl hr)
  · exact awake_of ((h.old i _ hpos hgx).status.elim .inl fun x => .inr (.inr x))
theorem FrameS.leaver (h : FrameS P W Shun gs w t q g B L) (hr : g.status = .running) {x k : Nat} (hx0 : 0 < x) {a a' : Goroutine} (ha : gs[x]? = some a) {es : Array Event} (hm : ∀ e ∈ es, e.mute = true) (hq : QuitsD P k (deafBehind (Deaf t x) es) a') :
    FrameS P W Shun ((gs.map (woken P a a' w)).setIfInBounds x a') w (t ++ MemOp.ofEvents x a.frame.fn a.frame.place es) (upd q x k) g B L := by
  have hlt : x < gs.size := (Array.getElem?_eq_some_iff.1 ha).1
  have hmu : ∀ op ∈ MemOp.ofEvents x a.frame.fn a.frame.place es, op.g = x ∧ op.act.touch? = none := fun op hop => by
    obtain ⟨e, he, rfl⟩ := ev_of hop
    exact ⟨rfl, touch_mute (hm e he)⟩
  refine ⟨?_, fun y gy h0 hgy => ?_, h.past.mute (by omega) hmu, fun op hop => ?_, h.sat, h.shun, h.kw, h.lowL⟩
  · rw [get_map_set _ _ _ _ (by omega), h.g0, Option.map_some, woken_run hr]
  · by_cases e : x = y
    · subst e
      rw [get_map_set_same _ _ _ hlt] at hgy
      cases hgy
      rw [Deaf_own]
      simp only [upd_same]
      exact hq
    · rw [get_map_set _ _ _ _ e] at hgy
      obtain ⟨z, hz, rfl⟩ := Option.map_eq_some_iff.1 hgy
      have hqz := h.old y z h0 hz
      rw [woken_quitsD hqz, Deaf_other t e _ g_of_ofEvents]
      simp only [upd_ne _ _ (Ne.symm e)]
      exact hqz
  · rw [Array.size_setIfInBounds, Array.size_map]
    rcases Array.mem_append.1 hop with hop | hop
    · exact h.gs op hop
    · rw [(hmu op hop).1]; exact hlt
theorem frameDrive (hr : g.status = .running) (H : ∀ gs w sl t q Shun, FrameS P W Shun gs w t q g B L → (∃ m' ops, runT P (crowd gs w sl) 0 = (.next m', ops) ∧ Ends P Post m' (t ++ ops)) ∨ (∃ o w' ops, runT P (crowd gs w sl) 0 = (.ended o w', ops) ∧ ∀ w₀ sl₀, Good P Post (crowd gs w₀ sl₀) o w' (t ++ ops))) :
    FrameR P Post W g B L := by
  have key : ∀ (μ : Nat) gs w sl t q Shun, sumTo gs.size q = μ → FrameS P W Shun gs w t q g B L → Ends P Post (crowd gs w sl) t := by
    intro μ
    induction μ using Nat.strongRecOn with
    | _ μ ih =>
      intro gs w sl t q Shun hμ h
      obtain ⟨x, gx, d, sl', hgx, hrx, hstep⟩ := crowd_pick (P := P) (w := w) (sl := sl) (h.awake hr) ⟨0, g, h.g0, hr⟩
      rcases Nat.eq_zero_or_pos x with rfl | hpos
      · rcases H gs (w.at d) sl' t q Shun (h.at d) with ⟨m', ops, h1, h2⟩ | ⟨o, w', ops, h1, h2⟩
        · exact Ends.next (hstep.trans h1) h2
        · exact Ends.ended (hstep.trans h1) (h2 _ _)
      · have hq := h.old x gx hpos hgx
        have hlt : x < gs.size := (Array.getElem?_eq_some_iff.1 hgx).1
        cases hk : q x with
        | zero => rw [hk] at hq; rw [hq.1] at hrx; cases hrx
        | succ k =>
          rw [hk] at hq
          rcases hq with ⟨hf, _⟩ | ⟨_, g', es, hm, hstp, hq'⟩
          · rw [hf] at hrx; cases hrx
          · have hrunT := runT_crowd_go (P := P) (sl := sl') (i := x) hgx (by rw [show (x == 0) = false by simp; omega]; exact hstp (w.at d))
            have h' := (h.at d).leaver hr hpos hgx hm hq'
            refine Ends.next (hstep.trans hrunT) (ih (sumTo gs.size (upd q x k)) ?_ _ _ _ _ _ _ (by rw [Array.size_setIfInBounds, Array.size_map]) h')
            have h2 := sumTo_upd q k id hlt
            simp only [id_eq] at h2
            have h3 : (sumTo gs.size fun a => upd q x k a) = sumTo gs.size (upd q x k) := rfl
            have h4 : (sumTo gs.size fun a => q a) = sumTo gs.size q := rfl
            omega
  exact fun gs w sl t q Shun h => key _ gs w sl t q Shun rfl h
theorem FrameR.conv (hle : B.le B') (hs : ∀ w, Sat B L w → Sat B' L' w) (hb : ∀ b o, B'.mem b = some o → (B.mem b).isSome = true ∨ ∃ p, p ∈ L ∧ p.1 = b) (hl : ∀ p, p ∈ L' → ∃ q, q ∈ L ∧ q.1 = p.1) (h : FrameR P Post W g B' L') : FrameR P Post W g B L :=
  fun gs w sl t q Shun s => h gs w sl t q Shun ⟨s.g0, s.old, s.past, s.gs, hs w s.sat, fun l hl' => by
    obtain ⟨b, h1, h2, h3, h4⟩ := s.shun l hl'
    refine ⟨b, h1, h2, ?_, fun p hp e => ?_⟩
    · cases hm : B'.mem b with
      | none => rfl
      | some x =>
        rcases hb b x hm with hx | ⟨p, hp, e⟩
        · rw [h3] at hx; cases hx
        · exact absurd e (h4 p hp)
    · obtain ⟨r, hr, e'⟩ := hl p hp
      exact h4 r hr (e'.trans e), s.kw, fun p hp => by
    obtain ⟨r, hr, e⟩ := hl p hp
    rw [← e]; exact s.lowL r hr⟩
theorem FrameR.step (hr : g.status = .running) (h : ∀ w, Sat B L w → ∃ g' w' es B' L', stepG P true g w = .go g' w' es ∧ (∀ e, e ∈ es → Ev w.heap.size w'.heap.size B L e) ∧ Ok B L w B' L' w' ∧ FrameR P Post W g' B' L') : FrameR P Post W g B L := by
  refine frameDrive hr fun gs w sl t q Shun s => .inl ?_
  obtain ⟨g', w', es, B', L', h1, h2, h3, h4⟩ := h w s.sat
  have hrun := runT_crowd_go (P := P) (sl := sl) (i := 0) s.g0 (by simpa using h1)
  have hlt : 0 < gs.size := (Array.getElem?_eq_some_iff.1 s.g0).1
  have notShun : ∀ {b}, ((B.mem b).isSome = true ∨ ∃ p, p ∈ L ∧ p.1 = b) → ∀ l, blkOf l = some b → ¬ Shun l := fun {b} hb l hl hsh => by
    obtain ⟨b', e1, _, e3, e4⟩ := s.shun l hsh
    rw [hl] at e1
    cases e1
    rcases hb with hb | ⟨p, hp, e⟩
    · rw [e3] at hb; cases hb
    · exact e4 p hp e
  have hops : ∀ op ∈ MemOp.ofEvents 0 g.frame.fn g.frame.place es, (op.g = 0 ∧ (op.act ≠ .mark .disable ∧ op.act ≠ .mark .enable) ∧ ∀ x, op.act.touch? = some x → ∃ b, blkOf x.loc = some b ∧ ((∀ l, blkOf l = some b → ¬ Shun l) ∨ w.heap.size ≤ b)) ∧ LowT w'.heap.size op := fun op hop => by
    obtain ⟨e, he, rfl⟩ := ev_of hop
    rcases h2 e he with ⟨m, hm, hsf⟩ | ⟨hsy, blk, hl, hx⟩
    · obtain ⟨a1, a2, a3, a4, a5⟩ := ofEvent_soft hm hsf
      refine ⟨⟨rfl, ⟨fun e => ?_, fun e => ?_⟩, fun x hx => ?_⟩, fun x b hx => ?_⟩
      · exact a4 (ConcR.loc_of_ofEvent e)
      · exact a5 (ConcR.loc_of_ofEvent e)
      · rw [a1] at hx; cases hx
      · rw [a1] at hx; cases hx
    · obtain ⟨a1, a2, a3, a4, a5⟩ := ofEvent_mem hsy hl
      have hblk : blk < w'.heap.size := by
        rcases hx with ⟨o, ho⟩ | ⟨_, hb⟩ | ⟨_, hlt⟩
        · exact Nat.lt_of_lt_of_le (s.sat.ltL ho) h3.size
        · exact Nat.lt_of_lt_of_le (mem_lt0 s.sat hb) h3.size
        · exact hlt
      refine ⟨⟨rfl, ⟨fun e => ?_, fun e => ?_⟩, fun x hx' => ?_⟩, fun x b hx' hb => ?_⟩
      · exact a4 (ConcR.loc_of_ofEvent e)
      · exact a5 (ConcR.loc_of_ofEvent e)
      · simp only at hx'
        rw [a2] at hx'
        simp only [Option.some.injEq] at hx'
        subst hx'
        refine ⟨blk, a3, ?_⟩
        rcases hx with ⟨o, ho⟩ | ⟨_, hb⟩ | ⟨hge, _⟩
        · exact .inl (notShun (.inr ⟨_, ho, rfl⟩))
        · exact .inl (notShun (.inl hb))
        · exact .inr hge
      · simp only at hx'
        rw [a2] at hx'
        simp only [Option.some.injEq] at hx'
        subst hx'
        rw [a3] at hb
        cases hb
        exact hblk
  have m : Mv (fun b => ∃ p, p ∈ L ∧ p.1 = b) w w' := Mv.of_ok h3 fun p hp => ⟨p, hp, rfl⟩
  refine ⟨_, _, hrun, h4 _ _ _ _ q Shun ⟨get_map_set_same _ _ _ hlt, fun x gx h0 hgx => ?_, s.past.app (fun op hop => (hops op hop).1) (fun op hop => (hops op hop).2) h3.size, fun op hop => ?_, h3.sat, fun l hl => ?_, s.kw.mv m (fun b ⟨p, hp, e⟩ => e ▸ s.lowL p hp), fun p hp => ?_⟩⟩
  · rw [get_map_set _ _ _ _ (by omega)] at hgx
    obtain ⟨z, hz, rfl⟩ := Option.map_eq_some_iff.1 hgx
    have hqz := s.old x z h0 hz
    rw [woken_quitsD hqz, Deaf_other t (by omega) _ g_of_ofEvents]
    exact hqz
  · rw [Array.size_setIfInBounds, Array.size_map]
    rcases Array.mem_append.1 hop with hop | hop
    · exact s.gs op hop
    · rw [(hops op hop).1.1]; exact hlt
  · obtain ⟨b, e1, e2, e3, e4⟩ := s.shun l hl
    refine ⟨b, e1, Nat.lt_of_lt_of_le e2 h3.size, ?_, fun p hp e => ?_⟩
    · cases hm : B'.mem b with
      | none => rfl
      | some x =>
        rcases h3.newB b x hm with hx | ⟨p, hp, e⟩ | hx
        · rw [e3] at hx; cases hx
        · exact absurd e (e4 p hp)
        · omega
    · rcases h3.newL p hp with ⟨r, hr', e'⟩ | hx
      · exact e4 r hr' (e'.trans e)
      · omega
  · rcases h3.newL p hp with ⟨r, hr', e'⟩ | hx
    · rw [← e']; exact s.lowL r hr'
    · exact Nat.le_trans s.kw.size hx
theorem FrameR.ended (hr : g.status = .running) (h : ∀ w, Sat B L w → KW W w → ∃ v es, stepG P true g w = .ended (.done v) w es ∧ (∀ e, e ∈ es → Ev w.heap.size w.heap.size B L e) ∧ Post v w) : FrameR P Post W g B L := by
  refine frameDrive hr fun gs w sl t q Shun s => .inr ?_
  obtain ⟨v, es, h1, h2, h3⟩ := h w s.sat s.kw
  have hrun := runT_crowd_ended (P := P) (sl := sl) (i := 0) s.g0 (by simpa using h1)
  have notShun : ∀ {b}, ((B.mem b).isSome = true ∨ ∃ p, p ∈ L ∧ p.1 = b) → ∀ l, blkOf l = some b → ¬ Shun l := fun {b} hb l hl hsh => by
    obtain ⟨b', e1, _, e3, e4⟩ := s.shun l hsh
    rw [hl] at e1
    cases e1
    rcases hb with hb | ⟨p, hp, e⟩
    · rw [e3] at hb; cases hb
    · exact e4 p hp e
  have hops : ∀ op ∈ MemOp.ofEvents 0 g.frame.fn g.frame.place es, (op.g = 0 ∧ (op.act ≠ .mark .disable ∧ op.act ≠ .mark .enable) ∧ ∀ x, op.act.touch? = some x → ∃ b, blkOf x.loc = some b ∧ ((∀ l, blkOf l = some b → ¬ Shun l) ∨ w.heap.size ≤ b)) ∧ LowT w.heap.size op := fun op hop => by
    obtain ⟨e, he, rfl⟩ := ev_of hop
    rcases h2 e he with ⟨m, hm, hsf⟩ | ⟨hsy, blk, hl, hx⟩
    · obtain ⟨a1, a2, a3, a4, a5⟩ := ofEvent_soft hm hsf
      refine ⟨⟨rfl, ⟨fun e => ?_, fun e => ?_⟩, fun x hx => ?_⟩, fun x b hx => ?_⟩
      · exact a4 (ConcR.loc_of_ofEvent e)
      · exact a5 (ConcR.loc_of_ofEvent e)
      · rw [a1] at hx; cases hx
      · rw [a1] at hx; cases hx
    · obtain ⟨a1, a2, a3, a4, a5⟩ := ofEvent_mem hsy hl
      have hblk : blk < w.heap.size := by
        rcases hx with ⟨o, ho⟩ | ⟨_, hb⟩ | ⟨_, hlt⟩
        · exact s.sat.ltL ho
        · exact mem_lt0 s.sat hb
        · exact hlt
      refine ⟨⟨rfl, ⟨fun e => ?_, fun e => ?_⟩, fun x hx' => ?_⟩, fun x b hx' hb => ?_⟩
      · exact a4 (ConcR.loc_of_ofEvent e)
      · exact a5 (ConcR.loc_of_ofEvent e)
      · simp only at hx'
        rw [a2] at hx'
        simp only [Option.some.injEq] at hx'
        subst hx'
        refine ⟨blk, a3, ?_⟩
        rcases hx with ⟨o, ho⟩ | ⟨_, hb⟩ | ⟨hge, _⟩
        · exact .inl (notShun (.inr ⟨_, ho, rfl⟩))
        · exact .inl (notShun (.inl hb))
        · exact .inr hge
      · simp only at hx'
        rw [a2] at hx'
        simp only [Option.some.injEq] at hx'
        subst hx'
        rw [a3] at hb
        cases hb
        exact hblk
  have hpast := s.past.app (fun op hop => (hops op hop).1) (fun op hop => (hops op hop).2) (Nat.le_refl _)
  refine ⟨_, _, _, hrun, fun w₀ sl₀ => ⟨v, rfl, h3, hpast.clean, hpast.over, ⟨fun x hx => ?_, rfl⟩, fun i x hx hi0 => ?_⟩⟩
  · obtain ⟨i, hi⟩ := List.mem_iff_getElem?.1 hx
    rw [List.getElem?_drop] at hi
    exact ⟨_, (s.old (1 + i) x (by omega) (by simpa [crowd] using hi)).leaves⟩
  · have hq := s.old i x (by omega) hx
    refine ⟨q i, ?_⟩
    have : (t ++ MemOp.ofEvents 0 g.frame.fn g.frame.place es).deaf i (t ++ MemOp.ofEvents 0 g.frame.fn g.frame.place es).size = Deaf t i := Deaf_other t (g := i) (g' := 0) (by omega) _ g_of_ofEvents
    rw [this]
    exact hq.hears _
end
def JoinB (P : Program) (main : Bool) (R : Goroutine → Kn → Cells → Prop) (g : Goroutine) (B : Kn) (L : Cells) : Prop :=
  main = true → g.status = .running ∧ ∃ (pay : Payload) (ty : TypeId) (C n : Nat) (val : Nat → Value) (cs : Array Value) (L₁ : Cells) (gf : Nat → Goroutine),
    n < 2147483648 ∧ cs.size = n ∧ L.Perm ((C, .cells cs pay.ety (0, 0)) :: L₁) ∧ (∀ w, Sat B L w → stepG P true g w = .go (gf w.heap.size) { w with heap := w.heap.push (wgBlock ty 0 0) } #[]) ∧
    ∀ Wg, B.mem Wg = none → (∀ p, p ∈ L → p.1 ≠ Wg) → PhaseR P ty Wg C n val R .a5 0 (gf Wg) B L₁
theorem PhaseR.keep [Payload] {P : Program} {ty : TypeId} {Wg C n : Nat} {val : Nat → Value} {K : Goroutine → Kn → Cells → Prop} {p : PTag} {j : Nat} {g : Goroutine} {B : Kn} {L m : Cells} (h : PhaseR P ty Wg C n val K p j g B L) :
    (∀ p, p ∈ m → B.mem p.1 = some p.2) → PhaseR P ty Wg C n val (fun g B' L' => (∀ p, p ∈ m → B'.mem p.1 = some p.2) ∧ K g B' L') p j g B L := by
  induction h with
  | conv hle hs hb hl _ ih => exact fun hm => .conv hle hs hb hl (ih fun p hp => hle _ _ (hm p hp))
  | own hr hst _ ih => exact fun hm => .own hr hst fun w s l => ih w s l fun p hp => (hst w s l).2.2.le _ _ (hm p hp)
  | disA hr hst _ ih => exact fun hm => .disA hr hst (ih hm)
  | add hr hj hst _ ih => exact fun hm => .add hr hj hst fun v hv => ih v hv hm
  | enaA hr hst _ ih => exact fun hm => .enaA hr hst (ih hm)
  | go hr hst hw _ ih => exact fun hm => .go hr hst hw (ih hm)
  | disW hr hst _ ih => exact fun hm => .disW hr hst (ih hm)
  | ldb hr hst _ _ ih0 ihv => exact fun hm => .ldb hr hst (ih0 hm) fun v h1 h2 h3 => ihv v h1 h2 h3 hm
  | ld0 hr hst _ ih => exact fun hm => .ld0 hr hst (ih hm)
  | cas hr hst _ hst' _ ih1 ih2 => exact fun hm => .cas hr hst (ih1 hm) hst' (ih2 hm)
  | sem hr hof hst hst' _ ih => exact fun hm => .sem hr hof hst hst' (ih hm)
  | ld2 hr hst _ ih => exact fun hm => .ld2 hr hst (ih hm)
  | enaW hr hst _ ih => exact fun hm => .enaW hr hst (ih hm)
  | acq hr hst hk => exact fun hm => .acq hr hst ⟨hm, hk⟩
inductive JoinI (P : Program) (main : Bool) : (Goroutine → Kn → Cells → Prop) → Goroutine → Kn → Cells → Prop
  | base {R : Goroutine → Kn → Cells → Prop} {g : Goroutine} {B : Kn} {L : Cells} : JoinB P main R g B L → JoinI P main R g B L
  | lend {R : Goroutine → Kn → Cells → Prop} {l : Cells} {g : Goroutine} {B : Kn} {L : Cells} : (l.map (·.1)).Nodup → (∀ p, p ∈ l → B.mem p.1 = some p.2) → JoinI P main (lentR R l) g B L → JoinI P main R g (B.minus l) (l ++ L)
def JoinR (P : Program) : JoinT := ⟨JoinI P, fun hn hl h => .lend hn hl h⟩
theorem FrameR.joinB {P : Program} {Post : Value → World → Prop} {W : World} {R : Goroutine → Kn → Cells → Prop} {m : Cells} {g : Goroutine} {B : Kn} {L : Cells} (h : JoinB P true R g B L) (hm0 : ∀ p, p ∈ m → B.mem p.1 = some p.2) (hR : ∀ g' B' L', (∀ p, p ∈ m → B'.mem p.1 = some p.2) → R g' B' L' → FrameR P Post W g' B' L') : FrameR P Post W g B L := by
  classical
  obtain ⟨hr, pay, ty, C, n, val, cs, L₁, gf, hn, hcs, hp, hst, hph⟩ := h rfl
  refine frameDrive hr fun gs w sl t q Shun s => .inl ?_
  have hrun := runT_crowd_go (P := P) (sl := sl) (i := 0) s.g0 (by simpa using hst w s.sat)
  have hlt : 0 < gs.size := (Array.getElem?_eq_some_iff.1 s.g0).1
  have hm := s.sat.perm hp
  have hCL : (C, Obj.cells cs pay.ety (0, 0)) ∈ L := hp.mem_iff.2 (List.mem_cons_self ..)
  have hC : C < w.heap.size := s.sat.ltL hCL
  have hBC : B.mem C = none := s.sat.apart _ hCL
  have hL1 : ∀ p, p ∈ L₁ → p ∈ L := fun p hp' => hp.mem_iff.2 (List.mem_cons_of_mem _ hp')
  have hnd := List.nodup_cons.1 (by simpa using hm.nodup : (C :: L₁.map (·.1)).Nodup)
  have hne : ∀ p, p ∈ L₁ → p.1 ≠ C := fun p hp' e => hnd.1 (e ▸ List.mem_map_of_mem (f := (·.1)) hp')
  have hBw : B.mem w.heap.size = none := by
    cases hx : B.mem w.heap.size with
    | none => rfl
    | some x => exact absurd (s.sat.ltB hx) (Nat.lt_irrefl _)
  have notShun : ∀ {b}, ((B.mem b).isSome = true ∨ ∃ p, p ∈ L ∧ p.1 = b) → ∀ l, blkOf l = some b → ¬ Shun l := fun {b} hb l hl hsh => by
    obtain ⟨b', e1, _, e3, e4⟩ := s.shun l hsh
    rw [hl] at e1
    cases e1
    rcases hb with hb | ⟨p, hp, e⟩
    · rw [e3] at hb; cases hb
    · exact e4 p hp e
  have e0 : MemOp.ofEvents 0 g.frame.fn g.frame.place (#[] : Array Event) = #[] := by rw [ofEvents_eq]; simp
  rw [e0] at hrun
  refine ⟨_, _, hrun, ?_⟩
  rw [Array.append_empty]
  let ow : Nat → Ow := fun b => if b = C then .pay else if b = w.heap.size then .grp else if ∃ p, p ∈ L₁ ∧ p.1 = b then .own 0 else .free
  have owC : ow C = .pay := by simp [ow]
  have owW : ow w.heap.size = .grp := by simp only [ow]; rw [if_neg (by omega), if_pos trivial]
  have owL : ∀ p, p ∈ L₁ → ow p.1 = .own 0 := fun p hp' => by
    simp only [ow]
    rw [if_neg (hne p hp'), if_neg (by have := s.sat.ltL (hL1 p hp'); omega), if_pos ⟨p, hp', rfl⟩]
  have owF : ∀ b, b ≠ C → b ≠ w.heap.size → (∀ p, p ∈ L₁ → p.1 ≠ b) → ow b = .free := fun b h1 h2 h3 => by
    simp only [ow]
    rw [if_neg h1, if_neg h2, if_neg (fun ⟨p, hp', e⟩ => h3 p hp' e)]
  have owI : ∀ b x, ow b = .own x → x = 0 ∧ ∃ p, p ∈ L₁ ∧ p.1 = b := fun b x hb => by
    simp only [ow] at hb
    split at hb
    · cases hb
    · split at hb
      · cases hb
      · split at hb
        · rename_i h3; cases hb; exact ⟨rfl, h3⟩
        · cases hb
  let o : Oth := ⟨fun _ => ⟨1, 0, 0⟩, fun _ => .leaf, fun _ => ⟨fun _ => none⟩, fun _ => [], q⟩
  have kb : ∀ x b, KB gs.size 0 o B x b → x = 0 ∧ (B.mem b).isSome = true := fun x b hb => by
    rcases hb with hb | ⟨k, hk, _⟩
    · exact hb
    · exact absurd hk (Nat.not_lt_zero _)
  have htl := TL.start (C := C) (ow := ow) (KB := KB gs.size 0 o B) s.past s.gs hlt (notShun (.inr ⟨_, hCL, rfl⟩)) (fun b x hb => by
    obtain ⟨h1, p, hp', e⟩ := owI b x hb
    exact ⟨h1, notShun (.inr ⟨p, hL1 p hp', e⟩)⟩) (fun x b hb => ⟨(kb x b hb).1, notShun (.inl (kb x b hb).2)⟩)
  have hsat' : Sat B L₁ { w with heap := w.heap.push (wgBlock ty 0 0) } := by
    have h1 := s.sat.new (wgBlock ty 0 0)
    have h2 : ((w.heap.size, wgBlock ty 0 0) :: L).Perm (L₁ ++ [(w.heap.size, wgBlock ty 0 0), (C, .cells cs pay.ety (0, 0))]) := by
      refine ((hp.cons _).trans ?_)
      exact (List.perm_append_comm (l₁ := [(w.heap.size, wgBlock ty 0 0), (C, .cells cs pay.ety (0, 0))]) (l₂ := L₁))
    exact (h1.perm h2).left0
  have hkw : KW W { w with heap := w.heap.push (wgBlock ty 0 0) } := by
    have hok := Ok.new s.sat (wgBlock ty 0 0) rfl
    exact s.kw.mv (Mv.of_ok (S := fun b => ∃ p, p ∈ L ∧ p.1 = b) hok fun p hp => ⟨p, hp, rfl⟩) (fun b ⟨p, hp, e⟩ => e ▸ s.lowL p hp)
  have hsz : ({ w with heap := w.heap.push (wgBlock ty 0 0) } : World).heap.size = w.heap.size + 1 := by simp
  have hPI : PInv P ty w.heap.size C n gs.size t.size val W Shun 0 ((gs.map (woken P g (gf w.heap.size) { w with heap := w.heap.push (wgBlock ty 0 0) })).setIfInBounds 0 (gf w.heap.size)) { w with heap := w.heap.push (wgBlock ty 0 0) } t o ow (gf w.heap.size) B L₁ 0 := by
    refine ⟨hlt, by simp, get_map_set_same _ _ _ hlt, fun i x h0 hi hx => ?_, fun i hi => absurd hi (Nat.not_lt_zero _), hsat', owL, fun i hi => absurd hi (Nat.not_lt_zero _), fun p hp' => s.lowL p (hL1 p hp'), fun i hi => absurd hi (Nat.not_lt_zero _), s.lowL _ hCL, s.kw.size, by rw [hsz]; exact htl,
      ⟨fun x b hb => ?_, fun x b hb => ?_, owC, owW, by rw [hsz]; omega, by rw [hsz]; omega⟩, s.past.hears, fun i hi => absurd hi (Nat.not_lt_zero _), fun i hi => absurd hi (Nat.not_lt_zero _), fun i hi => absurd hi (Nat.not_lt_zero _), ⟨cs, ?_, hcs⟩, fun l hl => ?_, hkw⟩
    · rw [get_map_set _ _ _ _ (by omega)] at hx
      obtain ⟨z, hz, rfl⟩ := Option.map_eq_some_iff.1 hx
      have hqz := s.old i z h0 hz
      rw [woken_quitsD hqz]
      exact hqz
    · obtain ⟨_, hb'⟩ := kb x b hb
      refine .inl (owF b (fun e => by rw [e, hBC] at hb'; cases hb') (fun e => by rw [e, hBw] at hb'; cases hb') (fun p hp' e => ?_))
      have := s.sat.apart p (hL1 p hp')
      rw [e] at this
      rw [this] at hb'; cases hb'
    · have := mem_lt0 s.sat (kb x b hb).2
      rw [hsz]; omega
    · show (w.heap.push (wgBlock ty 0 0))[C]? = _
      rw [Array.getElem?_push, if_neg (by omega)]; exact s.sat.own _ hCL
    · obtain ⟨b, h1, h2, h3, h4⟩ := s.shun l hl
      exact ⟨b, h1, by rw [hsz]; omega, owF b (fun e => h4 _ hCL e.symm) (by omega) (fun p hp' => h4 p (hL1 p hp')), h3⟩
  have hwg : WgAt ty w.heap.size { w with heap := w.heap.push (wgBlock ty 0 0) } 0 0 := by
    show (w.heap.push (wgBlock ty 0 0))[w.heap.size]? = _
    simp
  refine phase hn (fun g B L h => hR g B L h.1 h.2) ((hph w.heap.size hBw (fun p hp' e => by have := s.sat.ltL hp'; omega)).keep hm0) (by show 0 + 0 ≤ n; omega) _ _ _ _ o ⟨ow, 0, 0, hPI, hwg, ?_⟩
  have := ConcN.Mode.opn (j := 0) (D := cap o.D) (tag := .sp 0 5) trivial (fun i hi => absurd hi (Nat.not_lt_zero _)) (fun vs e => by cases e)
  show ConcN.Mode 0 (cap o.D) (.sp 0 5) 0 0
  simpa [Vc, sumTo, pend] using this
theorem FrameR.joinI {P : Program} {Post : Value → World → Prop} {W : World} {R : Goroutine → Kn → Cells → Prop} {g : Goroutine} {B : Kn} {L : Cells} (h : JoinI P true R g B L) : ∀ m : Cells, (∀ p, p ∈ m → B.mem p.1 = some p.2) → (∀ g' B' L', (∀ p, p ∈ m → B'.mem p.1 = some p.2) → R g' B' L' → FrameR P Post W g' B' L') → FrameR P Post W g B L := by
  induction h with
  | base h => exact fun m hm0 hR => FrameR.joinB h hm0 hR
  | @lend R l g B L hn hl _ ih =>
    intro m hm0 hR gs w sl t q Shun s
    have hlow : ∀ p, p ∈ l → W.heap.size ≤ p.1 := fun p hp => s.lowL p (List.mem_append.2 (.inl hp))
    refine ih (l ++ m) (fun p hp => ?_) (fun g' B' L' hm' hr => ?_) gs w sl t q Shun ⟨s.g0, s.old, s.past, s.gs, lent_sat hl s.sat, fun x hx => ?_, s.kw, fun p hp => s.lowL p (List.mem_append.2 (.inr hp))⟩
    · rcases List.mem_append.1 hp with hp | hp
      · exact hl p hp
      · exact (Kn.minus_mem.1 (hm0 p hp)).1
    · have hlB' : ∀ p, p ∈ l → B'.mem p.1 = some p.2 := fun p hp => hm' p (List.mem_append.2 (.inl hp))
      have key := hR g' (B'.minus l) (l ++ L') (fun p hp => Kn.minus_mem.2 ⟨hm' p (List.mem_append.2 (.inr hp)), (Kn.minus_mem.1 (hm0 p hp)).2⟩) (hr hlB')
      intro gs w sl t q Shun s'
      refine key gs w sl t q Shun ⟨s'.g0, s'.old, s'.past, s'.gs, sat_lent hlB' hn s'.sat, fun x hx => ?_, s'.kw, fun p hp => ?_⟩
      · obtain ⟨b, h1, h2, h3, h4⟩ := s'.shun x hx
        refine ⟨b, h1, h2, ?_, fun p hp e => ?_⟩
        · simp only [Kn.minus, h3]; exact ite_self _
        · rcases List.mem_append.1 hp with hp | hp
          · have := hlB' p hp
            rw [e, h3] at this; cases this
          · exact h4 p hp e
      · rcases List.mem_append.1 hp with hp | hp
        · exact hlow p hp
        · exact s'.lowL p hp
    · obtain ⟨b, h1, h2, h3, h4⟩ := s.shun x hx
      have hb : inL l b = false := inL_false.2 fun p hp => h4 p (List.mem_append.2 (.inl hp))
      refine ⟨b, h1, h2, ?_, fun p hp => h4 p (List.mem_append.2 (.inr hp))⟩
      cases hm : B.mem b with
      | none => rfl
      | some o => rw [Kn.minus_mem.2 ⟨hm, hb⟩] at h3; cases h3
def frameL (P : Program) (Post : Value → World → Prop) (W : World) : Lg ⟨P, JoinR P⟩ where
  main := true
  R := FrameR P Post W
  conv := fun hle hs hb hl h => FrameR.conv hle hs hb hl h
  step := fun hg h => FrameR.step (by rw [hg]; rfl) h
  join := fun h => FrameR.joinI h [] (fun _ hp => by cases hp) fun _ _ _ _ h => h
end Go.BL
