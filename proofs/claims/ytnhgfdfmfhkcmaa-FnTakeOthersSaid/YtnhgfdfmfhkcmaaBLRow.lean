/-
  BL: rows: opening the arguments, shutting the answer.
-/
import Derived.Test.YtnhgfdfmfhkcmaaBLLone
import Derived.OpenShut
import Derived.WideKeyArgs
import Derived.ChangeSlices
import Derived.ChangeCalls
import Derived.ProofKit
import Derived.WalkKit
namespace Go.BL
open Go.ChangeShapes Go.WideShapes Go.ChangeAt Go.RowKit
set_option linter.unusedVariables false
section
variable {H : Type} {enc : TypeId × Value → H} {P : Program}

theorem cellAt_of {W : World} {a : Addr} {v : Value} (h : W.cell? a = some v) : CellAt (allOf W) [] a v := by
  simp only [World.cell?] at h
  split at h
  · rename_i c T fr hb
    split at h
    · cases h
    · rename_i hs
      exact ⟨by simpa using hs, c, T, fr, .inl hb, h⟩
  · cases h

theorem open_bytes {W : World} {t e : TypeId} {v : Value} {d : DataW H} {ps : List MemPlace} {r : Reach} {b0 : Nat} {W0 : World} (hval : Value.okWide P W0 r b0 t v) (ht : P.underlying t = some (.slice e)) (he : P.underlying e = some (.int .u8)) (hc : P.cellsOf e = 1)
    (h : DataW.Trod enc P W 0 (fun _ => true) true t v d ps) : ∃ (q : Option Addr) (m cp : Nat), v = .slice q m cp ∧ m ≤ cp ∧ BytesAt (allOf W) q m := by
  obtain ⟨n, hn⟩ := h
  obtain ⟨a0, l0, c0, rfl⟩ := okWide_slice ht hval
  rcases open_ints ht he hc hn with ⟨hcs, _⟩ | ⟨a, len, cap, zs, hcs, _, hl, _, hz, _, hcell, hw⟩
  · simp only [Value.cells, List.cons.injEq, and_true] at hcs
    rw [hcs]
    exact ⟨none, 0, 0, rfl, Nat.le_refl _, fun j hj => absurd hj (Nat.not_lt_zero _)⟩
  · simp only [Value.cells, List.cons.injEq, and_true] at hcs
    rw [hcs]
    refine ⟨some a, len, cap, rfl, hl, fun j hj => ?_⟩
    have hjz : j < zs.length := by rw [hz]; simp; omega
    have h1 := hcell j hjz
    have h0 := cellAt_of (hcell 0 (by omega))
    have hsp : a.spot = none := by
      have := h0.1
      simpa [Addr.add] using this
    have hmem : zs.getD j 0 ∈ zs := by
      rw [List.getD_eq_getElem?_getD, List.getElem?_eq_getElem hjz]
      exact List.getElem_mem hjz
    have hb := bounds_u8 (hw _ hmem)
    refine ⟨a, UInt8.ofNat (zs.getD j 0).toNat, rfl, hsp, ?_⟩
    have e : ((UInt8.ofNat (zs.getD j 0).toNat).toNat : Int) = zs.getD j 0 := by
      rw [UInt8.toNat_ofNat']
      omega
    rw [e]
    exact cellAt_of h1

theorem same_all (hl : laidOutB P = true) {W W' : World} (hk : Kept W W') {sp' : Nat → Bool} : ∀ {ts : List TypeId} {vs : List Value} {ds : List (DataW H)} {ps : List MemPlace}, (ts.all fun t => P.readableRec t && decide (t < P.types.size)) = true →
    DataW.TrodAll enc P W 0 (fun _ => true) true ts vs ds ps → (∀ p ∈ ps, p.block < W.heap.size) → (∀ p ∈ ps, sp' p.block = true) → DataW.TrodAll enc P W' 0 sp' true ts vs ds ps
  | [], [], [], _, _, h, _, _ => h
  | t :: ts, _ :: _, _ :: _, _, hts, ⟨p, q, h1, h2, e⟩, hlt, hs => by
    simp only [List.all_cons, Bool.and_eq_true, decide_eq_true_eq] at hts
    exact ⟨p, q, WideElems.Trod_stays hl hts.1.1 hts.1.2 h1 (fun x hx => hk.same (hlt x (by rw [e]; exact List.mem_append_left _ hx))) (fun x hx => hs x (by rw [e]; exact List.mem_append_left _ hx)),
      same_all hl hk hts.2 h2 (fun x hx => hlt x (by rw [e]; exact List.mem_append_right _ hx)) (fun x hx => hs x (by rw [e]; exact List.mem_append_right _ hx)), e⟩

/-- A law's row: the answer is 'true', the arguments read as they did. -/
theorem law_post {f : Func} {s : ChangeSpec} {apart fresh handsOn again : Bool} {W W' : World} {args : Array Value} {ds gs : List (DataW H)} {before : List MemPlace} {tb : TypeId}
    (hl : laidOutB P = true) (hts : (f.params.toList.all fun t => P.readableRec t && decide (t < P.types.size)) = true) (hres : f.resultTypes.toList = [tb]) (hb : P.underlying tb = some .bool) (hvars : s.vars = [])
    (hW : DataW.Whole enc P f.params.toList s.vars apart W args.toList ds gs before) (hfn : ∀ ds' gs', gs' = [] → ds'.length = f.params.toList.length → s.fn H (ds' ++ gs') = { results := [.lit (.bool true)], args := ds' })
    (hk : Kept W W') : s.post enc P f apart fresh handsOn again W args (.bool true) W' := by
  have hlt := hW.lt
  have hW' := hW
  obtain ⟨p, q, hA0, hV, rfl, hfz, hnd⟩ := hW
  rw [hvars] at hV
  obtain ⟨rfl, rfl⟩ := trodVars_none hV
  have hlen := (trodAll_length hA0).2
  have hf2 := hfn ds [] rfl hlen
  have hr2 : f.resultTypes = #[tb] := by apply Array.ext'; rw [hres]
  refine post_of_same (pa := p) (pv := []) hW' (fun b sp hd => ?_) (fun sp hsp => ?_) (fun sp _ => ?_) rfl (hk.2.frame _) hk.2.2.1 ?_
  · rw [hf2, hr2]
    exact trodAll_cons_mk (shut_bool hb _) trodAll_mk0
  · rw [hf2]
    exact same_all hl hk hts hA0 (fun x hx => hlt x (List.mem_append_left _ hx)) (fun x hx => hsp x (List.mem_append_left _ hx))
  · rw [hf2, hvars]
    exact rfl
  · intro j t r h1 h2
    rw [hr2] at h1 h2
    cases j with
    | zero =>
      simp only [List.getElem?_toArray, List.getElem?_cons_zero, Option.some.injEq] at h1
      simp [Value.resultList] at h2
      subst h1; subst h2
      exact okWide_bool_mk hb _
    | succ j => simp at h1
end
end Go.BL
