/-
  BL: literals of structs and slices; what is kept at a region's end.
-/
import Derived.Test.YtnhgfdfmfhkcmaaBLApp
namespace Go.BL
open Go.Conc (G)
set_option linter.unusedVariables false

/-- Parts laid into cells, said of lists. -/
def fillL (pl : Nat → Option (Nat × Nat)) : List Value → List (Nat × Value) → Option (List Value)
  | l, [] => some l
  | l, (i, v) :: r => match pl i with
    | some (off, sz) => bif Nat.beq v.cells.toList.length sz && Nat.ble (off + sz) l.length then fillL pl (setAt l off v.cells.toList) r else none
    | none => none

theorem fold_set (off : Nat) : ∀ (cs : List Value) (k : Nat) (a : Array Value), ((cs.zipIdx k).foldl (fun a (x : Value × Nat) => a.setIfInBounds (off + x.2) x.1) a).toList = setAt a.toList (off + k) cs
  | [], k, a => by simp [setAt_nil]
  | c :: cs, k, a => by
    rw [List.zipIdx_cons, List.foldl_cons, fold_set off cs (k + 1)]
    rw [setAt_cons]
    simp [Nat.add_assoc]

theorem fill_spec (pl : Nat → Option (Nat × Nat)) : ∀ (parts : List (Nat × Value)) (a : Array Value) (l' : List Value), fillL pl a.toList parts = some l' → Instr.fill pl a parts = some l'.toArray
  | [], a, l', h => by
    simp only [fillL, Option.some.injEq] at h
    subst h
    simp [Instr.fill]
  | (i, v) :: r, a, l', h => by
    simp only [fillL] at h
    split at h
    · rename_i off sz hpl
      cases hc : (Nat.beq v.cells.toList.length sz && Nat.ble (off + sz) a.toList.length) with
      | false => rw [hc] at h; cases h
      | true =>
        rw [hc] at h
        simp only [cond_true] at h
        rw [Bool.and_eq_true] at hc
        have h1 : v.cells.size = sz := by have := Nat.eq_of_beq_eq_true hc.1; simpa using this
        have h2 : off + sz ≤ a.size := by have := Nat.le_of_ble_eq_true hc.2; simpa using this
        simp only [Instr.fill, hpl, h1, ne_eq, not_true_eq_false, decide_false, Bool.false_or]
        rw [if_neg (by simp; omega)]
        have hf := fold_set off v.cells.toList 0 a
        have e : (v.cells.zipIdx.foldl (fun cs (x : Value × Nat) => cs.setIfInBounds (off + x.2) x.1) a).toList = setAt a.toList off v.cells.toList := by
          rw [← Array.foldl_toList, Array.toList_zipIdx]
          simpa using hf
        refine fill_spec pl r _ l' ?_
        rw [← h]
        exact congrArg (fun z => fillL pl z r) e
    · cases h

def placesOf (P : Program) (t : TypeId) : Option (List (Nat × Nat)) :=
  match P.underlying t with
  | some (.struct fs) => fs.toList.mapM fun f => (P.info? f.type).map fun i => (f.offset, i.size)
  | _ => none

section
variable {P : Program} {n : Nat} {ops : Array Oper} {i : Nat} {K : PostV} {S : Env} {D : List Deferred} {B : Kn} {L : List Cells}
variable {dst : Option Tmp} {ty : TypeId} {pos : String} {after : Array Edge} {g : Option (Nat × Bool)}

theorem hb_mapSize {Q : List (Nat × Nat) → Kn → Cells → Prop} {B : Kn} {L : Cells} : ∀ (fs : List Field) (pl : List (Nat × Nat)), fs.mapM (fun f => (P.info? f.type).map fun i => (f.offset, i.size)) = some pl → Q pl B L →
    hb P (fs.mapM fun f => do pure (f.offset, ← sizeOf f.type)) Q B L := by
  intro fs
  induction fs generalizing Q with
  | nil => intro pl h q; simp only [List.mapM_nil, Option.pure_def, Option.some.injEq] at h; subst h; rw [List.mapM_nil]; exact q
  | cons f fs ih =>
    intro pl h q
    simp only [List.mapM_cons, Option.bind_eq_bind, Option.bind_eq_some_iff, Option.map_eq_some_iff, Option.pure_def, Option.some.injEq] at h
    obtain ⟨p, ⟨inf, hi, rfl⟩, r, hr, rfl⟩ := h
    have hs : sizeIs P f.type = some inf.size := by simp [sizeIs, hi]
    rw [List.mapM_cons, hb_bind]
    simp only [hb_bind, hb_sizeOf hs, hb_pure]
    exact ih r hr q

theorem zip_parts (ρ : Operand → Value) : ∀ (parts : List (Nat × Operand)), (parts.toArray.map fun (x : Nat × Operand) => (x.1, ρ x.2)).toList = (parts.map (·.1)).zip ((parts.map (·.2)).map ρ) := by
  intro parts
  rw [List.map_toArray]
  induction parts with
  | nil => rfl
  | cons p r ih => exact congrArg (List.cons (p.1, ρ p.2)) ih
theorem flatten_len (sz : Nat) : ∀ (vs : List Value), vs.all (fun v => Nat.beq v.cells.toList.length sz) = true → (vs.map fun v => v.cells.toList).flatten.length = vs.length * sz
  | [], _ => by simp
  | v :: vs, h => by
    simp only [List.all_cons, Bool.and_eq_true] at h
    rw [List.map_cons, List.flatten_cons, List.length_append, flatten_len sz vs h.2, Nat.eq_of_beq_eq_true h.1, List.length_cons, Nat.succ_mul, Nat.add_comm]

/-- A struct literal. -/
theorem w_build {t : TypeId} {parts : List (Nat × Operand)} {z : Value} {pl : List (Nat × Nat)} {vs : List Value} (zl l' : List Value) (hg : guardOk ops S g = some true) (hd : dstOk n dst = true)
    (hpl : placesOf P t = some pl) (hz : zeroOf P t = some z) (hzl : z.cells.toList = zl) (ha : evs S (parts.map (·.2)) = some vs) (hf : fillL (fun i => pl[i]?) zl ((parts.map (·.1)).zip vs) = some l')
    (h : K (.agg l'.toArray) D B L) : opX P n ops i ⟨dst, .build t parts.toArray, ty, pos, after, g⟩ K S D B L :=
  opX_pure hg hd (fun ρ hρ Q F q => by
    unfold placesOf at hpl
    split at hpl
    · rename_i fs hu
      have hmap : (parts.toArray.map fun (x : Nat × Operand) => (x.1, ρ x.2)).toList = (parts.map (·.1)).zip vs := by
        rw [← resolve_args hρ ha]
        exact zip_parts ρ parts
      simp only [execOp, Instr.build, hb_bind, hb_zeroValue hz, hb_underlying hu, Array.mapM_eq_mapM_toList, hb_map]
      refine hb_mapSize fs.toList pl hpl ?_
      have hfill : Instr.fill (fun i => pl.toArray[i]?) z.cells ((parts.map (·.1)).zip vs) = some l'.toArray := by
        refine fill_spec _ _ _ l' ?_
        rw [hzl]
        simpa using hf
      rw [hmap, hfill]
      exact q
    · cases hpl) h

theorem range_map_toList (k : Nat) (z : Array Value) : ((Array.range k).map fun i => z[i % z.size]!).toList.length = k := by simp

/-- A slice literal, every element given. -/
theorem w_buildSlice {t e : TypeId} {len sz : Nat} {parts : List (Nat × Operand)} {z : Value} {vs : List Value} (l' : List Value) (hg : guardOk ops S g = some true) (hd : dstOk n dst = true)
    (hu : P.underlying t = some (.slice e)) (hsz : sizeIs P e = some sz) (hz : zeroOf P e = some z) (hbig : Nat.ble (len * sz) 1024 = true) (hidx : parts.map (·.1) = List.range len) (ha : evs S (parts.map (·.2)) = some vs) (hall : vs.all (fun v => Nat.beq v.cells.toList.length sz) = true) (hl' : (vs.map fun v => v.cells.toList).flatten = l')
    (h : ∀ b, K (.slice (some ⟨b, 0, none⟩) len len) D B (L ++ [box1 b l' e])) : opX P n ops i ⟨dst, .buildSlice t len parts.toArray, ty, pos, after, g⟩ K S D B L :=
  opX_hb hg hd fun ρ hρ F => by
    have hmap : (parts.toArray.map fun (x : Nat × Operand) => (x.1, ρ x.2)).toList = (List.range len).zip vs := by
      rw [← hidx, ← resolve_args hρ ha]
      exact zip_parts ρ parts
    have hbig' : ¬ (len * sz > 2 ^ 24) := by have := Nat.le_of_ble_eq_true hbig; omega
    have hvl : vs.length = len := by
      have h1 := congrArg List.length hidx
      have h2 := congrArg List.length (resolve_args hρ ha)
      simp only [List.length_map, List.length_range] at h1 h2
      omega
    have hfillL : ∀ (vs : List Value) (k : Nat) (l : List Value), vs.all (fun v => Nat.beq v.cells.toList.length sz) = true → (k + vs.length) * sz ≤ l.length →
        fillL (fun i => some (i * sz, sz)) l ((List.range' k vs.length).zip vs) = some (setAt l (k * sz) (vs.map fun v => v.cells.toList).flatten) := by
      intro vs
      induction vs with
      | nil => intro k l _ _; simp [fillL, setAt_nil]
      | cons v vs ih =>
        intro k l hall hl
        simp only [List.all_cons, Bool.and_eq_true] at hall
        have e1 := Nat.eq_of_beq_eq_true hall.1
        have hle : k * sz + sz ≤ l.length := by
          rw [← Nat.succ_mul]
          exact Nat.le_trans (Nat.mul_le_mul_right sz (by simp only [List.length_cons]; omega)) hl
        simp only [List.length_cons, List.range'_succ, List.zip_cons_cons, fillL, hall.1, Bool.true_and]
        rw [show Nat.ble (k * sz + sz) l.length = true from Nat.ble_eq_true_of_le hle]
        simp only [cond_true]
        rw [ih (k + 1) _ hall.2 (by rw [setAt_length]; simp only [List.length_cons] at hl; rw [show k + 1 + vs.length = k + (vs.length + 1) from by omega]; exact hl)]
        rw [List.map_cons, List.flatten_cons]
        congr 1
        have : ∀ (a : List Value) (l : List Value) (o : Nat) (r : List Value), setAt l o (a ++ r) = setAt (setAt l o a) (o + a.length) r := by
          intro a
          induction a with
          | nil => intro l o r; simp [setAt_nil]
          | cons x a ih2 =>
            intro l o r
            rw [List.cons_append, setAt_cons, ih2, setAt_cons, List.length_cons]
            congr 1
            omega
        rw [this, e1, Nat.succ_mul]
    have key : ∀ za : Array Value, za.toList.length = len * sz → Instr.fill (fun i => some (i * sz, sz)) za ((List.range len).zip vs) = some l'.toArray := by
      intro za hza
      refine fill_spec _ _ _ l' ?_
      have := hfillL vs 0 za.toList hall (by rw [Nat.zero_add, hvl, hza]; exact Nat.le_refl _)
      rw [List.range_eq_range', ← hvl, this, Nat.zero_mul]
      congr 1
      rw [hl']
      have hl2 : l'.length = za.toList.length := by
        rw [← hl', hza, flatten_len sz vs hall, hvl]
      have ht := setAt_take za.toList 0 l' (by omega)
      rw [List.take_of_length_le (by rw [setAt_length]; omega)] at ht
      simpa using ht
    simp only [execOp, Instr.buildSlice, hb_bind, hb_underlying hu, hb_sizeOf hsz, hbig', if_false, hb_pure, hmap]
    have hend : ∀ (z0 : Sem Value) (za : Array Value), za.toList.length = len * sz → hb P (match Instr.fill (fun i => some (i * sz, sz)) za ((List.range len).zip vs) with
        | some cells => do pure (Value.slice (some (← newRow e cells)) len len)
        | _ => z0) (fun v B' L' => ∃ L1, Sup L' (L1.flatten ++ F) ∧ K v D B' L1) B (L.flatten ++ F) := fun z0 za hza => by
      rw [key za hza]
      simp only [hb_bind, hb_pure]
      refine ⟨rfl, fun b _ _ => ?_⟩
      exact ⟨L ++ [box1 b l' e], .of (flat_snoc L (box1 b l' e) F), h b⟩
    by_cases h0 : len * sz = 0
    · rw [if_pos h0]
      exact hend _ _ (by simp)
    · rw [if_neg h0]
      simp only [hb_bind, hb_zeroValue hz, hb_pure]
      exact hend _ _ (by simp)
end
end Go.BL
