import Derived.Test.YtfiambcocnceiaaE6
set_option linter.unusedVariables false
set_option linter.unusedSimpArgs false
namespace Go.E
open Go

theorem St.row {c : Cx} {I : Im} {l : Ow} {w : World} {b : Nat} {cs cs' : List Value} {ty : TypeId} {fr : Nat × Nat} (h : St c I ((b, .cells ⟨cs⟩ ty fr) :: l) w) : St c I ((b, .cells ⟨cs'⟩ ty fr) :: l) (w.setRow b ⟨cs'⟩) := by
  have h1 := h.put (o' := .cells ⟨cs'⟩ ty fr)
  have : w.setRow b ⟨cs'⟩ = { w with heap := w.heap.setIfInBounds b (.cells ⟨cs'⟩ ty fr) } := by
    unfold World.setRow
    congr 1
    apply Array.ext_getElem?
    intro i
    rw [Array.getElem?_modify, Array.getElem?_setIfInBounds]
    have hb := h.hd
    have hlt := (Array.getElem?_eq_some_iff.1 hb).1
    by_cases hi : b = i
    · subst hi
      have hv : w.heap[b] = .cells ⟨cs⟩ ty fr := (Array.getElem?_eq_some_iff.1 hb).2
      simp [hb, hlt, hv]
    · simp [hi]
  rw [this]; exact h1
/-- cells written one behind the other, whatever the row's frozen range, if it is not met -/
theorem run_storeCells_fz (P : Program) (g o : Nat) (t : TypeId) (fz : Nat × Nat) : ∀ (vs : List Value) (i : Nat) (cur : Array Value) (w : World), w.heap[g]? = some (.cells cur t fz) → (fz.2 = 0 ∨ cur.size ≤ fz.1) → o + i + vs.length ≤ cur.size → (∀ v ∈ vs, v.oneCell' = true) →
    (storeCells ⟨g, o, none⟩ vs i).run P w = .ok () (w.setRow g (cur.toList.take (o + i) ++ vs ++ cur.toList.drop (o + i + vs.length)).toArray)
  | [], i, cur, w, hg, _, _, _ => by
    simp only [storeCells, List.append_nil, List.length_nil, Nat.add_zero, List.take_append_drop, Array.toArray_toList]
    rw [setRow_self w g cur t fz hg]
    rfl
  | v :: rest, i, cur, w, hg, hfz, hl, h1 => by
    have hi : o + i < cur.size := by simp at hl; omega
    have hcell : w.cell? ⟨g, o + i, none⟩ = some cur[o + i] := by simp [World.cell?, hg, hi]
    have hfro : w.frozen? ⟨g, o + i, none⟩ = false := by
      obtain ⟨lo, hi'⟩ := fz
      simp only [World.frozen?, hg, Bool.and_eq_false_iff, decide_eq_false_iff_not]
      simp only at hfz
      omega
    have hst : (store ((⟨g, o, none⟩ : Addr).add i) v).run P w = .ok () (w.setRow g (cur.setIfInBounds (o + i) v)) := by
      rw [addr_add, run_store P w _ v _ (h1 v (by simp)), hcell]
      simp [hfro, setCell_eq_setRow w g (o + i) cur t fz v hg]
    have ih := run_storeCells_fz P g o t fz rest (i + 1) (cur.setIfInBounds (o + i) v) (w.setRow g (cur.setIfInBounds (o + i) v)) (setRow_heap w g cur _ t _ hg) (by simpa using hfz) (by simp at hl ⊢; omega) (fun x hx => h1 x (by simp [hx]))
    simp only [storeCells, Sem.run_bind, hst, Result.andThen_ok, ih, setRow_setRow]
    congr 3
    have e := list_seg_step cur.toList (o + i) v rest (by simp at hl ⊢; omega)
    simpa [Array.toList_setIfInBounds, Nat.add_assoc] using e

section
variable {P : Program} {n : Nat} {ops : Array Oper} {rest : List Oper} {Q : Po} {S : World → Prop} {e : Env} {c : Cx} {I : Im} {l : Ow}
  {d : Option Tmp} {ty : TypeId} {ps : String} {af : Array Edge}
/-! ### 11. What is asserted, turned -/
theorem TL.pre {S' : World → Prop} (hs : ∀ w, S w → S' w) (h : TL P n ops rest S' Q e) : TL P n ops rest S Q e := fun w hw => h w (hs w hw)
theorem TC.pre {S' : World → Prop} {cd : Code} (hs : ∀ w, S w → S' w) (h : TC P n cd S' Q e) : TC P n cd S Q e := fun w hw => h w (hs w hw)
theorem TQ.pre {S' : World → Prop} {x : Exit} (hs : ∀ w, S w → S' w) (h : TQ S' Q x e) : TQ S Q x e := fun w hw => h w (hs w hw)
theorem TL.ex {ι : Type} {Si : ι → World → Prop} (h : ∀ i, TL P n ops rest (Si i) Q e) : TL P n ops rest (fun w => ∃ i, Si i w) Q e := fun w ⟨i, hw⟩ => h i w hw
theorem TC.pure {p : Prop} {cd : Code} (h : p → TC P n cd S Q e) : TC P n cd (fun w => p ∧ S w) Q e := fun w ⟨hp, hw⟩ => h hp w hw
theorem TL.pure {p : Prop} (h : p → TL P n ops rest S Q e) : TL P n ops rest (fun w => p ∧ S w) Q e := fun w ⟨hp, hw⟩ => h hp w hw
/-- a value that hangs on the case -/
theorem TL.cs {p : Prop} (h1 : p → TL P n ops rest S Q e) (h2 : ¬ p → TL P n ops rest S Q e) : TL P n ops rest S Q e := (Classical.em p).elim h1 h2

/-! ### 12. New memory, stores -/
theorem sAlloc {t k bb : Nat} {agg : Bool} {z : Value} {zs : List Value} (ht : TI P t k agg z bb) (hz : z.cells = ⟨zs⟩) (hd : inB n d = true) (h : ∀ b, TL P n ops rest (St c I ((b, .cells ⟨zs⟩ t (0, 0)) :: l)) Q (updO e d (.pointer (some ⟨b, 0, none⟩)))) :
    TL P n ops (⟨d, .alloc t, ty, ps, af, none⟩ :: rest) (St c I l) Q e :=
  TL.step rfl hd fun w hw => ⟨_, _, by simp [execOp, Instr.alloc, ht.zero, newVar, newRow, newObj, Sem.run, hz], h _ _ (hw.alloc _)⟩
theorem sBox {t : TypeId} {x : Operand} {v : Value} {vs : List Value} (hx : ev e x = v) (hv : v.cells = ⟨vs⟩) (hd : inB n d = true) (h : ∀ b, TL P n ops rest (St c I ((b, .cells ⟨vs⟩ t (0, 0)) :: l)) Q (updO e d (.pointer (some ⟨b, 0, none⟩)))) :
    TL P n ops (⟨d, .box t x, ty, ps, af, none⟩ :: rest) (St c I l) Q e :=
  TL.step rfl hd fun w hw => ⟨_, _, by simp [execOp, Instr.box, newVar, newRow, newObj, Sem.run, hx, hv], h _ _ (hw.alloc _)⟩
theorem sStore {t k bb : Nat} {agg : Bool} {z : Value} {x y : Operand} {b o : Nat} {cs vs cs' : List Value} {ty' : TypeId} {fr : Nat × Nat} {v : Value} (ht : TI P t k agg z bb) (hx : ev e x = .pointer (some ⟨b, o, none⟩)) (hy : ev e y = v) (hv : v.cells = ⟨vs⟩) (hl : vs.length = k)
    (h1 : vs.all (·.oneCell') = true) (hfr : fr.2 = 0 ∨ cs.length ≤ fr.1) (ho : o + k ≤ cs.length) (hcs : cs.take o ++ vs ++ cs.drop (o + k) = cs') (hdn : d = none) (h : TL P n ops rest (St c I ((b, .cells ⟨cs'⟩ ty' fr) :: l)) Q e) :
    TL P n ops (⟨d, .store t x y, ty, ps, af, none⟩ :: rest) (St c I ((b, .cells ⟨cs⟩ ty' fr) :: l)) Q e := by
  subst hl hcs
  refine TL.stepS rfl hdn fun w hw => ⟨w.setRow b ⟨cs.take o ++ vs ++ cs.drop (o + vs.length)⟩, ?_, h _ hw.row⟩
  have hst := run_storeCells_fz P b o ty' fr vs 0 ⟨cs⟩ w hw.hd (by simpa using hfr) (by simpa using ho) (by simpa using h1)
  simp only [Nat.add_zero] at hst
  have hsz : v.cells.size = vs.length := by rw [hv]; rfl
  have hlist : v.cells.toList = vs := by rw [hv]
  simp [execOp, Instr.storeAt, Instr.sureAddr, storeVar, hx, hy, ht.size, hsz, hlist]
  rw [hst]
  simp
def places (P : Program) (t : TypeId) : Option (List (Nat × Nat)) := (P.underlying t).bind fun d => match d with | .struct fs => fs.toList.mapM (fun f => (P.info? f.type).map fun i => (f.offset, i.size)) | _ => none
theorem run_places {fs : List Field} : ∀ {pl : List (Nat × Nat)}, fs.mapM (fun f => (P.info? f.type).map fun i => (f.offset, i.size)) = some pl → ∀ w, (fs.mapM fun f => do pure (f.offset, ← sizeOf f.type) : Sem (List (Nat × Nat))).run P w = .ok pl w := by
  induction fs with
  | nil => intro pl h w; simp at h; subst h; simp
  | cons f r ih =>
    intro pl h w
    rw [List.mapM_cons] at h
    cases hi : P.info? f.type with
    | none => rw [hi] at h; simp at h
    | some i =>
      rw [hi] at h
      cases hr : r.mapM (fun f => (P.info? f.type).map fun i => (f.offset, i.size)) with
      | none => rw [hr] at h; simp at h
      | some q =>
        rw [hr] at h
        simp at h
        subst h
        have := ih hr w
        simp [List.mapM_cons, sizeOf, run_typeInfo hi] at this ⊢
        simp [this]
/- the cells of a value, as a list -/
def cellsL : Value → List Value
  | .agg cs => cs.toList
  | v => [v]
theorem cells_eq (v : Value) : v.cells = ⟨cellsL v⟩ := by cases v <;> rfl
def nthP : List (Nat × Nat) → Nat → Option (Nat × Nat)
  | [], _ => none
  | p :: _, 0 => some p
  | _ :: r, i + 1 => nthP r i
theorem nthP_eq (l : List (Nat × Nat)) : ∀ i, nthP l i = l[i]? := by
  induction l with
  | nil => intro i; rfl
  | cons o r ih => intro i; cases i with
    | zero => rfl
    | succ i => simp [nthP, ih]
def fillL (place : Nat → Option (Nat × Nat)) (e : Env) : List Value → List (Nat × Operand) → Option (List Value)
  | cs, [] => some cs
  | cs, (i, x) :: r => match place i with
    | none => none
    | some (off, size) => bif Nat.beq (cellsL (ev e x)).length size && Nat.ble (off + size) cs.length then fillL place e (cs.take off ++ (cellsL (ev e x) ++ cs.drop (off + size))) r else none
theorem fold_splice : ∀ (v : List Value) (j off : Nat) (cs : List Value), off + j + v.length ≤ cs.length →
    (v.zipIdx j).foldl (fun (cs : Array Value) (p : Value × Nat) => cs.setIfInBounds (off + p.2) p.1) (⟨cs⟩ : Array Value) = ⟨cs.take (off + j) ++ (v ++ cs.drop (off + j + v.length))⟩
  | [], j, off, cs, h => by simp
  | x :: r, j, off, cs, h => by
    simp only [List.zipIdx_cons, List.foldl_cons]
    have hlt : off + j < cs.length := by simp at h; omega
    have hset : (⟨cs⟩ : Array Value).setIfInBounds (off + j) x = ⟨cs.set (off + j) x⟩ := by apply Array.ext'; simp
    rw [hset, fold_splice r (j + 1) off (cs.set (off + j) x) (by simp at h ⊢; omega)]
    congr 1
    have h1 : (cs.set (off + j) x).take (off + (j + 1)) = cs.take (off + j) ++ [x] := by
      rw [show off + (j + 1) = (off + j) + 1 from by omega, List.take_succ_eq_append_getElem (by simpa using hlt)]
      simp only [List.take_set, List.getElem_set_self]
      rw [List.set_eq_of_length_le (by simp; omega)]
    have h2 : (cs.set (off + j) x).drop (off + (j + 1) + r.length) = cs.drop (off + j + (x :: r).length) := by
      rw [List.drop_set_of_lt (by omega)]
      congr 1; simp; omega
    rw [h1, h2]
    simp
theorem fill_of_L {place : Nat → Option (Nat × Nat)} : ∀ (parts : List (Nat × Operand)) (cs cs' : List Value), fillL place e cs parts = some cs' → Instr.fill place ⟨cs⟩ (parts.map fun p => (p.1, ev e p.2)) = some ⟨cs'⟩
  | [], cs, cs', h => by simp only [fillL, Option.some.injEq] at h; subst h; rfl
  | (i, x) :: r, cs, cs', h => by
    simp only [fillL] at h
    simp only [List.map_cons, Instr.fill]
    cases hp : place i with
    | none => rw [hp] at h; cases h
    | some q =>
      obtain ⟨off, size⟩ := q
      rw [hp] at h
      simp only at h
      cases hb : (Nat.beq (cellsL (ev e x)).length size && Nat.ble (off + size) cs.length) with
      | false => rw [hb] at h; cases h
      | true =>
        rw [hb, cond_true] at h
        simp only [Bool.and_eq_true] at hb
        have h1 : (cellsL (ev e x)).length = size := Nat.eq_of_beq_eq_true hb.1
        have h2 : off + size ≤ cs.length := Nat.le_of_ble_eq_true hb.2
        have hs : (ev e x).cells.size = size := by rw [cells_eq]; exact h1
        have hcond : ¬ ((decide ((ev e x).cells.size ≠ size) || decide (off + (ev e x).cells.size > (⟨cs⟩ : Array Value).size)) = true) := by
          simp [hs]; omega
        simp only []
        rw [if_neg hcond]
        have hf := fold_splice (cellsL (ev e x)) 0 off cs (by omega)
        simp only [Nat.add_zero] at hf
        rw [cells_eq]
        rw [show (⟨cellsL (ev e x)⟩ : Array Value).zipIdx = ⟨(cellsL (ev e x)).zipIdx 0⟩ from by apply Array.ext'; simp]
        rw [show ((⟨(cellsL (ev e x)).zipIdx 0⟩ : Array (Value × Nat)).foldl (fun cs x => match x with | (c, j) => cs.setIfInBounds (off + j) c) ⟨cs⟩) = ((cellsL (ev e x)).zipIdx 0).foldl (fun (cs : Array Value) (p : Value × Nat) => cs.setIfInBounds (off + p.2) p.1) ⟨cs⟩ from by rw [← Array.foldl_toList]]
        rw [hf, h1]
        exact fill_of_L r _ _ h
theorem yBuild {t k bb : Nat} {z : Value} {parts : List (Nat × Operand)} {pl : List (Nat × Nat)} {vs : List Value} (ht : TI P t k true z bb) (hpl : places P t = some pl)
    (hf : fillL (nthP pl) e (cellsL z) parts = some vs) {g : Option (Nat × Bool)} : Yv P S e ⟨d, .build t parts.toArray, ty, ps, af, g⟩ (.agg ⟨vs⟩) := fun w _ => by
  unfold places at hpl
  cases hu : P.underlying t with
  | none => rw [hu] at hpl; cases hpl
  | some dd =>
    rw [hu] at hpl
    cases dd <;> simp only [Option.bind_some] at hpl <;> try (cases hpl)
    rename_i fs
    have hr := run_places hpl w
    have h1 : (fun i : Nat => (⟨pl⟩ : Array (Nat × Nat))[i]?) = nthP pl := by funext i; rw [nthP_eq]; simp
    have h2 : (parts.toArray.map fun x => match x with | (i, x) => (i, ev e x)).toList = parts.map fun p => (p.1, ev e p.2) := by simp
    have h3 : (fs.mapM fun f => do pure (f.offset, ← sizeOf f.type) : Sem (Array (Nat × Nat))).run P w = .ok ⟨pl⟩ w := by
      rw [Array.mapM_eq_mapM_toList]
      simp only [Sem.run_map, hr]
      rfl
    have hf' := fill_of_L _ _ _ hf
    simp only [execOp, Instr.build, Sem.run_bind, ht.zero, run_underlying hu, h3, Result.andThen_ok, h2, cells_eq, h1, hf']
    simp
def repL : Nat → List Value → List Value
  | 0, _ => []
  | m + 1, z => z ++ repL m z
theorem repL_zero (m : Nat) (z : List Value) (hz : 0 < z.length) : ((Array.range (m * z.length)).map fun x => (⟨z⟩ : Array Value)[x % z.length]!) = ⟨repL m z⟩ := by
  apply Array.ext'
  simp only [Array.toList_map, Array.toList_range]
  induction m with
  | zero => simp [repL]
  | succ m ih =>
    rw [Nat.add_mul, Nat.one_mul, Nat.add_comm, List.range_add, List.map_append]
    have h1 : (List.range z.length).map (fun x => (⟨z⟩ : Array Value)[x % z.length]!) = z := by
      apply List.ext_getElem?
      intro i
      by_cases hi : i < z.length
      · simp [hi, Nat.mod_eq_of_lt hi]
      · simp [hi]
    have h2 : ((List.range (m * z.length)).map (fun x => z.length + x)).map (fun x => (⟨z⟩ : Array Value)[x % z.length]!) = (List.range (m * z.length)).map (fun x => (⟨z⟩ : Array Value)[x % z.length]!) := by
      rw [List.map_map]
      apply List.map_congr_left
      intro x _
      simp
    rw [h1, h2]
    simp only [repL]
    congr 1
theorem sBuildSl {t el k bb m : Nat} {agg : Bool} {z : Value} {parts : List (Nat × Operand)} {vs : List Value} (ht : P.underlying t = some (.slice el)) (hel : TI P el k agg z bb) (hk : Nat.blt 0 k = true) (hm : Nat.ble (m * k) 16777216 = true)
    (hf : fillL (fun i => some (i * k, k)) e (repL m (cellsL z)) parts = some vs) (hd : inB n d = true) (h : ∀ b, TL P n ops rest (St c I ((b, .cells ⟨vs⟩ el (0, 0)) :: l)) Q (updO e d (.slice (some ⟨b, 0, none⟩) m m))) :
    TL P n ops (⟨d, .buildSlice t m parts.toArray, ty, ps, af, none⟩ :: rest) (St c I l) Q e := by
  have hm2 : m * k ≤ 16777216 := Nat.le_of_ble_eq_true hm
  have hk2 : 0 < k := by simpa using hk
  refine TL.step rfl hd fun w hw => ⟨_, _, ?_, h _ _ (hw.alloc _)⟩
  have hm' : ¬ (2 ^ 24 < m * k) := by omega
  have h2 : (parts.toArray.map fun x => match x with | (i, x) => (i, ev e x)).toList = parts.map fun p => (p.1, ev e p.2) := by simp
  have hf' := fill_of_L _ _ _ hf
  have hzl : (cellsL z).length = k := by have := hel.zs; rw [cells_eq] at this; exact this
  simp only [execOp, Instr.buildSlice, Sem.run_bind, run_underlying ht, hel.size, Result.andThen_ok, gt_iff_lt, hm', if_false, h2]
  by_cases h0 : m * k = 0
  · have hm0 : m = 0 := by
      rcases Nat.mul_eq_zero.1 h0 with h | h
      · exact h
      · omega
    subst hm0
    have hr : Array.range 0 = #[] := rfl
    simp only [repL] at hf'
    simp only [Nat.zero_mul, hr, if_true, Sem.run_pure, Result.andThen_ok, Array.map_empty]
    rw [hf']
    simp [newRow, newObj, Sem.run]
  · have hz := repL_zero m (cellsL z) (by rw [hzl]; exact hk2)
    rw [hzl] at hz
    have hsz : (⟨cellsL z⟩ : Array Value).size = k := hzl
    simp only [h0, if_false, Sem.run_bind, hel.zero, Sem.run_pure, Result.andThen_ok, cells_eq, hsz, hz, hf']
    simp [newRow, newObj, Sem.run]
end
end Go.E
