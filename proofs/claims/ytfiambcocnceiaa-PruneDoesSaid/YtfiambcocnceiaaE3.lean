import Derived.Test.YtfiambcocnceiaaE2
set_option linter.unusedVariables false
set_option linter.unusedSimpArgs false
namespace Go.E
open Go

/-! ### 7. Types -/
/-- a type: how many cells, is it a struct or an array, its zero, its bytes -/
structure TI (P : Program) (t : TypeId) (k : Nat) (agg : Bool) (z : Value) (by_ : Nat) : Prop where
  info : ∃ i, P.info? t = some i ∧ i.size = k ∧ i.zero = some z ∧ i.bytes = by_
  ag : ∃ d, P.underlying t = some d ∧ (match d with | .struct _ | .array _ _ => true | _ => false) = agg
  zs : z.cells.size = k
/-- field f of struct s: at offset o, of type t -/
def Fld (P : Program) (s : TypeId) (f o : Nat) (t : TypeId) : Prop := ∃ fs : Array Field, ∃ fd, P.underlying s = some (.struct fs) ∧ fs[f]? = some fd ∧ fd.offset = o ∧ fd.type = t
section
variable {P : Program} {w : World}
theorem run_typeInfo {t : TypeId} {i : TypeInfo} (h : P.info? t = some i) : (typeInfo t).run P w = .ok i w := by simp [typeInfo, h]
theorem TI.size {t k agg z b} (h : TI P t k agg z b) : (sizeOf t).run P w = .ok k w := by
  obtain ⟨i, hi, h1, _⟩ := h.info
  simp [sizeOf, run_typeInfo hi, h1]
theorem TI.zero {t k agg z b} (h : TI P t k agg z b) : (zeroValue t).run P w = .ok z w := by
  obtain ⟨i, hi, _, h2, _⟩ := h.info
  simp [zeroValue, run_typeInfo hi, h2]
theorem TI.agg_ {t k agg z b} (h : TI P t k agg z b) : (isAgg t).run P w = .ok agg w := by
  obtain ⟨d, hd, h1⟩ := h.ag
  subst h1
  simp only [isAgg, Sem.run_bind, run_underlying hd]
  cases d <;> rfl
end
/-- a value of k cells out of its cells -/
def mkV (agg : Bool) (cs : List Value) : Value := if agg then .agg ⟨cs⟩ else cs.headD undef
def str (l : List UInt8) : Value := .string ⟨⟨l⟩⟩
/-- block b reads as the cells cs, in every world of S -/
def Rd (S : World → Prop) (b : Nat) (cs : List Value) : Prop := ∀ w, S w → ∃ ty fr, w.heap[b]? = some (.cells ⟨cs⟩ ty fr)
section
variable {c : Cx} {I : Im} {l : Ow} {b : Nat} {cs : List Value} {ty : TypeId} {fr : Nat × Nat} {x0 x1 x2 x3 x4 x5 x6 : Nat × Obj}
theorem rdI (h : I b = some (.cells ⟨cs⟩ ty fr)) : Rd (St c I l) b cs := fun w hw => ⟨ty, fr, hw.im _ _ h⟩
theorem rdO (h : (b, Obj.cells ⟨cs⟩ ty fr) ∈ l) : Rd (St c I l) b cs := fun w hw => ⟨ty, fr, (hw.own _ h).1⟩
theorem rd0 : Rd (St c I ((b, .cells ⟨cs⟩ ty fr) :: l)) b cs := rdO (ty := ty) (fr := fr) (by simp)
theorem rd1 : Rd (St c I (x0 :: (b, .cells ⟨cs⟩ ty fr) :: l)) b cs := rdO (ty := ty) (fr := fr) (by simp)
theorem rd2 : Rd (St c I (x0 :: x1 :: (b, .cells ⟨cs⟩ ty fr) :: l)) b cs := rdO (ty := ty) (fr := fr) (by simp)
theorem rd3 : Rd (St c I (x0 :: x1 :: x2 :: (b, .cells ⟨cs⟩ ty fr) :: l)) b cs := rdO (ty := ty) (fr := fr) (by simp)
theorem rd4 : Rd (St c I (x0 :: x1 :: x2 :: x3 :: (b, .cells ⟨cs⟩ ty fr) :: l)) b cs := rdO (ty := ty) (fr := fr) (by simp)
theorem rd5 : Rd (St c I (x0 :: x1 :: x2 :: x3 :: x4 :: (b, .cells ⟨cs⟩ ty fr) :: l)) b cs := rdO (ty := ty) (fr := fr) (by simp)
theorem rd6 : Rd (St c I (x0 :: x1 :: x2 :: x3 :: x4 :: x5 :: (b, .cells ⟨cs⟩ ty fr) :: l)) b cs := rdO (ty := ty) (fr := fr) (by simp)
end

section
variable {P : Program} {w : World}
theorem run_loadCells_at {b o : Nat} {cs vs : List Value} {ty : TypeId} {fr : Nat × Nat} (hb : w.heap[b]? = some (.cells ⟨cs⟩ ty fr)) (hv : (cs.drop o).take vs.length = vs) :
    (loadCells ⟨b, o, none⟩ vs.length).run P w = .ok ⟨vs⟩ w := by
  have := run_loadCells_list (P := P) (w := w) ⟨b, o, none⟩ vs (fun j v hj => by
    have hadd : (⟨b, o, none⟩ : Addr).add j = ⟨b, o + j, none⟩ := by unfold Addr.add; split <;> simp_all
    rw [hadd]
    simp only [World.cell?, hb]
    rw [← hv, List.getElem?_take] at hj
    split at hj
    · rw [List.getElem?_drop] at hj; simpa using hj
    · cases hj)
  exact this
theorem run_loadVar_at {t k agg z b o cs ty fr} {vs : List Value} {bb : Nat} (ht : TI P t k agg z bb) (hb : w.heap[b]? = some (.cells ⟨cs⟩ ty fr)) (hl : vs.length = k) (h1 : agg = false → k = 1) (hv : (cs.drop o).take k = vs) :
    (loadVar t ⟨b, o, none⟩).run P w = .ok (mkV agg vs) w := by
  subst hl
  have hc := run_loadCells_at (P := P) hb hv
  cases agg with
  | true => simp [loadVar, ht.agg_, ht.size, hc, mkV]
  | false =>
    have h1' := h1 rfl
    obtain ⟨v, rfl⟩ : ∃ v, vs = [v] := by
      match vs, h1' with
      | [v], _ => exact ⟨v, rfl⟩
    have : cs[o]? = some v := by
      have h2 : ((cs.drop o).take 1)[0]? = some v := by simp only [List.length_singleton] at hv; rw [hv]; rfl
      rw [List.getElem?_take] at h2
      simpa [List.getElem?_drop] using h2
    simp [loadVar, ht.agg_, load, Sem.run, World.cell?, hb, this, mkV]
end
end Go.E
