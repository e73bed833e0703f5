import Derived.Test.YtfiambcocnceiaaE4
import Derived.Lib.FrozenHead
set_option linter.unusedVariables false
set_option linter.unusedSimpArgs false
namespace Go.E
open Go

theorem ev_upd (e : Env) (d : Tmp) (v : Value) : ev (upd e d v) (.tmp d) = v := by
  have : Nat.beq d d = true := by simp
  show upd e d v d = v
  simp only [upd, this, cond_true]
theorem addr_add (b o n : Nat) : (⟨b, o, none⟩ : Addr).add n = ⟨b, o + n, none⟩ := by unfold Addr.add; split <;> simp_all
section
variable {P : Program} {S : World → Prop} {e : Env} {d : Option Tmp} {ty : TypeId} {ps : String} {af : Array Edge} {g : Option (Nat × Bool)} {n : Nat} {ops : Array Oper} {rest : List Oper} {Q : Po}
/-! ### 8. Addresses and loads -/
theorem yFA {s t : TypeId} {f o k bb : Nat} {agg : Bool} {z : Value} {x : Operand} {b a : Nat} (hT : Fld P s f o t) (hs : TI P t k agg z bb) (hk : k ≠ 0) (hx : ev e x = .pointer (some ⟨b, a, none⟩)) :
    Yv P S e ⟨d, .fieldAddr s x f, ty, ps, af, g⟩ (.pointer (some ⟨b, a + o, none⟩)) := fun w _ => by
  obtain ⟨fs, fd, h1, h2, rfl, rfl⟩ := hT
  simp [execOp, hx, Instr.fieldAt, Instr.sureAddr, run_underlying h1, h2, fieldPlace, hs.size, hk, addr_add]
theorem yIA {t el : TypeId} {k bb : Nat} {agg : Bool} {z : Value} {x y : Operand} {b a len cap : Nat} {kk : IntKind} {i : Int} (ht : P.underlying t = some (.slice el)) (hs : TI P el k agg z bb) (hx : ev e x = .slice (some ⟨b, a, none⟩) len cap) (hy : ev e y = .int kk i) (h0 : 0 ≤ i) (h1 : i < len) :
    Yv P S e ⟨d, .indexAddr t x y, ty, ps, af, g⟩ (.pointer (some ⟨b, a + i.toNat * k, none⟩)) := fun w _ => by
  simp [execOp, hx, hy, Instr.indexAt, asIntOf, run_underlying ht, h0, h1, hs.size, addr_add]
theorem yLd {t : TypeId} {k bb : Nat} {agg : Bool} {z : Value} {x : Operand} {b o : Nat} {cs vs : List Value} {v : Value} (ht : TI P t k agg z bb) (hx : ev e x = .pointer (some ⟨b, o, none⟩)) (hr : Rd S b cs) (hc : (cs.drop o).take k = vs) (hl : vs.length = k) (h1 : agg = false → k = 1) (hv : mkV agg vs = v) :
    Yv P S e ⟨d, .load t x, ty, ps, af, g⟩ v := fun w hw => by
  subst hv
  obtain ⟨ty', fr, hb⟩ := hr w hw
  simp [execOp, hx, Instr.loadAt, Instr.sureAddr, run_loadVar_at ht hb hl h1 hc]
/-- one cell -/
theorem yLd1 {t : TypeId} {bb : Nat} {z : Value} {x : Operand} {b o : Nat} {cs : List Value} {v : Value} (ht : TI P t 1 false z bb) (hx : ev e x = .pointer (some ⟨b, o, none⟩)) (hr : Rd S b cs) (hc : cs[o]? = some v) :
    Yv P S e ⟨d, .load t x, ty, ps, af, g⟩ v := by
  have hlt : o < cs.length := (List.getElem?_eq_some_iff.1 hc).1
  have hd : (cs.drop o).take 1 = [v] := by
    rw [List.drop_eq_getElem_cons hlt, List.take_succ_cons, List.take_zero]
    rw [List.getElem?_eq_getElem hlt] at hc
    simpa using hc
  exact yLd ht hx hr hd rfl (fun _ => rfl) rfl
/-- a struct -/
theorem yLdS {t : TypeId} {k bb : Nat} {z : Value} {x : Operand} {b o : Nat} {cs vs : List Value} (ht : TI P t k true z bb) (hx : ev e x = .pointer (some ⟨b, o, none⟩)) (hr : Rd S b cs) (hc : (cs.drop o).take k = vs) (hl : vs.length = k) :
    Yv P S e ⟨d, .load t x, ty, ps, af, g⟩ (.agg ⟨vs⟩) := yLd ht hx hr hc hl (fun h => nomatch h) rfl
/-- a struct value's field: of one cell -/
theorem yFld1 {s t : TypeId} {f o bb : Nat} {z : Value} {x : Operand} {cs : List Value} {v : Value} (hT : Fld P s f o t) (hs : TI P t 1 false z bb) (hx : ev e x = .agg ⟨cs⟩) (hc : cs[o]? = some v) : Yv P S e ⟨d, .field s x f, ty, ps, af, g⟩ v := fun w _ => by
  obtain ⟨fs, fd, h1, h2, rfl, rfl⟩ := hT
  simp [execOp, hx, Instr.field, asAgg, run_underlying h1, h2, part, hs.agg_, hc]
theorem yFldS {s t : TypeId} {f o k bb : Nat} {z : Value} {x : Operand} {cs vs : List Value} (hT : Fld P s f o t) (hs : TI P t k true z bb) (hx : ev e x = .agg ⟨cs⟩) (hc : (cs.drop o).take k = vs) : Yv P S e ⟨d, .field s x f, ty, ps, af, g⟩ (.agg ⟨vs⟩) := fun w _ => by
  obtain ⟨fs, fd, h1, h2, rfl, rfl⟩ := hT
  subst hc
  simp [execOp, hx, Instr.field, asAgg, run_underlying h1, h2, part, hs.agg_, hs.size, List.extract_eq_take_drop]

/-! ### 9. Slices that are read -/
/-- a header (a, n) reads as the cells 'cells', k an element -/
def SlR (S : World → Prop) (a : Option Addr) (n k : Nat) (cells : List Value) : Prop :=
  cells.length = n * k ∧ (0 < n → ∃ b o cs, a = some ⟨b, o, none⟩ ∧ Rd S b cs ∧ (cs.drop o).take (n * k) = cells)
theorem drop_take_sub {α : Type} {l cells : List α} {o m i k : Nat} (h : (l.drop o).take m = cells) (hik : i + k ≤ m) : (l.drop (o + i)).take k = (cells.drop i).take k := by
  rw [← h, List.drop_take, List.take_take, List.drop_drop]
  congr 1; omega
theorem SlR.nil {S : World → Prop} {k : Nat} (a : Option Addr) : SlR S a 0 k [] := ⟨by simp, fun h => absurd h (by omega)⟩
theorem SlR.mono {S S' : World → Prop} {a : Option Addr} {n k : Nat} {cells : List Value} (h : SlR S a n k cells) (hS : ∀ w, S' w → S w) : SlR S' a n k cells :=
  ⟨h.1, fun hn => let ⟨b, o, cs, h1, h2, h3⟩ := h.2 hn; ⟨b, o, cs, h1, fun w hw => h2 w (hS w hw), h3⟩⟩
/-- an element, by its address: two operations at once -/
theorem sEl {t el : TypeId} {k bb : Nat} {agg : Bool} {z : Value} {x y : Operand} {a : Option Addr} {len cap : Nat} {kk : IntKind} {i : Int} {cells : List Value} {v : Value} {d1 : Tmp} {d2 : Option Tmp}
    {ty1 ty2 : TypeId} {ps1 ps2 : String} {af1 af2 : Array Edge}
    (ht : P.underlying t = some (.slice el)) (hel : TI P el k agg z bb) (hx : ev e x = .slice a len cap) (hs : SlR S a len k cells) (hy : ev e y = .int kk i) (h0 : 0 ≤ i) (h1 : i < len) (hk : agg = false → k = 1)
    (hv : mkV agg ((cells.drop (i.toNat * k)).take k) = v) (hd1 : Nat.blt d1 n = true) (hd2 : inB n d2 = true) (h : ∀ p, TL P n ops rest S Q (updO (upd e d1 p) d2 v)) :
    TL P n ops (⟨some d1, .indexAddr t x y, ty1, ps1, af1, none⟩ :: ⟨d2, .load el (.tmp d1), ty2, ps2, af2, none⟩ :: rest) S Q e := by
  obtain ⟨hlen, hs⟩ := hs
  obtain ⟨b, o, cs, rfl, hr, hc⟩ := hs (by omega)
  have hle : i.toNat * k + k ≤ len * k := by
    have : i.toNat + 1 ≤ len := by omega
    calc i.toNat * k + k = (i.toNat + 1) * k := by rw [Nat.add_mul, Nat.one_mul]
      _ ≤ len * k := Nat.mul_le_mul_right _ this
  have hsub := drop_take_sub hc hle
  refine sv (yIA ht hel hx hy h0 h1) rfl hd1 ?_
  refine sv (v := v) (yLd hel (ev_upd _ _ _) hr hsub (by simp [hlen]; omega) hk hv) rfl hd2 ?_
  exact h _
theorem qEl {K : Env → Prop} {t el : TypeId} {k bb : Nat} {agg : Bool} {z : Value} {x y : Operand} {a : Option Addr} {len cap : Nat} {kk : IntKind} {i : Int} {cells : List Value} {v : Value} {d1 : Tmp} {d2 : Option Tmp}
    {ty1 ty2 : TypeId} {ps1 ps2 : String} {af1 af2 : Array Edge} {g1 g2 : Option (Nat × Bool)}
    (ht : P.underlying t = some (.slice el)) (hel : TI P el k agg z bb) (hx : ev e x = .slice a len cap) (hs : SlR S a len k cells) (hy : ev e y = .int kk i) (h0 : 0 ≤ i) (h1 : i < len) (hk : agg = false → k = 1)
    (hv : mkV agg ((cells.drop (i.toNat * k)).take k) = v) (hW1 : Wt ops e ⟨some d1, .indexAddr t x y, ty1, ps1, af1, g1⟩ true) (hW2 : ∀ p, Wt ops (upd e d1 p) ⟨d2, .load el (.tmp d1), ty2, ps2, af2, g2⟩ true)
    (hd1 : Nat.blt d1 n = true) (hd2 : inB n d2 = true) (h : ∀ p, QL P n ops S rest (updO (upd e d1 p) d2 v) K) :
    QL P n ops S (⟨some d1, .indexAddr t x y, ty1, ps1, af1, g1⟩ :: ⟨d2, .load el (.tmp d1), ty2, ps2, af2, g2⟩ :: rest) e K := by
  obtain ⟨hlen, hs⟩ := hs
  obtain ⟨b, o, cs, rfl, hr, hc⟩ := hs (by omega)
  have hle : i.toNat * k + k ≤ len * k := by
    have : i.toNat + 1 ≤ len := by omega
    calc i.toNat * k + k = (i.toNat + 1) * k := by rw [Nat.add_mul, Nat.one_mul]
      _ ≤ len * k := Nat.mul_le_mul_right _ this
  have hsub := drop_take_sub hc hle
  refine qv (yIA ht hel hx hy h0 h1) hW1 hd1 ?_
  refine qv (v := v) (yLd hel (ev_upd _ _ _) hr hsub (by simp [hlen]; omega) hk hv) (hW2 _) hd2 ?_
  exact h _
/-- an element's field of one cell: three operations at once -/
theorem qElF {K : Env → Prop} {t el ft : TypeId} {k bb bf f fo : Nat} {agg : Bool} {z zf : Value} {x y : Operand} {a : Option Addr} {len cap : Nat} {kk : IntKind} {i : Int} {cells : List Value} {v : Value} {d1 d2 : Tmp} {d3 : Option Tmp}
    {ty1 ty2 ty3 : TypeId} {ps1 ps2 ps3 : String} {af1 af2 af3 : Array Edge} {g1 g2 g3 : Option (Nat × Bool)}
    (ht : P.underlying t = some (.slice el)) (hel : TI P el k agg z bb) (hF : Fld P el f fo ft) (hft : TI P ft 1 false zf bf) (hfo : fo < k) (hx : ev e x = .slice a len cap) (hs : SlR S a len k cells) (hy : ev e y = .int kk i) (h0 : 0 ≤ i) (h1 : i < len)
    (hv : cells[i.toNat * k + fo]? = some v) (hW1 : Wt ops e ⟨some d1, .indexAddr t x y, ty1, ps1, af1, g1⟩ true) (hW2 : ∀ p, Wt ops (upd e d1 p) ⟨some d2, .fieldAddr el (.tmp d1) f, ty2, ps2, af2, g2⟩ true) (hW3 : ∀ p q, Wt ops (upd (upd e d1 p) d2 q) ⟨d3, .load ft (.tmp d2), ty3, ps3, af3, g3⟩ true)
    (hd1 : Nat.blt d1 n = true) (hd2 : Nat.blt d2 n = true) (hd3 : inB n d3 = true) (h : ∀ p q, QL P n ops S rest (updO (upd (upd e d1 p) d2 q) d3 v) K) :
    QL P n ops S (⟨some d1, .indexAddr t x y, ty1, ps1, af1, g1⟩ :: ⟨some d2, .fieldAddr el (.tmp d1) f, ty2, ps2, af2, g2⟩ :: ⟨d3, .load ft (.tmp d2), ty3, ps3, af3, g3⟩ :: rest) e K := by
  obtain ⟨hlen, hs⟩ := hs
  obtain ⟨b, o, cs, rfl, hr, hc⟩ := hs (by omega)
  have hcell : cs[o + (i.toNat * k + fo)]? = some v := by
    rw [← hc, List.getElem?_take] at hv
    split at hv
    · rw [List.getElem?_drop] at hv; exact hv
    · cases hv
  refine qv (yIA ht hel hx hy h0 h1) hW1 hd1 ?_
  refine qv (yFA hF hft (by omega) (ev_upd _ _ _)) (hW2 _) hd2 ?_
  refine qv (v := v) (yLd1 hft (ev_upd _ _ _) hr (by rw [Nat.add_assoc]; exact hcell)) (hW3 _ _) hd3 ?_
  exact h _ _
theorem ySlLen {ts : List TypeId} {t el : TypeId} {x : Operand} {a : Option Addr} {len cap : Nat} (ht : P.underlying t = some (.slice el)) (hx : ev e x = .slice a len cap) : Yv P S e ⟨d, .call ⟨.builtin .len, [x].toArray, (t :: ts).toArray⟩, ty, ps, af, g⟩ (.int .i64 len) := fun w _ => by
  simp [execOp, resolve, invoke, builtin, Builtin.len_, hx, run_underlying ht, goInt]
/-- x[:j] -/
theorem yCutHi {t el : TypeId} {k bb : Nat} {agg : Bool} {z : Value} {x y : Operand} {a : Option Addr} {len cap : Nat} {kk : IntKind} {j : Nat} (ht : P.underlying t = some (.slice el)) (hs : TI P el k agg z bb) (hx : ev e x = .slice a len cap) (hy : ev e y = .int kk j) (hj : j ≤ cap) :
    Yv P S e ⟨d, .slice t x none (some y) none, ty, ps, af, g⟩ (.slice a j cap) := fun w _ => by
  have h1 : (0 : Int) ≤ j ∧ (j : Int) ≤ cap := ⟨by omega, by omega⟩
  have h2 : a.map (fun x => x.add 0) = a := by cases a <;> simp [Addr.add]
  simp [execOp, hx, hy, Instr.sliceAt, Instr.slice, Instr.sliceBounds, Instr.sliceBound, asIntOf, run_underlying ht, h1, hs.size, hj, h2]
/-- x[:j:m] -/
theorem yCutHiM {t el : TypeId} {k bb : Nat} {agg : Bool} {z : Value} {x y u : Operand} {a : Option Addr} {len cap : Nat} {kk kk' : IntKind} {j m : Nat} (ht : P.underlying t = some (.slice el)) (hs : TI P el k agg z bb) (hx : ev e x = .slice a len cap) (hy : ev e y = .int kk j) (hu : ev e u = .int kk' m) (hj : j ≤ m) (hm : m ≤ cap) :
    Yv P S e ⟨d, .slice t x none (some y) (some u), ty, ps, af, g⟩ (.slice a j m) := fun w _ => by
  have h1 : (0 : Int) ≤ j ∧ (j : Int) ≤ m := ⟨by omega, by omega⟩
  have h3 : (0 : Int) ≤ m ∧ (m : Int) ≤ cap := ⟨by omega, by omega⟩
  have h2 : a.map (fun x => x.add 0) = a := by cases a <;> simp [Addr.add]
  simp [execOp, hx, hy, hu, Instr.sliceAt, Instr.slice, Instr.sliceBounds, Instr.sliceBound, asIntOf, run_underlying ht, h1, h3, hs.size, hj, hm, h2]
/-- where x[i:] begins -/
def cutA (a : Option Addr) (i k cap : Nat) : Option Addr := if cap = i then a else a.map (·.add (i * k))
theorem yCutLo {t el : TypeId} {k bb : Nat} {agg : Bool} {z : Value} {x y : Operand} {a : Option Addr} {len cap : Nat} {kk : IntKind} {i : Nat} (ht : P.underlying t = some (.slice el)) (hs : TI P el k agg z bb) (hx : ev e x = .slice a len cap) (hy : ev e y = .int kk i) (hi : i ≤ len) :
    Yv P S e ⟨d, .slice t x (some y) none none, ty, ps, af, g⟩ (.slice (cutA a i k cap) (len - i) (cap - i)) := fun w _ => by
  have h1 : (0 : Int) ≤ i ∧ (i : Int) ≤ len := ⟨by omega, by omega⟩
  simp [execOp, hx, hy, Instr.sliceAt, Instr.slice, Instr.sliceBounds, Instr.sliceBound, asIntOf, run_underlying ht, h1, hs.size, hi, cutA]
theorem SlR.hi {a : Option Addr} {n k j : Nat} {cells : List Value} (h : SlR S a n k cells) (hj : j ≤ n) : SlR S a j k (cells.take (j * k)) := by
  have hle : j * k ≤ n * k := Nat.mul_le_mul_right _ hj
  refine ⟨by rw [List.length_take, h.1]; exact Nat.min_eq_left hle, fun hn => ?_⟩
  obtain ⟨b, o, cs, h1, h2, h3⟩ := h.2 (by omega)
  exact ⟨b, o, cs, h1, h2, by rw [← h3, List.take_take, Nat.min_eq_left hle]⟩
theorem SlR.lo {a : Option Addr} {n k i cap : Nat} {cells : List Value} (h : SlR S a n k cells) (hi : i ≤ n) (hc : n ≤ cap) : SlR S (cutA a i k cap) (n - i) k (cells.drop (i * k)) := by
  refine ⟨by simp [h.1, Nat.sub_mul], fun hn => ?_⟩
  obtain ⟨b, o, cs, rfl, h2, h3⟩ := h.2 (by omega)
  refine ⟨b, o + i * k, cs, ?_, h2, ?_⟩
  · unfold cutA; rw [if_neg (by omega)]; simp [addr_add]
  · rw [← h3, List.drop_take, List.drop_drop, Nat.sub_mul]
/-- immutable data -/
def RS (I : Im) (a : Option Addr) (n k : Nat) (cells : List Value) : Prop :=
  cells.length = n * k ∧ (0 < n → ∃ b o cs ty fr, a = some ⟨b, o, none⟩ ∧ I b = some (.cells ⟨cs⟩ ty fr) ∧ (cs.drop o).take (n * k) = cells)
theorem RS.sl {c : Cx} {I : Im} {l : Ow} {a : Option Addr} {n k : Nat} {cells : List Value} (h : RS I a n k cells) : SlR (St c I l) a n k cells :=
  ⟨h.1, fun hn => let ⟨b, o, cs, _, _, h1, h2, h3⟩ := h.2 hn; ⟨b, o, cs, h1, rdI h2, h3⟩⟩
theorem RS.le {I J : Im} {a : Option Addr} {n k : Nat} {cells : List Value} (h : RS I a n k cells) (hl : Le I J) : RS J a n k cells :=
  ⟨h.1, fun hn => let ⟨b, o, cs, t, f, h1, h2, h3⟩ := h.2 hn; ⟨b, o, cs, t, f, h1, hl _ _ h2, h3⟩⟩
theorem RS.nil {I : Im} {k : Nat} (a : Option Addr) : RS I a 0 k [] := ⟨by simp, fun h => absurd h (by omega)⟩
theorem RS.hi {I : Im} {a : Option Addr} {n k j : Nat} {cells : List Value} (h : RS I a n k cells) (hj : j ≤ n) : RS I a j k (cells.take (j * k)) := by
  have hle : j * k ≤ n * k := Nat.mul_le_mul_right _ hj
  refine ⟨by rw [List.length_take, h.1]; exact Nat.min_eq_left hle, fun hn => ?_⟩
  obtain ⟨b, o, cs, t, f, h1, h2, h3⟩ := h.2 (by omega)
  exact ⟨b, o, cs, t, f, h1, h2, by rw [← h3, List.take_take, Nat.min_eq_left hle]⟩
theorem RS.lo {I : Im} {a : Option Addr} {n k i cap : Nat} {cells : List Value} (h : RS I a n k cells) (hi : i ≤ n) (hc : n ≤ cap) : RS I (cutA a i k cap) (n - i) k (cells.drop (i * k)) := by
  refine ⟨by simp [h.1, Nat.sub_mul], fun hn => ?_⟩
  obtain ⟨b, o, cs, t, f, rfl, h2, h3⟩ := h.2 (by omega)
  refine ⟨b, o + i * k, cs, t, f, ?_, h2, ?_⟩
  · unfold cutA; rw [if_neg (by omega)]; simp [addr_add]
  · rw [← h3, List.drop_take, List.drop_drop, Nat.sub_mul]
end
end Go.E
