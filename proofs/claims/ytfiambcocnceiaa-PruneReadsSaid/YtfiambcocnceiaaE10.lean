import Derived.Test.YtfiambcocnceiaaE9
set_option linter.unusedVariables false
set_option linter.unusedSimpArgs false
namespace Go.E
open Go
theorem St.le {c : Cx} {I J : Im} {l : Ow} {w : World} (h : St c J l w) (hl : Le I J) : St c I l w :=
  ⟨h.os, h.tape, h.out, fun b o hb => h.im b o (hl b o hb), fun p hp => ⟨(h.own p hp).1, by
    cases hI : I p.1 with
    | none => rfl
    | some o => have := hl _ _ hI; rw [(h.own p hp).2] at this; cases this⟩, h.nd⟩
/-! what may be found by looking -/
class Wk (S S0 : World → Prop) : Prop where
  w : ∀ w, S w → S0 w
instance (priority := 2000) Wk.refl {S : World → Prop} : Wk S S := ⟨fun _ h => h⟩
instance Wk.cons {c : Cx} {I : Im} {x : Nat × Obj} {l : Ow} {S0 : World → Prop} [h : Wk (St c I l) S0] : Wk (St c I (x :: l)) S0 := ⟨fun w hw => h.w w hw.tl⟩
instance Wk.app {c : Cx} {I : Im} {m l : Ow} {S0 : World → Prop} [h : Wk (St c I l) S0] : Wk (St c I (m ++ l)) S0 := ⟨fun w hw => h.w w hw.dropL⟩
class RdC (S : World → Prop) (b : Nat) (cs : outParam (List Value)) : Prop where
  rd : Rd S b cs
instance (priority := 2000) RdC.here {c : Cx} {I : Im} {b : Nat} {cs : List Value} {ty : TypeId} {fr : Nat × Nat} {l : Ow} : RdC (St c I ((b, .cells ⟨cs⟩ ty fr) :: l)) b cs := ⟨rd0⟩
instance RdC.cons {c : Cx} {I : Im} {b : Nat} {cs : List Value} {x : Nat × Obj} {l : Ow} [h : RdC (St c I l) b cs] : RdC (St c I (x :: l)) b cs := ⟨fun w hw => h.rd w hw.tl⟩
instance RdC.app {c : Cx} {I : Im} {b : Nat} {cs : List Value} {m l : Ow} [h : RdC (St c I l) b cs] : RdC (St c I (m ++ l)) b cs := ⟨fun w hw => h.rd w hw.dropL⟩
theorem slr0 {c : Cx} {I : Im} {b n k : Nat} {cs : List Value} {ty : TypeId} {fr : Nat × Nat} {l : Ow} (h : cs.length = n * k) : SlR (St c I ((b, .cells ⟨cs⟩ ty fr) :: l)) (some ⟨b, 0, none⟩) n k cs :=
  ⟨h, fun _ => ⟨b, 0, cs, rfl, rd0, by rw [List.drop_zero, ← h, List.take_length]⟩⟩
theorem slr0' {c : Cx} {I : Im} {b n k : Nat} {cs cs' : List Value} {ty : TypeId} {fr : Nat × Nat} {l : Ow} (hc : cs = cs') (h : cs.length = n * k) : SlR (St c I ((b, .cells ⟨cs⟩ ty fr) :: l)) (some ⟨b, 0, none⟩) n k cs' := hc ▸ slr0 h
/-- one byte that was just laid -/
theorem slrB {c : Cx} {I : Im} {b : Nat} {u : UInt8} {ty : TypeId} {fr : Nat × Nat} {l : Ow} : SlR (St c I ((b, .cells ⟨[.int .u8 (u.toNat : Int)]⟩ ty fr) :: l)) (some ⟨b, 0, none⟩) 1 1 ([u].map encB) := slr0 rfl
section
variable {P : Program} {n : Nat} {ops : Array Oper} {Q : Po} {S S0 : World → Prop} {t0 : Nat} {e : Env}
theorem TC.heldS (t0 : Nat) (s : Sch) {id : Nat} {l : List Oper} (hS : ∀ w k, S w → S { w with drawn := k }) (hm : P.follows .mixedOrders = true) (hb : bnd n l.toArray = true) (hsel : Region.noSelect l.toArray = true)
    (hc : chk l.toArray t0 s l.length (Array.replicate l.length false) = true) (h : HL P n l.toArray S t0 Q s S e) : TC P n (.region id l.toArray true) S Q e := TC.held S t0 s hS hm hb hsel hc h
theorem hEl {t el : TypeId} {k bb : Nat} {agg : Bool} {z : Value} {x y : Operand} {a : Option Addr} {len cap : Nat} {kk : IntKind} {i : Int} {cells : List Value} {v : Value} {d1 : Tmp} {d2 : Option Tmp} {i1 i2 : Nat} {s : Sch}
    {ty1 ty2 : TypeId} {ps1 ps2 : String} {af1 af2 : Array Edge} {g1 g2 : Option (Nat × Bool)}
    (ho1 : opAt ops i1 = some ⟨some d1, .indexAddr t x y, ty1, ps1, af1, g1⟩) (ho2 : opAt ops i2 = some ⟨d2, .load el (.tmp d1), ty2, ps2, af2, g2⟩)
    (ht : P.underlying t = some (.slice el)) (hel : TI P el k agg z bb) (hx : ev e x = .slice a len cap) (hs : SlR S0 a len k cells) (hy : ev e y = .int kk i) (h0 : 0 ≤ i) (h1 : i < len) (hk : agg = false → k = 1)
    (hv : mkV agg ((cells.drop (i.toNat * k)).take k) = v) (hW1 : Wt ops e ⟨some d1, .indexAddr t x y, ty1, ps1, af1, g1⟩ true) (hW2 : ∀ p, Wt ops (upd e d1 p) ⟨d2, .load el (.tmp d1), ty2, ps2, af2, g2⟩ true)
    (hd1 : Nat.blt d1 n = true) (hd2 : inB n d2 = true) (hS : ∀ w, S w → S0 w) (h : ∀ p, HL P n ops S0 t0 Q s S (updO (upd e d1 p) d2 v)) :
    HL P n ops S0 t0 Q (.q i1 (.q i2 s)) S e := by
  obtain ⟨hlen, hs⟩ := hs
  obtain ⟨b, o, cs, rfl, hr, hc⟩ := hs (by omega)
  have hle : i.toNat * k + k ≤ len * k := by
    have : i.toNat + 1 ≤ len := by omega
    calc i.toNat * k + k = (i.toNat + 1) * k := by rw [Nat.add_mul, Nat.one_mul]
      _ ≤ len * k := Nat.mul_le_mul_right _ this
  have hsub := drop_take_sub hc hle
  refine hq ho1 (yIA ht hel hx hy h0 h1) hW1 hd1 hS ?_
  refine hq (v := v) ho2 (yLd hel (ev_upd _ _ _) hr hsub (by simp [hlen]; omega) hk hv) (hW2 _) hd2 hS ?_
  exact h _
theorem hElF {t el ft : TypeId} {k bb bf f fo : Nat} {agg : Bool} {z zf : Value} {x y : Operand} {a : Option Addr} {len cap : Nat} {kk : IntKind} {i : Int} {cells : List Value} {v : Value} {d1 d2 : Tmp} {d3 : Option Tmp} {i1 i2 i3 : Nat} {s : Sch}
    {ty1 ty2 ty3 : TypeId} {ps1 ps2 ps3 : String} {af1 af2 af3 : Array Edge} {g1 g2 g3 : Option (Nat × Bool)}
    (ho1 : opAt ops i1 = some ⟨some d1, .indexAddr t x y, ty1, ps1, af1, g1⟩) (ho2 : opAt ops i2 = some ⟨some d2, .fieldAddr el (.tmp d1) f, ty2, ps2, af2, g2⟩) (ho3 : opAt ops i3 = some ⟨d3, .load ft (.tmp d2), ty3, ps3, af3, g3⟩)
    (ht : P.underlying t = some (.slice el)) (hel : TI P el k agg z bb) (hF : Fld P el f fo ft) (hft : TI P ft 1 false zf bf) (hfo : fo < k) (hx : ev e x = .slice a len cap) (hs : SlR S0 a len k cells) (hy : ev e y = .int kk i) (h0 : 0 ≤ i) (h1 : i < len)
    (hv : cells[i.toNat * k + fo]? = some v) (hW1 : Wt ops e ⟨some d1, .indexAddr t x y, ty1, ps1, af1, g1⟩ true) (hW2 : ∀ p, Wt ops (upd e d1 p) ⟨some d2, .fieldAddr el (.tmp d1) f, ty2, ps2, af2, g2⟩ true) (hW3 : ∀ p q, Wt ops (upd (upd e d1 p) d2 q) ⟨d3, .load ft (.tmp d2), ty3, ps3, af3, g3⟩ true)
    (hd1 : Nat.blt d1 n = true) (hd2 : Nat.blt d2 n = true) (hd3 : inB n d3 = true) (hS : ∀ w, S w → S0 w) (h : ∀ p q, HL P n ops S0 t0 Q s S (updO (upd (upd e d1 p) d2 q) d3 v)) :
    HL P n ops S0 t0 Q (.q i1 (.q i2 (.q i3 s))) S e := by
  obtain ⟨hlen, hs⟩ := hs
  obtain ⟨b, o, cs, rfl, hr, hc⟩ := hs (by omega)
  have hcell : cs[o + (i.toNat * k + fo)]? = some v := by
    rw [← hc, List.getElem?_take] at hv
    split at hv
    · rw [List.getElem?_drop] at hv; exact hv
    · cases hv
  refine hq ho1 (yIA ht hel hx hy h0 h1) hW1 hd1 hS ?_
  refine hq ho2 (yFA hF hft (by omega) (ev_upd _ _ _)) (hW2 _) hd2 hS ?_
  refine hq (v := v) ho3 (yLd1 hft (ev_upd _ _ _) hr (by rw [Nat.add_assoc]; exact hcell)) (hW3 _ _) hd3 hS ?_
  exact h _ _
theorem sElF {rest : List Oper} {t el ft : TypeId} {k bb bf f fo : Nat} {agg : Bool} {z zf : Value} {x y : Operand} {a : Option Addr} {len cap : Nat} {kk : IntKind} {i : Int} {cells : List Value} {v : Value} {d1 d2 : Tmp} {d3 : Option Tmp}
    {ty1 ty2 ty3 : TypeId} {ps1 ps2 ps3 : String} {af1 af2 af3 : Array Edge}
    (ht : P.underlying t = some (.slice el)) (hel : TI P el k agg z bb) (hF : Fld P el f fo ft) (hft : TI P ft 1 false zf bf) (hfo : fo < k) (hx : ev e x = .slice a len cap) (hs : SlR S a len k cells) (hy : ev e y = .int kk i) (h0 : 0 ≤ i) (h1 : i < len)
    (hv : cells[i.toNat * k + fo]? = some v) (hd1 : Nat.blt d1 n = true) (hd2 : Nat.blt d2 n = true) (hd3 : inB n d3 = true) (h : ∀ p q, TL P n ops rest S Q (updO (upd (upd e d1 p) d2 q) d3 v)) :
    TL P n ops (⟨some d1, .indexAddr t x y, ty1, ps1, af1, none⟩ :: ⟨some d2, .fieldAddr el (.tmp d1) f, ty2, ps2, af2, none⟩ :: ⟨d3, .load ft (.tmp d2), ty3, ps3, af3, none⟩ :: rest) S Q e := by
  obtain ⟨hlen, hs⟩ := hs
  obtain ⟨b, o, cs, rfl, hr, hc⟩ := hs (by omega)
  have hcell : cs[o + (i.toNat * k + fo)]? = some v := by
    rw [← hc, List.getElem?_take] at hv
    split at hv
    · rw [List.getElem?_drop] at hv; exact hv
    · cases hv
  refine sv (yIA ht hel hx hy h0 h1) rfl hd1 ?_
  refine sv (yFA hF hft (by omega) (ev_upd _ _ _)) rfl hd2 ?_
  refine sv (v := v) (yLd1 hft (ev_upd _ _ _) hr (by rw [Nat.add_assoc]; exact hcell)) rfl hd3 ?_
  exact h _ _
/-! frames at a loop's head -/
theorem mask0 (D : Nat → Bool) (g e : Env) (h : ∀ i, D i = false → g i = e i) : g = mask D g e := by
  funext i
  unfold mask
  cases hD : D i with
  | true => rfl
  | false => exact h i hD
theorem upd_self (e : Env) (d : Nat) (v : Value) (h : e d = v) : upd e d v = e := by
  funext i
  unfold upd
  cases hb : Nat.beq i d with
  | true => rw [cond_true, ← h, Nat.eq_of_beq_eq_true hb]
  | false => rfl
def Off (D : Nat → Bool) (g e : Env) : Prop := ∀ i, D i = false → g i = e i
theorem Off.refl {D : Nat → Bool} {e : Env} : Off D e e := fun _ _ => rfl
theorem Off.mask {D : Nat → Bool} {g e : Env} : Off D (mask D g e) e := fun i hi => by unfold E.mask; rw [hi]; rfl
theorem Off.mask' {D D' : Nat → Bool} {g e e' : Env} (hD : ∀ i, D i = false → D' i = false) (h : Off D e e') : Off D (E.mask D' g e) e' := fun i hi => by unfold E.mask; rw [hD i hi]; exact h i hi
theorem Off.upd {D : Nat → Bool} {g e : Env} {d : Nat} {v : Value} (hd : D d = true) (h : Off D g e) : Off D (upd g d v) e := fun i hi => by
  unfold E.upd
  cases hb : Nat.beq i d with
  | true => rw [Nat.eq_of_beq_eq_true hb, hd] at hi; cases hi
  | false => exact h i hi
theorem Off.updO {D : Nat → Bool} {g e : Env} {d : Option Nat} {v : Value} (hd : ∀ x, d = some x → D x = true) (h : Off D g e) : Off D (updO g d v) e := by
  cases d with
  | none => exact h
  | some x => exact h.upd (hd x rfl)
theorem lh1 {D : Nat → Bool} {g e : Env} {d : Nat} {v : Value} (h : Off D g e) (h1 : g d = v) : g = upd (mask D g e) d v := by
  rw [← mask0 D g e h, upd_self g d v h1]
theorem lh2 {D : Nat → Bool} {g e : Env} {d d' : Nat} {v v' : Value} (h : Off D g e) (h1 : g d = v) (h2 : g d' = v') : g = upd (upd (mask D g e) d v) d' v' := by
  rw [← mask0 D g e h, upd_self g d v h1, upd_self g d' v' h2]
theorem lh3 {D : Nat → Bool} {g e : Env} {d d' d3 : Nat} {v v' v3 : Value} (h : Off D g e) (h1 : g d = v) (h2 : g d' = v') (h3 : g d3 = v3) : g = upd (upd (upd (mask D g e) d v) d' v') d3 v3 := by
  rw [← mask0 D g e h, upd_self g d v h1, upd_self g d' v' h2, upd_self g d3 v3 h3]
theorem lh4 {D : Nat → Bool} {g e : Env} {d d' d3 d4 : Nat} {v v' v3 v4 : Value} (h : Off D g e) (h1 : g d = v) (h2 : g d' = v') (h3 : g d3 = v3) (h4 : g d4 = v4) : g = upd (upd (upd (upd (mask D g e) d v) d' v') d3 v3) d4 v4 := by
  rw [← mask0 D g e h, upd_self g d v h1, upd_self g d' v' h2, upd_self g d3 v3 h3, upd_self g d4 v4 h4]
end
end Go.E
