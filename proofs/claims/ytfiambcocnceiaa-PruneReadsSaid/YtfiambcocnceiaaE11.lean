import Derived.Test.YtfiambcocnceiaaE10
set_option linter.unusedVariables false
set_option linter.unusedSimpArgs false
namespace Go.E
open Go
/-! ### bytes of the call's own -/
def OB (el : TypeId) (m : Ow) (a : Option Addr) (cap : Nat) (bs : List UInt8) : Prop := OS el 1 m a bs.length cap (bs.map encB)
theorem OB.nil {el : TypeId} : OB el [] none 0 [] := OS.nil
theorem OB.sl {el : TypeId} {m : Ow} {a : Option Addr} {cap : Nat} {bs : List UInt8} (h : OB el m a cap bs) {c : Cx} {I : Im} {l : Ow} : SlR (St c I (m ++ l)) a bs.length 1 (bs.map encB) := OS.sl h
theorem OB.made {el b : Nat} {bs : List UInt8} {cs : List Value} (hc : cs = bs.map encB) (hn : bs.length ≤ maxLen) : OB el [(b, .cells ⟨cs⟩ el (0, 0))] (some ⟨b, 0, none⟩) bs.length bs := by
  subst hc; exact OS.made (by simp) hn
/-! ### typed slices -/
/-- what a header reads as: xs, each laid by enc in k cells -/
def SA {α : Type} (S : World → Prop) (enc : α → List Value) (k : Nat) (a : Option Addr) (xs : List α) : Prop := SlR S a xs.length k (xs.flatMap enc)
def RA {α : Type} (I : Im) (enc : α → List Value) (k : Nat) (a : Option Addr) (xs : List α) : Prop := RS I a xs.length k (xs.flatMap enc)
def OA {α : Type} (el : TypeId) (enc : α → List Value) (k : Nat) (m : Ow) (a : Option Addr) (cap : Nat) (xs : List α) : Prop := OS el k m a xs.length cap (xs.flatMap enc)
section
variable {α : Type} {enc : α → List Value} {k : Nat} {a : Option Addr} {xs : List α} {I J : Im} {c : Cx} {l m : Ow} {el : TypeId} {cap : Nat}
theorem RA.sa (h : RA I enc k a xs) : SA (St c I l) enc k a xs := RS.sl h
theorem RA.le (h : RA I enc k a xs) (hl : Le I J) : RA J enc k a xs := RS.le h hl
theorem RA.nil (a : Option Addr) : RA I enc k a [] := RS.nil a
theorem OA.nil : OA el enc k [] none 0 ([] : List α) := OS.nil
theorem OA.sa (h : OA el enc k m a cap xs) : SA (St c I (m ++ l)) enc k a xs := OS.sl h
theorem OA.sub (h : OA el enc k m a cap xs) (hm : m ⊆ l) : SA (St c I l) enc k a xs := OS.slr h hm
theorem OA.freeze (h : OA el enc k m a cap xs) {w : World} (hw : St c I (m ++ l) w) : ∃ J, Le I J ∧ RA J enc k a xs ∧ St c J l w := OS.freeze h hw
theorem OA.made {b : Nat} {cs : List Value} (hc : cs = xs.flatMap enc) (hk : ∀ x, (enc x).length = k) (hn : xs.length ≤ maxLen) : OA el enc k [(b, .cells ⟨cs⟩ el (0, 0))] (some ⟨b, 0, none⟩) xs.length xs := by
  subst hc; exact OS.made (flat_len hk xs) hn
theorem OA.le (h : OA el enc k m a cap xs) : xs.length ≤ cap := h.2.1
theorem RA.hi (hk : ∀ x, (enc x).length = k) (h : RA I enc k a xs) {j : Nat} (hj : j ≤ xs.length) : RA I enc k a (xs.take j) := by
  have := RS.hi h hj
  unfold RA
  have e1 : (xs.take j).length = j := by simp; omega
  have e2 : (xs.flatMap enc).take (j * k) = (xs.take j).flatMap enc := by
    have h1 : xs.flatMap enc = (xs.take j).flatMap enc ++ (xs.drop j).flatMap enc := by rw [← List.flatMap_append, List.take_append_drop]
    rw [h1]
    have h2 : ((xs.take j).flatMap enc).length = j * k := by rw [flat_len hk, e1]
    rw [← h2, List.take_left]
  rw [e1, ← e2]; exact this
theorem RA.lo (hk : ∀ x, (enc x).length = k) (h : RA I enc k a xs) {i cap : Nat} (hi : i ≤ xs.length) (hc : xs.length ≤ cap) : RA I enc k (cutA a i k cap) (xs.drop i) := by
  have := RS.lo h hi hc
  unfold RA
  have e1 : (xs.drop i).length = xs.length - i := by simp
  have e2 : (xs.flatMap enc).drop (i * k) = (xs.drop i).flatMap enc := by
    have h1 : xs.flatMap enc = (xs.take i).flatMap enc ++ (xs.drop i).flatMap enc := by rw [← List.flatMap_append, List.take_append_drop]
    rw [h1]
    have h2 : ((xs.take i).flatMap enc).length = i * k := by rw [flat_len hk]; congr 1; simp; omega
    rw [← h2, List.drop_left]
  rw [e1, ← e2]; exact this
/-- the one element that was just laid -/
theorem sa1 {b : Nat} {cs : List Value} {ty : TypeId} {fr : Nat × Nat} (x : α) (hc : cs = enc x) (hk : cs.length = k) : SA (St c I ((b, .cells ⟨cs⟩ ty fr) :: l)) enc k (some ⟨b, 0, none⟩) [x] := by
  subst hc
  exact slr0' (by simp) (by simp [hk])
end
section
variable {P : Program} {n : Nat} {ops : Array Oper} {rest : List Oper} {Q : Po} {S S0 : World → Prop} {e : Env} {c : Cx} {I : Im} {l : Ow} {t0 : Nat}
  {d : Option Tmp} {ty : TypeId} {ps : String} {af : Array Edge} {g : Option (Nat × Bool)}
theorem yAddK {t t' : TypeId} {x y : Operand} {k : IntKind} {m q r : Int} (hx : ev e x = .int k m) (hy : ev e y = .int k q) (hr : k.wrap (m + q) = r) : Yv P S e ⟨d, .binOp .add t x y t', ty, ps, af, g⟩ (.int k r) := yArith (.inl rfl) hx hy hr
theorem ySubK {t t' : TypeId} {x y : Operand} {k : IntKind} {m q r : Int} (hx : ev e x = .int k m) (hy : ev e y = .int k q) (hr : k.wrap (m - q) = r) : Yv P S e ⟨d, .binOp .sub t x y t', ty, ps, af, g⟩ (.int k r) := yArith (.inr (.inl rfl)) hx hy hr
theorem yMulK {t t' : TypeId} {x y : Operand} {k : IntKind} {m q r : Int} (hx : ev e x = .int k m) (hy : ev e y = .int k q) (hr : k.wrap (m * q) = r) : Yv P S e ⟨d, .binOp .mul t x y t', ty, ps, af, g⟩ (.int k r) := yArith (.inr (.inr rfl)) hx hy hr
theorem yAddE {t t' : TypeId} {x y : Operand} {m q r : Int} (hx : ev e x = .int .i64 m) (hy : ev e y = .int .i64 q) (hr : m + q = r) (h : -9223372036854775808 ≤ r ∧ r ≤ 9223372036854775807) : Yv P S e ⟨d, .binOp .add t x y t', ty, ps, af, g⟩ (.int .i64 r) := by
  subst hr; exact yAdd hx hy h
theorem ySubE {t t' : TypeId} {x y : Operand} {m q r : Int} (hx : ev e x = .int .i64 m) (hy : ev e y = .int .i64 q) (hr : m - q = r) (h : -9223372036854775808 ≤ r ∧ r ≤ 9223372036854775807) : Yv P S e ⟨d, .binOp .sub t x y t', ty, ps, af, g⟩ (.int .i64 r) := by
  subst hr; exact ySub hx hy h
theorem yQuoK {t t' : TypeId} {x y : Operand} {k : IntKind} {m r q : Int} (hx : ev e x = .int k m) (hy : ev e y = .int k q) (hq : q ≠ 0) (hr : k.wrap (m.tdiv q) = r) : Yv P S e ⟨d, .binOp .quo t x y t', ty, ps, af, g⟩ (.int k r) := fun w _ => by
  subst hr
  simp [execOp, hx, hy, eqG_int, binOp, Op.intDiv, hq]
theorem yRemK {t t' : TypeId} {x y : Operand} {k : IntKind} {m r q : Int} (hx : ev e x = .int k m) (hy : ev e y = .int k q) (hq : q ≠ 0) (hr : m.tmod q = r) : Yv P S e ⟨d, .binOp .rem t x y t', ty, ps, af, g⟩ (.int k r) := fun w _ => by
  subst hr
  simp [execOp, hx, hy, eqG_int, binOp, Op.intDiv, hq]
theorem u64in {z : Int} (h : 0 ≤ z ∧ z ≤ 18446744073709551615) : IntKind.u64.wrap z = z := by
  simp [IntKind.wrap, IntKind.bits, IntKind.signed]; omega
theorem u8in {z : Int} (h : 0 ≤ z ∧ z ≤ 255) : IntKind.u8.wrap z = z := by
  simp [IntKind.wrap, IntKind.bits, IntKind.signed]; omega
/-- bytes are appended -/
theorem sAppB {t u el : TypeId} {x y : Operand} {m : Ow} {a : Option Addr} {cap : Nat} {bs nb : List UInt8} {v : Value} (ht : P.underlying t = some (.slice el)) (hel : TI P el 1 false (.int .u8 0) 1) (hx : ev e x = .slice a bs.length cap) (hy : ev e y = v)
    (hos : OB el m a cap bs) (hsrc : Src P (St c I (m ++ l)) u v 1 nb.length (nb.map encB)) (hb : bs.length + nb.length ≤ 140737488355328) (hd : inB n d = true)
    (h : ∀ m' a' cap', OB el m' a' cap' (bs ++ nb) → TL P n ops rest (St c I (m' ++ l)) Q (updO e d (.slice a' (bs ++ nb).length cap'))) :
    TL P n ops (⟨d, .call ⟨.builtin .append, [x, y].toArray, [t, u].toArray⟩, ty, ps, af, none⟩ :: rest) (St c I (m ++ l)) Q e := by
  refine sApp ht hel hx hy hos hsrc (encB_one _) (by omega) (by omega) hd fun m' a' cap' ho => ?_
  have e1 : bs.length + nb.length = (bs ++ nb).length := by simp
  rw [e1]
  exact h m' a' cap' (by unfold OB; rw [← e1, List.map_append]; exact ho)
/-- typed: ys behind xs -/
theorem sAppA {α : Type} {enc : α → List Value} {t u el : TypeId} {k bb : Nat} {agg : Bool} {z : Value} {x y : Operand} {m : Ow} {a b : Option Addr} {cap cap2 : Nat} {xs ys : List α} (ht : P.underlying t = some (.slice el)) (hu : P.underlying u = some (.slice el)) (hel : TI P el k agg z bb) (hx : ev e x = .slice a xs.length cap) (hy : ev e y = .slice b ys.length cap2)
    (hos : OA el enc k m a cap xs) (hsrc : SA (St c I (m ++ l)) enc k b ys) (h1 : ∀ x, (enc x).all (·.oneCell') = true) (hb : (xs.length + ys.length) * bb ≤ 140737488355328) (h63 : xs.length + ys.length ≤ 9223372036854775807) (hd : inB n d = true)
    (h : ∀ m' a' cap', OA el enc k m' a' cap' (xs ++ ys) → TL P n ops rest (St c I (m' ++ l)) Q (updO e d (.slice a' (xs ++ ys).length cap'))) :
    TL P n ops (⟨d, .call ⟨.builtin .append, [x, y].toArray, [t, u].toArray⟩, ty, ps, af, none⟩ :: rest) (St c I (m ++ l)) Q e := by
  refine sApp ht hel hx hy hos (Src.of_sl hu hsrc) (by rw [List.all_flatMap]; simpa using fun x _ => h1 x) hb h63 hd fun m' a' cap' ho => ?_
  have e1 : xs.length + ys.length = (xs ++ ys).length := by simp
  rw [e1]
  exact h m' a' cap' (by unfold OA; rw [← e1, List.flatMap_append]; exact ho)
theorem _root_.Go.E.St.mid {x : Nat × Obj} {m : Ow} {w : World} (h : St c I (x :: (m ++ l)) w) : St c I (m ++ x :: l) w := h.perm List.perm_middle.symm
theorem _root_.Go.E.St.mid' {x : Nat × Obj} {m : Ow} {w : World} (h : St c I (m ++ x :: l) w) : St c I (x :: (m ++ l)) w := h.perm List.perm_middle
/-- one byte, just laid -/
theorem sAppB1 (u : UInt8) {t u' el : TypeId} {x y : Operand} {m : Ow} {a : Option Addr} {b cap : Nat} {cs : List Value} {ty' : TypeId} {fr : Nat × Nat} {bs : List UInt8} (ht : P.underlying t = some (.slice el)) (hu : P.underlying u' = some (.slice el)) (hel : TI P el 1 false (.int .u8 0) 1) (hx : ev e x = .slice a bs.length cap) (hy : ev e y = .slice (some ⟨b, 0, none⟩) 1 1)
    (hos : OB el m a cap bs) (hc : cs = [encB u]) (hb : bs.length + 1 ≤ 140737488355328) (hd : inB n d = true)
    (h : ∀ m' a' cap', OB el m' a' cap' (bs ++ [u]) → TL P n ops rest (St c I (m' ++ l)) Q (updO e d (.slice a' (bs ++ [u]).length cap'))) :
    TL P n ops (⟨d, .call ⟨.builtin .append, [x, y].toArray, [t, u'].toArray⟩, ty, ps, af, none⟩ :: rest) (St c I ((b, .cells ⟨cs⟩ ty' fr) :: (m ++ l))) Q e := by
  subst hc
  have hs : SlR (St c I (m ++ (b, .cells ⟨[encB u]⟩ ty' fr) :: l)) (some ⟨b, 0, none⟩) 1 1 ([u].map encB) := (slr0 (c := c) (I := I) (l := m ++ l) (b := b) (ty := ty') (fr := fr) (cs := [encB u]) (n := 1) (k := 1) rfl).mono fun w hw => hw.mid'
  refine TL.pre (fun w h => h.mid) (sAppB (nb := [u]) ht hel hx hy hos (Src.of_sl hu hs) hb hd fun m' a' cap' ho => TL.pre (fun w hw => ?_) (h m' a' cap' ho))
  exact hw.sub (List.Sublist.append (List.Sublist.refl _) (List.sublist_cons_self _ _))
/-- typed: one element, just laid -/
theorem sAppA1 {α : Type} {enc : α → List Value} (u : α) {t u' el : TypeId} {k bb : Nat} {agg : Bool} {z : Value} {x y : Operand} {m : Ow} {a : Option Addr} {b cap : Nat} {cs : List Value} {ty' : TypeId} {fr : Nat × Nat} {xs : List α} (ht : P.underlying t = some (.slice el)) (hu : P.underlying u' = some (.slice el)) (hel : TI P el k agg z bb) (hx : ev e x = .slice a xs.length cap) (hy : ev e y = .slice (some ⟨b, 0, none⟩) 1 1)
    (hos : OA el enc k m a cap xs) (hc : cs = enc u) (hk : cs.length = k) (h1 : ∀ x, (enc x).all (·.oneCell') = true) (hb : (xs.length + 1) * bb ≤ 140737488355328) (h63 : xs.length + 1 ≤ 9223372036854775807) (hd : inB n d = true)
    (h : ∀ m' a' cap', OA el enc k m' a' cap' (xs ++ [u]) → TL P n ops rest (St c I (m' ++ l)) Q (updO e d (.slice a' (xs ++ [u]).length cap'))) :
    TL P n ops (⟨d, .call ⟨.builtin .append, [x, y].toArray, [t, u'].toArray⟩, ty, ps, af, none⟩ :: rest) (St c I ((b, .cells ⟨cs⟩ ty' fr) :: (m ++ l))) Q e := by
  have hs : SA (St c I (m ++ (b, .cells ⟨cs⟩ ty' fr) :: l)) enc k (some ⟨b, 0, none⟩) [u] := SlR.mono (sa1 (c := c) (I := I) (l := m ++ l) (b := b) (ty := ty') (fr := fr) u hc hk) fun w hw => hw.mid'
  refine TL.pre (fun w h => h.mid) (sAppA (ys := [u]) ht hu hel hx hy hos hs h1 hb h63 hd fun m' a' cap' ho => TL.pre (fun w hw => ?_) (h m' a' cap' ho))
  exact hw.sub (List.Sublist.append (List.Sublist.refl _) (List.sublist_cons_self _ _))
/-- typed: a new row -/
theorem sAppNA {α : Type} {enc : α → List Value} {t u el : TypeId} {k bb : Nat} {agg : Bool} {z : Value} {x y : Operand} {a b : Option Addr} {cap cap2 : Nat} {xs ys : List α} (ht : P.underlying t = some (.slice el)) (hu : P.underlying u = some (.slice el)) (hel : TI P el k agg z bb) (hx : ev e x = .slice a xs.length cap) (hy : ev e y = .slice b ys.length cap2)
    (hold : SA (St c I l) enc k a xs) (hsrc : SA (St c I l) enc k b ys) (hg : cap < xs.length + ys.length) (hb : (xs.length + ys.length) * bb ≤ 140737488355328) (h63 : xs.length + ys.length ≤ 9223372036854775807) (hd : inB n d = true)
    (h : ∀ m' a' cap', OA el enc k m' a' cap' (xs ++ ys) → TL P n ops rest (St c I (m' ++ l)) Q (updO e d (.slice a' (xs ++ ys).length cap'))) :
    TL P n ops (⟨d, .call ⟨.builtin .append, [x, y].toArray, [t, u].toArray⟩, ty, ps, af, none⟩ :: rest) (St c I l) Q e := by
  refine sAppN ht hel hx hy hold (Src.of_sl hu hsrc) hg hb h63 hd fun m' a' cap' ho => ?_
  have e1 : xs.length + ys.length = (xs ++ ys).length := by simp
  rw [e1]
  exact h m' a' cap' (by unfold OA; rw [← e1, List.flatMap_append]; exact ho)
/-- a typed element -/
theorem sElA {α : Type} {enc : α → List Value} {t el : TypeId} {k bb : Nat} {agg : Bool} {z : Value} {x y : Operand} {a : Option Addr} {cap : Nat} {kk : IntKind} {i : Int} {xs : List α} {u : α} {v : Value} {d1 : Tmp} {d2 : Option Tmp}
    {ty1 ty2 : TypeId} {ps1 ps2 : String} {af1 af2 : Array Edge}
    (ht : P.underlying t = some (.slice el)) (hel : TI P el k agg z bb) (hx : ev e x = .slice a xs.length cap) (hs : SA S enc k a xs) (hy : ev e y = .int kk i) (h0 : 0 ≤ i) (hu : xs[i.toNat]? = some u) (hk : ∀ x, (enc x).length = k) (hk1 : agg = false → k = 1)
    (hv : mkV agg (enc u) = v) (hd1 : Nat.blt d1 n = true) (hd2 : inB n d2 = true) (h : ∀ p, TL P n ops rest S Q (updO (upd e d1 p) d2 v)) :
    TL P n ops (⟨some d1, .indexAddr t x y, ty1, ps1, af1, none⟩ :: ⟨d2, .load el (.tmp d1), ty2, ps2, af2, none⟩ :: rest) S Q e :=
  sEl ht hel hx hs hy h0 (by have := (List.getElem?_eq_some_iff.1 hu).1; omega) hk1 (by rw [flat_get hk _ _ _ hu]; exact hv) hd1 hd2 h
theorem qElA {K : Env → Prop} {α : Type} {enc : α → List Value} {t el : TypeId} {k bb : Nat} {agg : Bool} {z : Value} {x y : Operand} {a : Option Addr} {cap : Nat} {kk : IntKind} {i : Int} {xs : List α} {u : α} {v : Value} {d1 : Tmp} {d2 : Option Tmp}
    {ty1 ty2 : TypeId} {ps1 ps2 : String} {af1 af2 : Array Edge} {g1 g2 : Option (Nat × Bool)}
    (ht : P.underlying t = some (.slice el)) (hel : TI P el k agg z bb) (hx : ev e x = .slice a xs.length cap) (hs : SA S enc k a xs) (hy : ev e y = .int kk i) (h0 : 0 ≤ i) (hu : xs[i.toNat]? = some u) (hk : ∀ x, (enc x).length = k) (hk1 : agg = false → k = 1)
    (hv : mkV agg (enc u) = v) (hW1 : Wt ops e ⟨some d1, .indexAddr t x y, ty1, ps1, af1, g1⟩ true) (hW2 : ∀ p, Wt ops (upd e d1 p) ⟨d2, .load el (.tmp d1), ty2, ps2, af2, g2⟩ true) (hd1 : Nat.blt d1 n = true) (hd2 : inB n d2 = true) (h : ∀ p, QL P n ops S rest (updO (upd e d1 p) d2 v) K) :
    QL P n ops S (⟨some d1, .indexAddr t x y, ty1, ps1, af1, g1⟩ :: ⟨d2, .load el (.tmp d1), ty2, ps2, af2, g2⟩ :: rest) e K :=
  qEl ht hel hx hs hy h0 (by have := (List.getElem?_eq_some_iff.1 hu).1; omega) hk1 (by rw [flat_get hk _ _ _ hu]; exact hv) hW1 hW2 hd1 hd2 h
theorem hElA {α : Type} {enc : α → List Value} {t el : TypeId} {k bb : Nat} {agg : Bool} {z : Value} {x y : Operand} {a : Option Addr} {cap : Nat} {kk : IntKind} {i : Int} {xs : List α} {u : α} {v : Value} {d1 : Tmp} {d2 : Option Tmp} {i1 i2 : Nat} {s : Sch}
    {ty1 ty2 : TypeId} {ps1 ps2 : String} {af1 af2 : Array Edge} {g1 g2 : Option (Nat × Bool)}
    (ho1 : opAt ops i1 = some ⟨some d1, .indexAddr t x y, ty1, ps1, af1, g1⟩) (ho2 : opAt ops i2 = some ⟨d2, .load el (.tmp d1), ty2, ps2, af2, g2⟩)
    (ht : P.underlying t = some (.slice el)) (hel : TI P el k agg z bb) (hx : ev e x = .slice a xs.length cap) (hs : SA S0 enc k a xs) (hy : ev e y = .int kk i) (h0 : 0 ≤ i) (hu : xs[i.toNat]? = some u) (hk : ∀ x, (enc x).length = k) (hk1 : agg = false → k = 1)
    (hv : mkV agg (enc u) = v) (hW1 : Wt ops e ⟨some d1, .indexAddr t x y, ty1, ps1, af1, g1⟩ true) (hW2 : ∀ p, Wt ops (upd e d1 p) ⟨d2, .load el (.tmp d1), ty2, ps2, af2, g2⟩ true) (hd1 : Nat.blt d1 n = true) (hd2 : inB n d2 = true) (hS : ∀ w, S w → S0 w) (h : ∀ p, HL P n ops S0 t0 Q s S (updO (upd e d1 p) d2 v)) :
    HL P n ops S0 t0 Q (.q i1 (.q i2 s)) S e :=
  hEl ho1 ho2 ht hel hx hs hy h0 (by have := (List.getElem?_eq_some_iff.1 hu).1; omega) hk1 (by rw [flat_get hk _ _ _ hu]; exact hv) hW1 hW2 hd1 hd2 hS h
theorem flat_cell {α : Type} {enc : α → List Value} {k : Nat} (hk : ∀ x, (enc x).length = k) {xs : List α} {i f : Nat} {u : α} {v : Value} (hu : xs[i]? = some u) (hf : f < k) (hv : (enc u)[f]? = some v) : (xs.flatMap enc)[i * k + f]? = some v := by
  have h := flat_get hk xs i u hu
  have : (((xs.flatMap enc).drop (i * k)).take k)[f]? = some v := by rw [h]; exact hv
  rw [List.getElem?_take, if_pos hf, List.getElem?_drop] at this
  exact this
end
end Go.E
