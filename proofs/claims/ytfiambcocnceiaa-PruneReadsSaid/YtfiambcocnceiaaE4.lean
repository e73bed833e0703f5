import Derived.Test.YtfiambcocnceiaaE3
set_option linter.unusedVariables false
set_option linter.unusedSimpArgs false
namespace Go.E
open Go

section
variable {P : Program} {S : World → Prop} {e : Env} {d : Option Tmp} {ty : TypeId} {ps : String} {af : Array Edge} {g : Option (Nat × Bool)}
theorem yMove {x : Operand} {v : Value} (h : ev e x = v) : Yv P S e ⟨d, .move x, ty, ps, af, g⟩ v := fun w _ => by simp [execOp, h]
theorem yAsgn {x : Operand} {v : Value} (h : ev e x = v) : Yv P S e ⟨d, .assign x, ty, ps, af, g⟩ v := fun w _ => by simp [execOp, h]
theorem yPickT {x a b : Operand} {v : Value} (hc : ev e x = .bool true) (h : ev e a = v) : Yv P S e ⟨d, .pick x a b, ty, ps, af, g⟩ v := fun w _ => by simp [execOp, hc, h, asBool]
theorem yPickF {x a b : Operand} {v : Value} (hc : ev e x = .bool false) (h : ev e b = v) : Yv P S e ⟨d, .pick x a b, ty, ps, af, g⟩ v := fun w _ => by simp [execOp, hc, h, asBool]
theorem yNot {t : TypeId} {x : Operand} {b : Bool} (h : ev e x = .bool b) : Yv P S e ⟨d, .unOp .not t x, ty, ps, af, g⟩ (.bool (!b)) := fun w _ => by simp [execOp, h, Op.unary]
theorem yNotT {t : TypeId} {x : Operand} (h : ev e x = .bool false) : Yv P S e ⟨d, .unOp .not t x, ty, ps, af, g⟩ (.bool true) := yNot h
theorem yNotF {t : TypeId} {x : Operand} (h : ev e x = .bool true) : Yv P S e ⟨d, .unOp .not t x, ty, ps, af, g⟩ (.bool false) := yNot h
theorem yNil {x : Operand} {a : Addr} (h : ev e x = .pointer (some a)) : Yv P S e ⟨d, .nilCheck x, ty, ps, af, g⟩ (.pointer (some a)) := fun w _ => by simp [execOp, h]
theorem yExt {x : Operand} {i : Nat} {vs : Array Value} {v : Value} (h : ev e x = .tuple vs) (hv : vs.toList[i]? = some v) : Yv P S e ⟨d, .extract x i, ty, ps, af, g⟩ v := fun w _ => by
  have : vs[i]? = some v := by simpa using hv
  simp [execOp, h, Instr.extract, this]
theorem yFunc {fn : Fn} {fs cs : List Operand} : Yv P S e ⟨d, .makeFunc fn fs.toArray cs.toArray, ty, ps, af, g⟩ (.func fn (evs e fs).toArray (evs e cs).toArray) := fun w _ => by
  simp [execOp, Instr.makeFunc, evs_map]
/-! whole numbers -/
theorem eqG_int {op : BinOp} {t : TypeId} {x y : Operand} {k k' : IntKind} {m n : Int} {w : World} : (eqGuard op t x y (.int k m) (.int k' n)).run P w = .ok () w := by
  unfold eqGuard
  split <;> simp
theorem yArith {op : BinOp} {t t' : TypeId} {x y : Operand} {k : IntKind} {m n r : Int} (hop : op = .add ∨ op = .sub ∨ op = .mul) (hx : ev e x = .int k m) (hy : ev e y = .int k n)
    (hr : k.wrap (match op with | .add => m + n | .sub => m - n | _ => m * n) = r) : Yv P S e ⟨d, .binOp op t x y t', ty, ps, af, g⟩ (.int k r) := fun w _ => by
  subst hr
  rcases hop with rfl | rfl | rfl <;> simp [execOp, hx, hy, eqG_int, binOp, Op.intArith]
theorem i64in {z : Int} (h : -9223372036854775808 ≤ z ∧ z ≤ 9223372036854775807) : IntKind.i64.wrap z = z := IntWalk.i64_in z ⟨by omega, by omega⟩
theorem yAdd {t t' : TypeId} {x y : Operand} {m n : Int} (hx : ev e x = .int .i64 m) (hy : ev e y = .int .i64 n) (h : -9223372036854775808 ≤ m + n ∧ m + n ≤ 9223372036854775807) : Yv P S e ⟨d, .binOp .add t x y t', ty, ps, af, g⟩ (.int .i64 (m + n)) := yArith (.inl rfl) hx hy (i64in h)
theorem ySub {t t' : TypeId} {x y : Operand} {m n : Int} (hx : ev e x = .int .i64 m) (hy : ev e y = .int .i64 n) (h : -9223372036854775808 ≤ m - n ∧ m - n ≤ 9223372036854775807) : Yv P S e ⟨d, .binOp .sub t x y t', ty, ps, af, g⟩ (.int .i64 (m - n)) := yArith (.inr (.inl rfl)) hx hy (i64in h)
theorem yMul {t t' : TypeId} {x y : Operand} {m n : Int} (hx : ev e x = .int .i64 m) (hy : ev e y = .int .i64 n) (h : -9223372036854775808 ≤ m * n ∧ m * n ≤ 9223372036854775807) : Yv P S e ⟨d, .binOp .mul t x y t', ty, ps, af, g⟩ (.int .i64 (m * n)) := yArith (.inr (.inr rfl)) hx hy (i64in h)
theorem yCmp {op : BinOp} {t t' : TypeId} {x y : Operand} {k : IntKind} {m n : Int} {b : Bool} (hx : ev e x = .int k m) (hy : ev e y = .int k n)
    (h : (match op with | .eql => m == n | .neq => m != n | .lss => decide (m < n) | .leq => decide (m ≤ n) | .gtr => decide (m > n) | .geq => decide (m ≥ n) | _ => false) = b)
    (hop : op = .eql ∨ op = .neq ∨ op = .lss ∨ op = .leq ∨ op = .gtr ∨ op = .geq) : Yv P S e ⟨d, .binOp op t x y t', ty, ps, af, g⟩ (.bool b) := fun w _ => by
  subst h
  rcases hop with rfl | rfl | rfl | rfl | rfl | rfl <;> simp [execOp, hx, hy, eqG_int, binOp, Op.intCmp]
theorem yQuo {t t' : TypeId} {x y : Operand} {m n : Int} (hx : ev e x = .int .i64 m) (hy : ev e y = .int .i64 n) (h0 : 0 ≤ m) (h1 : 0 < n) (h2 : m ≤ 9223372036854775807) : Yv P S e ⟨d, .binOp .quo t x y t', ty, ps, af, g⟩ (.int .i64 (m / n)) := fun w _ => by
  have hne : n ≠ 0 := by omega
  have h3 : 0 ≤ m / n := Int.ediv_nonneg h0 (by omega)
  have h4 : m / n ≤ m := Int.ediv_le_self _ h0
  have : IntKind.i64.wrap (m.tdiv n) = m / n := by rw [Int.tdiv_eq_ediv_of_nonneg h0]; exact i64in ⟨by omega, by omega⟩
  simp [execOp, hx, hy, eqG_int, binOp, Op.intDiv, hne, this]
theorem yRem {t t' : TypeId} {x y : Operand} {m n : Int} (hx : ev e x = .int .i64 m) (hy : ev e y = .int .i64 n) (h0 : 0 ≤ m) (h1 : 0 < n) : Yv P S e ⟨d, .binOp .rem t x y t', ty, ps, af, g⟩ (.int .i64 (m % n)) := fun w _ => by
  have hne : n ≠ 0 := by omega
  have : m.tmod n = m % n := Int.tmod_eq_emod_of_nonneg h0
  simp [execOp, hx, hy, eqG_int, binOp, Op.intDiv, hne, this]
theorem yConvI {s t : TypeId} {x : Operand} {k k' : IntKind} {m r : Int} (ht : P.underlying t = some (.int k')) {ds : TypeDesc} (hs : P.underlying s = some ds) (hx : ev e x = .int k m) (hr : k'.wrap m = r) : Yv P S e ⟨d, .convert s t x, ty, ps, af, g⟩ (.int k' r) := fun w _ => by
  subst hr
  simp [execOp, hx, convert, run_underlying hs, run_underlying ht]
  cases ds <;> simp [Conv.intToInt]
/-! equality at one level -/
theorem eq_bool {t : TypeId} {a b : Bool} {w : World} (ht : P.underlying t = some .bool) : (Op.equal t (.bool a) (.bool b)).run P w = .ok (a == b) w := by
  unfold Op.equal Op.maxDepth
  rw [Op.equalIn]
  simp only [Sem.run_bind, run_underlying ht]
  rfl
theorem eq_ptr {t el : TypeId} {a b : Option Addr} {w : World} (ht : P.underlying t = some (.pointer el)) (h : a = none ∨ b = none) : (Op.equal t (.pointer a) (.pointer b)).run P w = .ok (a.isNone && b.isNone) w := by
  unfold Op.equal Op.maxDepth
  rw [Op.equalIn]
  simp only [Sem.run_bind, run_underlying ht]
  rcases h with rfl | rfl
  · cases b <;> rfl
  · cases a <;> rfl
/-! bools -/
theorem yBoolEq {t t' : TypeId} {x y : Operand} {a b : Bool} (ht : P.underlying t = some .bool) (hx : ev e x = .bool a) (hy : ev e y = .bool b) : Yv P S e ⟨d, .binOp .eql t x y t', ty, ps, af, g⟩ (.bool (a == b)) := fun w _ => by
  simp [execOp, hx, hy, eqGuard, binOp, eq_bool ht]
theorem yBoolNe {t t' : TypeId} {x y : Operand} {a b : Bool} (ht : P.underlying t = some .bool) (hx : ev e x = .bool a) (hy : ev e y = .bool b) : Yv P S e ⟨d, .binOp .neq t x y t', ty, ps, af, g⟩ (.bool (!(a == b))) := fun w _ => by
  simp [execOp, hx, hy, eqGuard, binOp, eq_bool ht]
/-! pointers against nil -/
theorem yPNil {t t' el : TypeId} {x y : Operand} {a : Addr} (ht : P.underlying t = some (.pointer el)) (hx : ev e x = .pointer (some a)) (hy : ev e y = .pointer none) : Yv P S e ⟨d, .binOp .eql t x y t', ty, ps, af, g⟩ (.bool false) := fun w _ => by
  simp [execOp, hx, hy, eqGuard, binOp, eq_ptr ht (.inr rfl)]
theorem yPNil0 {t t' el : TypeId} {x y : Operand} (ht : P.underlying t = some (.pointer el)) (hx : ev e x = .pointer none) (hy : ev e y = .pointer none) : Yv P S e ⟨d, .binOp .eql t x y t', ty, ps, af, g⟩ (.bool true) := fun w _ => by
  simp [execOp, hx, hy, eqGuard, binOp, eq_ptr ht (.inr rfl)]
theorem yPNeNil {t t' el : TypeId} {x y : Operand} {a : Addr} (ht : P.underlying t = some (.pointer el)) (hx : ev e x = .pointer (some a)) (hy : ev e y = .pointer none) : Yv P S e ⟨d, .binOp .neq t x y t', ty, ps, af, g⟩ (.bool true) := fun w _ => by
  simp [execOp, hx, hy, eqGuard, binOp, eq_ptr ht (.inr rfl)]
theorem yPNeNil0 {t t' el : TypeId} {x y : Operand} (ht : P.underlying t = some (.pointer el)) (hx : ev e x = .pointer none) (hy : ev e y = .pointer none) : Yv P S e ⟨d, .binOp .neq t x y t', ty, ps, af, g⟩ (.bool false) := fun w _ => by
  simp [execOp, hx, hy, eqGuard, binOp, eq_ptr ht (.inr rfl)]
/-! texts -/
theorem size_str (l : List UInt8) : (⟨⟨l⟩⟩ : ByteArray).size = l.length := rfl
theorem toList_str (l : List UInt8) : (⟨⟨l⟩⟩ : ByteArray).toList = l := by
  simp
theorem yStrEq {t t' : TypeId} {x y : Operand} {a b : List UInt8} (hx : ev e x = str a) (hy : ev e y = str b) : Yv P S e ⟨d, .binOp .eql t x y t', ty, ps, af, g⟩ (.bool (a == b)) := fun w _ => by
  simp [execOp, hx, hy, str, eqGuard, binOp, Op.stringOp, toList_str]
theorem yStrNe {t t' : TypeId} {x y : Operand} {a b : List UInt8} (hx : ev e x = str a) (hy : ev e y = str b) : Yv P S e ⟨d, .binOp .neq t x y t', ty, ps, af, g⟩ (.bool (a != b)) := fun w _ => by
  simp [execOp, hx, hy, str, eqGuard, binOp, Op.stringOp, toList_str, bne]
theorem yStrLt {t t' : TypeId} {x y : Operand} {a b : List UInt8} (hx : ev e x = str a) (hy : ev e y = str b) : Yv P S e ⟨d, .binOp .lss t x y t', ty, ps, af, g⟩ (.bool (Op.bytesLess a b)) := fun w _ => by
  simp [execOp, hx, hy, str, eqGuard, binOp, Op.stringOp, toList_str]
theorem yStrLe {t t' : TypeId} {x y : Operand} {a b : List UInt8} (hx : ev e x = str a) (hy : ev e y = str b) : Yv P S e ⟨d, .binOp .leq t x y t', ty, ps, af, g⟩ (.bool (Op.bytesLess a b || a == b)) := fun w _ => by
  simp [execOp, hx, hy, str, eqGuard, binOp, Op.stringOp, toList_str]
theorem yStrAdd {t t' : TypeId} {x y : Operand} {a b : List UInt8} (hx : ev e x = str a) (hy : ev e y = str b) (h : a.length + b.length ≤ 9223372036854775807) : Yv P S e ⟨d, .binOp .add t x y t', ty, ps, af, g⟩ (str (a ++ b)) := fun w _ => by
  have h2 : ¬ (9223372036854775807 < ((a.length : Int) + b.length)) := by omega
  simp [execOp, hx, hy, str, eqGuard, binOp, Op.stringOp, IntKind.max, IntKind.signed, IntKind.bits, size_str, h2]
  rfl
theorem yStrLen {ts : List TypeId} {t : TypeId} {x : Operand} {a : List UInt8} (ht : P.underlying t = some .string) (hx : ev e x = str a) : Yv P S e ⟨d, .call ⟨.builtin .len, [x].toArray, (t :: ts).toArray⟩, ty, ps, af, g⟩ (.int .i64 a.length) := fun w _ => by
  simp [execOp, resolve, invoke, builtin, Builtin.len_, hx, str, run_underlying ht, goInt, size_str]
theorem yStrIdx {t : TypeId} {x y : Operand} {a : List UInt8} {k : IntKind} {i : Int} {u : UInt8} (ht : P.underlying t = some .string) (hx : ev e x = str a) (hy : ev e y = .int k i) (h0 : 0 ≤ i) (hu : a[i.toNat]? = some u) : Yv P S e ⟨d, .index t x y, ty, ps, af, g⟩ (.int .u8 u.toNat) := fun w _ => by
  have h1 : (⟨⟨a⟩⟩ : ByteArray)[i.toNat]? = some u := by
    obtain ⟨hlt, hh⟩ := List.getElem?_eq_some_iff.1 hu
    rw [getElem?_pos (⟨⟨a⟩⟩ : ByteArray) i.toNat (by rw [size_str]; exact hlt)]
    exact congrArg some hh
  simp [execOp, hx, hy, str, Instr.index, asIntOf, run_underlying ht, h0, h1]
theorem yStrCut {t : TypeId} {x : Operand} {lo hi : Option Operand} {a : List UInt8} {i j : Nat} (ht : P.underlying t = some .string) (hx : ev e x = str a)
    (hlo : match lo with | none => i = 0 | some y => ∃ k, ev e y = .int k (i : Int)) (hhi : match hi with | none => j = a.length | some y => ∃ k, ev e y = .int k (j : Int)) (hij : i ≤ j) (hj : j ≤ a.length) :
    Yv P S e ⟨d, .slice t x lo hi none, ty, ps, af, g⟩ (str ((a.drop i).take (j - i))) := fun w _ => by
  have hext : (⟨⟨a⟩⟩ : ByteArray).extract i j = ⟨⟨(a.drop i).take (j - i)⟩⟩ := by
    apply ByteArray.ext
    rw [ByteArray.data_extract]
    simp [List.extract_eq_take_drop]
  have h1 : (0 : Int) ≤ j ∧ (j : Int) ≤ (a.length : Int) := ⟨by omega, by omega⟩
  have h2 : (0 : Int) ≤ i ∧ (i : Int) ≤ (j : Int) := ⟨by omega, by omega⟩
  cases lo <;> cases hi <;> simp only [] at hlo hhi
  · subst hlo hhi
    simp [execOp, hx, str, Instr.sliceAt, Instr.slice, Instr.sliceBounds, run_underlying ht, ← hext, size_str]
  · subst hlo
    obtain ⟨k, hk⟩ := hhi
    simp [execOp, hx, hk, str, Instr.sliceAt, Instr.slice, Instr.sliceBounds, Instr.sliceBound, asIntOf, run_underlying ht, ← hext, size_str, h1, hj]
    exact hext
  · subst hhi
    obtain ⟨k, hk⟩ := hlo
    simp [execOp, hx, hk, str, Instr.sliceAt, Instr.slice, Instr.sliceBounds, Instr.sliceBound, asIntOf, run_underlying ht, ← hext, size_str, h2, hij]
  · obtain ⟨k, hk⟩ := hlo
    obtain ⟨k', hk'⟩ := hhi
    simp [execOp, hx, hk, hk', str, Instr.sliceAt, Instr.slice, Instr.sliceBounds, Instr.sliceBound, asIntOf, run_underlying ht, ← hext, size_str, h1, h2, hij, hj]
end
end Go.E
