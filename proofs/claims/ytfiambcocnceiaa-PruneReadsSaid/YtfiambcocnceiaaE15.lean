import Derived.Test.YtfiambcocnceiaaE14
set_option linter.unusedVariables false
set_option linter.unusedSimpArgs false
namespace Go.E
open Go
theorem SA.mono {α : Type} {S S' : World → Prop} {enc : α → List Value} {k : Nat} {a : Option Addr} {xs : List α} (h : SA S enc k a xs) (hS : ∀ w, S' w → S w) : SA S' enc k a xs := SlR.mono h hS
section
variable {α : Type} {enc : α → List Value} {P : Program} {S : World → Prop} {e : Env} {d : Option Tmp} {ty : TypeId} {ps : String} {af : Array Edge} {g : Option (Nat × Bool)}
theorem yCutHiA {t el : TypeId} {k bb : Nat} {agg : Bool} {z : Value} {x y : Operand} {a : Option Addr} {cap : Nat} {kk : IntKind} {j : Nat} (xs : List α) (ht : P.underlying t = some (.slice el)) (hs : TI P el k agg z bb) (hx : ev e x = .slice a xs.length cap) (hy : ev e y = .int kk j) (hj : j ≤ xs.length) (hc : xs.length ≤ cap) :
    Yv P S e ⟨d, .slice t x none (some y) none, ty, ps, af, g⟩ (.slice a (xs.take j).length cap) := by
  rw [show (xs.take j).length = j from by simp; omega]
  exact yCutHi ht hs hx hy (by omega)
theorem yCutHiMA {t el : TypeId} {k bb : Nat} {agg : Bool} {z : Value} {x y u : Operand} {a : Option Addr} {cap : Nat} {kk kk' : IntKind} {j m : Nat} (xs : List α) (ht : P.underlying t = some (.slice el)) (hs : TI P el k agg z bb) (hx : ev e x = .slice a xs.length cap) (hy : ev e y = .int kk j) (hu : ev e u = .int kk' m) (hj : j ≤ xs.length) (hjm : j ≤ m) (hc : m ≤ cap) :
    Yv P S e ⟨d, .slice t x none (some y) (some u), ty, ps, af, g⟩ (.slice a (xs.take j).length m) := by
  rw [show (xs.take j).length = j from by simp; omega]
  exact yCutHiM ht hs hx hy hu hjm hc
theorem yCutLoA {t el : TypeId} {k bb : Nat} {agg : Bool} {z : Value} {x y : Operand} {a : Option Addr} {cap : Nat} {kk : IntKind} {i : Nat} (xs : List α) (ht : P.underlying t = some (.slice el)) (hs : TI P el k agg z bb) (hx : ev e x = .slice a xs.length cap) (hy : ev e y = .int kk i) (hi : i ≤ xs.length) :
    Yv P S e ⟨d, .slice t x (some y) none none, ty, ps, af, g⟩ (.slice (cutA a i k cap) (xs.drop i).length (cap - i)) := by
  rw [List.length_drop]
  exact yCutLo ht hs hx hy hi
theorem SA.hi {k : Nat} {a : Option Addr} {xs : List α} (hk : ∀ x, (enc x).length = k) (h : SA S enc k a xs) {j : Nat} (hj : j ≤ xs.length) : SA S enc k a (xs.take j) := by
  have := SlR.hi h hj
  unfold SA
  have e1 : (xs.take j).length = j := by simp; omega
  have e2 : (xs.flatMap enc).take (j * k) = (xs.take j).flatMap enc := by
    have h1 : xs.flatMap enc = (xs.take j).flatMap enc ++ (xs.drop j).flatMap enc := by rw [← List.flatMap_append, List.take_append_drop]
    rw [h1]
    have h2 : ((xs.take j).flatMap enc).length = j * k := by rw [flat_len hk, e1]
    rw [← h2, List.take_left]
  rw [e1, ← e2]; exact this
theorem SA.lo {k : Nat} {a : Option Addr} {xs : List α} (hk : ∀ x, (enc x).length = k) (h : SA S enc k a xs) {i cap : Nat} (hi : i ≤ xs.length) (hc : xs.length ≤ cap) : SA S enc k (cutA a i k cap) (xs.drop i) := by
  have := SlR.lo h hi hc
  unfold SA
  have e1 : (xs.drop i).length = xs.length - i := by simp
  have e2 : (xs.flatMap enc).drop (i * k) = (xs.drop i).flatMap enc := by
    have h1 : xs.flatMap enc = (xs.take i).flatMap enc ++ (xs.drop i).flatMap enc := by rw [← List.flatMap_append, List.take_append_drop]
    rw [h1]
    have h2 : ((xs.take i).flatMap enc).length = i * k := by rw [flat_len hk]; congr 1; simp; omega
    rw [← h2, List.drop_left]
  rw [e1, ← e2]; exact this
end
end Go.E
