import Derived.Test.YtfiambcocnceiaaE16
set_option linter.unusedVariables false
set_option linter.unusedSimpArgs false
set_option linter.unusedSectionVars false
namespace Go.E
open Go
/-! ### elements of a slice of the call's own, written -/
theorem set_cells {α : Type} {enc : α → List Value} {k : Nat} (hk : ∀ x, (enc x).length = k) : ∀ (xs : List α) (i : Nat) (u : α), i < xs.length → (xs.flatMap enc).take (i * k) ++ enc u ++ (xs.flatMap enc).drop (i * k + k) = (xs.set i u).flatMap enc
  | [], i, u, h => by simp at h
  | x :: r, 0, u, h => by simp [List.drop_append, hk]
  | x :: r, i + 1, u, h => by
    have ih := set_cells hk r i u (by simpa using h)
    have e1 : (i + 1) * k = (enc x).length + i * k := by rw [hk, Nat.add_mul, Nat.one_mul, Nat.add_comm]
    simp only [List.flatMap_cons, List.set_cons_succ]
    rw [← ih, e1, List.take_append, List.drop_append]
    have e2 : (enc x).length + i * k - (enc x).length = i * k := by omega
    have e3 : (enc x).length + i * k + k - (enc x).length = i * k + k := by omega
    rw [List.take_of_length_le (by omega), List.drop_eq_nil_of_le (by omega), e2, e3]
    simp
section
variable {α : Type} {enc : α → List Value} {P : Program} {n : Nat} {ops : Array Oper} {rest : List Oper} {Q : Po} {S S0 : World → Prop} {e : Env} {c : Cx} {I : Im} {l l0 l1 : Ow} {t0 : Nat}
  {d : Option Tmp} {ty : TypeId} {ps : String} {af : Array Edge} {g : Option (Nat × Bool)}
theorem OA.hi {el : TypeId} {k : Nat} {m : Ow} {a : Option Addr} {cap : Nat} {xs : List α} (hk : ∀ x, (enc x).length = k) (h : OA el enc k m a cap xs) {j : Nat} (hj : j ≤ xs.length) : OA el enc k m a cap (xs.take j) := by
  obtain ⟨h1, h2, h3, h4⟩ := h
  have e1 : (xs.take j).length = j := by simp; omega
  refine ⟨flat_len hk _, by omega, h3, ?_⟩
  rcases h4 with h4 | ⟨b, cs, fr, rfl, rfl, h5, h6, h7⟩
  · exact .inl h4
  · refine .inr ⟨b, cs, fr, rfl, rfl, h5, ?_, h7⟩
    have h8 : (xs.flatMap enc).take (j * k) = (xs.take j).flatMap enc := by
      have h9 : xs.flatMap enc = (xs.take j).flatMap enc ++ (xs.drop j).flatMap enc := by rw [← List.flatMap_append, List.take_append_drop]
      rw [h9]
      have h10 : ((xs.take j).flatMap enc).length = j * k := by rw [flat_len hk, e1]
      rw [← h10, List.take_left]
    rw [e1, ← h8, ← h6, List.take_take, Nat.min_eq_left (Nat.mul_le_mul_right _ hj)]
/-- one element is written: two operations at once -/
theorem sStA {t el : TypeId} {k bb : Nat} {agg : Bool} {z : Value} {x y v : Operand} {m : Ow} {a : Option Addr} {cap : Nat} {kk : IntKind} {i : Int} {xs : List α} {d1 : Tmp} (u : α)
    {ty1 ty2 : TypeId} {ps1 ps2 : String} {af1 af2 : Array Edge}
    (ht : P.underlying t = some (.slice el)) (hel : TI P el k agg z bb) (hk : ∀ x, (enc x).length = k) (hx : ev e x = .slice a xs.length cap) (hos : OA el enc k m a cap xs) [hf : Fm l0 m l] (hy : ev e y = .int kk i) (h0 : 0 ≤ i) (hi : i < xs.length)
    (hv : ∀ p, (ev (upd e d1 p) v).cells = ⟨enc u⟩) (h1 : (enc u).all (·.oneCell') = true) (hd1 : Nat.blt d1 n = true) (h : ∀ m' p, OA el enc k m' a cap (xs.set i.toNat u) → TL P n ops rest (St c I (m' ++ l)) Q (upd e d1 p)) :
    TL P n ops (⟨some d1, .indexAddr t x y, ty1, ps1, af1, none⟩ :: ⟨none, .store el (.tmp d1) v, ty2, ps2, af2, none⟩ :: rest) (St c I l0) Q e := by
  refine TL.pre hf.w ?_
  obtain ⟨o1, o2, o3, ⟨_, _, h00⟩ | ⟨b, cs, fr, rfl, rfl, h3, h4, h5⟩⟩ := hos
  · omega
  refine sv (yIA ht hel hx hy h0 hi) rfl hd1 ?_
  have hn : i.toNat < xs.length := by omega
  have hle : i.toNat * k + k ≤ cap * k := by
    have : i.toNat + 1 ≤ cap := by omega
    calc i.toNat * k + k = (i.toNat + 1) * k := by rw [Nat.add_mul, Nat.one_mul]
      _ ≤ cap * k := Nat.mul_le_mul_right _ this
  have hle2 : i.toNat * k + k ≤ xs.length * k := by
    calc i.toNat * k + k = (i.toNat + 1) * k := by rw [Nat.add_mul, Nat.one_mul]
      _ ≤ xs.length * k := Nat.mul_le_mul_right _ hn
  refine sStore (cs' := cs.take (i.toNat * k) ++ enc u ++ cs.drop (i.toNat * k + k)) hel (ev_upd _ _ _) rfl (hv _) (hk u) h1 (by rw [h3]; exact h5) (by rw [h3]; omega) (by simp) rfl ?_
  refine h [(b, .cells ⟨cs.take (i.toNat * k) ++ enc u ++ cs.drop (i.toNat * k + k)⟩ el fr)] _ ⟨flat_len hk _, by simpa using o2, o3, .inr ⟨b, _, fr, rfl, rfl, ?_, ?_, h5⟩⟩
  · simp only [List.length_append, List.length_take, List.length_drop, hk, h3]; omega
  · rw [List.length_set, ← set_cells hk xs _ u hn]
    have e1 : xs.flatMap enc = cs.take (xs.length * k) := h4.symm
    rw [e1]
    have hl1 : (cs.take (i.toNat * k)).length = i.toNat * k := by rw [List.length_take, h3]; omega
    rw [List.take_take, Nat.min_eq_left (by omega)]
    rw [List.append_assoc, List.append_assoc, List.take_append, hl1, List.take_of_length_le (by omega)]
    congr 1
    rw [List.take_append, hk, List.take_of_length_le (by rw [hk]; omega)]
    congr 1
    rw [List.drop_take]
    congr 1; omega
/-- what lies behind the first i is cleared -/
theorem sClearT {ts : List TypeId} {t el : TypeId} {k bb : Nat} {agg : Bool} {z : Value} {zs : List Value} {x : Operand} {m : Ow} {a : Option Addr} {cap i : Nat} {xs : List α}
    (ht : P.underlying t = some (.slice el)) (hel : TI P el k agg z bb) (hk : ∀ x, (enc x).length = k) (hz : z.cells = ⟨zs⟩) (hz1 : zs.all (·.oneCell') = true) (hi : i ≤ xs.length) (hx : ev e x = .slice (cutA a i k cap) (xs.drop i).length (cap - i)) (hos : OA el enc k m a cap xs) [hf : Fm l0 m l] (hd : inB n d = true)
    (h : ∀ m', OA el enc k m' a cap (xs.take i) → TL P n ops rest (St c I (m' ++ l)) Q (updO e d (.tuple #[]))) :
    TL P n ops (⟨d, .call ⟨.builtin .clear, [x].toArray, (t :: ts).toArray⟩, ty, ps, af, none⟩ :: rest) (St c I l0) Q e := by
  refine TL.pre hf.w ?_
  rw [List.length_drop] at hx
  have hos' := hos
  obtain ⟨o1, o2, o3, h4⟩ := hos
  by_cases h0 : xs.length - i = 0
  · refine TL.step rfl hd fun w hw => ⟨_, w, ?_, h m (OA.hi hk hos' hi) w hw⟩
    rw [h0] at hx
    simp only [execOp, resolve, invoke, builtin, List.map_toArray, List.map_cons, List.map_nil, hx]
    cases hca : cutA a i k cap <;> simp [Builtin.clear_, run_underlying ht]
  rcases h4 with ⟨_, _, h00⟩ | ⟨b, cs, fr, rfl, rfl, h3, h4, h5⟩
  · omega
  have hca : cutA (some (⟨b, 0, none⟩ : Addr)) i k cap = some ⟨b, i * k, none⟩ := by
    unfold cutA; rw [if_neg (by omega)]; simp [addr_add]
  rw [hca] at hx
  have hle : xs.length * k ≤ cap * k := Nat.mul_le_mul_right _ o2
  have hik : i * k ≤ xs.length * k := Nat.mul_le_mul_right _ hi
  have hzl : zs.length = k := by have := hel.zs; rw [hz] at this; exact this
  let Z : List Value := (Builtin.zeroCells z.cells (xs.length - i)).toList
  have hZl : Z.length = (xs.length - i) * k := by
    show (Builtin.zeroCells z.cells (xs.length - i)).toList.length = _
    rw [Array.length_toList, size_zeroCells, hz]
    show _ * zs.length = _
    rw [hzl]
  have hZ1 : ∀ v ∈ Z, v.oneCell' = true := by
    intro v hv
    have hv' : v ∈ Builtin.zeroCells z.cells (xs.length - i) := Array.mem_toList_iff.1 hv
    unfold Builtin.zeroCells at hv'
    rw [hz] at hv'
    simp only [Array.mem_map, Array.mem_range] at hv'
    obtain ⟨j, hj, rfl⟩ := hv'
    have hlt : j % zs.length < zs.length := by
      apply Nat.mod_lt
      rcases Nat.eq_zero_or_pos zs.length with h | h
      · simp [h] at hj
      · exact h
    have h7 : (⟨zs⟩ : Array Value)[j % (⟨zs⟩ : Array Value).size]! = zs[j % zs.length] := by
      rw [getElem!_pos (⟨zs⟩ : Array Value) (j % (⟨zs⟩ : Array Value).size) hlt]; rfl
    rw [h7]
    rw [List.all_eq_true] at hz1
    exact hz1 _ (List.getElem_mem _)
  have hsum : i * k + Z.length = xs.length * k := by rw [hZl, ← Nat.add_mul]; congr 1; omega
  refine TL.step rfl hd fun w hw => ⟨_, w.setRow b ⟨cs.take (i * k) ++ Z ++ cs.drop (i * k + Z.length)⟩, ?_, h [(b, .cells ⟨cs.take (i * k) ++ Z ++ cs.drop (i * k + Z.length)⟩ el fr)] ⟨flat_len hk _, by simp; omega, o3, .inr ⟨b, _, fr, rfl, rfl, ?_, ?_, h5⟩⟩ _ hw.row⟩
  · have hst := run_storeCells_fz P b (i * k) el fr Z 0 ⟨cs⟩ w hw.hd (by rw [show (⟨cs⟩ : Array Value).size = cs.length from rfl, h3]; exact h5) (by show i * k + 0 + Z.length ≤ cs.length; omega) hZ1
    simp only [Nat.add_zero] at hst
    have hne : xs.length - i ≠ 0 := h0
    obtain ⟨q, hq⟩ : ∃ q, xs.length - i = q + 1 := ⟨xs.length - i - 1, by omega⟩
    simp only [execOp, resolve, invoke, builtin, List.map_toArray, List.map_cons, List.map_nil, hx]
    have hcl : (Builtin.clear_ (t :: ts).toArray ty #[.slice (some ⟨b, i * k, none⟩) (xs.length - i) (cap - i)]).run P w = .ok (.tuple #[]) (w.setRow b ⟨cs.take (i * k) ++ Z ++ cs.drop (i * k + Z.length)⟩) := by
      rw [hq]
      have hst' : (storeCells ⟨b, i * k, none⟩ (Builtin.zeroCells z.cells (q + 1)).toList).run P w = .ok () (w.setRow b ⟨cs.take (i * k) ++ Z ++ cs.drop (i * k + Z.length)⟩) := by
        have : Z = (Builtin.zeroCells z.cells (q + 1)).toList := by show (Builtin.zeroCells z.cells (xs.length - i)).toList = _; rw [hq]
        rw [← this]; simpa using hst
      simp [Builtin.clear_, run_underlying ht, hel.zero, hst']
    simp [hcl]
  · simp only [List.length_append, List.length_take, List.length_drop, h3]; omega
  · have e1 : (xs.take i).length = i := by simp; omega
    rw [e1]
    have hl1 : (cs.take (i * k)).length = i * k := by rw [List.length_take, h3]; omega
    have h12 : ∀ X : List Value, (cs.take (i * k) ++ X).take (i * k) = cs.take (i * k) := fun X => by
      have := List.take_left (l₁ := cs.take (i * k)) (l₂ := X); rwa [hl1] at this
    rw [List.append_assoc, h12]
    have h9 : xs.flatMap enc = (xs.take i).flatMap enc ++ (xs.drop i).flatMap enc := by rw [← List.flatMap_append, List.take_append_drop]
    have h10 : ((xs.take i).flatMap enc).length = i * k := by rw [flat_len hk, e1]
    have h11 : cs.take (i * k) = (cs.take (xs.length * k)).take (i * k) := by rw [List.take_take, Nat.min_eq_left hik]
    rw [h11, h4, h9, ← h10, List.take_left]
end
end Go.E
