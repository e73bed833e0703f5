import Derived.Test.YtfiambcocnceiaaE13
import Derived.DeepKeys
set_option linter.unusedVariables false
set_option linter.unusedSimpArgs false
namespace Go.E
open Go
/-! ### structs, as to equality -/
def cfit : TypeDesc → Value → Value → Option Bool
  | .int _, .int k a, .int k' b => if k = k' then some (decide (a = b)) else none
  | .string, .string a, .string b => some (decide (a.data.toList = b.data.toList))
  | .bool, .bool a, .bool b => some (decide (a = b))
  | _, _, _ => none
def ceqs : List TypeDesc → List Value → List Value → Option Bool
  | [], [], [] => some true
  | t :: ts, x :: xs, y :: ys => match cfit t x y, ceqs ts xs ys with
    | some a, some b => some (a && b)
    | _, _ => none
  | _, _, _ => none
def fdescs (P : Program) : List Field → Nat → Option (List TypeDesc)
  | [], _ => some []
  | f :: r, i => if f.name != "_" && f.offset == i && P.plainKey f.type then (P.underlying f.type).bind fun d => (fdescs P r (i + 1)).map fun ds => d :: ds else none
def sdescs (P : Program) (t : TypeId) : Option (List TypeDesc) :=
  if P.stoodInHeld t || P.eqGuardType P.depth t then none else match P.underlying t with
  | some (.struct fs) => fdescs P fs.toList 0
  | _ => none
theorem run_cfit {P : Program} {t : TypeId} {td : TypeDesc} (hu : P.underlying t = some td) {x y : Value} {r : Bool} (h : cfit td x y = some r) (d : Nat) (w : World) : (Op.equalIn (d + 1) t x y).run P w = .ok r w := by
  unfold cfit at h
  split at h
  · split at h
    · rename_i hk; cases h; subst hk; rw [run_equalIn_int w d t _ _ _ _ hu]; congr 1
    · cases h
  · cases h
    rename_i a b
    rw [run_equalIn_string w d t a b hu]
    congr 1
    have : ∀ a : ByteArray, a.toList = a.data.toList := fun a => ByteArray.toList_eq a
    rw [this, this, Bool.eq_iff_iff]; simp
  · cases h
    rw [run_equalIn_bool w d t _ _ hu]; congr 1
  · cases h
theorem run_ceqs {P : Program} (d : Nat) (w : World) : ∀ (fs : List Field) (i : Nat) (ds : List TypeDesc) (xs ys : List Value) (pre pre' : List Value) (r : Bool), fdescs P fs i = some ds → ceqs ds xs ys = some r → pre.length = i → pre'.length = i →
    (Op.eqFields (d + 1) ⟨pre ++ xs⟩ ⟨pre' ++ ys⟩ fs).run P w = .ok r w := by
  intro fs
  induction fs with
  | nil =>
    intro i ds xs ys pre pre' r hf hc _ _
    simp only [fdescs, Option.some.injEq] at hf; subst hf
    cases xs <;> cases ys <;> simp [ceqs] at hc
    subst hc; rfl
  | cons f q ih =>
    intro i ds xs ys pre pre' r hf hc hp hp'
    simp only [fdescs] at hf
    split at hf
    · rename_i hcond
      simp only [Bool.and_eq_true, bne_iff_ne, ne_eq, beq_iff_eq] at hcond
      cases hu : P.underlying f.type with
      | none => rw [hu] at hf; cases hf
      | some td =>
        rw [hu] at hf
        simp only [Option.bind_some, Option.map_eq_some_iff] at hf
        obtain ⟨ds', hd, rfl⟩ := hf
        cases xs with
        | nil => simp [ceqs] at hc
        | cons x xs =>
          cases ys with
          | nil => simp [ceqs] at hc
          | cons y ys =>
            simp only [ceqs] at hc
            cases h1 : cfit td x y with
            | none => rw [h1] at hc; cases hc
            | some a =>
              cases h2 : ceqs ds' xs ys with
              | none => rw [h1, h2] at hc; cases hc
              | some b =>
                rw [h1, h2] at hc
                simp only [Option.some.injEq] at hc
                subst hc
                have g1 : (⟨pre ++ x :: xs⟩ : Array Value)[f.offset]? = some x := by rw [hcond.1.2, ← hp]; simp
                have g2 : (⟨pre' ++ y :: ys⟩ : Array Value)[f.offset]? = some y := by rw [hcond.1.2, ← hp']; simp
                have h3 := ih (i + 1) ds' xs ys (pre ++ [x]) (pre' ++ [y]) b hd h2 (by simp [hp]) (by simp [hp'])
                simp only [List.append_assoc, List.singleton_append] at h3
                simp only [Op.eqFields, ne_eq, hcond.1.1, not_false_iff, if_true, Sem.run_bind, run_part_plain w hcond.2 g1, run_part_plain w hcond.2 g2, Result.andThen_ok, run_cfit hu h1]
                cases a with
                | false => simp
                | true => simpa using h3
    · cases hf
theorem run_equal_agg {P : Program} {t : TypeId} {ds : List TypeDesc} {xs ys : List Value} {r : Bool} (hs : sdescs P t = some ds) (hc : ceqs ds xs ys = some r) (w : World) : (Op.equal t (.agg ⟨xs⟩) (.agg ⟨ys⟩)).run P w = .ok r w := by
  unfold sdescs at hs
  split at hs
  · cases hs
  · rename_i h0
    simp only [Bool.or_eq_true, not_or, Bool.not_eq_true] at h0
    split at hs
    · rename_i fs hu
      have hfs : P.fieldsOf t = fs := by simp [Program.fieldsOf, hu]
      unfold Op.equal
      rw [show Op.maxDepth = 9999 + 1 from rfl, run_equalIn_struct w 9999 t _ _ (by rw [hfs]; exact hu) h0.1, hfs]
      exact run_ceqs 9998 w fs.toList 0 ds xs ys [] [] r hs hc rfl rfl
    · cases hs
section
variable {P : Program} {n : Nat} {ops : Array Oper} {rest : List Oper} {Q : Po} {S S0 : World → Prop} {e : Env} {c : Cx} {I : Im} {l : Ow} {t0 : Nat}
  {d : Option Tmp} {ty : TypeId} {ps : String} {af : Array Edge} {g : Option (Nat × Bool)}
theorem eqG_agg {op : BinOp} {t : TypeId} {x y : Operand} {a b : Array Value} {w : World} (h : P.eqGuardType P.depth t = false) : (eqGuard op t x y (.agg a) (.agg b)).run P w = .ok () w := by
  unfold eqGuard
  split <;> simp [h]
theorem sdescs_g {t : TypeId} {ds : List TypeDesc} (hs : sdescs P t = some ds) : P.eqGuardType P.depth t = false := by
  unfold sdescs at hs
  split at hs
  · cases hs
  · rename_i h0
    simp only [Bool.or_eq_true, not_or, Bool.not_eq_true] at h0
    exact h0.2
theorem yAggEq {t t' : TypeId} {x y : Operand} {ds : List TypeDesc} {xs ys : List Value} {r : Bool} (hs : sdescs P t = some ds) (hx : ev e x = .agg ⟨xs⟩) (hy : ev e y = .agg ⟨ys⟩) (hc : ceqs ds xs ys = some r) : Yv P S e ⟨d, .binOp .eql t x y t', ty, ps, af, g⟩ (.bool r) := fun w _ => by
  simp [execOp, hx, hy, eqG_agg (sdescs_g hs), binOp, run_equal_agg hs hc]
theorem yAggNe {t t' : TypeId} {x y : Operand} {ds : List TypeDesc} {xs ys : List Value} {r : Bool} (hs : sdescs P t = some ds) (hx : ev e x = .agg ⟨xs⟩) (hy : ev e y = .agg ⟨ys⟩) (hc : ceqs ds xs ys = some r) : Yv P S e ⟨d, .binOp .neq t x y t', ty, ps, af, g⟩ (.bool (!r)) := fun w _ => by
  simp [execOp, hx, hy, eqG_agg (sdescs_g hs), binOp, run_equal_agg hs hc]
theorem yMin {ts : Array TypeId} {x y : Operand} {k : IntKind} {a b : Int} (hx : ev e x = .int k a) (hy : ev e y = .int k b) : Yv P S e ⟨d, .call ⟨.builtin .min, [x, y].toArray, ts⟩, ty, ps, af, g⟩ (.int k (min a b)) := fun w _ => by
  have : (if b < a then b else a) = min a b := by split <;> omega
  simp [execOp, resolve, invoke, builtin, Builtin.min_, Builtin.min2, hx, hy, this]
theorem yMax {ts : Array TypeId} {x y : Operand} {k : IntKind} {a b : Int} (hx : ev e x = .int k a) (hy : ev e y = .int k b) : Yv P S e ⟨d, .call ⟨.builtin .max, [x, y].toArray, ts⟩, ty, ps, af, g⟩ (.int k (max a b)) := fun w _ => by
  have : (if a < b then b else a) = max a b := by split <;> omega
  simp [execOp, resolve, invoke, builtin, Builtin.max_, Builtin.max2, hx, hy, this]
theorem lookI {κ : Type} [DecidableEq κ] {dd : List (κ × Int)} {a : κ} {q : IntKind} : ((dget dd a).map fun z => Value.int q z).getD (.int q 0) = .int q ((dget dd a).getD 0) := by
  cases dget dd a <;> rfl
end
end Go.E
