import Derived.Test.YtfiambcocnceiaaE1
set_option linter.unusedVariables false
set_option linter.unusedSimpArgs false
namespace Go.E
open Go

/-! ### 5. One operation -/
/-- it yields v, in every world of S, and leaves the world alone -/
def Yv (P : Program) (S : World → Prop) (e : Env) (o : Oper) (v : Value) : Prop := ∀ w, S w → (execOp (ev e) o).run P w = .ok (.value v) w
def nthO : List Oper → Nat → Option Oper
  | [], _ => none
  | o :: _, 0 => some o
  | _ :: r, i + 1 => nthO r i
def opAt (ops : Array Oper) (i : Nat) : Option Oper := nthO ops.toList i
theorem opAt_eq (ops : Array Oper) (i : Nat) : opAt ops i = ops[i]? := by
  have : ∀ (l : List Oper) (i : Nat), nthO l i = l[i]? := by
    intro l; induction l with
    | nil => intro i; rfl
    | cons o r ih => intro i; cases i with
      | zero => rfl
      | succ i => simp [nthO, ih]
  unfold opAt; rw [this]; simp
/-- is the operation carried out? -/
def Wt (ops : Array Oper) (e : Env) (o : Oper) (b : Bool) : Prop :=
  match o.guard with
  | none => b = true
  | some (j, want) => (∃ d u, (opAt ops j).bind (·.dst) = some d ∧ e d = .bool u ∧ (u == want) = b) ∨ (b = false ∧ ∃ d, (opAt ops j).bind (·.dst) = some d ∧ e d = undef)
section
variable {P : Program} {n : Nat} {ops : Array Oper} {rest : List Oper} {o : Oper} {S : World → Prop} {Q : Po} {e : Env}
theorem Wt.spec {a : Act} {b : Bool} (h : Wt ops e o b) (hA : Ag n a e) (hb : ∀ d, inB n d = true ∨ d = none → True) (hops : ∀ (j d : Nat), (ops[j]?).bind (fun o : Oper => o.dst) = some d → d < n) : Region.wanted o (yielded ops a.tmps) = b := by
  unfold Wt at h
  unfold Region.wanted
  split at h
  · rename_i hg; rw [hg]; exact h.symm
  · rename_i j want hg
    rw [hg]
    rcases h with ⟨d, u, h1, h2, h3⟩ | ⟨rfl, d, h1, h2⟩
    · rw [opAt_eq] at h1
      have hd := hops j d h1
      have ht : a.tmps[d]? = some (.bool u) := by
        have := hA.tmps d
        rw [h2, Array.getD_eq_getD_getElem?, Array.getElem?_eq_getElem (by rw [hA.size]; exact hd)] at this
        rw [Array.getElem?_eq_getElem (by rw [hA.size]; exact hd)]
        simpa using this
      have hy : yielded ops a.tmps j = some u := by
        unfold yielded; rw [h1]; simp [ht]
      simp only [hy, ← h3]
      cases u <;> cases want <;> rfl
    · rw [opAt_eq] at h1
      have hd := hops j d h1
      have ht : a.tmps[d]? = some undef := by
        have := hA.tmps d
        rw [h2, Array.getD_eq_getD_getElem?, Array.getElem?_eq_getElem (by rw [hA.size]; exact hd)] at this
        rw [Array.getElem?_eq_getElem (by rw [hA.size]; exact hd)]
        simpa using this
      have hy : yielded ops a.tmps j = none := by
        unfold yielded; rw [h1]; simp [ht, undef]
      simp only [hy]
      cases want <;> rfl
/-- every temporary of the region is one -/
def bndL (n : Nat) : List Oper → Bool
  | [] => true
  | o :: r => inB n o.dst && bndL n r
theorem bndL_mem {l : List Oper} (h : bndL n l = true) : ∀ o, o ∈ l → inB n o.dst = true := by
  induction l with
  | nil => intro o ho; cases ho
  | cons x r ih =>
    intro o ho
    simp only [bndL, Bool.and_eq_true] at h
    rcases List.mem_cons.1 ho with rfl | ho
    · exact h.1
    · exact ih h.2 o ho
def bnd (n : Nat) (ops : Array Oper) : Bool := bndL n ops.toList
theorem bnd_spec (h : bnd n ops = true) : ∀ (j d : Nat), (ops[j]?).bind (fun o : Oper => o.dst) = some d → d < n := by
  intro j d hj
  cases ho : ops[j]? with
  | none => simp [ho] at hj
  | some o =>
    simp [ho] at hj
    have := bndL_mem h o (by have := Array.mem_of_getElem? ho; simpa using this)
    rw [hj] at this
    simpa [inB] using this
theorem TL.wl (h : TL P n ops rest S Q e) {w : World} (hw : S w) : WL P n ops rest Q e w := h w hw
/-- the general step: what the operation does to each world of S -/
theorem TL.step (hg : o.guard = none) (hd : inB n o.dst = true)
    (h : ∀ w, S w → ∃ v w', (execOp (ev e) o).run P w = .ok (.value v) w' ∧ WL P n ops rest Q (updO e o.dst v) w') : TL P n ops (o :: rest) S Q e := by
  intro w hw a hA
  obtain ⟨v, w', hr, hk⟩ := h w hw
  refine wpList_plain hg fun K hK => ?_
  simp only [Oper.wp, hA.eval, hr, Oper.upon]
  exact hK _ _ (hk _ (hA.put o.dst v hd))
theorem TL.stepS (hg : o.guard = none) (hd : o.dst = none)
    (h : ∀ w, S w → ∃ w', (execOp (ev e) o).run P w = .ok .skip w' ∧ WL P n ops rest Q e w') : TL P n ops (o :: rest) S Q e := by
  intro w hw a hA
  obtain ⟨w', hr, hk⟩ := h w hw
  refine wpList_plain hg fun K hK => ?_
  simp only [Oper.wp, hA.eval, hr, Oper.upon, hd, Act.put]
  exact hK _ _ (hk _ hA)
/-- a value -/
theorem sv {v : Value} (hy : Yv P S e o v) (hg : o.guard = none) (hd : inB n o.dst = true) (h : TL P n ops rest S Q (updO e o.dst v)) : TL P n ops (o :: rest) S Q e :=
  TL.step hg hd fun w hw => ⟨v, w, hy w hw, h w hw⟩
/-- a value, behind a guard -/
theorem sg {v : Value} (hy : Yv P S e o v) (hb : bnd n ops = true) (hW : Wt ops e o true) (hd : inB n o.dst = true) (h : TL P n ops rest S Q (updO e o.dst v)) : TL P n ops (o :: rest) S Q e := by
  intro w hw a hA
  have hwt := Wt.spec hW hA (fun _ _ => trivial) (bnd_spec hb)
  refine wpList_step fun K hK => ?_
  rw [if_pos hwt]
  simp only [Oper.wp, hA.eval, hy w hw, Oper.upon]
  exact hK _ _ (h w hw _ (hA.put o.dst v hd))
/-- passed over -/
theorem sk (hb : bnd n ops = true) (hW : Wt ops e o false) (hd : inB n o.dst = true) (h : TL P n ops rest S Q (updO e o.dst undef)) : TL P n ops (o :: rest) S Q e := by
  intro w hw a hA
  have hwt := Wt.spec hW hA (fun _ _ => trivial) (bnd_spec hb)
  refine wpList_step fun K hK => ?_
  rw [if_neg (by rw [hwt]; simp)]
  exact hK _ _ (h w hw _ (hA.put o.dst undef hd))

/-! ### 6. Regions that only look: one walk in the text's order, drawn or not -/
def QL (P : Program) (n : Nat) (ops : Array Oper) (S : World → Prop) : List Oper → Env → (Env → Prop) → Prop
  | [], e, K => K e
  | o :: rest, e, K => inB n o.dst = true ∧ ((Wt ops e o true ∧ ∃ v, (∀ a, Ag n a e → ∀ w, S w → o.quietAt P a S w v) ∧ QL P n ops S rest (updO e o.dst v) K) ∨ (Wt ops e o false ∧ QL P n ops S rest (updO e o.dst undef) K))
theorem QL.nil {K : Env → Prop} (h : K e) : QL P n ops S [] e K := h
theorem qv {K : Env → Prop} {v : Value} (hy : Yv P S e o v) (hW : Wt ops e o true) (hd : inB n o.dst = true) (h : QL P n ops S rest (updO e o.dst v) K) : QL P n ops S (o :: rest) e K :=
  ⟨hd, .inl ⟨hW, v, fun a hA w hw => by unfold Oper.quietAt; rw [hA.eval, hy w hw]; exact ⟨rfl, rfl⟩, h⟩⟩
theorem qk {K : Env → Prop} (hW : Wt ops e o false) (hd : inB n o.dst = true) (h : QL P n ops S rest (updO e o.dst undef) K) : QL P n ops S (o :: rest) e K := ⟨hd, .inr ⟨hW, h⟩⟩
theorem QL.mono {K K' : Env → Prop} (hK : ∀ e, K e → K' e) : ∀ (l : List Oper) (e : Env), QL P n ops S l e K → QL P n ops S l e K'
  | [], e, h => hK e h
  | o :: l, e, ⟨hd, h⟩ => ⟨hd, h.imp (fun ⟨a, v, b, c⟩ => ⟨a, v, b, QL.mono hK l _ c⟩) (fun ⟨a, c⟩ => ⟨a, QL.mono hK l _ c⟩)⟩
theorem QL.wp (hb : bnd n ops = true) {K : Env → Prop} : ∀ (l : List Oper) (e : Env) (a : Act), QL P n ops S l e K → Ag n a e → wpQuiet P ops S (fun a' => ∃ e', Ag n a' e' ∧ K e') l a
  | [], e, a, h, hA => ⟨e, hA, h⟩
  | o :: l, e, a, ⟨hd, h⟩, hA => by
    unfold wpQuiet
    rcases h with ⟨hW, v, hq, h⟩ | ⟨hW, h⟩
    · rw [if_pos (Wt.spec hW hA (fun _ _ => trivial) (bnd_spec hb))]
      exact ⟨v, fun w hw => hq a hA w hw, QL.wp hb l _ _ h (hA.put o.dst v hd)⟩
    · rw [if_neg (by rw [Wt.spec hW hA (fun _ _ => trivial) (bnd_spec hb)]; simp)]
      exact QL.wp hb l _ _ h (hA.put o.dst undef hd)
theorem wpList_of_quiet {Q' : Exit → Act → World → Prop} {R : Act → Prop} (hQ : ∀ a w, S w → R a → Q' .normal a w) : ∀ (l : List Oper) (a : Act) (w : World), S w → wpQuiet P ops S R l a → wpList P ops Q' l a w
  | [], a, w, hw, h => hQ a w hw h
  | o :: l, a, w, hw, h => by
    unfold wpQuiet at h
    refine wpList_step fun K hK => ?_
    by_cases hwt : Region.wanted o (yielded ops a.tmps) = true
    · rw [if_pos hwt] at h ⊢
      exact Oper.wp_of_quiet hw (fun a' w' hw' hk => hK a' w' (wpList_of_quiet hQ l a' w' hw' hk)) h
    · rw [if_neg hwt] at h ⊢
      exact hK _ _ (wpList_of_quiet hQ l _ w hw h)
theorem wpQuiet_mono' {R R' : Act → Prop} (hR : ∀ a, R a → R' a) : ∀ (l : List Oper) (a : Act), wpQuiet P ops S R l a → wpQuiet P ops S R' l a
  | [], a, h => hR a h
  | o :: l, a, h => by
    unfold wpQuiet at h ⊢
    split
    · rename_i hw; rw [if_pos hw] at h; exact Oper.quiet_mono (fun a h => wpQuiet_mono' hR l a h) h
    · rename_i hw; rw [if_neg hw] at h; exact wpQuiet_mono' hR l _ h
/-- a region that does not draw -/
theorem TC.quiet {id : Nat} {l : List Oper} (hb : bnd n l.toArray = true) (h : QL P n l.toArray S l e (fun e' => TQ S Q .normal e')) : TC P n (.region id l.toArray false) S Q e := by
  intro w hw a hA
  refine wp_region_lit (wpList_of_quiet (S := S) ?_ l a w hw (QL.wp hb l e a h hA))
  intro a' w' hw' ⟨e', hA', hk⟩
  exact ⟨e', hA', hk w' hw'⟩
/-- a region that draws -/
theorem TC.quietD {id : Nat} {l : List Oper} (hS : ∀ w k, S w → S { w with drawn := k }) (hm : P.follows .mixedOrders = true) (hx : Region.lexB .any l.toArray = true) (hb : bnd n l.toArray = true) (h : QL P n l.toArray S l e (fun e' => TQ S Q .normal e')) : TC P n (.region id l.toArray true) S Q e := by
  intro w hw a hA
  refine wp_region_quiet (C := S) hm hx (hS _ _ hw) (by
    have := QL.wp hb l e a h hA
    refine wpQuiet_mono' ?_ _ _ (by simpa using this)
    intro a' ⟨e', hA', hk⟩ w' hw'
    exact ⟨e', hA', hk w' hw'⟩)
end
end Go.E
