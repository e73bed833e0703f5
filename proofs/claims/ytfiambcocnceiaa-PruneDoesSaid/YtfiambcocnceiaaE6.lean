import Derived.Test.YtfiambcocnceiaaE5
set_option linter.unusedVariables false
set_option linter.unusedSimpArgs false
namespace Go.E
open Go

/-! ### 10. Regions that draw their order and do more than look -/
section
variable {P : Program} {ops : Array Oper} {Q : Exit → Act → World → Prop} {md : Region.Mode} {S : World → Prop} {tail : Nat → Bool}
def wpAnyT (P : Program) (md : Region.Mode) (ops : Array Oper) (Q : Exit → Act → World → Prop) (S : World → Prop) (tail : Nat → Bool) : Nat → Array Bool → Act → World → Prop
  | 0, listed, a, w => Region.ready md ops listed = [] ∧ Q .normal a w
  | fuel + 1, listed, a, w =>
    (Region.ready md ops listed = [] → Q .normal a w) ∧
    ∀ i ∈ Region.ready md ops listed, wpOp P ops Q i (fun a' w' => (tail i = false → S w') ∧ wpAnyT P md ops Q S tail fuel (listed.setIfInBounds i true) a' w') a w
theorem wpAny_of_T : ∀ (fuel : Nat) (listed : Array Bool) (a : Act) (w : World), wpAnyT P md ops Q S tail fuel listed a w → wpAny P md ops Q fuel listed a w
  | 0, _, _, _, h => h
  | fuel + 1, _, _, _, h => ⟨h.1, fun i hi => wpOp_mono (fun a' w' h' => wpAny_of_T fuel _ a' w' h'.2) (h.2 i hi)⟩
theorem wpAnyT_first {i : Nat} {oi : Oper} {v : Value} (hi : ops[i]? = some oi) (hsel : ∀ (j : Nat) (o : Oper) cs b, ops[j]? = some o → o.op ≠ .select cs b)
    (hQ : ∀ c a w, Q (.panic c) (a.put oi.dst v) w → Q (.panic c) a w) (htail : ∀ j oj, ops[j]? = some oj → tail j = true → ∃ e ∈ oj.after, Region.binds md e = true ∧ e.on = i) (hti : tail i = false) :
    ∀ (fuel : Nat) (listed : Array Bool) (a : Act) (w : World),
      (∀ j oj, ops[j]? = some oj → j ≠ i → listed.getD j true = false → (∀ e ∈ oj.after, Region.binds md e = true → e.on ≠ i) → oi.apart ops oj = true) →
      i ∈ Region.ready md ops listed → YieldsIf P ops S oi v a → S w →
      wpAnyT P md ops Q S tail fuel (listed.setIfInBounds i true) (a.put oi.dst v) w → wpAnyT P md ops Q S tail (fuel + 1) listed a w := by
  intro fuel
  induction fuel with
  | zero =>
    intro listed a w _ hr hy hS H
    refine ⟨fun h => (by rw [h] at hr; cases hr), fun j hj => ?_⟩
    by_cases hji : j = i
    · subst hji; exact hy.wpOp hi hS ⟨fun _ => hS, H⟩
    · have := ready_mono hj hji
      rw [H.1] at this
      cases this
  | succ fuel ih =>
    intro listed a w hfree hr hy hS H
    refine ⟨fun h => (by rw [h] at hr; cases hr), fun j hj => ?_⟩
    by_cases hji : j = i
    · subst hji; exact hy.wpOp hi hS ⟨fun _ => hS, H⟩
    · have h1 := H.2 j (ready_mono hj hji)
      obtain ⟨hjun, oj, hoj, hall⟩ := mem_ready.1 hj
      have hnot : ∀ e ∈ oj.after, Region.binds md e = true → e.on ≠ i := fun e he hb heq => by
        have h1 := hall e he hb
        have h0 := (mem_ready.1 hr).1
        rw [heq] at h1
        rcases Nat.lt_or_ge i listed.size with h' | h'
        · simp [h'] at h0 h1; rw [h0] at h1; cases h1
        · simp [Array.getElem?_eq_none h'] at h1
      have htj : tail j = false := by
        cases ht : tail j with
        | false => rfl
        | true => obtain ⟨e, he, hb, hon⟩ := htail j oj hoj ht; exact absurd hon (hnot e he hb)
      have h2 := wpOp_putIf hoj (hfree j oj hoj hji hjun hnot) (fun cs b => hsel i oi cs b hi) (fun cs b => hsel j oj cs b hoj) hQ hy h1
      have hfree' : ∀ k ok, ops[k]? = some ok → k ≠ i → (listed.setIfInBounds j true).getD k true = false →
          (∀ e ∈ ok.after, Region.binds md e = true → e.on ≠ i) → oi.apart ops ok = true := fun k ok hk hki hun hno => by
        refine hfree k ok hk hki ?_ hno
        by_cases hjk : j = k
        · subst hjk; exact hjun
        · rw [getD_set_ne true hjk] at hun; exact hun
      refine wpOp_mono (fun a' w' h3 => ⟨h3.2.1, ih (listed.setIfInBounds j true) a' w' hfree' (ready_mono hr (Ne.symm hji)) h3.1 (h3.2.1 htj) ?_⟩) h2
      rw [Array.setIfInBounds_comm _ _ hji]
      exact h3.2.2
end

/-- an order in which one walk serves all: q: an operation that only looks, taken first; x: the only one that may come up; y: one of two -/
inductive Sch where
  | done
  | q (i : Nat) (s : Sch)
  | x (i : Nat) (s : Sch)
  | y (i : Nat) (s : Sch) (j : Nat) (t : Sch)
def waits (ops : Array Oper) (j i : Nat) : Bool := match ops[j]? with | some oj => oj.after.any fun e => Region.binds .any e && e.on == i | none => false
def chk (ops : Array Oper) (t0 : Nat) : Sch → Nat → Array Bool → Bool
  | .done, _, listed => Region.ready .any ops listed == []
  | .q i s, k + 1, listed => (Region.ready .any ops listed).contains i && Region.free .any ops listed i && Nat.blt i t0 && ((List.range ops.size).all fun j => Nat.blt j t0 || waits ops j i) && chk ops t0 s k (listed.setIfInBounds i true)
  | .x i s, k + 1, listed => (Region.ready .any ops listed == [i]) && chk ops t0 s k (listed.setIfInBounds i true)
  | .y i s j t, k + 1, listed => (Region.ready .any ops listed == [i, j]) && chk ops t0 s k (listed.setIfInBounds i true) && chk ops t0 t k (listed.setIfInBounds j true)
  | _, 0, _ => false
/-- the walk along an order -/
def HL (P : Program) (n : Nat) (ops : Array Oper) (S0 : World → Prop) (t0 : Nat) (Q : Po) : Sch → (World → Prop) → Env → Prop
  | .done, S, e => TQ S Q .normal e
  | .q i s, S, e => ∃ o v, opAt ops i = some o ∧ inB n o.dst = true ∧ ((Wt ops e o true ∧ Yv P S0 e o v) ∨ (Wt ops e o false ∧ v = undef)) ∧ (∀ w, S w → S0 w) ∧ HL P n ops S0 t0 Q s S (updO e o.dst v)
  | .x i s, S, e => ∃ o, opAt ops i = some o ∧ TL P n ops [o] S (fun x e' w' => x = .normal ∧ (Nat.blt i t0 = true → S0 w') ∧ HL P n ops S0 t0 Q s (· = w') e') e
  | .y i s j t, S, e => (∃ o, opAt ops i = some o ∧ TL P n ops [o] S (fun x e' w' => x = .normal ∧ (Nat.blt i t0 = true → S0 w') ∧ HL P n ops S0 t0 Q s (· = w') e') e) ∧
      ∃ o, opAt ops j = some o ∧ TL P n ops [o] S (fun x e' w' => x = .normal ∧ (Nat.blt j t0 = true → S0 w') ∧ HL P n ops S0 t0 Q t (· = w') e') e
section
variable {P : Program} {n : Nat} {ops : Array Oper} {S0 S : World → Prop} {t0 : Nat} {Q : Po} {e : Env}
theorem HL.anti : ∀ (s : Sch) {S S' : World → Prop} {e : Env}, (∀ w, S' w → S w) → HL P n ops S0 t0 Q s S e → HL P n ops S0 t0 Q s S' e
  | .done, _, _, _, hs, h => fun w hw => h w (hs w hw)
  | .q i s, _, _, _, hs, ⟨o, v, h1, h2, h3, h4, h5⟩ => ⟨o, v, h1, h2, h3, fun w hw => h4 w (hs w hw), HL.anti s hs h5⟩
  | .x i s, _, _, _, hs, ⟨o, h1, h2⟩ => ⟨o, h1, fun w hw => h2 w (hs w hw)⟩
  | .y i s j t, _, _, _, hs, ⟨⟨o, h1, h2⟩, o', h3, h4⟩ => ⟨⟨o, h1, fun w hw => h2 w (hs w hw)⟩, o', h3, fun w hw => h4 w (hs w hw)⟩
theorem wpOp_of_TL {i : Nat} {o : Oper} {Q' : Exit → Act → World → Prop} {K : Act → World → Prop} (ho : opAt ops i = some o) {R : Po} (hR : ∀ x a w, lift n R x a w → x = .normal ∧ K a w)
    (h : TL P n ops [o] S R e) {a : Act} {w : World} (hw : S w) (hA : Ag n a e) : wpOp P ops Q' i K a w := by
  have h1 := h w hw a hA
  rw [opAt_eq] at ho
  unfold wpOp
  simp only [ho]
  simp only [wpList] at h1
  split
  · rename_i hwt
    rw [if_pos hwt] at h1
    rcases h1 with h1 | ⟨_, a0, w0, h1⟩
    · refine .inl ?_
      have h2 := Oper.wp_mono (K' := K) (fun a w hq => (hR _ _ _ hq).2) h1
      -- the post on panics: none
      unfold Oper.wp at h2 ⊢
      generalize (execOp a.eval o).run P w = r at *
      cases r with
      | ok nx w' =>
        cases nx <;> simp only [Oper.upon] at h2 ⊢ <;> try exact h2
        · rename_i f args
          refine Calls.mono h2 fun en w'' he => ?_
          cases en with
          | returned u => exact he
          | panicked c => exact nomatch (hR _ _ _ he).1
          | outgrown => obtain ⟨a1, w1, h3⟩ := he; exact nomatch (hR _ _ _ h3).1
      | halt x w' =>
        cases x <;> simp only [Oper.upon] at h2 ⊢ <;> try exact h2
        exact nomatch (hR _ _ _ h2).1
    · exact nomatch (hR _ _ _ h1).1
  · rename_i hwt
    rw [if_neg hwt] at h1
    exact (hR _ _ _ h1).2
theorem HL.sound (hb : bnd n ops = true) (hs : Region.noSelect ops = true) : ∀ (s : Sch) (k : Nat) (listed : Array Bool) (S : World → Prop) (e : Env) (a : Act) (w : World), chk ops t0 s k listed = true → HL P n ops S0 t0 Q s S e → S w → Ag n a e →
    wpAnyT P .any ops (fun x a w => x = .normal ∧ lift n Q .normal a w) S0 (fun i => !Nat.blt i t0) k listed a w
  | .done, k, listed, S, e, a, w, hc, h, hw, hA => by
    have hr : Region.ready .any ops listed = [] := by unfold chk at hc; exact eq_of_beq hc
    cases k with
    | zero => exact ⟨hr, rfl, e, hA, h w hw⟩
    | succ k => exact ⟨fun _ => ⟨rfl, e, hA, h w hw⟩, by rw [hr]; simp⟩
  | .q i s, k + 1, listed, S, e, a, w, hc, ⟨o, v, h1, h2, h3, h4, h5⟩, hw, hA => by
    simp only [chk, Bool.and_eq_true] at hc
    obtain ⟨⟨⟨⟨hr, hf⟩, ht⟩, hall⟩, hc⟩ := hc
    rw [opAt_eq] at h1
    refine wpAnyT_first h1 (Region.noSelect_spec hs) (fun c a w hq => absurd hq.1 (by simp)) (fun j oj hoj htl => ?_) (by simp [ht]) k listed a w (Region.free_spec h1 hf) (by simpa using hr) ?_ (h4 w hw)
      (HL.sound hb hs s k _ S _ _ w hc h5 hw (hA.put o.dst v h2))
    · have hj : j < ops.size := (Array.getElem?_eq_some_iff.1 hoj).1
      have := List.all_eq_true.1 hall j (List.mem_range.2 hj)
      have htl' : Nat.blt j t0 = false := by simpa using htl
      rw [htl', Bool.false_or] at this
      unfold waits at this
      rw [hoj] at this
      obtain ⟨e', he', hb'⟩ := Array.any_eq_true'.1 this
      simp only [Bool.and_eq_true, beq_iff_eq] at hb'
      exact ⟨e', he', hb'.1, hb'.2⟩
    · rcases h3 with ⟨hW, hy⟩ | ⟨hW, rfl⟩
      · exact .inl ⟨Wt.spec hW hA (fun _ _ => trivial) (bnd_spec hb), fun w hw => by rw [hA.eval]; exact hy w hw⟩
      · exact .inr ⟨Wt.spec hW hA (fun _ _ => trivial) (bnd_spec hb), rfl⟩
  | .x i s, k + 1, listed, S, e, a, w, hc, ⟨o, h1, h2⟩, hw, hA => by
    simp only [chk, Bool.and_eq_true] at hc
    have hr : Region.ready .any ops listed = [i] := eq_of_beq hc.1
    refine ⟨fun h => (by rw [hr] at h; cases h), fun j hj => ?_⟩
    obtain rfl : j = i := by simpa [hr] using hj
    refine wpOp_of_TL h1 (fun x a' w' hh => by
        obtain ⟨e', hA', hx, h3, h4⟩ := hh
        exact ⟨hx, fun ht => h3 (by simpa using ht), HL.sound hb hs s k _ _ e' a' w' hc.2 h4 rfl hA'⟩) h2 hw hA
  | .y i s i' t, k + 1, listed, S, e, a, w, hc, ⟨⟨o, h1, h2⟩, o', h1', h2'⟩, hw, hA => by
    simp only [chk, Bool.and_eq_true] at hc
    have hr : Region.ready .any ops listed = [i, i'] := eq_of_beq hc.1.1
    refine ⟨fun h => (by rw [hr] at h; cases h), fun j hj => ?_⟩
    have hj' : j = i ∨ j = i' := by simpa [hr] using hj
    rcases hj' with rfl | rfl
    · exact wpOp_of_TL h1 (fun x a' w' hh => by
        obtain ⟨e', hA', hx, h3, h4⟩ := hh
        exact ⟨hx, fun ht => h3 (by simpa using ht), HL.sound hb hs s k _ _ e' a' w' hc.1.2 h4 rfl hA'⟩) h2 hw hA
    · exact wpOp_of_TL h1' (fun x a' w' hh => by
        obtain ⟨e', hA', hx, h3, h4⟩ := hh
        exact ⟨hx, fun ht => h3 (by simpa using ht), HL.sound hb hs t k _ _ e' a' w' hc.2 h4 rfl hA'⟩) h2' hw hA
/-- A region that draws its order, walked along one order. S0: what the looks lean on; t0: where the tail begins. -/
theorem TC.held (S0 : World → Prop) (t0 : Nat) (s : Sch) {id : Nat} {l : List Oper} (hS : ∀ w k, S w → S { w with drawn := k }) (hm : P.follows .mixedOrders = true) (hb : bnd n l.toArray = true) (hsel : Region.noSelect l.toArray = true)
    (hc : chk l.toArray t0 s l.length (Array.replicate l.length false) = true) (h : HL P n l.toArray S0 t0 Q s S e) : TC P n (.region id l.toArray true) S Q e := by
  intro w hw a hA
  refine Code.wp_mono (Q := fun x a w => x = .normal ∧ lift n Q .normal a w) (fun x a w ⟨hx, hq⟩ => by subst hx; exact hq) ?_
  refine wp_region_any hm (wpAny_of_T (S := S0) (tail := fun i => !Nat.blt i t0) _ _ _ _ ?_)
  have := HL.sound (P := P) (S0 := S0) (Q := Q) hb hsel s l.length (Array.replicate l.length false) S e a { w with drawn := w.drawn + 1 } hc h (hS _ _ hw) hA
  simpa using this
/-- steps of the walk -/
theorem hq {i : Nat} {s : Sch} {o : Oper} {v : Value} (ho : opAt ops i = some o) (hy : Yv P S0 e o v) (hW : Wt ops e o true) (hd : inB n o.dst = true) (hS : ∀ w, S w → S0 w) (h : HL P n ops S0 t0 Q s S (updO e o.dst v)) : HL P n ops S0 t0 Q (.q i s) S e :=
  ⟨o, v, ho, hd, .inl ⟨hW, hy⟩, hS, h⟩
theorem hk {i : Nat} {s : Sch} {o : Oper} (ho : opAt ops i = some o) (hW : Wt ops e o false) (hd : inB n o.dst = true) (hS : ∀ w, S w → S0 w) (h : HL P n ops S0 t0 Q s S (updO e o.dst undef)) : HL P n ops S0 t0 Q (.q i s) S e :=
  ⟨o, undef, ho, hd, .inr ⟨hW, rfl⟩, hS, h⟩
/-- behind an effect: what the others look at stands, and on -/
def Hn (P : Program) (n : Nat) (ops : Array Oper) (S0 : World → Prop) (t0 : Nat) (Q : Po) (i : Nat) (s : Sch) : Po := fun x e' w' => x = .normal ∧ (Nat.blt i t0 = true → S0 w') ∧ HL P n ops S0 t0 Q s (· = w') e'
theorem hx {i : Nat} {s : Sch} {o : Oper} (ho : opAt ops i = some o) (h : TL P n ops [o] S (Hn P n ops S0 t0 Q i s) e) : HL P n ops S0 t0 Q (.x i s) S e := ⟨o, ho, h⟩
theorem hy {i j : Nat} {s t : Sch} {o o' : Oper} (ho : opAt ops i = some o) (ho' : opAt ops j = some o') (h : TL P n ops [o] S (Hn P n ops S0 t0 Q i s) e) (h' : TL P n ops [o'] S (Hn P n ops S0 t0 Q j t) e) : HL P n ops S0 t0 Q (.y i s j t) S e := ⟨⟨o, ho, h⟩, o', ho', h'⟩
theorem hn {i : Nat} {s : Sch} (hS : Nat.blt i t0 = true → ∀ w, S w → S0 w) (h : HL P n ops S0 t0 Q s S e) : TL P n ops [] S (Hn P n ops S0 t0 Q i s) e :=
  TL.nil fun w hw => ⟨rfl, fun ht => hS ht w hw, HL.anti s (fun w' hw' => hw' ▸ hw) h⟩
end
end Go.E
