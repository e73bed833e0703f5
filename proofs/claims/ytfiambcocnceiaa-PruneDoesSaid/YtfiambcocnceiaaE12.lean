import Derived.Test.YtfiambcocnceiaaE11
set_option linter.unusedVariables false
set_option linter.unusedSimpArgs false
namespace Go.E
open Go
def inL : List Nat → Nat → Bool
  | [], _ => false
  | x :: r, i => Nat.beq i x || inL r i
def updL (e : Env) : List (Nat × Value) → Env
  | [] => e
  | (d, v) :: r => upd (updL e r) d v
def allEq (e : Env) : List (Nat × Value) → Prop
  | [] => True
  | (d, v) :: r => e d = v ∧ allEq e r
theorem updL_self (e : Env) : ∀ T, allEq e T → updL e T = e
  | [], _ => rfl
  | (d, v) :: r, h => by
    unfold updL
    rw [updL_self e r h.2, upd_self e d v h.1]
def LpL {ι : Type} (L : List Nat) (T : ι → List (Nat × Value)) (Sι : ι → World → Prop) (μ : ι → Nat) (i : ι) (e0 : Env) (Q : Po) : Po := fun x e w => match x with | .normal => ∃ j, μ j < μ i ∧ (∀ s, inL L s = false → e s = e0 s) ∧ allEq e (T j) ∧ Sι j w | x => Q x e w
def offB (L : List Nat) : Option Nat → Bool
  | some d => inL L d
  | none => true
def subL (L : List Nat) : List Nat → Bool
  | [] => true
  | x :: r => inL L x && subL L r
def subT (L : List Nat) : List (Nat × Value) → Bool
  | [] => true
  | p :: r => inL L p.1 && subT L r
def OffL (L : List Nat) (g e : Env) : Prop := ∀ s, inL L s = false → g s = e s
theorem OffL.refl {L : List Nat} {e : Env} : OffL L e e := fun _ _ => rfl
theorem OffL.updO {L : List Nat} {g e : Env} {d : Option Nat} {v : Value} (hd : offB L d = true) (h : OffL L g e) : OffL L (updO g d v) e := by
  cases d with
  | none => exact h
  | some x => exact Off.upd (D := inL L) hd h
theorem OffL.upd {L : List Nat} {g e : Env} {d : Nat} {v : Value} (hd : inL L d = true) (h : OffL L g e) : OffL L (upd g d v) e := Off.upd (D := inL L) hd h
theorem subL_spec {L : List Nat} : ∀ {L' : List Nat}, subL L L' = true → ∀ s, inL L s = false → inL L' s = false
  | [], _, _, _ => rfl
  | x :: r, h, s, hs => by
    simp only [subL, Bool.and_eq_true] at h
    unfold inL
    rw [subL_spec h.2 s hs, Bool.or_false]
    cases hb : Nat.beq s x with
    | false => rfl
    | true => rw [Nat.eq_of_beq_eq_true hb, h.1] at hs; cases hs
theorem OffL.mask {L L' : List Nat} {g e e' : Env} (hl : subL L L' = true) (h : OffL L e e') : OffL L (mask (inL L') g e) e' := fun s hs => by
  unfold E.mask; rw [subL_spec hl s hs]; exact h s hs
theorem OffL.updL {L : List Nat} {g e : Env} : ∀ {T : List (Nat × Value)}, subT L T = true → OffL L g e → OffL L (updL g T) e
  | [], _, h => h
  | p :: r, hT, h => by
    simp only [subT, Bool.and_eq_true] at hT
    exact OffL.upd hT.1 (OffL.updL hT.2 h)
section
variable {P : Program} {n : Nat} {S : World → Prop} {Q : Po} {e : Env}
theorem TC.loopL {ι : Type} (L : List Nat) (T : ι → List (Nat × Value)) (Sι : ι → World → Prop) (μ : ι → Nat) (i0 : ι) {body : Code} (h0 : allEq e (T i0)) (hs : ∀ w, S w → Sι i0 w)
    (hb : ∀ g i, TC P n body (Sι i) (LpL L T Sι μ i e Q) (updL (mask (inL L) g e) (T i))) : TC P n (.loop body) S Q e := by
  have he : ∀ (e' : Env) (j : ι), (∀ s, inL L s = false → e' s = e s) → allEq e' (T j) → e' = updL (mask (inL L) e' e) (T j) := fun e' j h1 h2 => by
    rw [← mask0 (inL L) e' e h1, updL_self e' _ h2]
  refine TC.loop (ι := Env × ι) (fun i => updL (mask (inL L) i.1 e) (T i.2)) (fun i => Sι i.2) (fun i => μ i.2) (e, i0) (he e i0 (fun _ _ => rfl) h0) hs ?_
  rintro ⟨g, i⟩ w hw a hA
  refine Code.wp_mono ?_ (hb g i w hw a hA)
  rintro x a' w' ⟨e', hA', hq⟩
  cases x with
  | normal =>
    obtain ⟨j, h1, h2, h3, h4⟩ := hq
    exact ⟨e', hA', ⟨(e', j), h1, he e' j h2 h3, h4⟩⟩
  | _ => exact ⟨e', hA', hq⟩
theorem TQ.lpL {ι : Type} {L : List Nat} {T : ι → List (Nat × Value)} {Sι : ι → World → Prop} {μ : ι → Nat} {i : ι} {e0 : Env} (j : ι) (hm : μ j < μ i) (ho : OffL L e e0) (hT : allEq e (T j)) (h : ∀ w, S w → Sι j w) : TQ S (LpL L T Sι μ i e0 Q) .normal e := fun w hw => ⟨j, hm, ho, hT, h w hw⟩
theorem TQ.lpLR {ι : Type} {L : List Nat} {T : ι → List (Nat × Value)} {Sι : ι → World → Prop} {μ : ι → Nat} {i : ι} {e0 : Env} (h : TQ S Q .ret e) : TQ S (LpL L T Sι μ i e0 Q) .ret e := h
theorem TQ.lpLX {ι : Type} {L : List Nat} {T : ι → List (Nat × Value)} {Sι : ι → World → Prop} {μ : ι → Nat} {i : ι} {e0 : Env} {j : Nat} (h : TQ S Q (.exit j) e) : TQ S (LpL L T Sι μ i e0 Q) (.exit j) e := h
/-! what several ways come to -/
theorem TC.join {cd : Code} (L : List Nat) {ι : Type} (T : ι → List (Nat × Value)) (Sι : ι → World → Prop) {c2 : Code}
    (h1 : TC P n cd S (fun x e' w => x = .normal ∧ ∃ i, (∀ s, inL L s = false → e' s = e s) ∧ allEq e' (T i) ∧ Sι i w) e)
    (h2 : ∀ g i, TC P n c2 (Sι i) Q (updL (mask (inL L) g e) (T i))) : TC P n (cd.seq c2) S Q e := by
  refine TC.seq fun w hw a hA => Code.wp_mono ?_ (h1 w hw a hA)
  rintro x a' w' ⟨e', hA', rfl, i, h3, h4, h5⟩
  have : e' = updL (mask (inL L) e' e) (T i) := by rw [← mask0 (inL L) e' e h3, updL_self e' _ h4]
  exact ⟨e', hA', by show WC P n c2 Q e' w'; rw [this]; exact h2 e' i w' h5⟩
theorem TQ.join {L : List Nat} {ι : Type} {T : ι → List (Nat × Value)} {Sι : ι → World → Prop} {e0 : Env} (i : ι) (ho : OffL L e e0) (hT : allEq e (T i)) (h : ∀ w, S w → Sι i w) : TQ S (fun x e' w => x = .normal ∧ ∃ i, (∀ s, inL L s = false → e' s = e0 s) ∧ allEq e' (T i) ∧ Sι i w) .normal e := fun w hw => ⟨rfl, i, ho, hT, h w hw⟩
end
end Go.E
