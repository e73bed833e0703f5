/-
  Proved: the law PruneDoes (layer 24): whatever the calls, it answers true and leaves its argument as it was. No condition.
-/
import Derived.Test.YtfiambcocnceiaaPr12
import Derived.Test.YtfiambcocnceiaaRows
import Derived.WalkKit
import Derived.ProofKit
import Derived.OpenShut
namespace Go.Proofs.Ytfiambcocnceiaa.pruneDoes
open Go Go.E Go.ChangeShapes Go.WideShapes Go.ChangeAt Go.RowKit
open Go.ChangeMaps (open_string shut_string)
set_option linter.unusedVariables false
set_option linter.unusedSimpArgs false
theorem own : ownKnob Try.prog.godebug = none := by kernel_rfl
theorem laid : laidOutB Try.prog = true := by kernel_rfl
theorem recs : ∀ t, t ∈ Try.f3.params.toList → Try.prog.readableRec t = true ∧ t < Try.prog.types.size := by
  intro t ht
  rw [Try.params3] at ht
  simp only [List.mem_cons, List.not_mem_nil, or_false] at ht
  subst ht
  exact ⟨by kernel_rfl, of_decide_eq_true (by kernel_rfl)⟩
instance : Inhabited AX := ⟨⟨0, 0, none, 0, []⟩⟩
section
variable {H0 : Type} {enc0 : TypeId × Value → H0} {W : World} {base : Nat} {sp : Nat → Bool} {held : Bool}
theorem el_held (n : Nat) (cs : List Value) (x : DataW H0 × List MemPlace) (h : DataW.trod enc0 Try.prog W base sp held n 49 cs = some x) : ∃ u : Hd, cs = encH u ∧ True := by
  obtain ⟨fs, hs⟩ : ∃ fs, Try.prog.underlying 49 = some (.struct fs) := ⟨_, Try.underlying49⟩
  obtain ⟨hl, hf⟩ := el_fields Try.underlying49 (by kernel_rfl) (by kernel_rfl) h
  obtain ⟨v0, n0, y0, e0, h0⟩ := hf 0 _ rfl
  obtain ⟨v1, n1, y1, e1, h1⟩ := hf 1 _ rfl
  obtain ⟨a, ha, _⟩ := el_int Try.underlying3 h0
  obtain ⟨b, hb, _⟩ := el_int Try.underlying3 h1
  cases ha
  cases hb
  refine ⟨(a, b), ?_, trivial⟩
  match cs, hl, e0, e1 with
  | [c0, c1], _, e0, e1 => cases e0; cases e1; rfl
theorem el_act (n : Nat) (cs : List Value) (x : DataW H0 × List MemPlace) (h : DataW.trod enc0 Try.prog W base sp held n 33 cs = some x) : ∃ u : AX, cs = encA u ∧ RA (imW W) encH 2 u.a u.hs := by
  obtain ⟨hl, hf⟩ := el_fields Try.underlying33 (by kernel_rfl) (by kernel_rfl) h
  obtain ⟨v0, n0, y0, e0, h0⟩ := hf 0 _ rfl
  obtain ⟨v1, n1, y1, e1, h1⟩ := hf 1 _ rfl
  obtain ⟨v2, n2, y2, e2, h2⟩ := hf 2 _ rfl
  obtain ⟨a, ha, _⟩ := el_int Try.underlying3 h0
  obtain ⟨b, hb, _⟩ := el_int Try.underlying3 h1
  obtain ⟨aa, cap, hs, hc, hcl, hcm, hr, _⟩ := open_sa (enc := encH) (k := 2) (fun _ => True) (fun _ => rfl) (by decide) Try.underlying27 (by kernel_rfl) el_held h2
  cases ha
  cases hb
  cases hc
  refine ⟨⟨a, b, aa, cap, hs⟩, ?_, hr⟩
  match cs, hl, e0, e1, e2 with
  | [c0, c1, c2], _, e0, e1, e2 => cases e0; cases e1; cases e2; rfl
end
set_option maxRecDepth 100000 in
theorem contract (H : Type) (enc : TypeId × Value → H) (W : World) (base : Nat) (args : Array Value) (ds gs : List (DataW H)) (before : List MemPlace)
    (hval : ∀ (j : Nat) t v, Try.f3.params[j]? = some t → args[j]? = some v → Value.okWide Try.prog W .any base t v)
    (hW : DataW.Whole enc Try.prog Try.f3.params.toList Rows.pruneDoesSpec.vars false W args.toList ds gs before) :
    Calls Try.prog 3 args W fun e W' => ∃ v, e = .returned v ∧ Rows.pruneDoesSpec.post enc Try.prog Try.f3 false true false false W args v W' := by
  have hW' := hW
  obtain ⟨p, q, hA0, hV, rfl, hfz, hnd⟩ := hW
  have hA : DataW.TrodAll enc Try.prog W 0 (fun _ => true) true Try.f3.params.toList args.toList ds p := hA0
  rw [Try.params3] at hA hval
  obtain ⟨v0, vs0, d0, ds0, p0, q0, hargs, rfl, rfl, h0, r0⟩ := trodAll_cons hA
  obtain ⟨rfl, rfl, rfl⟩ := trodAll_nil r0
  obtain rfl : args = #[v0] := by cases args; simp_all
  obtain ⟨rfl, rfl⟩ := trodVars_none hV
  obtain ⟨a0, len0, cap0, rfl⟩ := okWide_slice Try.underlying22 (hval 0 22 v0 rfl rfl)
  obtain ⟨n0, hn0⟩ := h0
  obtain ⟨aa, cap, acts, hc, hcl, hcm, hr, he⟩ := open_sa (enc := encA) (k := 3) (fun u => RA (imW W) encH 2 u.a u.hs) (fun _ => rfl) (by decide) Try.underlying22 (by kernel_rfl) el_act hn0
  cases hc
  have hml : maxLen = 9223372036854775807 := rfl
  refine ((PruneDoes_ok (c := cxW W) (I := imW W) [] a0 cap0 acts hr he (by omega)).2 W (St.start W)).mono fun e W' ⟨v, he, hv, J, hJ, hS⟩ => ?_
  subst he
  subst hv
  exact ⟨_, rfl, post_true hW' rfl rfl (by kernel_rfl) Try.underlying4 laid recs hJ hS⟩
set_option maxRecDepth 100000 in
theorem lifted (os : Os) (started : os.Started) (H : Type) (enc : TypeId × Value → H) :
    ReturnsInHanded {} Try.checked os 3 .any (Rows.pruneDoesSpec.pre6 enc Try.prog Try.f3 Rows.pruneDoesRow.domain false) (Rows.pruneDoesSpec.post enc Try.prog Try.f3 false true false false) := by
  refine returnsInHanded_of_change (C := Try.checked) (s := Rows.pruneDoesSpec) own started (by kernel_rfl) Try.func3
    (ChangeSpec.witness6 (enc := enc) (C := Try.checked) (s := Rows.pruneDoesSpec) false ⟨#[], #[.slice none 0 0], []⟩ 8 (by kernel_rfl) (by kernel_rfl) (by kernel_rfl) (by kernel_rfl)) ?_
  intro W base args ds gs before hval hW _ _
  exact contract H enc W base args ds gs before hval hW
theorem proved : Rows.PruneDoesSaid :=
  OpenClaim.holds_of_wide 3 Try.f3 rfl rfl rfl rfl rfl rfl rfl ⟨rfl, rfl, rfl, rfl, rfl⟩ rfl rfl rfl rfl rfl (by kernel_rfl) Try.func3 (by kernel_rfl)
    (of_decide_eq_true (by kernel_rfl)) (by unfold Func.isWrapper; first | (rw [if_pos (by decide +kernel)]; kernel_rfl) | (rw [if_neg (by decide +kernel)]; exact ⟨rfl, rfl⟩))
    (fun os started H enc _ => lifted os started H enc)
end Go.Proofs.Ytfiambcocnceiaa.pruneDoes
