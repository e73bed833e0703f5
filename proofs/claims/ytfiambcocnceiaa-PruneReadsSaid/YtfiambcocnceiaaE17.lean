import Derived.Test.YtfiambcocnceiaaE16
import Derived.Shelf.SlSortCmp.NoneTotal
set_option linter.unusedVariables false
set_option linter.unusedSimpArgs false
set_option linter.unusedSectionVars false
namespace Go.E
open Go Go.Shelf Go.Sort Go.Proofs
/-! ### slices.SortFunc of the shelf, over a slice of the call's own -/
section
variable {α : Type} [Inhabited α]
theorem flatK_eq (enc : α → List Value) (k : Nat) (hk : ∀ x, (enc x).length = k) (xs : List α) : flatK enc k ⟨xs⟩ = ⟨xs.flatMap enc⟩ := by
  apply Array.ext
  · simp [flat_len hk]
  · intro i h1 h2
    have h1' : i < xs.length * k := by simpa using h1
    have hk0 : 0 < k := by
      rcases Nat.eq_zero_or_pos k with h | h
      · subst h; simp at h1'
      · exact h
    have hi : i / k < xs.length := Nat.div_lt_of_lt_mul (by rw [Nat.mul_comm]; exact h1')
    have hm : i % k < k := Nat.mod_lt _ hk0
    have hu : xs[i / k]? = some xs[i / k] := List.getElem?_eq_getElem hi
    have hv : (enc xs[i / k])[i % k]? = some (getElem (enc xs[i / k]) (i % k) (by rw [hk]; exact hm)) := List.getElem?_eq_getElem _
    have hc := flat_cell hk hu hm hv
    have hik : i / k * k + i % k = i := by have := Nat.div_add_mod i k; rw [Nat.mul_comm] at this; exact this
    rw [hik] at hc
    have h3 := get_flatK enc k ⟨xs⟩ i h1'
    have h4 : getElem (flatK enc k ⟨xs⟩) i h1 = (flatK enc k ⟨xs⟩)[i]! := by rw [getElem!_pos _ i h1]
    rw [h4, h3]
    have h5 : (⟨xs⟩ : Array α)[i / k]! = xs[i / k] := by rw [getElem!_pos _ _ (by simpa using hi)]; rfl
    rw [h5, getElem!_pos _ _ (by rw [hk]; exact hm)]
    have h6 := (List.getElem?_eq_some_iff.1 hc).2
    simpa using h6.symm
theorem sortWorld_heap (enc : α → List Value) (k : Nat) (w : World) (b n : Nat) (d : Array α) (os : Array Obj) {cs : Array Value} {el : TypeId} {fr : Nat × Nat} (hb : w.heap[b]? = some (.cells cs el fr)) :
    (sortWorldK enc k w b 0 n d os).heap[b]? = some (.cells (putCells id 0 (flatK enc k d) cs) el fr) ∧ ∀ i o, i ≠ b → w.heap[i]? = some o → (sortWorldK enc k w b 0 n d os).heap[i]? = some o := by
  have hlt := (Array.getElem?_eq_some_iff.1 hb).1
  have hh : (sortWorldK enc k w b 0 n d os).heap = w.heap.modify b (onCells (putCells id 0 (flatK enc k d))) ++ os := rfl
  constructor
  · rw [hh, Array.getElem?_append, if_pos (by simpa using hlt), Array.getElem?_modify, if_pos rfl, hb]; rfl
  · intro i o hne hi
    have hlt2 := (Array.getElem?_eq_some_iff.1 hi).1
    rw [hh, Array.getElem?_append, if_pos (by simpa using hlt2), Array.getElem?_modify, if_neg (Ne.symm hne), hi]
theorem St.sorted {enc : α → List Value} {k : Nat} {c : Cx} {I : Im} {l : Ow} {w : World} {b n : Nat} {d : Array α} {os : Array Obj} {cs : Array Value} {el : TypeId} {fr : Nat × Nat} (h : St c I ((b, .cells cs el fr) :: l) w) :
    St c I ((b, .cells (putCells id 0 (flatK enc k d) cs) el fr) :: l) (sortWorldK enc k w b 0 n d os) := by
  obtain ⟨h1, h2⟩ := sortWorld_heap enc k w b n d os h.hd
  have hnd := h.nd
  simp only [List.map_cons, List.nodup_cons] at hnd
  refine ⟨h.os, h.tape, h.out, fun b1 o1 hI => ?_, fun p hp => ?_, by simpa using hnd⟩
  · refine h2 b1 o1 (fun e => ?_) (h.im b1 o1 hI)
    have := (h.own (b, _) List.mem_cons_self).2
    rw [e] at hI; simp [hI] at this
  · rcases List.mem_cons.1 hp with rfl | hp
    · exact ⟨h1, (h.own (b, _) List.mem_cons_self).2⟩
    · have h3 := h.own p (List.mem_cons_of_mem _ hp)
      exact ⟨h2 p.1 p.2 (fun e => hnd.1 (e ▸ List.mem_map_of_mem hp)) h3.1, h3.2⟩
theorem sort_ok {P : Program} {ρ : Ren} (L : SlLaysF0.n6 P ρ) {k : Nat} (aE : ∀ w, (isAgg (ρ.t 24)).run P w = .ok true w) (zE : ∀ w, (Go.sizeOf (ρ.t 24)).run P w = .ok k w) {enc : α → List Value} (hk : ∀ x, (enc x).length = k) (h1 : ∀ x, ∀ v ∈ enc x, v.oneCell' = true) (cf : α → α → Int) (hO : SWO (ltOf cf)) (g : Nat)
    (eg : ∀ args w, (callFunc g args).run P w = .ok (.enter g args) w) (hcmp : ∀ x y W, Calls P g #[.agg (enc x).toArray, .agg (enc y).toArray] W fun e w' => e = .returned (.int .i64 (cf x y)) ∧ ∃ q os', w' = grow (W.drewN q) os')
    {c : Cx} {I : Im} (l m : Ow) {el : TypeId} {a : Option Addr} {cap : Nat} {xs : List α} (ho : OA el enc k m a cap xs) (hn : xs.length ≤ 1000000000000) :
    Ct P (ρ.f 6) [.slice a xs.length cap, .func (.func g) #[] #[]] (St c I (m ++ l)) fun v w => v = .tuple #[] ∧ ∃ m' ys, ys.Perm xs ∧ ys.Pairwise (fun x y => ¬ cf y x < 0) ∧ ys.length = xs.length ∧ OA el enc k m' a cap ys ∧ St c I (m' ++ l) w := by
  refine ⟨?_, fun w hw => ?_⟩
  · obtain ⟨nm, hnm, hf⟩ := L.f6
    exact ⟨_, hf, hnm, rfl⟩
  obtain ⟨o1, o2, o3, ⟨rfl, rfl, h0⟩ | ⟨b, cs, fr, rfl, rfl, h3, h4, h5⟩⟩ := ho
  · have hx : xs = [] := List.eq_nil_of_length_eq_zero (by omega)
    subst hx
    refine (AnyF.slices_SortFunc_none L none cap (.func (.func g) #[] #[]) w).mono fun e w' ⟨he, hw'⟩ => ?_
    subst hw'
    exact ⟨_, he, rfl, [], [], .refl _, .nil, rfl, ⟨o1, o2, o3, .inl ⟨rfl, rfl, h0⟩⟩, hw⟩
  have hb : w.heap[b]? = some (.cells ⟨cs⟩ el fr) := hw.hd
  have hle : xs.length * k ≤ cap * k := Nat.mul_le_mul_right _ o2
  have hH : HoldsK enc k w b 0 ⟨xs⟩ := by
    unfold HoldsK Holds
    rw [flatK_eq enc k hk]
    intro j hj
    have hj' : j < (xs.flatMap enc).length := hj
    have hjx : j < xs.length * k := by rw [← o1]; exact hj'
    have hcell : cs[j]? = some (xs.flatMap enc)[j] := by
      have : (cs.take (xs.length * k))[j]? = some (xs.flatMap enc)[j] := by rw [h4]; exact List.getElem?_eq_getElem hj'
      rw [List.getElem?_take, if_pos hjx] at this; exact this
    constructor
    · have h6 : (⟨xs.flatMap enc⟩ : Array Value)[j]! = (xs.flatMap enc)[j] := by rw [getElem!_pos (⟨xs.flatMap enc⟩ : Array Value) j hj]; rfl
      rw [h6]
      simp only [World.cell?, hb, Nat.zero_add, id]
      simpa using hcell
    · simp only [World.frozen?, hb, Nat.zero_add, Bool.and_eq_false_iff, decide_eq_false_iff_not]
      rcases h5 with h5 | h5 <;> omega
  have hs := AnyQ.slices_SortFunc L k aE zE enc hk h1 cf hO g #[] b 0 cap ⟨xs⟩ w eg (fun _ _ _ _ x y => by simpa using hcmp x y _) hH (Array.getElem?_eq_some_iff.1 hb).1 (by show xs.length < _; omega)
  refine hs.mono fun e w' ⟨he, d', n, os, hp, hsd, hw'⟩ => ?_
  subst hw'
  have hsz : d'.size = xs.length := hp.1
  have hperm : d'.toList.Perm xs := by
    have h6 := hp.2.2
    have e1 : (⟨xs⟩ : Array α).extract 0 (⟨xs⟩ : Array α).size = ⟨xs⟩ := by simp
    have e2 : d'.extract 0 (⟨xs⟩ : Array α).size = d' := by rw [show (⟨xs⟩ : Array α).size = d'.size from hsz.symm]; simp
    rw [e1, e2] at h6
    exact h6
  have hfk : flatK enc k d' = ⟨d'.toList.flatMap enc⟩ := flatK_eq enc k hk d'.toList
  have hlen : d'.toList.length = xs.length := by simpa using hsz
  refine ⟨_, he, rfl, [(b, .cells (putCells id 0 (flatK enc k d') ⟨cs⟩) el fr)], d'.toList, hperm, ?_, hlen, ?_, hw.sorted⟩
  · rw [List.pairwise_iff_getElem]
    intro i j hi hj hij
    have h6 := hsd i j (Nat.zero_le _) hij (by show j < xs.length; omega)
    rw [getElem!_pos _ _ (by simpa using hj), getElem!_pos _ _ (by simpa using hi)] at h6
    have h7 := of_decide_eq_false h6
    simpa using h7
  · have hps : putCells id 0 (flatK enc k d') ⟨cs⟩ = ⟨d'.toList.flatMap enc ++ cs.drop (xs.length * k)⟩ := by
      rw [hfk]
      have hfl : (d'.toList.flatMap enc).length = xs.length * k := by rw [flat_len hk, hlen]
      have hcl : cs.length = cap * k := h3
      apply Array.ext
      · simp [putCells, hfl]; omega
      · intro i h6 h7
        have hi : i < cs.length := by simpa [putCells] using h6
        simp only [putCells, Array.getElem_mapIdx, Nat.zero_le, true_and, Nat.zero_add, Nat.sub_zero, id]
        by_cases hlt : i < xs.length * k
        · have hlt2 : i < (d'.toList.flatMap enc).length := by rw [hfl]; exact hlt
          rw [if_pos (by simpa [hfl] using hlt), getElem!_pos _ _ (by simpa using hlt2)]
          exact (List.getElem_append_left hlt2).symm
        · rw [if_neg (by simpa [hfl] using hlt)]
          have hlt2 : ¬ i < (d'.toList.flatMap enc).length := by rw [hfl]; exact hlt
          have h8 : i < (d'.toList.flatMap enc ++ cs.drop (xs.length * k)).length := h7
          have h9 := List.getElem_append_right (by omega) (h₂ := h8)
          refine Eq.trans ?_ h9.symm
          rw [List.getElem_drop]
          show getElem cs i _ = getElem cs _ _
          congr 1
          rw [hfl]; omega
    rw [hps]
    have hfl : (d'.toList.flatMap enc).length = xs.length * k := by rw [flat_len hk, hlen]
    refine ⟨by rw [hfl, hlen], by rw [hlen]; exact o2, o3, .inr ⟨b, _, fr, rfl, rfl, ?_, ?_, h5⟩⟩
    · rw [List.length_append, hfl, List.length_drop, h3]; omega
    · rw [hlen, ← hfl, List.take_left]
end
end Go.E
