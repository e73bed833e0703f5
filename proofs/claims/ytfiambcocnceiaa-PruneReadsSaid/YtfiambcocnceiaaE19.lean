import Derived.Test.YtfiambcocnceiaaE18
import Derived.Deep.Slices
import Derived.Deep.Strs
import Derived.Deep.Fields
import Derived.WideKeyArgs
import Derived.ChangeSame
import Derived.RowKit
set_option linter.unusedVariables false
set_option linter.unusedSimpArgs false
namespace Go.E
open Go Go.ChangeShapes Go.WideShapes
/-! ### from what the row hands over to what the walks want, and back -/
def imW (W : World) : Im := fun b => W.heap[b]?
def cxW (W : World) : Cx := ⟨W.os, W.tape, W.output⟩
theorem St.start (W : World) : St (cxW W) (imW W) [] W := ⟨rfl, rfl, rfl, fun _ _ h => h, fun p (hp : p ∈ ([] : Ow)) => absurd hp List.not_mem_nil, List.nodup_nil⟩
theorem kept_old {W W' : World} {J : Im} {l : Ow} (hJ : Le (imW W) J) (h : St (cxW W) J l W') {i : Nat} (hi : i < W.heap.size) : W'.heap[i]? = W.heap[i]? := by
  have e : W.heap[i]? = some W.heap[i] := Array.getElem?_eq_getElem hi
  rw [e]; exact h.im i _ (hJ i _ e)
section
variable {H : Type} {enc0 : TypeId × Value → H} {P : Program} {W W' : World} {base : Nat} {sp : Nat → Bool} {held : Bool}
theorem cells_RA {α : Type} {enc : α → List Value} {k : Nat} (hk : ∀ x, (enc x).length = k) (hk0 : 0 < k) {a : Addr} {xs : List α} (h : ∀ i u, xs[i]? = some u → W.cells? base (a.add (i * k)) k = some (enc u)) : RA (imW W) enc k (some a) xs := by
  refine ⟨flat_len hk xs, fun hn => ?_⟩
  have cell : ∀ i u r, xs[i]? = some u → r < k → W.cell? (a.add (i * k + r)) = (enc u)[r]? := fun i u r hu hr => by
    have := (World.cells?_some (h i u hu)).2.2 r hr
    rwa [Go.Deep.add_add] at this
  have h0 : xs[0]? = some xs[0] := List.getElem?_eq_getElem hn
  have c0 := cell 0 _ 0 h0 hk0
  simp only [Nat.zero_mul, Nat.add_zero] at c0
  have ha0 : a.add 0 = a := by simp [Addr.add]
  rw [ha0, List.getElem?_eq_getElem (by rw [hk]; exact hk0)] at c0
  unfold World.cell? at c0
  split at c0
  · rename_i c ty fr hb
    split at c0
    · cases c0
    · rename_i hsp
      obtain ⟨b, o, spt⟩ := a
      have hs : spt = none := by cases spt <;> simp_all
      subst hs
      refine ⟨b, o, c.toList, ty, fr, rfl, hb, ?_⟩
      apply List.ext_getElem?
      intro j
      rw [List.getElem?_take]
      split
      · rename_i hj
        have hi : j / k < xs.length := Nat.div_lt_of_lt_mul (by rw [Nat.mul_comm]; exact hj)
        have hm : j % k < k := Nat.mod_lt _ hk0
        have hu : xs[j / k]? = some xs[j / k] := List.getElem?_eq_getElem hi
        have hc := cell (j / k) _ (j % k) hu hm
        have hjk : j / k * k + j % k = j := by have := Nat.div_add_mod j k; rw [Nat.mul_comm] at this; exact this
        rw [hjk, addr_add, List.getElem?_eq_getElem (by rw [hk]; exact hm)] at hc
        rw [List.getElem?_drop]
        have hfc := flat_cell hk hu hm (List.getElem?_eq_getElem (by rw [hk]; exact hm))
        rw [hjk] at hfc
        rw [hfc, ← hc]
        simp only [World.cell?, hb]
        simp
      · rename_i hj
        rw [List.getElem?_eq_none]
        rw [flat_len hk]; omega
  · cases c0
/-- a slice, opened -/
theorem open_sa {α : Type} [Inhabited α] {enc : α → List Value} {k : Nat} (Q : α → Prop) (hk : ∀ x, (enc x).length = k) (hk0 : 0 < k) {t e : TypeId} (ht : P.underlying t = some (.slice e)) (hc : P.cellsOf e = k)
    (hel : ∀ n cs x, DataW.trod enc0 P W base sp held n e cs = some x → ∃ u, cs = enc u ∧ Q u) {n : Nat} {cs : List Value} {x : DataW H × List MemPlace} (h : DataW.trod enc0 P W base sp held n t cs = some x) :
    ∃ a cap, ∃ xs : List α, cs = [.slice a xs.length cap] ∧ xs.length ≤ cap ∧ cap ≤ maxLen ∧ RA (imW W) enc k a xs ∧ ∀ u, u ∈ xs → Q u := by
  rcases Go.Deep.open_slice ht h with ⟨rfl, _⟩ | ⟨a, len, cap, m, n', D, Pl, rfl, _, hl, hm, hmm, _, hx⟩
  · exact ⟨none, 0, [], rfl, by simp, by simp [maxLen], RA.nil _, fun u hu => by cases hu⟩
  · have hlm : len ≤ m := by rw [hmm]; split <;> omega
    obtain ⟨U, hU⟩ := Go.Deep.choose_lt (α := α) (n := len) (p := fun i u => W.cells? base (a.add (i * k)) k = some (enc u) ∧ Q u) fun i hi => by
      obtain ⟨cs', h1, h2⟩ := hx i (by omega)
      obtain ⟨u, rfl, hq⟩ := hel _ _ _ h2
      rw [hc] at h1
      exact ⟨u, h1, hq⟩
    refine ⟨some a, cap, (List.range len).map U, by simp, by simpa using hl, hm, cells_RA (base := base) hk hk0 fun i u hu => ?_, fun u hu => ?_⟩
    · have hi := (List.getElem?_eq_some_iff.1 hu).1
      simp at hi
      rw [List.getElem?_map, List.getElem?_range hi] at hu
      cases hu
      exact (hU i hi).1
    · obtain ⟨i, hi, rfl⟩ := List.mem_map.1 hu
      exact (hU i (List.mem_range.1 hi)).2
theorem el_int {t : TypeId} {k : IntKind} (ht : P.underlying t = some (.int k)) {n : Nat} {cs : List Value} {x : DataW H × List MemPlace} (h : DataW.trod enc0 P W base sp held n t cs = some x) : ∃ m : Int, cs = [.int k m] ∧ (Lit.int k m).wf = true := by
  obtain ⟨m, h1, _, h2⟩ := DataW.trod_int ht h
  exact ⟨m, h1, h2⟩
theorem el_str {t : TypeId} (ht : P.underlying t = some .string) {n : Nat} {cs : List Value} {x : DataW H × List MemPlace} (h : DataW.trod enc0 P W base sp held n t cs = some x) : ∃ s : List UInt8, cs = [str s] ∧ s.length ≤ maxLen := by
  obtain ⟨s, h1, _, h2⟩ := DataW.trod_string ht h
  exact ⟨s.data.toList, by rw [h1]; rfl, by have : s.data.toList.length = s.size := by rw [Array.length_toList]; rfl
                                            omega⟩
theorem el_bool {t : TypeId} (ht : P.underlying t = some .bool) {n : Nat} {cs : List Value} {x : DataW H × List MemPlace} (h : DataW.trod enc0 P W base sp held n t cs = some x) : ∃ b : Bool, cs = [.bool b] := by
  obtain ⟨b, h1, _⟩ := DataW.trod_bool ht h
  exact ⟨b, h1⟩
/-- a struct of one-cell fields, opened: each cell reads at its field's type -/
theorem el_fields {t : TypeId} {fs : Array Field} (hs : P.underlying t = some (.struct fs)) (hone : Go.Deep.oneCellFields P fs = true) (hC : P.cellsOf t = fs.size) {n : Nat} {cs : List Value} {x : DataW H × List MemPlace} (h : DataW.trod enc0 P W base sp held n t cs = some x) :
    cs.length = fs.size ∧ ∀ (i : Nat) (f : Field), fs[i]? = some f → ∃ v n' y, cs[i]? = some v ∧ DataW.trod enc0 P W base sp held n' f.type [v] = some y := by
  obtain ⟨xs, n', _, _, hl, hlen, hf⟩ := DataW.trod_struct hs h
  refine ⟨hl.trans hC, fun i f hi => ?_⟩
  obtain ⟨o1, o2⟩ := Go.Deep.hone_of hone i f hi
  have hlt := (Array.getElem?_eq_some_iff.1 hi).1
  have h1 := hf i f hi
  rw [o1, o2] at h1
  have hlt2 : i < cs.length := by rw [hl, hC]; exact hlt
  rw [List.drop_eq_getElem_cons hlt2, List.take_succ_cons, List.take_zero, List.getElem?_eq_getElem (by omega)] at h1
  exact ⟨_, n', _, List.getElem?_eq_getElem hlt2, h1⟩
/-- the arguments, read again -/
theorem args_again (hl : laidOutB P = true) {J : Im} {l : Ow} (hJ : Le (imW W) J) (hS : St (cxW W) J l W') : ∀ {ts : List TypeId} {vs : List Value} {ds : List (DataW H)} {ps : List MemPlace}, (∀ t, t ∈ ts → P.readableRec t = true ∧ t < P.types.size) →
    DataW.TrodAll enc0 P W 0 (fun _ => true) true ts vs ds ps → (∀ p, p ∈ ps → p.block < W.heap.size) → DataW.TrodAll enc0 P W' 0 (fun b => decide (b < W.heap.size)) true ts vs ds ps
  | [], [], [], _, _, h, _ => h
  | t :: ts, v :: vs, d :: ds, _, hr, ⟨p, q, h1, h2, e⟩, hlt => by
    refine ⟨p, q, ?_, args_again hl hJ hS (fun t ht => hr t (by simp [ht])) h2 (fun x hx => hlt x (by rw [e]; simp [hx])), e⟩
    refine WideElems.Trod_stays hl (hr t (by simp)).1 (hr t (by simp)).2 h1 (fun x hx => ?_) fun x hx => by simpa using hlt x (by rw [e]; simp [hx])
    have hb := kept_old hJ hS (hlt x (by rw [e]; simp [hx]))
    cases x with
    | cell b o => show W'.cell? _ = W.cell? _; simp only [World.cell?]; rw [show W'.heap[b]? = W.heap[b]? from hb]
    | map b => exact hb
theorem kept_but {J : Im} {l : Ow} (hJ : Le (imW W) J) (hS : St (cxW W) J l W') (may : MemPlace → Prop) : W.keptBut W' may := by
  refine ⟨hS.os, hS.out, fun i hi => ?_⟩
  rw [kept_old hJ hS hi]
  split
  · rename_i c t fr c' t' fr' h1 h2
    rw [h1] at h2; cases h2
    exact ⟨rfl, rfl, rfl, fun _ _ => rfl⟩
  · rename_i h1 h2
    rw [h1] at h2; cases h2
    exact .inr ⟨rfl, rfl⟩
  · rfl
/-- what a law's row wants of the world behind the call -/
theorem post_true {f : Func} {s : ChangeSpec} {apart fresh : Bool} {args : Array Value} {ds : List (DataW H)} {before : List MemPlace} {tb : TypeId} {J : Im} {l : Ow}
    (hW : DataW.Whole enc0 P f.params.toList s.vars apart W args.toList ds [] before) (hv : s.vars = []) (hfn : s.fn H (ds ++ []) = { results := [.lit (.bool true)], args := ds }) (hr : f.resultTypes = #[tb]) (htb : P.underlying tb = some .bool)
    (hl : laidOutB P = true) (hts : ∀ t, t ∈ f.params.toList → P.readableRec t = true ∧ t < P.types.size) (hJ : Le (imW W) J) (hS : St (cxW W) J l W') : s.post enc0 P f apart fresh false false W args (.bool true) W' := by
  have hlt := hW.lt
  have hW' := hW
  obtain ⟨p, q, h1, h2, rfl, h3, h4⟩ := hW'
  have hq : q = [] := by rw [hv] at h2; exact (trodVars_none h2).2
  subst hq
  refine ⟨ds, [], p ++ [], [], p, [], hW, ?_, ?_, ?_, kept_but hJ hS _, fun h => nomatch h⟩
  · rw [hfn, hr]
    exact trodAll_mk1 (RowKit.shut_bool htb true)
  · rw [hfn]
    exact args_again hl hJ hS hts h1 fun x hx => hlt x (by simp [hx])
  · rw [hfn, hv]; rfl
end
end Go.E
