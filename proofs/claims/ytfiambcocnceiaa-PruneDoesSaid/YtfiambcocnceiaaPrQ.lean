import Derived.Test.YtfiambcocnceiaaPrP
set_option linter.unusedVariables false
set_option linter.unusedSimpArgs false
namespace Go.Proofs.Ytfiambcocnceiaa
open Go Go.E
/-! what both sides say: Prune -/
def anyA (S : List (Int × List Hd)) (n : Int) : Bool := S.any fun x => (dget x.2 n).isSome
theorem anyA_false {S : List (Int × List Hd)} {n : Int} : anyA S n = false ↔ ∀ g, g ∈ flatA S → g.1 ≠ n := by
  unfold anyA
  rw [List.any_eq_false]
  constructor
  · intro h g hg
    obtain ⟨x, hx, hgx⟩ := List.mem_flatMap.1 hg
    have := h x hx
    have h2 : dget x.2 n = none := by simpa using this
    exact dget_none.1 h2 g hgx
  · intro h x hx
    rw [dget_none.2 fun g hg => h g (List.mem_flatMap.2 ⟨x, hx, hg⟩)]; simp
/-- one blob of an old state -/
def dieR (T : List (Int × List Hd)) (d : List Hd) (h : Hd) : List Hd := if anyA T h.1 then d else putH h d
def prR : List (Int × List Hd) → Int → List Hd → List (Int × List Hd) × List Hd
  | x :: y :: r, seen, d => if y.1 ≤ seen then prR (y :: r) seen (x.2.foldl (dieR (y :: r)) d) else (x :: y :: r, d)
  | S, _, d => (S, d)
def cntR : List (Int × List Hd) → Int → Nat
  | x :: y :: r, seen => if y.1 ≤ seen then cntR (y :: r) seen + 1 else 0
  | _, _ => 0
theorem die_spec (T : List (Int × List Hd)) : ∀ (old d : List Hd), SS d → Con (d ++ old) → SS (old.foldl (dieR T) d) ∧ ∀ z, z ∈ old.foldl (dieR T) d ↔ z ∈ d ∨ (z ∈ old ∧ anyA T z.1 = false)
  | [], d, hs, _ => ⟨hs, fun z => by simp⟩
  | x :: r, d, hs, hc => by
    rw [List.foldl_cons]
    cases ha : anyA T x.1 with
    | true =>
      have e : dieR T d x = d := by unfold dieR; rw [ha]; rfl
      rw [e]
      have ih := die_spec T r d hs fun a h1 b h2 e => hc a (by rcases List.mem_append.1 h1 with h | h <;> simp [h]) b (by rcases List.mem_append.1 h2 with h | h <;> simp [h]) e
      refine ⟨ih.1, fun z => ?_⟩
      rw [ih.2, List.mem_cons]
      constructor
      · rintro (h | ⟨h1, h2⟩)
        · exact .inl h
        · exact .inr ⟨.inr h1, h2⟩
      · rintro (h | ⟨h1 | h1, h2⟩)
        · exact .inl h
        · rw [h1, ha] at h2; cases h2
        · exact .inr ⟨h1, h2⟩
    | false =>
      have e : dieR T d x = putH x d := by unfold dieR; rw [ha]; rfl
      rw [e]
      have hm := fun z => putH_mem (h := x) (x := z) (L := d) fun y hy e => hc y (by simp [hy]) x (by simp) e
      have ih := die_spec T r (putH x d) (putH_ss hs) fun a h1 b h2 e => by
        refine hc a ?_ b ?_ e
        · rcases List.mem_append.1 h1 with h | h
          · rcases (hm a).1 h with h | h <;> simp [h]
          · simp [h]
        · rcases List.mem_append.1 h2 with h | h
          · rcases (hm b).1 h with h | h <;> simp [h]
          · simp [h]
      refine ⟨ih.1, fun z => ?_⟩
      rw [ih.2, hm, List.mem_cons]
      constructor
      · rintro ((h | h) | ⟨h1, h2⟩)
        · exact .inl h
        · exact .inr ⟨.inl h, by rw [h]; exact ha⟩
        · exact .inr ⟨.inr h1, h2⟩
      · rintro (h | ⟨h1 | h1, h2⟩)
        · exact .inl (.inl h)
        · exact .inl (.inr h1)
        · exact .inr ⟨h1, h2⟩
theorem flatA_cons (x : Int × List Hd) (S : List (Int × List Hd)) : flatA (x :: S) = x.2 ++ flatA S := by simp [flatA]
theorem flatA_drop {S : List (Int × List Hd)} {k : Nat} {g : Hd} (h : g ∈ flatA (S.drop k)) : g ∈ flatA S := by
  obtain ⟨x, hx, hg⟩ := List.mem_flatMap.1 h
  exact List.mem_flatMap.2 ⟨x, List.mem_of_mem_drop hx, hg⟩
theorem flatA_take {S : List (Int × List Hd)} {k : Nat} {g : Hd} (h : g ∈ flatA (S.take k)) : g ∈ flatA S := by
  obtain ⟨x, hx, hg⟩ := List.mem_flatMap.1 h
  exact List.mem_flatMap.2 ⟨x, List.mem_of_mem_take hx, hg⟩
theorem prR_spec : ∀ (S : List (Int × List Hd)) (seen : Int) (d : List Hd), SS d → Con (d ++ flatA S) →
    (prR S seen d).1 = S.drop (cntR S seen) ∧ SS (prR S seen d).2 ∧ ∀ z, z ∈ (prR S seen d).2 ↔ z ∈ d ∨ (z ∈ flatA (S.take (cntR S seen)) ∧ anyA (S.drop (cntR S seen)) z.1 = false)
  | [], seen, d, hs, _ => ⟨rfl, hs, fun z => by simp [prR, cntR, flatA]⟩
  | [x], seen, d, hs, _ => ⟨rfl, hs, fun z => by simp [prR, cntR, flatA]⟩
  | x :: y :: r, seen, d, hs, hc => by
    unfold prR cntR
    split
    · have hx : Con (d ++ x.2) := fun a h1 b h2 e => hc a (by rw [flatA_cons]; rcases List.mem_append.1 h1 with h | h <;> simp [-List.mem_flatMap, h]) b (by rw [flatA_cons]; rcases List.mem_append.1 h2 with h | h <;> simp [-List.mem_flatMap, h]) e
      have h1 := die_spec (y :: r) x.2 d hs hx
      have hc2 : Con (x.2.foldl (dieR (y :: r)) d ++ flatA (y :: r)) := fun a ha b hb e => by
        refine hc a ?_ b ?_ e <;> rw [flatA_cons]
        · rcases List.mem_append.1 ha with h | h
          · rcases (h1.2 a).1 h with h | ⟨h, _⟩ <;> simp [-List.mem_flatMap, h]
          · exact List.mem_append.2 (.inr (List.mem_append.2 (.inr h)))
        · rcases List.mem_append.1 hb with h | h
          · rcases (h1.2 b).1 h with h | ⟨h, _⟩ <;> simp [-List.mem_flatMap, h]
          · exact List.mem_append.2 (.inr (List.mem_append.2 (.inr h)))
      have ih := prR_spec (y :: r) seen _ h1.1 hc2
      rw [List.drop_succ_cons, List.take_succ_cons, flatA_cons]
      refine ⟨ih.1, ih.2.1, fun z => ?_⟩
      rw [ih.2.2, h1.2, List.mem_append]
      constructor
      · rintro ((h | ⟨h2, h3⟩) | ⟨h2, h3⟩)
        · exact .inl h
        · exact .inr ⟨.inl h2, anyA_false.2 fun g hg => anyA_false.1 h3 g (flatA_drop hg)⟩
        · exact .inr ⟨.inr h2, h3⟩
      · rintro (h | ⟨h2 | h2, h3⟩)
        · exact .inl (.inl h)
        · cases ha : anyA (y :: r) z.1 with
          | false => exact .inl (.inr ⟨h2, rfl⟩)
          | true =>
            right
            refine ⟨?_, h3⟩
            have h4 : ¬ ∀ g, g ∈ flatA (y :: r) → g.1 ≠ z.1 := fun h => by rw [anyA_false.2 h] at ha; cases ha
            rw [Classical.not_forall] at h4
            obtain ⟨g, h4⟩ := h4
            rw [Classical.not_imp] at h4
            obtain ⟨hg, h4⟩ := h4
            have he : g.1 = z.1 := Classical.not_not.1 h4
            have hgz : g = z := hc g (by rw [flatA_cons]; exact List.mem_append.2 (.inr (List.mem_append.2 (.inr hg)))) z (by rw [flatA_cons]; simp [-List.mem_flatMap, h2]) he
            rw [hgz] at hg
            have h5 : flatA (y :: r) = flatA ((y :: r).take (cntR (y :: r) seen)) ++ flatA ((y :: r).drop (cntR (y :: r) seen)) := by
              unfold flatA; rw [← List.flatMap_append, List.take_append_drop]
            rw [h5] at hg
            rcases List.mem_append.1 hg with h | h
            · exact h
            · exact absurd rfl (anyA_false.1 h3 z h)
        · exact .inr ⟨h2, h3⟩
    · exact ⟨rfl, hs, fun z => by simp [flatA]⟩
/-- the first state that stays, as the other side finds it -/
def IsF (S : List (Int × List Hd)) (seen : Int) (f : Nat) : Prop := (f = 0 ∨ ∃ x, S[f]? = some x ∧ x.1 ≤ seen) ∧ ∀ j x, S[j]? = some x → x.1 ≤ seen → j ≤ f
theorem IsF.eq : ∀ {S : List (Int × List Hd)} {seen : Int} {f : Nat}, S.Pairwise (fun x y => x.1 < y.1) → IsF S seen f → f = cntR S seen
  | [], seen, f, _, h => by
    rcases h.1 with h1 | ⟨x, h1, _⟩
    · exact h1
    · simp at h1
  | [x], seen, f, _, h => by
    rcases h.1 with h1 | ⟨y, h1, _⟩
    · exact h1
    · have := (List.getElem?_eq_some_iff.1 h1).1; simp at this; exact this
  | x :: y :: r, seen, f, hr, h => by
    have hr' := List.pairwise_cons.1 hr
    unfold cntR
    split
    · rename_i hy
      have h1 : 1 ≤ f := h.2 1 y rfl hy
      have ih : f - 1 = cntR (y :: r) seen := by
        refine IsF.eq hr'.2 ⟨?_, fun j z hz hle => ?_⟩
        · rcases h.1 with h2 | ⟨z, h2, h3⟩
          · omega
          · right
            refine ⟨z, ?_, h3⟩
            rw [show f = (f - 1) + 1 from by omega, List.getElem?_cons_succ] at h2; exact h2
        · have := h.2 (j + 1) z (by rw [List.getElem?_cons_succ]; exact hz) hle
          omega
      omega
    · rename_i hy
      rcases h.1 with h2 | ⟨z, h2, h3⟩
      · exact h2
      · by_cases h0 : f = 0
        · exact h0
        exfalso
        rw [show f = (f - 1) + 1 from by omega, List.getElem?_cons_succ] at h2
        have h4 : y.1 ≤ z.1 := by
          rcases List.mem_cons.1 (List.mem_of_getElem? h2) with h5 | h5
          · rw [h5]; exact Int.le_refl _
          · exact Int.le_of_lt ((List.pairwise_cons.1 hr'.2).1 z h5)
        omega
theorem cntR_le : ∀ (S : List (Int × List Hd)) (seen : Int), cntR S seen ≤ S.length
  | [], _ => by simp [cntR]
  | [_], _ => by simp [cntR]
  | x :: y :: r, seen => by
    unfold cntR
    have := cntR_le (y :: r) seen
    split <;> simp at this ⊢; omega
/-- this side's dead blobs -/
def dieE (p : List (Int × Int) × List Hd) (h : Hd) : List (Int × Int) × List Hd := if gz p.1 h.1 = 0 then (szF p.1 h, p.2 ++ [h]) else p
theorem dieE_spec (T : List (Int × List Hd)) (dead : List Hd) : ∀ (L : List Hd) (m : List (Int × Int)) (dd P : List Hd), (∀ x, x ∈ L → okH x = true) → (∀ k v, dget m k = some v → 1 ≤ v) →
    (∀ k, dget m k = none ↔ (∀ g, g ∈ flatA T → g.1 ≠ k) ∧ ∀ g, g ∈ P → g.1 ≠ k) → (∀ x, x ∈ L → ∀ g, g ∈ dead → g.1 ≠ x.1) → Con (P ++ L) →
    (∀ z, z ∈ dd ↔ z ∈ dead ∨ (z ∈ P ∧ anyA T z.1 = false)) → dd.Pairwise (fun x y => x.1 ≠ y.1) →
    (∀ z, z ∈ (L.foldl dieE (m, dd)).2 ↔ z ∈ dead ∨ (z ∈ P ++ L ∧ anyA T z.1 = false)) ∧ (L.foldl dieE (m, dd)).2.Pairwise (fun x y => x.1 ≠ y.1)
  | [], m, dd, P, _, _, _, _, _, hz, hp => ⟨fun z => by rw [List.append_nil]; exact hz z, hp⟩
  | x :: r, m, dd, P, ho, hv, hm, ha, hc, hz, hp => by
    rw [List.foldl_cons]
    have hx := okH_i (ho x (by simp))
    have hcc : Con (P ++ [x] ++ r) := by rw [List.append_assoc]; exact hc
    have hao : ∀ y, y ∈ r → ∀ g, g ∈ dead → g.1 ≠ y.1 := fun y hy => ha y (by simp [hy])
    cases hd : dget m x.1 with
    | none =>
      have h1 := (hm x.1).1 hd
      have e : dieE (m, dd) x = (szF m x, dd ++ [x]) := by unfold dieE gz; rw [hd]; rfl
      rw [e]
      have h2 := dieE_spec T dead r (szF m x) (dd ++ [x]) (P ++ [x]) (fun y hy => ho y (by simp [hy])) (fun k v hk => by
        rw [dget_put] at hk; split at hk
        · cases hk; omega
        · exact hv k v hk) (fun k => by
        rw [dget_put]
        split
        · rename_i e; constructor
          · intro h; cases h
          · exact fun h => absurd e.symm (h.2 x (by simp))
        · rename_i e
          rw [hm]
          constructor
          · rintro ⟨h2, h3⟩
            refine ⟨h2, fun g hg => ?_⟩
            rcases List.mem_append.1 hg with h | h
            · exact h3 g h
            · rw [List.mem_singleton.1 h]; exact fun e' => e e'.symm
          · exact fun ⟨h2, h3⟩ => ⟨h2, fun g hg => h3 g (by simp [hg])⟩) hao hcc (fun z => by
        rw [List.mem_append, hz, List.mem_append, List.mem_singleton]
        constructor
        · rintro ((h | ⟨h2, h3⟩) | h)
          · exact .inl h
          · exact .inr ⟨.inl h2, h3⟩
          · exact .inr ⟨.inr h, by rw [h]; exact anyA_false.2 h1.1⟩
        · rintro (h | ⟨h2 | h2, h3⟩)
          · exact .inl (.inl h)
          · exact .inl (.inr ⟨h2, h3⟩)
          · exact .inr h2) (by
        rw [List.pairwise_append]
        refine ⟨hp, by simp, fun y hy z hz' => ?_⟩
        rw [List.mem_singleton.1 hz']
        rcases (hz y).1 hy with h | ⟨h, _⟩
        · exact ha x (by simp) y h
        · exact h1.2 y h)
      rw [List.append_assoc] at h2
      exact h2
    | some v =>
      have h1 : ¬ ((∀ g, g ∈ flatA T → g.1 ≠ x.1) ∧ ∀ g, g ∈ P → g.1 ≠ x.1) := fun h => by rw [(hm x.1).2 h] at hd; cases hd
      have e : dieE (m, dd) x = (m, dd) := by unfold dieE gz; rw [hd]; have := hv _ _ hd; simp; omega
      rw [e]
      have h2 := dieE_spec T dead r m dd (P ++ [x]) (fun y hy => ho y (by simp [hy])) hv (fun k => by
        rw [hm]
        constructor
        · rintro ⟨h2, h3⟩
          refine ⟨h2, fun g hg => ?_⟩
          rcases List.mem_append.1 hg with h | h
          · exact h3 g h
          · rw [List.mem_singleton.1 h]; exact fun e' => h1 (by rw [e']; exact ⟨h2, h3⟩)
        · exact fun ⟨h2, h3⟩ => ⟨h2, fun g hg => h3 g (by simp [hg])⟩) hao hcc (fun z => by
        rw [hz, List.mem_append, List.mem_singleton]
        constructor
        · rintro (h | ⟨h2, h3⟩)
          · exact .inl h
          · exact .inr ⟨.inl h2, h3⟩
        · rintro (h | ⟨h2 | h2, h3⟩)
          · exact .inl h
          · exact .inr ⟨h2, h3⟩
          · right
            refine ⟨?_, h3⟩
            rw [h2] at h3 ⊢
            by_cases h4 : ∃ g, g ∈ P ∧ g.1 = x.1
            · obtain ⟨g, hg, e'⟩ := h4
              rw [← hc g (by simp [hg]) x (by simp) e']; exact hg
            · exact absurd ⟨anyA_false.1 h3, fun g hg e' => h4 ⟨g, hg, e'⟩⟩ h1) hp
      rw [List.append_assoc] at h2
      exact h2
theorem ss_sub : ∀ {M L : List Hd}, SS L → SS M → (∀ x, x ∈ L → x ∈ M) → L.length ≤ M.length
  | [], [], _, _, _ => Nat.le_refl _
  | [], x :: r, _, _, h => by have := h x (by simp); cases this
  | y :: s, [], _, _, _ => by simp
  | y :: s, x :: r, hL, hM, h => by
    have hL' := List.pairwise_cons.1 hL
    have hM' := List.pairwise_cons.1 hM
    have hxy : y.1 ≤ x.1 := by
      rcases List.mem_cons.1 (h x (by simp)) with h1 | h1
      · rw [h1]; exact Int.le_refl _
      · exact Int.le_of_lt (hM'.1 x h1)
    have := ss_sub (M := s) (L := r) hL'.2 hM'.2 fun z hz => by
      rcases List.mem_cons.1 (h z (by simp [hz])) with h1 | h1
      · have := hL'.1 z hz; rw [h1] at this; omega
      · exact h1
    simp; omega
theorem ss_of {ys : List Hd} (h : SLe ys) (hp : ys.Pairwise fun x y => x.1 ≠ y.1) : SS ys := by
  induction ys with
  | nil => exact List.Pairwise.nil
  | cons x r ih =>
    have h' := List.pairwise_cons.1 h
    have hp' := List.pairwise_cons.1 hp
    exact List.pairwise_cons.2 ⟨fun y hy => by have := h'.1 y hy; have := hp'.1 y hy; omega, ih h'.2 hp'.2⟩
/-- what this side sorts is what the other side has -/
theorem prune_same {S : List (Int × List Hd)} {dead : List Hd} (h : BI S dead) {seen : Int} {f : Nat} (hf : IsF S seen f) {ys : List Hd} (hp : ys.Perm ((flatA (S.take f)).foldl dieE (sizesP (S.drop f), dead)).2) (hs : SLe ys) :
    prR S seen dead = (S.drop f, ys) := by
  have hfe := hf.eq h.rise
  have h1 := prR_spec S seen dead h.ds h.con
  rw [← hfe] at h1
  have hc : Con (flatA (S.take f)) := fun a ha b hb e => h.fcon a (flatA_take ha) b (flatA_take hb) e
  have h2 := dieE_spec (S.drop f) dead (flatA (S.take f)) (sizesP (S.drop f)) dead [] (fun x hx => h.fok (flatA_take hx)) ?_ ?_ (fun x hx g hg => h.apart g hg x (flatA_take hx)) (by simpa using hc) (fun z => by simp) (h.ds.imp fun {a b} h => by omega)
  · refine Prod.ext h1.1 (ss_ext h1.2.1 (ss_of hs ?_) fun z => ?_)
    · refine (hp.pairwise_iff ?_).2 h2.2
      exact fun {a b} h => fun e => h e.symm
    · rw [h1.2.2, hp.mem_iff, h2.1, List.nil_append]
  · intro k v hk
    have key : ∀ (L : List Hd) (d : List (Int × Int)), (∀ x, x ∈ L → okH x = true) → (∀ k v, dget d k = some v → 1 ≤ v) → ∀ k v, dget (L.foldl szF d) k = some v → 1 ≤ v := by
      intro L
      induction L with
      | nil => intro d _ h; exact h
      | cons x r ih =>
        intro d ho hd
        refine ih _ (fun y hy => ho y (by simp [hy])) fun k v hk => ?_
        have hx := okH_i (ho x (by simp))
        rw [dget_put] at hk; split at hk
        · cases hk; omega
        · exact hd k v hk
    exact key _ _ (fun x hx => h.fok (flatA_drop hx)) (fun k v hk => by cases hk) k v hk
  · intro k
    simp only [List.not_mem_nil, false_imp_iff, implies_true, and_true]
    constructor
    · intro hk g hg e
      have := fold_yes (fun h => h.2 + 1) _ [] g hg fun y hy e' => h.fcon y (flatA_drop hy) g (flatA_drop hg) e'
      rw [e] at this
      unfold sizesP at hk
      rw [show (S.drop f).flatMap (·.2) = flatA (S.drop f) from rfl] at hk
      rw [show (flatA (S.drop f)).foldl szF [] = (flatA (S.drop f)).foldl (fun d h => dput d h.1 ((fun h => h.2 + 1) h)) [] from rfl, this] at hk
      cases hk
    · intro hk
      unfold sizesP
      rw [show ((S.drop f).flatMap (·.2)).foldl szF [] = (flatA (S.drop f)).foldl (fun d h => dput d h.1 ((fun h => h.2 + 1) h)) [] from rfl, fold_no _ _ _ _ hk]; rfl
theorem held_mem {S : List (Int × List Hd)} {dead : List Hd} (hc : Con (dead ++ flatA S)) {z : Hd} : z ∈ heldA S dead ↔ z ∈ dead ∨ z ∈ flatA S := foldput_mem _ _ hc
theorem BI.prune {S : List (Int × List Hd)} {dead : List Hd} (h : BI S dead) (seen : Int) (j : Nat) : BI (prR S seen dead).1 ((prR S seen dead).2.drop j) := by
  have h1 := prR_spec S seen dead h.ds h.con
  have hin : ∀ z, z ∈ (prR S seen dead).2.drop j → (z ∈ dead ∨ z ∈ flatA S) ∧ ∀ g, g ∈ flatA (S.drop (cntR S seen)) → z.1 ≠ g.1 := fun z hz => by
    rcases (h1.2.2 z).1 (List.mem_of_mem_drop hz) with h2 | ⟨h2, h3⟩
    · exact ⟨.inl h2, fun g hg => h.apart z h2 g (flatA_drop hg)⟩
    · exact ⟨.inr (flatA_take h2), fun g hg e => anyA_false.1 h3 g hg e.symm⟩
  have hsub : ∀ z, z ∈ (prR S seen dead).2.drop j ++ flatA (prR S seen dead).1 → z ∈ dead ++ flatA S := fun z hz => by
    rcases List.mem_append.1 hz with h2 | h2
    · exact List.mem_append.2 (hin z h2).1
    · rw [h1.1] at h2; exact List.mem_append.2 (.inr (flatA_drop h2))
  have hcon : Con ((prR S seen dead).2.drop j ++ flatA (prR S seen dead).1) := fun x hx y hy e => h.con x (hsub x hx) y (hsub y hy) e
  have hds : SS ((prR S seen dead).2.drop j) := h1.2.1.sublist (List.drop_sublist _ _)
  have hrise : (prR S seen dead).1.Pairwise fun x y => x.1 < y.1 := by rw [h1.1]; exact h.rise.sublist (List.drop_sublist _ _)
  refine ⟨hrise, fun x hx => ?_, fun x hx => ?_, fun x hx => ?_, hds, hcon, fun x hx y hy => ?_, ?_⟩
  · rw [h1.1] at hx; exact h.rng x (List.mem_of_mem_drop hx)
  · rw [h1.1] at hx; exact h.pl x (List.mem_of_mem_drop hx)
  · rcases (hin x hx).1 with h2 | h2
    · exact h.dok x h2
    · exact h.fok h2
  · rw [h1.1] at hy; exact (hin x hx).2 y hy
  · refine Nat.le_trans (ss_sub (foldput_ss _ _ hds) (held_ss h) fun z hz => ?_) h.few
    rw [held_mem h.con]
    exact List.mem_append.1 (hsub z (List.mem_append.2 ((held_mem hcon).1 hz)))
theorem BI.nil : BI [] [] := ⟨by simp, by simp, by simp, by simp, by simp, fun x hx => by simp at hx, by simp, by simp [heldA]⟩
theorem BI.dead0 {dead : List Hd} (hp : plainB dead = true) (hl : dead.length ≤ 256) : BI [] dead := ⟨by simp, by simp, by simp, plainB_ok hp, plainB_ss hp, by simpa [flatA] using ss_con (plainB_ss hp), by simp, by simpa [heldA] using hl⟩
theorem rise_len : ∀ (S : List (Int × List Hd)) (lo hi : Int), S.Pairwise (fun x y => x.1 < y.1) → (∀ x, x ∈ S → lo < x.1 ∧ x.1 ≤ hi) → lo ≤ hi → (S.length : Int) ≤ hi - lo
  | [], lo, hi, _, _, h => by simp; omega
  | x :: r, lo, hi, hr, hb, h => by
    have hr' := List.pairwise_cons.1 hr
    have hx := hb x (by simp)
    have := rise_len r x.1 hi hr'.2 (fun y hy => ⟨hr'.1 y hy, (hb y (by simp [hy])).2⟩) hx.2
    simp; omega
theorem BI.len {S : List (Int × List Hd)} {dead : List Hd} (h : BI S dead) : S.length ≤ 512 := by
  have := rise_len S 0 512 h.rise (fun x hx => by have := h.rng x hx; omega) (by omega)
  omega
theorem BI.len1 {S : List (Int × List Hd)} {dead : List Hd} (h : BI S dead) {x : Int × List Hd} (hx : x ∈ S) : x.2.length ≤ 256 :=
  Nat.le_trans (ss_sub (plainB_ss (h.pl x hx)) (held_ss h) fun z hz => (held_mem h.con).2 (.inr (List.mem_flatMap.2 ⟨x, hx, hz⟩))) h.few
theorem BI.lend {S : List (Int × List Hd)} {dead : List Hd} (h : BI S dead) : dead.length ≤ 256 :=
  Nat.le_trans (ss_sub h.ds (held_ss h) fun z hz => (held_mem h.con).2 (.inl hz)) h.few
end Go.Proofs.Ytfiambcocnceiaa
