import Derived.Test.YtfiambcocnceiaaPr7
set_option linter.unusedVariables false
set_option linter.unusedSimpArgs false
namespace Go.Proofs.Ytfiambcocnceiaa
open Go Go.E
def Con (L : List Hd) : Prop := ∀ x, x ∈ L → ∀ y, y ∈ L → x.1 = y.1 → x = y
abbrev SS (L : List Hd) : Prop := L.Pairwise fun x y => x.1 < y.1
abbrev SLe (L : List Hd) : Prop := L.Pairwise fun x y => x.1 ≤ y.1
theorem putH_sub {h x : Hd} : ∀ {L : List Hd}, x ∈ putH h L → x ∈ L ∨ x = h
  | [], hx => by simp [putH] at hx; exact .inr hx
  | p :: r, hx => by
    unfold putH at hx
    split at hx
    · rcases List.mem_cons.1 hx with rfl | hx
      · exact .inl (by simp)
      · rcases putH_sub hx with h1 | h1
        · exact .inl (by simp [h1])
        · exact .inr h1
    · split at hx
      · exact .inl hx
      · rcases List.mem_cons.1 hx with rfl | hx
        · exact .inr rfl
        · exact .inl hx
theorem putH_old {h x : Hd} : ∀ {L : List Hd}, x ∈ L → x ∈ putH h L
  | p :: r, hx => by
    unfold putH
    split
    · rcases List.mem_cons.1 hx with rfl | hx
      · simp
      · exact List.mem_cons_of_mem _ (putH_old hx)
    · split
      · exact hx
      · exact List.mem_cons_of_mem _ hx
theorem putH_new {h : Hd} : ∀ {L : List Hd}, (∀ y, y ∈ L → y.1 = h.1 → y = h) → h ∈ putH h L
  | [], _ => by simp [putH]
  | p :: r, hc => by
    unfold putH
    split
    · exact List.mem_cons_of_mem _ (putH_new fun y hy => hc y (by simp [hy]))
    · split
      · rename_i h1 h2; rw [hc p (by simp) h2]; simp
      · simp
theorem putH_mem {h x : Hd} {L : List Hd} (hc : ∀ y, y ∈ L → y.1 = h.1 → y = h) : x ∈ putH h L ↔ x ∈ L ∨ x = h :=
  ⟨putH_sub, fun hx => hx.elim putH_old fun e => by rw [e]; exact putH_new hc⟩
theorem putH_ss {h : Hd} : ∀ {L : List Hd}, SS L → SS (putH h L)
  | [], _ => by simp [putH]
  | p :: r, hs => by
    have hs' := List.pairwise_cons.1 hs
    unfold putH
    split
    · rename_i h1
      refine List.pairwise_cons.2 ⟨fun y hy => ?_, putH_ss hs'.2⟩
      rcases putH_sub hy with h2 | h2
      · exact hs'.1 y h2
      · rw [h2]; exact h1
    · split
      · exact hs
      · rename_i h1 h2
        refine List.pairwise_cons.2 ⟨fun y hy => ?_, hs⟩
        rcases List.mem_cons.1 hy with rfl | hy
        · omega
        · have := hs'.1 y hy; omega
theorem foldput_mem {x : Hd} : ∀ (hs d : List Hd), Con (d ++ hs) → (x ∈ hs.foldl putF d ↔ x ∈ d ∨ x ∈ hs)
  | [], d, _ => by simp
  | h :: r, d, hc => by
    have h1 : ∀ y, y ∈ d → y.1 = h.1 → y = h := fun y hy e => hc y (by simp [hy]) h (by simp) e
    have h2 : Con (putF d h ++ r) := fun a ha b hb e => by
      refine hc a ?_ b ?_ e
      · rcases List.mem_append.1 ha with ha | ha
        · rcases putH_sub ha with h | h <;> simp [h]
        · simp [ha]
      · rcases List.mem_append.1 hb with hb | hb
        · rcases putH_sub hb with h | h <;> simp [h]
        · simp [hb]
    rw [List.foldl_cons, foldput_mem r (putF d h) h2, show putF d h = putH h d from rfl, putH_mem h1, List.mem_cons]
    constructor
    · rintro ((h | h) | h) <;> simp [h]
    · rintro (h | h | h) <;> simp [h]
theorem foldput_ss : ∀ (hs d : List Hd), SS d → SS (hs.foldl putF d)
  | [], d, h => h
  | h :: r, d, hd => foldput_ss r (putF d h) (putH_ss hd)
theorem ss_ext : ∀ {L M : List Hd}, SS L → SS M → (∀ x, x ∈ L ↔ x ∈ M) → L = M
  | [], [], _, _, _ => rfl
  | [], y :: s, _, _, h => by have := (h y).2 (by simp); simp at this
  | x :: r, [], _, _, h => by have := (h x).1 (by simp); simp at this
  | x :: r, y :: s, hL, hM, h => by
    have hL' := List.pairwise_cons.1 hL
    have hM' := List.pairwise_cons.1 hM
    have e : x = y := by
      rcases List.mem_cons.1 ((h x).1 (by simp)) with h1 | h1
      · exact h1
      · rcases List.mem_cons.1 ((h y).2 (by simp)) with h2 | h2
        · exact h2.symm
        · have := hM'.1 x h1; have := hL'.1 y h2; omega
    subst e
    rw [ss_ext hL'.2 hM'.2 fun z => ?_]
    constructor
    · intro hz
      rcases List.mem_cons.1 ((h z).1 (by simp [hz])) with h1 | h1
      · subst h1; have := hL'.1 z hz; omega
      · exact h1
    · intro hz
      rcases List.mem_cons.1 ((h z).2 (by simp [hz])) with h1 | h1
      · subst h1; have := hM'.1 z hz; omega
      · exact h1
theorem ded_spec : ∀ (ys : List Hd) (p : Option Hd), SLe ys → Con ys → (∀ v, p = some v → ∀ x, x ∈ ys → v.1 ≤ x.1 ∧ (v.1 = x.1 → v = x)) → (∀ x, x ∈ ded p ys ↔ x ∈ ys ∧ some x ≠ p) ∧ SS (ded p ys)
  | [], p, _, _, _ => by simp [ded]
  | x :: r, p, hs, hc, hp => by
    have hs' := List.pairwise_cons.1 hs
    have ih := ded_spec r (some x) hs'.2 (fun a ha b hb e => hc a (by simp [ha]) b (by simp [hb]) e) (fun v hv y hy => by cases hv; exact ⟨hs'.1 y hy, fun e => hc x (by simp) y (by simp [hy]) e⟩)
    unfold ded
    split
    · rename_i e
      refine ⟨fun z => ?_, ih.2⟩
      rw [ih.1, ← e, List.mem_cons]
      constructor
      · exact fun ⟨h1, h2⟩ => ⟨.inr h1, h2⟩
      · rintro ⟨h1 | h1, h2⟩
        · exact absurd (by rw [h1]) h2
        · exact ⟨h1, h2⟩
    · rename_i e
      refine ⟨fun z => ?_, List.pairwise_cons.2 ⟨fun y hy => ?_, ih.2⟩⟩
      · rw [List.mem_cons, ih.1, List.mem_cons]
        constructor
        · rintro (h1 | ⟨h1, h2⟩)
          · subst h1; exact ⟨.inl rfl, e⟩
          · refine ⟨.inr h1, fun h3 => ?_⟩
            have h4 := hp z h3.symm x (by simp)
            have h5 := hs'.1 z h1
            have h6 := h4.2 (by omega)
            exact h2 (by rw [h6])
        · rintro ⟨h1 | h1, h2⟩
          · exact .inl h1
          · by_cases h3 : z = x
            · exact .inl h3
            · exact .inr ⟨h1, fun h4 => h3 (Option.some.inj h4)⟩
      · have h1 := (ih.1 y).1 hy
        have h2 := hs'.1 y h1.1
        rcases Int.lt_or_eq_of_le h2 with h3 | h3
        · exact h3
        · exact absurd (by rw [hc x (by simp) y (by simp [h1.1]) h3]) h1.2
theorem Con.perm {L M : List Hd} (h : Con L) (hp : M.Perm L) : Con M := fun x hx y hy e => h x (hp.mem_iff.1 hx) y (hp.mem_iff.1 hy) e
theorem held_eq {S : List (Int × List Hd)} {dead ys : List Hd} (hp : ys.Perm (dead ++ S.flatMap (·.2))) (hs : SLe ys) (hc : Con (dead ++ S.flatMap (·.2))) (hd : SS dead) : ded none ys = heldA S dead := by
  have h1 := ded_spec ys none hs (hc.perm hp) (fun v hv => by cases hv)
  refine ss_ext h1.2 (foldput_ss _ _ hd) fun x => ?_
  rw [h1.1]
  unfold heldA
  rw [foldput_mem _ _ hc, hp.mem_iff, List.mem_append]
  simp
theorem sumTake {hs : List Hd} {k : Nat} {u : Hd} (h : hs[k]? = some u) : ((hs.take (k + 1)).map (·.2)).sum = ((hs.take k).map (·.2)).sum + u.2 := by
  rw [take_snoc h]; simp
theorem sum_bound {hs : List Hd} (h : ∀ x, x ∈ hs → okH x = true) : 0 ≤ (hs.map (·.2)).sum ∧ (hs.map (·.2)).sum ≤ 4096 * hs.length := by
  induction hs with
  | nil => simp
  | cons x r ih =>
    have h1 := okH_i (h x (by simp))
    have h2 := ih fun y hy => h y (by simp [hy])
    simp only [List.map_cons, List.sum_cons, List.length_cons]; omega
def flatS (xs : List SX) : List Hd := xs.flatMap (·.hs)
theorem flatS_take {xs : List SX} {k : Nat} {x : SX} (h : xs[k]? = some x) : flatS (xs.take (k + 1)) = flatS (xs.take k) ++ x.hs := by unfold flatS; rw [take_snoc h]; simp
theorem flatS_A (xs : List SX) : (xs.map absS).flatMap (·.2) = flatS xs := by
  unfold flatS; induction xs with
  | nil => rfl
  | cons x r ih => simp only [List.map_cons, List.flatMap_cons, ih]; rfl
theorem flatS_len {xs : List SX} (h : ∀ x, x ∈ xs → x.hs.length ≤ 1000) : (flatS xs).length ≤ xs.length * 1000 := by
  unfold flatS
  induction xs with
  | nil => simp
  | cons x r ih =>
    have h3 := h x (by simp)
    have h4 := ih (fun y hy => h y (by simp [hy]))
    simp only [List.flatMap_cons, List.length_append, List.length_cons]; omega
theorem flatS_ok {xs : List SX} (h : OKS xs) : ∀ u, u ∈ flatS xs → okH u = true := fun u hu => by
  unfold flatS at hu
  obtain ⟨x, hx, hux⟩ := List.mem_flatMap.1 hu
  exact h x hx u hux
/-! what both sides say: Add -/
theorem dget_some_mem {d : List Hd} {k s : Int} (h : dget d k = some s) : (k, s) ∈ d := by
  induction d with
  | nil => cases h
  | cons p r ih =>
    unfold dget at h; split at h
    · rename_i e; cases h; rw [e]; simp
    · exact List.mem_cons_of_mem _ (ih h)
theorem dget_none {d : List Hd} {k : Int} : dget d k = none ↔ ∀ g, g ∈ d → g.1 ≠ k := by
  induction d with
  | nil => simp [dget]
  | cons p r ih =>
    unfold dget; split
    · rename_i e; simp [e]
    · rename_i e
      rw [ih]; constructor
      · intro h g hg
        rcases List.mem_cons.1 hg with rfl | hg
        · exact fun e' => e e'.symm
        · exact h g hg
      · exact fun h g hg => h g (by simp [hg])
theorem dget_of_mem {d : List Hd} {g : Hd} (hc : ∀ y, y ∈ d → y.1 = g.1 → y = g) (h : g ∈ d) : dget d g.1 = some g.2 := by
  cases e : dget d g.1 with
  | none => exact absurd rfl (dget_none.1 e g h)
  | some s => have := hc _ (dget_some_mem e) rfl; rw [← this]
theorem fold_no (f : Hd → Int) : ∀ (L : List Hd) (d : List (Int × Int)) (k : Int), (∀ h, h ∈ L → h.1 ≠ k) → dget (L.foldl (fun d h => dput d h.1 (f h)) d) k = dget d k
  | [], _, _, _ => rfl
  | x :: r, d, k, h => by
    rw [List.foldl_cons, fold_no f r _ k fun y hy => h y (by simp [hy]), dget_put_ne]
    exact fun e => h x (by simp) e.symm
theorem fold_yes (f : Hd → Int) : ∀ (L : List Hd) (d : List (Int × Int)) (g : Hd), g ∈ L → (∀ h, h ∈ L → h.1 = g.1 → h = g) → dget (L.foldl (fun d h => dput d h.1 (f h)) d) g.1 = some (f g)
  | x :: r, d, g, hg, hc => by
    rw [List.foldl_cons]
    by_cases h : g ∈ r
    · exact fold_yes f r _ g h fun y hy e => hc y (by simp [hy]) e
    · rcases List.mem_cons.1 hg with rfl | h'
      · rw [fold_no f r _ _ fun y hy e => h (by rw [← hc y (by simp [hy]) e]; exact hy), dget_put_self]
      · exact absurd h' h
theorem fold_const : ∀ (L : List Hd) (d : List (Int × Int)) (g : Hd), g ∈ L → dget (L.foldl dmF d) g.1 = some 1
  | x :: r, d, g, hg => by
    rw [List.foldl_cons]
    by_cases h : ∃ y, y ∈ r ∧ y.1 = g.1
    · obtain ⟨y, hy, e⟩ := h
      rw [← e]; exact fold_const r _ y hy
    · rcases List.mem_cons.1 hg with rfl | h'
      · rw [show (r.foldl dmF (dmF d g)) = r.foldl (fun d h => dput d h.1 ((fun _ => 1) h)) (dmF d g) from rfl, fold_no _ r _ _ fun y hy e => h ⟨y, hy, e⟩, dget_put_self]
      · exact absurd ⟨g, h', rfl⟩ h
abbrev flatA (S : List (Int × List Hd)) : List Hd := S.flatMap (·.2)
structure BI (S : List (Int × List Hd)) (dead : List Hd) : Prop where
  rise : S.Pairwise fun x y => x.1 < y.1
  rng : ∀ x, x ∈ S → 1 ≤ x.1 ∧ x.1 ≤ 512
  pl : ∀ x, x ∈ S → plainB x.2 = true
  dok : ∀ h, h ∈ dead → okH h = true
  ds : SS dead
  con : Con (dead ++ flatA S)
  apart : ∀ x, x ∈ dead → ∀ y, y ∈ flatA S → x.1 ≠ y.1
  few : (heldA S dead).length ≤ 256
theorem plainG_ss : ∀ (hs : List Hd) (p : Int), plainG p hs = true → SS hs ∧ ∀ x, x ∈ hs → p < x.1
  | [], _, _ => by simp
  | u :: r, p, h => by
    unfold plainG at h
    simp only [Bool.and_eq_true, decide_eq_true_eq] at h
    have ih := plainG_ss r u.1 h.2.2
    exact ⟨List.pairwise_cons.2 ⟨fun y hy => ih.2 y hy, ih.1⟩, fun x hx => by
      rcases List.mem_cons.1 hx with rfl | hx
      · exact h.1
      · have := ih.2 x hx; omega⟩
theorem plainB_ss {hs : List Hd} (h : plainB hs = true) : SS hs := (plainG_ss hs _ h).1
theorem ss_con {L : List Hd} (h : SS L) : Con L := by
  induction L with
  | nil => intro x hx; cases hx
  | cons u r ih =>
    have h' := List.pairwise_cons.1 h
    intro x hx y hy e
    rcases List.mem_cons.1 hx with h1 | h1 <;> rcases List.mem_cons.1 hy with h2 | h2
    · rw [h1, h2]
    · have := h'.1 y h2; rw [h1] at e; omega
    · have := h'.1 x h1; rw [h2] at e; omega
    · exact ih h'.2 x h1 y h2 e
theorem plain_of_ss {hs : List Hd} (hs0 : SS hs) (ho : ∀ x, x ∈ hs → okH x = true) : plainB hs = true := by
  have key : ∀ (hs : List Hd) (p : Int), SS hs → (∀ x, x ∈ hs → okH x = true) → (∀ x, x ∈ hs → p < x.1) → plainG p hs = true := by
    intro hs
    induction hs with
    | nil => intro p _ _ _; rfl
    | cons u r ih =>
      intro p h1 h2 h3
      have h1' := List.pairwise_cons.1 h1
      unfold plainG
      rw [decide_eq_true (h3 u (by simp)), h2 u (by simp), ih u.1 h1'.2 (fun x hx => h2 x (by simp [hx])) h1'.1]; rfl
  exact key hs (-1) hs0 ho fun x hx => by have := okH_i (ho x hx); omega
theorem BI.fok {S : List (Int × List Hd)} {dead : List Hd} (h : BI S dead) {g : Hd} (hg : g ∈ flatA S) : okH g = true := by
  obtain ⟨x, hx, hgx⟩ := List.mem_flatMap.1 hg
  exact plainB_ok (h.pl x hx) g hgx
theorem BI.fcon {S : List (Int × List Hd)} {dead : List Hd} (h : BI S dead) : Con (flatA S) := fun x hx y hy e => h.con x (by simp [-List.mem_flatMap, hx]) y (by simp [-List.mem_flatMap, hy]) e
theorem clash_fit {S : List (Int × List Hd)} {dead : List Hd} (h : BI S dead) (u : Hd) : fit1 (sizesP S) (deadM dead) u = !clash1 S dead u := by
  cases hd : dget dead u.1 with
  | some s =>
    have h1 := dget_some_mem hd
    have h2 : gz (deadM dead) u.1 = 1 := by unfold gz deadM; rw [show u.1 = ((u.1, s) : Hd).1 from rfl, fold_const _ _ _ h1]; rfl
    unfold fit1 clash1; rw [h2, hd]; simp
  | none =>
    have h1 := dget_none.1 hd
    have h2 : gz (deadM dead) u.1 = 0 := by
      unfold gz deadM
      rw [show dead.foldl dmF [] = dead.foldl (fun d h => dput d h.1 ((fun _ => 1) h)) [] from rfl, fold_no _ _ _ _ h1]; rfl
    unfold fit1 clash1; rw [h2, hd]
    simp only [Option.isSome_none, Bool.false_or, Int.lt_irrefl, decide_false, Bool.or_false]
    by_cases hg : ∃ g, g ∈ flatA S ∧ g.1 = u.1
    · obtain ⟨g, hg, e⟩ := hg
      have h3 : gz (sizesP S) u.1 = g.2 + 1 := by
        unfold gz sizesP; rw [← e, fold_yes (fun h => h.2 + 1) _ _ g hg fun y hy e' => h.fcon y hy g hg e']; rfl
      have h4 := okH_i (h.fok hg)
      rw [h3]
      have h5 : S.any (bad1 u) = decide (g.2 ≠ u.2) := by
        by_cases h6 : g.2 = u.2
        · rw [decide_eq_false (by simp [h6]), List.any_eq_false]
          intro x hx
          unfold bad1
          cases h7 : dget x.2 u.1 with
          | none => simp
          | some s =>
            have h8 := dget_some_mem h7
            have h9 := h.fcon _ (List.mem_flatMap.2 ⟨x, hx, h8⟩) g hg e.symm
            simp; rw [← h6, ← h9]
        · rw [decide_eq_true (by simp [h6]), List.any_eq_true]
          obtain ⟨x, hx, hgx⟩ := List.mem_flatMap.1 hg
          refine ⟨x, hx, ?_⟩
          unfold bad1
          rw [← e, dget_of_mem (fun y hy e' => h.fcon y (List.mem_flatMap.2 ⟨x, hx, hy⟩) g hg e') hgx]
          simpa using h6
      rw [h5]
      by_cases h6 : g.2 = u.2
      · simp [h6]
      · rw [decide_eq_true (show 0 < g.2 + 1 by omega), decide_eq_true (show g.2 + 1 ≠ u.2 + 1 by omega), decide_eq_true (show g.2 ≠ u.2 from h6)]; rfl
    · have h3 : gz (sizesP S) u.1 = 0 := by
        unfold gz sizesP
        rw [show (S.flatMap (·.2)).foldl szF [] = (S.flatMap (·.2)).foldl (fun d h => dput d h.1 ((fun h => h.2 + 1) h)) [] from rfl, fold_no _ _ _ _ fun g hg1 e => hg ⟨g, hg1, e⟩]; rfl
      rw [h3]
      have h5 : S.any (bad1 u) = false := by
        rw [List.any_eq_false]
        intro x hx
        unfold bad1
        rw [dget_none.2 fun g hgx e => hg ⟨g, List.mem_flatMap.2 ⟨x, hx, hgx⟩, e⟩]; simp
      rw [h5]; simp
theorem fits_clash {S : List (Int × List Hd)} {dead : List Hd} (h : BI S dead) (hs : List Hd) : fitsB (sizesP S) (deadM dead) hs = !clashB S dead hs := by
  unfold fitsB clashB
  induction hs with
  | nil => rfl
  | cons u r ih => simp only [List.all_cons, List.any_cons, ih, clash_fit h, Bool.not_or]
theorem isSome_putH (h : Hd) (k : Int) : ∀ d : List Hd, (dget (putH h d) k).isSome = ((dget d k).isSome || decide (k = h.1))
  | [] => by unfold putH dget dget; by_cases e : k = h.1 <;> simp [e]
  | p :: r => by
    unfold putH
    split
    · conv => lhs; unfold dget
      conv => rhs; unfold dget
      split
      · simp
      · exact isSome_putH h k r
    · split
      · rename_i e1 e2
        by_cases e : k = h.1
        · conv => lhs; unfold dget
          conv => rhs; unfold dget
          simp [e, e2]
        · simp [e]
      · conv => lhs; unfold dget
        by_cases e : k = h.1 <;> simp [e]
theorem len_putH (h : Hd) : ∀ d : List Hd, SS d → (putH h d).length = d.length + if (dget d h.1).isSome then 0 else 1
  | [], _ => by simp [putH, dget]
  | p :: r, hs => by
    have hs' := List.pairwise_cons.1 hs
    unfold putH dget
    split
    · rename_i e1
      rw [if_neg (show ¬ h.1 = p.1 by omega)]
      simp only [List.length_cons, len_putH h r hs'.2]; omega
    · split
      · rename_i e1 e2; rw [if_pos e2.symm]; simp
      · rename_i e1 e2
        rw [if_neg (show ¬ h.1 = p.1 by omega), dget_none.2 fun g hg e => by have := hs'.1 g hg; omega]; simp
theorem len_dput (d : List (Int × Int)) (k v : Int) : (dput d k v).length = d.length + if (dget d k).isSome then 0 else 1 := by
  have := congrArg List.length (dput_keys d k v)
  simp only [List.length_map] at this
  rw [this]; split <;> simp
theorem isSome_dput (d : List (Int × Int)) (k v j : Int) : (dget (dput d k v) j).isSome = ((dget d j).isSome || decide (j = k)) := by
  rw [dget_put]; split
  · rename_i e; simp [e]
  · rename_i e; simp [e]
theorem fold_len (dead : List Hd) : ∀ (L d : List Hd) (m : List (Int × Int)), SS d → (∀ k, (dget d k).isSome = ((dget dead k).isSome || (dget m k).isSome)) → d.length = dead.length + m.length → (∀ h, h ∈ L → dget dead h.1 = none) →
    (L.foldl putF d).length = dead.length + (L.foldl szF m).length ∧ ∀ k, (dget (L.foldl putF d) k).isSome = ((dget dead k).isSome || (dget (L.foldl szF m) k).isSome)
  | [], d, m, _, hk, hl, _ => ⟨hl, hk⟩
  | x :: r, d, m, hs, hk, hl, ha => by
    have e := hk x.1
    rw [ha x (by simp)] at e
    refine fold_len dead r (putF d x) (szF m x) (putH_ss hs) (fun k => ?_) ?_ fun y hy => ha y (by simp [hy])
    · show (dget (putH x d) k).isSome = _
      rw [isSome_putH, hk, isSome_dput]; simp [Bool.or_assoc]
    · show (putH x d).length = _
      rw [len_putH x d hs, len_dput, e, hl]; simp; omega
theorem newN_len : ∀ (hs : List Hd) (D : List (Int × Int)), SS hs → (∀ x, x ∈ hs → okH x = true) → (∀ k v, dget D k = some v → 1 ≤ v) → (hs.foldl szF D).length = D.length + newN D hs
  | [], D, _, _, _ => by simp [newN]
  | x :: r, D, hs, ho, hD => by
    have hs' := List.pairwise_cons.1 hs
    have hx := okH_i (ho x (by simp))
    rw [List.foldl_cons, newN_len r (szF D x) hs'.2 (fun y hy => ho y (by simp [hy])) fun k v hk => by
      rw [dget_put] at hk; split at hk
      · cases hk; omega
      · exact hD k v hk]
    have e1 : newN (szF D x) r = newN D r := by
      unfold newN
      congr 1
      apply List.filter_congr
      intro y hy
      have := hs'.1 y hy
      unfold gz
      rw [show szF D x = dput D x.1 (x.2 + 1) from rfl, dget_put_ne _ _ (by omega)]
    rw [e1, show szF D x = dput D x.1 (x.2 + 1) from rfl, len_dput]
    unfold newN gz
    rw [List.filter_cons]
    cases e : dget D x.1 with
    | none => simp; omega
    | some v => have hv : ¬ v = 0 := by have := hD _ _ e; omega
                simp [hv]
theorem sizes_pos {S : List (Int × List Hd)} {dead : List Hd} (h : BI S dead) : ∀ k v, dget (sizesP S) k = some v → 1 ≤ v := by
  have key : ∀ (L : List Hd) (d : List (Int × Int)), (∀ x, x ∈ L → okH x = true) → (∀ k v, dget d k = some v → 1 ≤ v) → ∀ k v, dget (L.foldl szF d) k = some v → 1 ≤ v := by
    intro L
    induction L with
    | nil => intro d _ h; exact h
    | cons x r ih =>
      intro d ho hd
      refine ih _ (fun y hy => ho y (by simp [hy])) fun k v hk => ?_
      have hx := okH_i (ho x (by simp))
      rw [dget_put] at hk; split at hk
      · cases hk; omega
      · exact hd k v hk
  exact key _ _ (fun x hx => h.fok hx) fun k v hk => by cases hk
theorem clash_dead {S : List (Int × List Hd)} {dead hs : List Hd} (h : clashB S dead hs = false) {u : Hd} (hu : u ∈ hs) : dget dead u.1 = none := by
  unfold clashB at h
  rw [List.any_eq_false] at h
  have := h u hu
  unfold clash1 at this
  cases e : dget dead u.1 with
  | none => rfl
  | some s => rw [e] at this; simp at this
theorem held_ss {S : List (Int × List Hd)} {dead : List Hd} (h : BI S dead) : SS (heldA S dead) := foldput_ss _ _ h.ds
theorem many_eq {S : List (Int × List Hd)} {dead hs : List Hd} (h : BI S dead) (hp : plainB hs = true) (hc : clashB S dead hs = false) : manyP S dead hs = (hs.foldl putF (heldA S dead)).length := by
  have h1 := fold_len dead (flatA S) dead [] h.ds (fun k => by simp [dget]) (by simp) fun g hg => dget_none.2 fun y hy e => h.apart y hy g hg e
  have h2 := fold_len dead hs (heldA S dead) (sizesP S) (held_ss h) h1.2 h1.1 fun u hu => clash_dead hc hu
  rw [h2.1, newN_len hs (sizesP S) (plainB_ss hp) (plainB_ok hp) (sizes_pos h)]
  unfold manyP; omega
theorem add_same {S : List (Int × List Hd)} {dead : List Hd} (h : BI S dead) (n : Int) (hs : List Hd) : addE S dead n hs = addR S dead n hs := by
  by_cases h1 : n < 1 ∨ 512 < n ∨ n ≤ lastN S
  · rw [addE_n h1, addR_n h1]
  cases hp : plainB hs with
  | false => rw [addE_p h1 hp, addR_p h1 hp]
  | true =>
    cases hc : clashB S dead hs with
    | true => rw [addE_f h1 hp (by rw [fits_clash h, hc]; rfl), addR_c h1 hp hc]
    | false =>
      have hf : fitsB (sizesP S) (deadM dead) hs = true := by rw [fits_clash h, hc]; rfl
      have hm := many_eq h hp hc
      by_cases h2 : 256 < manyP S dead hs
      · rw [addE_m h1 hp hf h2, addR_m h1 hp hc (by rw [← hm]; exact h2)]
      · rw [addE_ok h1 hp hf h2, addR_ok h1 hp hc (by rw [← hm]; exact h2)]
theorem last_ge {S : List (Int × List Hd)} (h : S.Pairwise fun x y => x.1 < y.1) : ∀ x, x ∈ S → x.1 ≤ lastN S := by
  intro x hx
  unfold lastN
  rw [List.getLast?_eq_getElem?]
  obtain ⟨i, hi, rfl⟩ := List.mem_iff_getElem.1 hx
  rw [List.getElem?_eq_getElem (by omega)]
  simp only [Option.map_some, Option.getD_some]
  rcases Nat.lt_or_ge i (S.length - 1) with hlt | hge
  · exact Int.le_of_lt (List.pairwise_iff_getElem.1 h i (S.length - 1) hi (by omega) hlt)
  · have : i = S.length - 1 := by omega
    subst this; exact Int.le_refl _
theorem addR_inv {S : List (Int × List Hd)} {dead : List Hd} {n : Int} {hs : List Hd} (h : addR S dead n hs = 0) : 1 ≤ n ∧ n ≤ 512 ∧ lastN S < n ∧ plainB hs = true ∧ clashB S dead hs = false ∧ (hs.foldl putF (heldA S dead)).length ≤ 256 := by
  by_cases h1 : n < 1 ∨ 512 < n ∨ n ≤ lastN S
  · rw [addR_n h1] at h; exact absurd h (by decide)
  cases hp : plainB hs with
  | false => rw [addR_p h1 hp] at h; exact absurd h (by decide)
  | true =>
    cases hc : clashB S dead hs with
    | true => rw [addR_c h1 hp hc] at h; exact absurd h (by decide)
    | false =>
      by_cases h2 : 256 < (hs.foldl putF (heldA S dead)).length
      · rw [addR_m h1 hp hc h2] at h; exact absurd h (by decide)
      · exact ⟨by omega, by omega, by omega, rfl, rfl, by omega⟩
theorem BI.add {S : List (Int × List Hd)} {dead : List Hd} (h : BI S dead) {n : Int} {hs : List Hd} (ha : addR S dead n hs = 0) : BI (S ++ [(n, hs)]) dead := by
  obtain ⟨h1, h2, h3, hp, hc, hm⟩ := addR_inv ha
  have hfl : flatA (S ++ [(n, hs)]) = flatA S ++ hs := by simp [flatA]
  have hdd : ∀ u, u ∈ hs → ∀ g, g ∈ dead → g.1 ≠ u.1 := fun u hu => dget_none.1 (clash_dead hc hu)
  have hff : ∀ u, u ∈ hs → ∀ g, g ∈ flatA S → g.1 = u.1 → g = u := fun u hu g hg e => by
    unfold clashB at hc
    rw [List.any_eq_false] at hc
    have h4 := hc u hu
    unfold clash1 at h4
    simp only [Bool.or_eq_true, not_or, Bool.not_eq_true, List.any_eq_false] at h4
    obtain ⟨x, hx, hgx⟩ := List.mem_flatMap.1 hg
    have h5 := h4.2 x hx
    unfold bad1 at h5
    rw [← e, dget_of_mem (fun y hy e' => h.fcon y (List.mem_flatMap.2 ⟨x, hx, hy⟩) g hg e') hgx] at h5
    simp at h5
    exact Prod.ext e h5
  refine ⟨?_, ?_, ?_, h.dok, h.ds, ?_, ?_, ?_⟩
  · rw [List.pairwise_append]
    refine ⟨h.rise, by simp, fun x hx y hy => ?_⟩
    rw [List.mem_singleton.1 hy]
    have := last_ge h.rise x hx
    show x.1 < n; omega
  · intro x hx
    rcases List.mem_append.1 hx with hx | hx
    · exact h.rng x hx
    · rw [List.mem_singleton.1 hx]; exact ⟨h1, h2⟩
  · intro x hx
    rcases List.mem_append.1 hx with hx | hx
    · exact h.pl x hx
    · rw [List.mem_singleton.1 hx]; exact hp
  · rw [hfl, ← List.append_assoc]
    intro x hx y hy e
    rcases List.mem_append.1 hx with hx | hx <;> rcases List.mem_append.1 hy with hy | hy
    · exact h.con x hx y hy e
    · rcases List.mem_append.1 hx with hx | hx
      · exact absurd e (hdd y hy x hx)
      · exact hff y hy x hx e
    · rcases List.mem_append.1 hy with hy | hy
      · exact absurd e.symm (hdd x hx y hy)
      · exact (hff x hx y hy e.symm).symm
    · exact ss_con (plainB_ss hp) x hx y hy e
  · rw [hfl]
    intro x hx y hy
    rcases List.mem_append.1 hy with hy | hy
    · exact h.apart x hx y hy
    · exact hdd y hy x hx
  · have : heldA (S ++ [(n, hs)]) dead = hs.foldl putF (heldA S dead) := by unfold heldA; rw [show (S ++ [(n, hs)]).flatMap (·.2) = S.flatMap (·.2) ++ hs from hfl, List.foldl_append]
    rw [this]; exact hm
end Go.Proofs.Ytfiambcocnceiaa
