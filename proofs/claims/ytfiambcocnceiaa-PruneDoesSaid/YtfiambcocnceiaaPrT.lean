import Derived.Test.YtfiambcocnceiaaPr11
import Derived.Test.YtfiambcocnceiaaRt
set_option linter.unusedVariables false
set_option linter.unusedSimpArgs false
namespace Go.Proofs.Ytfiambcocnceiaa
open Go Go.E
theorem zip_parts : ∀ hs : List Hd, (hs.map (·.1)).zip (hs.map (·.2)) = hs
  | [] => rfl
  | x :: r => by simp only [List.map_cons, List.zip_cons_cons, zip_parts r]
theorem rdLists_print {s post : List UInt8} {p : Nat} {hs : List Hd} (hw : ∀ h, h ∈ hs → WH h) (hl : hs.length ≤ 512) (h : s.drop p = listsB hs ++ post) : rdLists s p = (hs, ((p + (listsB hs).length : Nat) : Int), 0) := by
  have h' : s.drop p = numsB (hs.map (·.1)) ++ (numsB (hs.map (·.2)) ++ post) := by rw [h]; simp [listsB]
  have h1 := rdNums_print (fun x hx => by obtain ⟨y, hy, rfl⟩ := List.mem_map.1 hx; exact (hw y hy).1) (by simpa using hl) h'
  have h2 := rdNums_print (xs := hs.map (·.2)) (fun x hx => by obtain ⟨y, hy, rfl⟩ := List.mem_map.1 hx; exact (hw y hy).2) (by simpa using hl) (dropApp h')
  have e : (rdNums s p).2.1 = ((p + (numsB (hs.map (·.1))).length : Nat) : Int) := by rw [h1]
  rw [rdLists_ok (by rw [h1]) (by rw [e, h2]) (by rw [e, h1, h2]; simp), e, h1, h2]
  simp only []
  rw [zip_parts]
  simp [listsB, Nat.add_assoc]
theorem rdLists_read {s : List UInt8} {p : Nat} (h : (rdLists s p).2.2 = 0) : s.drop p = listsB (rdLists s p).1 ++ s.drop (rdLists s p).2.1.toNat ∧ 0 ≤ (rdLists s p).2.1 := by
  obtain ⟨h1, h2, h3, h4⟩ := rdLists_inv h
  have h5 := rdNums_read h1
  obtain ⟨q, hq⟩ : ∃ q : Nat, (rdNums s p).2.1 = (q : Int) := ⟨(rdNums s p).2.1.toNat, by have := (rdNums_le h1).2; omega⟩
  rw [h4]
  rw [hq] at h2 h3 h5 ⊢
  have h6 := rdNums_read h2
  refine ⟨?_, (rdNums_le h2).2⟩
  rw [Int.toNat_natCast] at h5
  rw [h5, h6]
  unfold listsB
  simp only [List.map_fst_zip (show (rdNums s p).1.length ≤ (rdNums s q).1.length by omega), List.map_snd_zip (show (rdNums s q).1.length ≤ (rdNums s p).1.length by omega), List.append_assoc]
theorem rdSt_print {s post : List UInt8} : ∀ (xs : SS2) (p : Nat) (acc : SS2), (∀ x, x ∈ xs → WS x ∧ x.2.length ≤ 512) → s.drop p = bytesS xs ++ post → rdSt s xs.length p acc = (acc ++ xs, ((p + (bytesS xs).length : Nat) : Int), 0)
  | [], p, acc, _, _ => by simp [rdSt, bytesS]
  | x :: r, p, acc, hw, h => by
    have hx := hw x (by simp)
    have h' : s.drop p = numS x.1 ++ (listsB x.2 ++ (bytesS r ++ post)) := by rw [h]; simp [bytesS]
    have h1 := rdNum_print hx.1.1 h'
    have h2 := rdLists_print hx.1.2.1 hx.2 (dropApp h')
    rw [List.length_cons, rdSt_go (by rw [h1]) (by rw [h1, h2]), h1, h2]
    have ih := rdSt_print (s := s) (post := post) r (p + (numS x.1).length + (listsB x.2).length) (acc ++ [(x.1, x.2)]) (fun y hy => hw y (by simp [hy])) (dropApp (dropApp h'))
    simp only []
    rw [ih]
    simp [bytesS]; omega
theorem rdSt_read {s : List UInt8} : ∀ (k p : Nat) (acc : SS2), p ≤ s.length → (rdSt s k p acc).2.2 = 0 → ∃ ys, (rdSt s k p acc).1 = acc ++ ys ∧ ys.length = k ∧ s.drop p = bytesS ys ++ s.drop (rdSt s k p acc).2.1.toNat ∧ 0 ≤ (rdSt s k p acc).2.1
  | 0, p, acc, _, _ => ⟨[], by simp [rdSt], rfl, by simp [rdSt, bytesS], by simp [rdSt]⟩
  | k + 1, p, acc, hp, h => by
    by_cases h1 : (rdNum s p).2.2 = 0
    · by_cases h2 : (rdLists s (rdNum s p).2.1).2.2 = 0
      · rw [rdSt_go h1 h2] at h ⊢
        have h3 := rdNum_next h1 (by omega)
        have h4 := rdNum_read hp h1
        obtain ⟨q, hq⟩ : ∃ q : Nat, (rdNum s p).2.1 = (q : Int) := ⟨(rdNum s p).2.1.toNat, by omega⟩
        rw [hq] at h h2 h4 ⊢
        have h5 := rdLists_read h2
        have h6 := rdLists_le h2
        obtain ⟨t, ht⟩ : ∃ t : Nat, (rdLists s q).2.1 = (t : Int) := ⟨(rdLists s q).2.1.toNat, by omega⟩
        rw [ht] at h h5 h6 ⊢
        obtain ⟨ys, h7, h8, h9, h10⟩ := rdSt_read k t _ (by omega) h
        refine ⟨((rdNum s p).1, (rdLists s q).1) :: ys, by rw [h7]; simp, by simp [h8], ?_, h10⟩
        rw [h4, Int.toNat_natCast, h5.1, Int.toNat_natCast, h9]; simp [bytesS]
      · rw [rdSt_e2 h1 h2] at h; exact absurd h h2
    · rw [rdSt_e1 h1] at h; exact absurd h h1
theorem BI.wf {S : SS2} {dead : List Hd} (h : BI S dead) : (∀ x, x ∈ S → WS x ∧ x.2.length ≤ 512) ∧ (∀ x, x ∈ dead → WH x) := by
  have ho : ∀ x, okH x = true → WH x := fun x hx => by have := okH_i hx; unfold WH W64; omega
  exact ⟨fun x hx => ⟨⟨by have := h.rng x hx; unfold W64; omega, fun g hg => ho g (h.fok (List.mem_flatMap.2 ⟨x, hx, hg⟩)), by have := h.len1 hx; omega⟩, by have := h.len1 hx; omega⟩, fun x hx => ho x (h.dok x hx)⟩
theorem add_again {P r : SS2} {x : Int × List Hd} {dead : List Hd} (h : BI (P ++ x :: r) dead) : addR P dead x.1 x.2 = 0 := by
  have hpr := List.pairwise_append.1 h.rise
  have hxm : x ∈ P ++ x :: r := by simp
  have hr := h.rng x hxm
  have hl : lastN P < x.1 := by
    unfold lastN
    cases hg : P.getLast? with
    | none => simp; omega
    | some y => exact hpr.2.2 y (List.mem_of_getLast? hg) x (by simp)
  have hfx : ∀ u, u ∈ x.2 → u ∈ flatA (P ++ x :: r) := fun u hu => List.mem_flatMap.2 ⟨x, hxm, hu⟩
  have hfP : ∀ y, y ∈ P → ∀ u, u ∈ y.2 → u ∈ flatA (P ++ x :: r) := fun y hy u hu => List.mem_flatMap.2 ⟨y, by simp [hy], hu⟩
  have hc : clashB P dead x.2 = false := by
    unfold clashB
    rw [List.any_eq_false]
    intro u hu
    unfold clash1
    rw [dget_none.2 fun g hg e => h.apart g hg u (hfx u hu) e]
    have : P.any (bad1 u) = false := by
      rw [List.any_eq_false]
      intro y hy
      unfold bad1
      cases hd : dget y.2 u.1 with
      | none => simp
      | some s =>
        have := h.fcon _ (hfP y hy _ (dget_some_mem hd)) u (hfx u hu) rfl
        simp; rw [← this]
    rw [this]; simp
  have hyy : ∀ y, y ∈ P ++ [x] → y ∈ P ++ x :: r := fun y hy => by
    rcases List.mem_append.1 hy with hy | hy
    · exact List.mem_append.2 (.inl hy)
    · rw [List.mem_singleton.1 hy]; exact hxm
  have hcon : Con (dead ++ flatA (P ++ [x])) := fun a ha b hb e => by
    have hin : ∀ z, z ∈ dead ++ flatA (P ++ [x]) → z ∈ dead ++ flatA (P ++ x :: r) := fun z hz => by
      rcases List.mem_append.1 hz with hz | hz
      · exact List.mem_append.2 (.inl hz)
      · obtain ⟨y, hy, hzy⟩ := List.mem_flatMap.1 hz
        exact List.mem_append.2 (.inr (List.mem_flatMap.2 ⟨y, hyy y hy, hzy⟩))
    exact h.con a (hin a ha) b (hin b hb) e
  have hm : (x.2.foldl putF (heldA P dead)).length ≤ 256 := by
    have e : heldA (P ++ [x]) dead = x.2.foldl putF (heldA P dead) := by unfold heldA; rw [List.flatMap_append, List.foldl_append]; simp
    rw [← e]
    refine Nat.le_trans (ss_sub (foldput_ss _ _ h.ds) (held_ss h) fun z hz => ?_) h.few
    rw [held_mem h.con]
    rcases (held_mem hcon).1 hz with hz | hz
    · exact .inl hz
    · obtain ⟨y, hy, hzy⟩ := List.mem_flatMap.1 hz
      exact .inr (List.mem_flatMap.2 ⟨y, hyy y hy, hzy⟩)
  exact addR_ok (by omega) (h.pl x hxm) hc (by omega)
theorem adds_again {dead : List Hd} : ∀ (r P : SS2), BI (P ++ r) dead → addsB dead r P = true
  | [], _, _ => rfl
  | x :: r, P, h => by
    unfold addsB
    rw [decide_eq_true (add_again h), adds_again r (P ++ [x]) (by simpa using h)]; rfl
/-- a book's bytes, read -/
theorem read_bytes {S : SS2} {dead : List Hd} (h : BI S dead) : readS (bytesB S dead) = (0, S, dead) := by
  obtain ⟨hw, hwd⟩ := h.wf
  have hlen := h.len
  have hld := h.lend
  have h0 : (bytesB S dead).drop 0 = numS (S.length : Int) ++ (bytesS S ++ listsB dead) := by simp [bytesB]
  have h1 := rdNum_print (s := bytesB S dead) (p := 0) (z := (S.length : Int)) (by unfold W64; omega) h0
  have hd1 := dropApp h0
  have h2 := rdSt_print (s := bytesB S dead) (post := listsB dead) S (0 + (numS (S.length : Int)).length) [] hw hd1
  have hd2 := dropApp hd1
  have h3 := rdLists_print (s := bytesB S dead) (post := []) hwd (by omega) (by rw [List.append_nil]; exact hd2)
  have hN : rdN0 (bytesB S dead) = (S, ((0 + (numS (S.length : Int)).length + (bytesS S).length : Nat) : Int), 0) := by
    unfold rdN0
    rw [show rdNum (bytesB S dead) 0 = _ from h1]
    simpa using h2
  have hD : rdD (bytesB S dead) = (dead, ((0 + (numS (S.length : Int)).length + (bytesS S).length + (listsB dead).length : Nat) : Int), 0) := by
    unfold rdD; rw [hN]; exact h3
  have hp : plainB dead = true := plain_of_ss h.ds h.dok
  rw [readS_0 (by rw [show rdNum (bytesB S dead) 0 = _ from h1]) (by rw [show rdNum (bytesB S dead) 0 = _ from h1]; simp only []; omega) (by rw [hN]) (by rw [hD]) ?_ ?_, hN, hD]
  · rw [hD]
    rintro (h | h | h)
    · exact h (by simp [bytesB]; omega)
    · rw [hp] at h; cases h
    · simp only [] at h; omega
  · rw [hD, hN]; exact adds_again S [] (by simpa using h)
theorem bytes_read {s : List UInt8} (h : (readS s).1 = 0) : bytesB (readS s).2.1 (readS s).2.2 = s := by
  obtain ⟨h1, h2, h3, h4, h5, h6, h7⟩ := readS_inv h
  rw [h7]
  have k0 := rdNum_next h1 (by omega)
  have k1 := rdNum_read (s := s) (p := 0) (by omega) h1
  obtain ⟨q, hq⟩ : ∃ q : Nat, (rdNum s 0).2.1 = (q : Int) := ⟨(rdNum s 0).2.1.toNat, by omega⟩
  have h3' := h3
  unfold rdN0 at h3'
  rw [hq] at h3'
  obtain ⟨ys, k2, k3, k4, k5⟩ := rdSt_read (rdNum s 0).1.toNat q [] (by omega) h3'
  have hN : rdN0 s = rdSt s (rdNum s 0).1.toNat q [] := by unfold rdN0; rw [hq]
  rw [← hN] at k2 k4 k5
  obtain ⟨t, ht⟩ : ∃ t : Nat, (rdN0 s).2.1 = (t : Int) := ⟨(rdN0 s).2.1.toNat, by omega⟩
  have hD : rdD s = rdLists s t := by unfold rdD; rw [ht]
  have k6 := rdLists_read (s := s) (p := t) (by rw [← hD]; exact h4)
  have h8 : (rdD s).2.1 = s.length := Classical.not_not.1 fun e => h5 (.inl e)
  rw [← hD] at k6
  unfold bytesB
  rw [k2, List.nil_append, k3]
  have e0 : (rdNum s ((0 : Nat) : Int)) = rdNum s 0 := rfl
  rw [e0, hq, Int.toNat_natCast, List.drop_zero, k4, ht, Int.toNat_natCast, k6.1, h8, Int.toNat_natCast, List.drop_length, List.append_nil] at k1
  rw [show (((rdNum s 0).1.toNat : Nat) : Int) = (rdNum s 0).1 from by omega, List.append_assoc]
  exact k1.symm
end Go.Proofs.Ytfiambcocnceiaa
