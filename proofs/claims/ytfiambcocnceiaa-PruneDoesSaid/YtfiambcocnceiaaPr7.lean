import Derived.Test.YtfiambcocnceiaaPr6
set_option linter.unusedVariables false
set_option maxRecDepth 100000
namespace Go.Proofs.Ytfiambcocnceiaa
open Go Go.E

def ded : Option Hd → List Hd → List Hd
  | _, [] => []
  | p, x :: r => if some x = p then ded (some x) r else x :: ded (some x) r
theorem ded_snoc : ∀ (xs : List Hd) (p : Option Hd) (v u : Hd), xs.getLast? = some v → ded p (xs ++ [u]) = ded p xs ++ if u = v then [] else [u]
  | [], _, _, _, h => by simp at h
  | [x], p, v, u, h => by
    simp at h; subst h
    unfold ded
    by_cases h1 : some x = p
    · simp only [List.singleton_append, h1, if_true, ded]; by_cases h2 : u = x
      · simp [h2, ← h1]
      · rw [← h1]; simp [h2]
    · simp only [List.singleton_append, h1, if_false, ded]; by_cases h2 : u = x <;> simp [h2]
  | x :: y :: r, p, v, u, h => by
    have ih := ded_snoc (y :: r) (some x) v u (by simpa [List.getLast?_cons_cons] using h)
    rw [List.cons_append]
    unfold ded
    rw [ih]
    split <;> simp
theorem last_take {xs : List Hd} {k : Nat} {v : Hd} (h0 : 0 < k) (h : xs[k - 1]? = some v) : (xs.take k).getLast? = some v := by
  rw [List.getLast?_eq_getElem?]
  have hl := (List.getElem?_eq_some_iff.1 h).1
  rw [show (xs.take k).length - 1 = k - 1 from by simp; omega, List.getElem?_take, if_pos (by omega)]; exact h
theorem ded_take {xs : List Hd} {k : Nat} {u v : Hd} (h0 : 0 < k) (hv : xs[k - 1]? = some v) (hu : xs[k]? = some u) : ded none (xs.take (k + 1)) = ded none (xs.take k) ++ if u = v then [] else [u] := by
  rw [take_snoc hu, ded_snoc _ _ _ _ (last_take h0 hv)]
theorem ded_one {xs : List Hd} (h : 0 < xs.length) : ded none (xs.take 1) = xs.take 1 := by
  cases xs with
  | nil => simp at h
  | cons x r => simp [ded]
theorem ded_len : ∀ (xs : List Hd) (p : Option Hd), (ded p xs).length ≤ xs.length
  | [], _ => by simp [ded]
  | x :: r, p => by unfold ded; have := ded_len r (some x); split <;> simp only [List.length_cons] <;> omega
theorem set_take {xs cur : List Hd} {k : Nat} {u : Hd} (hk : k < cur.length) : (cur.set k u).take (k + 1) = cur.take k ++ [u] := by
  rw [List.take_add_one, List.take_set_of_le (Nat.le_refl _), List.getElem?_set_self hk]; rfl
theorem set_drop {cur : List Hd} {k j : Nat} {u : Hd} (hk : k < j) : (cur.set k u).drop j = cur.drop j := List.drop_set_of_lt hk
theorem drop_get {cur xs : List Hd} {k j : Nat} (h : cur.drop k = xs.drop k) (hj : k ≤ j) : cur[j]? = xs[j]? := by
  have := congrArg (fun l => l[j - k]?) h
  simp only [List.getElem?_drop] at this
  rwa [show k + (j - k) = j from by omega] at this

theorem Compact_ok {c : Cx} {I : Im} (l m : Ow) (a : Option Addr) (cap : Nat) (xs : List Hd) (ho0 : OA 49 encH 2 m a cap xs) (hl : xs.length ≤ 1000000000000) : Ct Try.prog 46 [.slice a xs.length cap] (St c I (m ++ l)) fun v w => ∃ m', v = .slice a (ded none xs).length cap ∧ OA 49 encH 2 m' a cap (ded none xs) ∧ St c I (m' ++ l) w := by
  refine Ct.enter (n := 61) Try.func46 rfl rfl rfl rfl rfl rfl ?_
  refine TC.seq ?_
  refine TC.quiet rfl ?_
  refine qv (yAsgn (v := .slice _ _ _) rfl) rfl rfl ?_
  refine QL.nil ?_
  refine TQ.sq ?_
  refine TC.seq ?_
  refine TC.seq ?_
  refine TC.quiet rfl ?_
  refine qv (yMove (v := .slice _ _ _) rfl) rfl rfl ?_
  refine qv (ySlLen ul27 rfl) rfl rfl ?_
  refine qcLt rfl rfl rfl rfl (fun h8 => ?_) (fun h8 => ?_)
  ·
    refine QL.nil ?_
    refine TQ.sq ?_
    refine TC.condT rfl ?_
    refine TC.seq ?_
    refine TC.quiet rfl ?_
    refine qv (yMove (v := .slice _ _ _) rfl) rfl rfl ?_
    refine qv (yAsgn (v := .slice _ _ _) rfl) rfl rfl ?_
    refine QL.nil ?_
    refine TQ.sq ?_
    refine TC.ret (TQ.sqR ?_)
    refine TQ.post (v := .slice _ _ _) rfl ?_
    have e : ded none xs = xs := by
      cases xs with
      | nil => rfl
      | cons x r => cases r with
        | nil => rfl
        | cons y r => simp at h8; omega
    exact fun w hw => ⟨m, by rw [e], by rw [e]; exact ho0, hw⟩
  ·
    refine QL.nil ?_
    refine TQ.sq ?_
    refine TC.condF rfl ?_
    refine TC.skip (TQ.sq ?_)
    refine TC.seq ?_
    refine TC.seq ?_
    refine TC.quiet rfl ?_
    refine qv (yAsgn (v := .int .i64 _) rfl) rfl rfl ?_
    refine QL.nil ?_
    refine TQ.sq ?_
    refine TC.block ?_
    refine TC.loopL (ι := (Nat)) [2, 3, 4, 5, 10, 11, 12, 13, 14, 15, 16, 17, 18, 19, 20, 21, 22, 23, 24, 25, 26, 27, 28, 29, 30, 31, 32, 33, 34, 35, 36, 37, 38, 39, 40, 41, 42, 43, 44, 45, 46, 47, 48, 49, 50, 51, 52, 53, 54, 55, 56, 57, 58, 59] (fun k => [(3, .int .i64 (k : Int))]) (fun k w => (1 ≤ k ∧ k ≤ xs.length ∧ ded none (xs.take k) = xs.take k) ∧ St c I (m ++ l) w) (fun k => xs.length - k) 1 ⟨rfl, trivial⟩ (fun w hw => ⟨⟨by omega, by omega, ded_one (by omega)⟩, hw⟩) ?_
    rintro g0 k
    dsimp only
    refine TC.pure fun ⟨hk1, hk, he⟩ => ?_
    refine TC.seq ?_
    refine TC.seq ?_
    refine TC.quiet rfl ?_
    refine qv (yMove (v := .int .i64 _) rfl) rfl rfl ?_
    refine qv (yMove (v := .slice _ _ _) rfl) rfl rfl ?_
    refine qv (ySlLen ul27 rfl) rfl rfl ?_
    refine qcLt rfl rfl rfl rfl (fun h13 => ?_) (fun h13 => ?_)
    ·
      obtain ⟨u, hu⟩ := getSome (xs := xs) (k := k) (by omega)
      obtain ⟨v, hv⟩ := getSome (xs := xs) (k := k - 1) (by omega)
      have hv2 : xs[((k : Int) - 1).toNat]? = some v := by rw [show ((k : Int) - 1).toNat = k - 1 from by omega]; exact hv
      have hdt := ded_take (by omega) hv hu
      refine QL.nil ?_
      refine TQ.sq ?_
      refine TC.condT rfl ?_
      refine TC.skip (TQ.sq ?_)
      refine TC.seq ?_
      refine TC.block ?_
      refine TC.seq ?_
      refine TC.quietD (fun _ _ h => h.drawn _) mixed (by kernel_rfl) rfl ?_
      refine qv (yMove (v := .slice _ _ _) rfl) rfl rfl ?_
      refine qv (yMove (v := .int .i64 _) rfl) rfl rfl ?_
      refine qElA (v := .agg ⟨[.int .i64 _, .int .i64 _]⟩) ul27 ti49 rfl (OA.sa ho0) rfl (by omega) (by simpa using hu) (fun _ => rfl) (fun h => nomatch h) rfl rfl (fun _ => rfl) rfl rfl (fun _ => ?_)
      refine qv (yMove (v := .slice _ _ _) rfl) rfl rfl ?_
      refine qv (yMove (v := .int .i64 _) rfl) rfl rfl ?_
      refine qv (ySub rfl rfl (by omega)) rfl rfl ?_
      refine qElA (v := .agg ⟨[.int .i64 _, .int .i64 _]⟩) ul27 ti49 rfl (OA.sa ho0) rfl (by omega) (by simpa using hv2) (fun _ => rfl) (fun h => nomatch h) rfl rfl (fun _ => rfl) rfl rfl (fun _ => ?_)
      refine qv (yAggEq sd49 rfl rfl rfl) rfl rfl ?_
      refine QL.nil ?_
      refine TQ.sq ?_
      refine TC.cond rfl (fun h25 => ?_) (fun h25 => ?_)
      ·
        refine TC.seq ?_
        refine TC.quiet rfl ?_
        refine qv (yMove (v := .slice _ _ _) rfl) rfl rfl ?_
        refine qv (yMove (v := .int .i64 _) rfl) rfl rfl ?_
        have hle0 := ho0.le
        refine qv (yCutLoA xs ul27 ti49 rfl rfl (by omega)) rfl rfl ?_
        refine qv (yAsgn (v := .slice _ _ _) rfl) rfl rfl ?_
        refine QL.nil ?_
        refine TQ.sq ?_
        refine TC.seq ?_
        refine TC.seq ?_
        refine TC.quiet rfl ?_
        refine qv (yAsgn (v := .int .i64 _) rfl) rfl rfl ?_
        refine QL.nil ?_
        refine TQ.sq ?_
        refine TC.block ?_
        have hd1 : ded none (xs.take (k + 1)) = xs.take k := by rw [hdt, if_pos (of_decide_eq_true (pair_eq h25)), he]; simp
        have hdl0 : (xs.drop k).length = xs.length - k := List.length_drop
        clear hdt hv2 hv hu he
        generalize hk0 : k = k0 at *
        refine TC.loopL (ι := (Nat) × (Nat) × (Ow) × (List Hd)) [3, 5, 29, 30, 31, 32, 33, 34, 35, 36, 37, 38, 39, 40, 41, 42, 43, 44, 45, 46, 47, 48, 49, 50, 51, 52, 53] (fun ⟨j, k, m, cur⟩ => [(5, .int .i64 (j : Int)), (3, .int .i64 (k : Int))]) (fun ⟨j, k, m, cur⟩ w => (1 ≤ j ∧ k0 + j ≤ xs.length ∧ k0 ≤ k ∧ k + 1 ≤ k0 + j ∧ cur.length = xs.length ∧ OA 49 encH 2 m a cap cur ∧ cur.drop k = xs.drop k ∧ cur.take k = ded none (xs.take (k0 + j))) ∧ St c I (m ++ l) w) (fun ⟨j, k, m, cur⟩ => xs.length - j) (1, k0, m, xs) ⟨rfl, rfl, trivial⟩ (fun w hw => ⟨⟨by omega, by omega, by omega, by omega, rfl, ho0, rfl, hd1.symm⟩, hw⟩) ?_
        rintro g1 ⟨j, k, m, cur⟩
        dsimp only
        refine TC.pure fun ⟨hj1, hj, hkk, hkj, hcl, ho, hcd, hct⟩ => ?_
        refine TC.seq ?_
        refine TC.seq ?_
        refine TC.quiet rfl ?_
        refine qv (yMove (v := .int .i64 _) rfl) rfl rfl ?_
        refine qv (yMove (v := .slice _ _ _) rfl) rfl rfl ?_
        refine qv (ySlLen ul27 rfl) rfl rfl ?_
        refine qcLt rfl rfl rfl rfl (fun h32 => ?_) (fun h32 => ?_)
        ·
          obtain ⟨u2, hu2⟩ := getSome (xs := xs) (k := k0 + j) (by omega)
          obtain ⟨v2, hv2⟩ := getSome (xs := xs) (k := k0 + j - 1) (by omega)
          have hdt := ded_take (by omega) hv2 hu2
          have hg1 : (cur.drop k0)[((j : Int)).toNat]? = some u2 := by rw [List.getElem?_drop, show k0 + ((j : Int)).toNat = k0 + j from by omega, drop_get hcd (by omega)]; exact hu2
          have hg2 : (cur.drop k0)[((j : Int) - 1).toNat]? = some v2 := by rw [List.getElem?_drop, show k0 + ((j : Int) - 1).toNat = k0 + j - 1 from by omega, drop_get hcd (by omega)]; exact hv2
          have hdl : (cur.drop k0).length = (xs.drop k0).length := by rw [List.length_drop, List.length_drop, hcl]
          have hsa : SA (St c I (m ++ l)) encH 2 (cutA a k0 2 cap) (cur.drop k0) := SA.lo (enc := encH) (k := 2) (xs := cur) (fun _ => rfl) (OA.sa ho) (by omega) (by have := ho.le; omega)
          refine QL.nil ?_
          refine TQ.sq ?_
          refine TC.condT rfl ?_
          refine TC.skip (TQ.sq ?_)
          refine TC.seq ?_
          refine TC.block ?_
          refine TC.seq ?_
          refine TC.quietD (fun _ _ h => h.drawn _) mixed (by kernel_rfl) rfl ?_
          refine qv (yMove (v := .slice _ _ _) rfl) rfl rfl ?_
          refine qv (yMove (v := .int .i64 _) rfl) rfl rfl ?_
          refine qElA (v := .agg ⟨[.int .i64 _, .int .i64 _]⟩) ul27 ti49 (by rw [hdl]; rfl) hsa rfl (by omega) (by simpa using hg1) (fun _ => rfl) (fun h => nomatch h) rfl rfl (fun _ => rfl) rfl rfl (fun _ => ?_)
          refine qv (yMove (v := .slice _ _ _) rfl) rfl rfl ?_
          refine qv (yMove (v := .int .i64 _) rfl) rfl rfl ?_
          refine qv (ySub rfl rfl (by omega)) rfl rfl ?_
          refine qElA (v := .agg ⟨[.int .i64 _, .int .i64 _]⟩) ul27 ti49 (by rw [hdl]; rfl) hsa rfl (by omega) (by simpa using hg2) (fun _ => rfl) (fun h => nomatch h) rfl rfl (fun _ => rfl) rfl rfl (fun _ => ?_)
          refine qv (yAggNe sd49 rfl rfl rfl) rfl rfl ?_
          refine QL.nil ?_
          refine TQ.sq ?_
          refine TC.cond rfl (fun h44 => ?_) (fun h44 => ?_)
          ·
            refine TC.seq ?_
            refine TC.region ?_
            refine sv (yMove (v := .slice _ _ _) rfl) rfl rfl ?_
            refine sv (yMove (v := .int .i64 _) rfl) rfl rfl ?_
            refine sv (yMove (v := .slice _ _ _) rfl) rfl rfl ?_
            refine sv (yMove (v := .int .i64 _) rfl) rfl rfl ?_
            refine sElA (v := .agg ⟨[.int .i64 _, .int .i64 _]⟩) ul27 ti49 (by rw [hdl]; rfl) hsa rfl (by omega) (by simpa using hg1) (fun _ => rfl) (fun h => nomatch h) rfl rfl rfl (fun _ => ?_)
            refine sStA (enc := encH) (u2) ul27 ti49 (fun _ => rfl) (by rw [hcl]; rfl) ho rfl (by omega) (by omega) (fun _ => rfl) rfl rfl (fun m2 p51 o51 => ?_)
            refine TL.nil ?_
            refine TQ.sq ?_
            refine TC.quiet rfl ?_
            refine qv (yMove (v := .int .i64 _) rfl) rfl rfl ?_
            refine qv (yAdd rfl rfl (by omega)) rfl rfl ?_
            refine qv (yAsgn (v := .int .i64 _) rfl) rfl rfl ?_
            refine QL.nil ?_
            refine TQ.blk (TQ.sq ?_)
            refine TC.quiet rfl ?_
            refine qv (yMove (v := .int .i64 _) rfl) rfl rfl ?_
            refine qv (yAdd rfl rfl (by omega)) rfl rfl ?_
            refine qv (yAsgn (v := .int .i64 _) rfl) rfl rfl ?_
            refine QL.nil ?_
            have hnv := of_decide_eq_false (pair_eq (Bool.not_inj h44))
            have ho2 := o51
            rw [show ((k : Int)).toNat = k from by omega] at ho2
            refine TQ.lpL (j + 1, k + 1, m2, cur.set k u2) (by first | omega | (dsimp only; omega)) (by repeat (first | exact OffL.refl | refine OffL.updO rfl ?_ | refine OffL.upd rfl ?_ | refine OffL.updL rfl ?_ | refine OffL.mask rfl ?_)) ⟨rfl, rfl, trivial⟩ (fun w hw => ⟨⟨by dsimp only; omega, by dsimp only; omega, by dsimp only; omega, by dsimp only; omega, (List.length_set ..).trans hcl, ho2, by dsimp only; rw [set_drop (by omega), ← List.drop_drop (i := 1), hcd, List.drop_drop], by dsimp only; rw [set_take (xs := xs) (by omega), hct, ← Nat.add_assoc, hdt, if_neg hnv]⟩, hw.dr⟩)
          ·
            refine TC.skip (TQ.blk (TQ.sq ?_))
            refine TC.quiet rfl ?_
            refine qv (yMove (v := .int .i64 _) rfl) rfl rfl ?_
            refine qv (yAdd rfl rfl (by omega)) rfl rfl ?_
            refine qv (yAsgn (v := .int .i64 _) rfl) rfl rfl ?_
            refine QL.nil ?_
            have hnv := of_decide_eq_true (pair_eq (Bool.not_inj h44))
            refine TQ.lpL (j + 1, k, m, cur) (by first | omega | (dsimp only; omega)) (by repeat (first | exact OffL.refl | refine OffL.updO rfl ?_ | refine OffL.upd rfl ?_ | refine OffL.updL rfl ?_ | refine OffL.mask rfl ?_)) ⟨rfl, rfl, trivial⟩ (fun w hw => ⟨⟨by dsimp only; omega, by dsimp only; omega, by dsimp only; omega, by dsimp only; omega, hcl, ho, hcd, by dsimp only; rw [hct, ← Nat.add_assoc, hdt, if_pos hnv]; simp⟩, hw.dr⟩)
        ·
          refine QL.nil ?_
          refine TQ.sq ?_
          refine TC.condF rfl ?_
          refine TC.exit (TQ.sqX (TQ.lpLX (TQ.blkX (TQ.sq ?_))))
          refine TC.seq ?_
          refine TC.region ?_
          refine sv (yMove (v := .slice _ _ _) rfl) rfl rfl ?_
          refine sv (yMove (v := .int .i64 _) rfl) rfl rfl ?_
          have hle := ho.le
          obtain rfl : j = xs.length - k0 := by omega
          refine sv (yCutLoA cur ul27 ti49 (by rw [hcl]; rfl) rfl (by omega)) rfl rfl ?_
          refine sClearT (enc := encH) ul27 ti49 (fun _ => rfl) rfl rfl (by omega) rfl ho rfl (fun m2 oC => ?_)
          refine TL.nil ?_
          refine TQ.sq ?_
          refine TC.seq ?_
          refine TC.quiet rfl ?_
          refine qv (yMove (v := .slice _ _ _) rfl) rfl rfl ?_
          refine qv (yMove (v := .int .i64 _) rfl) rfl rfl ?_
          refine qv (yCutHiA cur ul27 ti49 (by rw [hcl]; rfl) rfl (by omega) (by omega)) rfl rfl ?_
          refine qv (yAsgn (v := .slice _ _ _) rfl) rfl rfl ?_
          refine QL.nil ?_
          refine TQ.sq ?_
          refine TC.ret (TQ.blkR (TQ.sqR (TQ.lpLR (TQ.blkR (TQ.sqR ?_)))))
          refine TQ.post (v := .slice _ _ _) rfl ?_
          have e : cur.take k = ded none xs := by rw [hct, show k0 + (xs.length - k0) = xs.length from by omega, List.take_length]
          exact fun w hw => ⟨m2, by rw [← e], by rw [← e]; exact oC, hw⟩
      ·
        refine TC.skip (TQ.blk (TQ.sq ?_))
        refine TC.quiet rfl ?_
        refine qv (yMove (v := .int .i64 _) rfl) rfl rfl ?_
        refine qv (yAdd rfl rfl (by omega)) rfl rfl ?_
        refine qv (yAsgn (v := .int .i64 _) rfl) rfl rfl ?_
        refine QL.nil ?_
        refine TQ.lpL (k + 1) (by first | omega | (dsimp only; omega)) (by repeat (first | exact OffL.refl | refine OffL.updO rfl ?_ | refine OffL.upd rfl ?_ | refine OffL.updL rfl ?_ | refine OffL.mask rfl ?_)) ⟨rfl, trivial⟩ (fun w hw => ⟨⟨by omega, by omega, by rw [hdt, if_neg (of_decide_eq_false (pair_eq h25)), he, take_snoc hu]⟩, hw.dr⟩)
    ·
      refine QL.nil ?_
      refine TQ.sq ?_
      refine TC.condF rfl ?_
      refine TC.exit (TQ.sqX (TQ.lpLX (TQ.blkX (TQ.sq ?_))))
      refine TC.seq ?_
      refine TC.quiet rfl ?_
      refine qv (yMove (v := .slice _ _ _) rfl) rfl rfl ?_
      refine qv (yAsgn (v := .slice _ _ _) rfl) rfl rfl ?_
      refine QL.nil ?_
      refine TQ.sq ?_
      refine TC.ret ?_
      refine TQ.post (v := .slice _ _ _) rfl ?_
      obtain rfl : k = xs.length := by omega
      rw [List.take_length] at he
      exact fun w hw => ⟨m, by rw [he], by rw [he]; exact ho0, hw⟩
end Go.Proofs.Ytfiambcocnceiaa
