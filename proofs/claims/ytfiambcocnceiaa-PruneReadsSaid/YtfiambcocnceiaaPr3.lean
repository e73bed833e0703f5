import Derived.Test.YtfiambcocnceiaaPr2
set_option linter.unusedVariables false
set_option maxRecDepth 100000
namespace Go.Proofs.Ytfiambcocnceiaa
open Go Go.E

def rdLists (s : List UInt8) (a : Int) : List Hd × Int × Int :=
  if (rdNums s a).2.2 ≠ 0 then ([], 0, (rdNums s a).2.2)
  else if (rdNums s (rdNums s a).2.1).2.2 ≠ 0 then ([], 0, (rdNums s (rdNums s a).2.1).2.2)
  else if (rdNums s a).1.length ≠ (rdNums s (rdNums s a).2.1).1.length then ([], 0, 6)
  else ((rdNums s a).1.zip (rdNums s (rdNums s a).2.1).1, (rdNums s (rdNums s a).2.1).2.1, 0)
theorem rdLists_e1 {s : List UInt8} {a : Int} (h : (rdNums s a).2.2 ≠ 0) : rdLists s a = ([], 0, (rdNums s a).2.2) := by unfold rdLists; rw [if_pos h]
theorem rdLists_e2 {s : List UInt8} {a : Int} (h : (rdNums s a).2.2 = 0) (h2 : (rdNums s (rdNums s a).2.1).2.2 ≠ 0) : rdLists s a = ([], 0, (rdNums s (rdNums s a).2.1).2.2) := by unfold rdLists; rw [if_neg (by simp [h]), if_pos h2]
theorem rdLists_e3 {s : List UInt8} {a : Int} (h : (rdNums s a).2.2 = 0) (h2 : (rdNums s (rdNums s a).2.1).2.2 = 0) (h3 : ((rdNums s a).1.length : Int) ≠ (rdNums s (rdNums s a).2.1).1.length) : rdLists s a = ([], 0, 6) := by unfold rdLists; rw [if_neg (by simp [h]), if_neg (by simp [h2]), if_pos (by omega)]
theorem rdLists_ok {s : List UInt8} {a : Int} (h : (rdNums s a).2.2 = 0) (h2 : (rdNums s (rdNums s a).2.1).2.2 = 0) (h3 : ((rdNums s a).1.length : Int) = (rdNums s (rdNums s a).2.1).1.length) : rdLists s a = ((rdNums s a).1.zip (rdNums s (rdNums s a).2.1).1, (rdNums s (rdNums s a).2.1).2.1, 0) := by unfold rdLists; rw [if_neg (by simp [h]), if_neg (by simp [h2]), if_neg (by omega)]
theorem zip_at {α β : Type} {xs : List α} {ys : List β} {k : Nat} {u : α} {v : β} (hu : xs[k]? = some u) (hv : ys[k]? = some v) : (xs.zip ys)[k]? = some (u, v) := by rw [List.getElem?_zip_eq_some]; exact ⟨hu, hv⟩
theorem take_snoc {α : Type} {xs : List α} {k : Nat} {u : α} (h : xs[k]? = some u) : xs.take (k + 1) = xs.take k ++ [u] := by rw [List.take_add_one, h]; rfl

theorem blobs_ok {c : Cx} {I : Im} (l : Ow) (s : List UInt8) (a : Int) (hs : s.length ≤ 1000000000000) : Ct Try.prog 19 [str s, .int .i64 a] (St c I l) fun v w => ∃ m a2 c2, v = .tuple ⟨[.slice a2 (rdLists s a).1.length c2, .int .i64 (rdLists s a).2.1, .int .i64 (rdLists s a).2.2]⟩ ∧ OA 49 encH 2 m a2 c2 (rdLists s a).1 ∧ St c I (m ++ l) w := by
  refine Ct.enter (n := 59) Try.func19 rfl rfl rfl rfl rfl rfl ?_
  refine TC.seq ?_
  refine TC.quiet rfl ?_
  refine qv (yAsgn (v := .slice _ _ _) rfl) rfl rfl ?_
  refine qv (yAsgn (v := .int .i64 _) rfl) rfl rfl ?_
  refine qv (yAsgn (v := .int .i64 _) rfl) rfl rfl ?_
  refine QL.nil ?_
  refine TQ.sq ?_
  refine TC.seq ?_
  refine TC.region ?_
  refine sv (yMove (v := str _) rfl) rfl rfl ?_
  refine sv (yMove (v := .int .i64 _) rfl) rfl rfl ?_
  refine sCall (LReadNumbers_ok l s a hs) rfl rfl (fun v16 w hw => ?_)
  obtain ⟨m1, a1, c1, rfl, o1, hw⟩ := hw
  refine TL.wl ?_ hw
  refine sv (yMove (v := .tuple _) rfl) rfl rfl ?_
  refine sv (yExt rfl rfl) rfl rfl ?_
  refine sv (yExt rfl rfl) rfl rfl ?_
  refine sv (yExt rfl rfl) rfl rfl ?_
  refine sv (yAsgn (v := .slice _ _ _) rfl) rfl rfl ?_
  refine sv (yAsgn (v := .int .i64 _) rfl) rfl rfl ?_
  refine sv (yAsgn (v := .int .i64 _) rfl) rfl rfl ?_
  refine TL.nil ?_
  refine TQ.sq ?_
  refine TC.seq ?_
  refine TC.seq ?_
  refine TC.quiet rfl ?_
  refine qv (yMove (v := .int .i64 _) rfl) rfl rfl ?_
  refine qcNe rfl rfl rfl rfl (fun h1 => ?_) (fun h1 => ?_)
  ·
    refine QL.nil ?_
    refine TQ.sq ?_
    refine TC.condT rfl ?_
    refine TC.seq ?_
    refine TC.quiet rfl ?_
    refine qv (yMove (v := .int .i64 _) rfl) rfl rfl ?_
    refine qv (yAsgn (v := .slice _ _ _) rfl) rfl rfl ?_
    refine qv (yAsgn (v := .int .i64 _) rfl) rfl rfl ?_
    refine qv (yAsgn (v := .int .i64 _) rfl) rfl rfl ?_
    refine QL.nil ?_
    refine TQ.sq ?_
    refine TC.ret (TQ.sqR ?_)
    refine TQ.post (v := .tuple ⟨[.slice _ _ _, .int .i64 _, .int .i64 _]⟩) rfl ?_
    have e := rdLists_e1 h1
    exact fun w hw => ⟨[], none, 0, by rw [e]; rfl, by rw [e]; exact OA.nil, hw.dr⟩
  ·
    refine QL.nil ?_
    refine TQ.sq ?_
    refine TC.condF rfl ?_
    refine TC.skip (TQ.sq ?_)
    refine TC.seq ?_
    refine TC.region ?_
    refine sv (yMove (v := str _) rfl) rfl rfl ?_
    refine sv (yMove (v := .int .i64 _) rfl) rfl rfl ?_
    refine sCall (LReadNumbers_ok (m1 ++ l) s (rdNums s a).2.1 hs) rfl rfl (fun v26 w hw => ?_)
    obtain ⟨m2, a2, c2, rfl, o2, hw⟩ := hw
    refine TL.wl ?_ hw
    refine sv (yMove (v := .tuple _) rfl) rfl rfl ?_
    refine sv (yExt rfl rfl) rfl rfl ?_
    refine sv (yExt rfl rfl) rfl rfl ?_
    refine sv (yExt rfl rfl) rfl rfl ?_
    refine sv (yAsgn (v := .slice _ _ _) rfl) rfl rfl ?_
    refine sv (yAsgn (v := .int .i64 _) rfl) rfl rfl ?_
    refine sv (yAsgn (v := .int .i64 _) rfl) rfl rfl ?_
    refine TL.nil ?_
    refine TQ.sq ?_
    refine TC.seq ?_
    refine TC.block ?_
    refine TC.seq ?_
    refine TC.quiet rfl ?_
    refine qv (yMove (v := .int .i64 _) rfl) rfl rfl ?_
    refine qcNe rfl rfl rfl rfl (fun h2 => ?_) (fun h2 => ?_)
    ·
      refine qv (yAsgn (v := .bool _) rfl) rfl rfl ?_
      refine QL.nil ?_
      refine TQ.sq ?_
      refine TC.condT rfl ?_
      refine TC.seq ?_
      refine TC.quiet rfl ?_
      refine qv (yMove (v := .int .i64 _) rfl) rfl rfl ?_
      refine qv (yAsgn (v := .slice _ _ _) rfl) rfl rfl ?_
      refine qv (yAsgn (v := .int .i64 _) rfl) rfl rfl ?_
      refine qv (yAsgn (v := .int .i64 _) rfl) rfl rfl ?_
      refine QL.nil ?_
      refine TQ.sq ?_
      refine TC.ret (TQ.blkR (TQ.sqR ?_))
      refine TQ.post (v := .tuple ⟨[.slice _ _ _, .int .i64 _, .int .i64 _]⟩) rfl ?_
      have e := rdLists_e2 h1 h2
      exact fun w hw => ⟨[], none, 0, by rw [e]; rfl, by rw [e]; exact OA.nil, hw.dr⟩
    ·
      refine qv (yAsgn (v := .bool _) rfl) rfl rfl ?_
      refine QL.nil ?_
      refine TQ.sq ?_
      refine TC.condF rfl ?_
      refine TC.seq ?_
      refine TC.quiet rfl ?_
      refine qv (yMove (v := .slice _ _ _) rfl) rfl rfl ?_
      refine qv (ySlLen ul50 rfl) rfl rfl ?_
      refine qv (yMove (v := .slice _ _ _) rfl) rfl rfl ?_
      refine qv (ySlLen ul50 rfl) rfl rfl ?_
      refine qcNe rfl rfl rfl rfl (fun h3 => ?_) (fun h3 => ?_)
      ·
        refine qv (yAsgn (v := .bool _) rfl) rfl rfl ?_
        refine QL.nil ?_
        refine TQ.sq ?_
        refine TC.condT rfl ?_
        refine TC.seq ?_
        refine TC.quiet rfl ?_
        refine qv (yAsgn (v := .slice _ _ _) rfl) rfl rfl ?_
        refine qv (yAsgn (v := .int .i64 _) rfl) rfl rfl ?_
        refine qv (yAsgn (v := .int .i64 _) rfl) rfl rfl ?_
        refine QL.nil ?_
        refine TQ.sq ?_
        refine TC.ret (TQ.blkR (TQ.sqR ?_))
        refine TQ.post (v := .tuple ⟨[.slice _ _ _, .int .i64 _, .int .i64 _]⟩) rfl ?_
        have e := rdLists_e3 h1 h2 h3
        exact fun w hw => ⟨[], none, 0, by rw [e]; rfl, by rw [e]; exact OA.nil, hw.dr⟩
      ·
        have hwf := (rdNums_wf h1).2.1
        refine qv (yAsgn (v := .bool _) rfl) rfl rfl ?_
        refine QL.nil ?_
        refine TQ.sq ?_
        refine TC.condF rfl ?_
        refine TC.skip (TQ.blk (TQ.sq ?_))
        refine TC.seq ?_
        refine TC.quiet rfl ?_
        refine qv (yAsgn (v := .slice _ _ _) rfl) rfl rfl ?_
        refine QL.nil ?_
        refine TQ.sq ?_
        refine TC.seq ?_
        refine TC.seq ?_
        refine TC.quiet rfl ?_
        refine qv (yMove (v := .slice _ _ _) rfl) rfl rfl ?_
        refine qv (ySlLen ul50 rfl) rfl rfl ?_
        refine qv (yMove (v := .int .i64 _) rfl) rfl rfl ?_
        refine QL.nil ?_
        refine TQ.sq ?_
        refine TC.block ?_
        refine TC.loopL (ι := (Nat) × (Ow) × (Option Addr) × (Nat)) [10, 11, 12, 42, 43, 44, 45, 46, 47, 48, 49, 50, 51, 52, 53, 54, 55, 56] (fun ⟨k, m, a3, c3⟩ => [(42, .int .i64 (k : Int)), (10, .slice a3 (((rdNums s a).1.zip (rdNums s (rdNums s a).2.1).1).take k).length c3)]) (fun ⟨k, m, a3, c3⟩ w => (k ≤ (rdNums s a).1.length ∧ OA 49 encH 2 m a3 c3 (((rdNums s a).1.zip (rdNums s (rdNums s a).2.1).1).take k)) ∧ St c I (m ++ (m2 ++ (m1 ++ l))) w) (fun ⟨k, m, a3, c3⟩ => (rdNums s a).1.length - k) (0, [], none, 0) ⟨rfl, rfl, trivial⟩ (fun w hw => ⟨⟨by omega, OA.nil⟩, hw⟩) ?_
        rintro g0 ⟨k, m, a3, c3⟩
        dsimp only
        refine TC.pure fun ⟨hk, ho⟩ => ?_
        refine TC.seq ?_
        refine TC.quiet rfl ?_
        refine qcLt rfl rfl rfl rfl (fun h4 => ?_) (fun h4 => ?_)
        ·
          obtain ⟨u, hu⟩ := getSome (xs := (rdNums s a).1) (k := k) (by omega)
          obtain ⟨v, hv⟩ := getSome (xs := (rdNums s (rdNums s a).2.1).1) (k := k) (by omega)
          have hz := zip_at hu hv
          have htl : (((rdNums s a).1.zip (rdNums s (rdNums s a).2.1).1).take k).length ≤ k := by simp; omega
          refine QL.nil ?_
          refine TQ.sq ?_
          refine TC.seq ?_
          refine TC.condT rfl ?_
          refine TC.skip (TQ.sq ?_)
          refine TC.seq ?_
          refine TC.block ?_
          refine TC.seq ?_
          refine TC.quiet rfl ?_
          refine qv (yMove (v := .int .i64 _) rfl) rfl rfl ?_
          refine qElA (v := .int .i64 _) ul50 ti3 rfl (by first | exact RA.sa (by assumption) | exact OA.sa (by assumption) | exact OA.sub (by assumption) (by simp) | exact OA.fm (by assumption) | exact SlR.mono (by assumption) Wk.w) rfl (by omega) (by simpa using hu) (fun _ => rfl) (fun _ => rfl) rfl rfl (fun _ => rfl) rfl rfl (fun _ => ?_)
          refine qv (yAsgn (v := .int .i64 _) rfl) rfl rfl ?_
          refine qv (yAsgn (v := .int .i64 _) rfl) rfl rfl ?_
          refine QL.nil ?_
          refine TQ.sq ?_
          refine TC.region ?_
          refine sv (yMove (v := .slice _ _ _) rfl) rfl rfl ?_
          refine sv (yMove (v := .int .i64 _) rfl) rfl rfl ?_
          refine sv (yMove (v := .slice _ _ _) rfl) rfl rfl ?_
          refine sv (yMove (v := .int .i64 _) rfl) rfl rfl ?_
          refine sElA (v := .int .i64 _) ul50 ti3 rfl (by first | exact RA.sa (by assumption) | exact OA.sa (by assumption) | exact OA.sub (by assumption) (by simp) | exact OA.fm (by assumption) | exact SlR.mono (by assumption) Wk.w) rfl (by omega) (by simpa using hv) (fun _ => rfl) (fun _ => rfl) rfl rfl rfl (fun _ => ?_)
          refine sv (yBuild (vs := [.int .i64 _, .int .i64 _]) ti49 pl49 rfl) rfl rfl ?_
          refine sBuildSl (vs := [.int .i64 _, .int .i64 _]) ul27 ti49 rfl rfl rfl rfl (fun b1 => ?_)
          refine sAppA1F (enc := encH) ((u, v)) ul27 ul27 ti49 rfl rfl ho rfl rfl (fun _ => rfl) (by omega) (by omega) rfl (fun m4 a4 c4 ho4 => ?_)
          refine sv (yAsgn (v := .slice _ _ _) rfl) rfl rfl ?_
          refine TL.nil ?_
          refine TQ.blk (TQ.sq ?_)
          refine TC.quiet rfl ?_
          refine qv (yAdd rfl rfl (by omega)) rfl rfl ?_
          refine qv (yMove (v := .int .i64 _) rfl) rfl rfl ?_
          refine QL.nil ?_
          refine TQ.lpL (k + 1, m4, a4, c4) (by first | omega | (dsimp only; omega)) (by repeat (first | exact OffL.refl | refine OffL.updO rfl ?_ | refine OffL.upd rfl ?_ | refine OffL.updL rfl ?_ | refine OffL.mask rfl ?_)) ⟨rfl, (by rw [take_snoc hz]; rfl), trivial⟩ (fun w hw => ⟨⟨by omega, by rw [take_snoc hz]; exact ho4⟩, hw.dr⟩)
        ·
          refine QL.nil ?_
          refine TQ.sq ?_
          refine TC.seq ?_
          refine TC.condF rfl ?_
          refine TC.exit (TQ.sqX (TQ.lpLX (TQ.blkX (TQ.sq ?_))))
          refine TC.seq ?_
          refine TC.quiet rfl ?_
          refine qv (yMove (v := .slice _ _ _) rfl) rfl rfl ?_
          refine qv (yMove (v := .int .i64 _) rfl) rfl rfl ?_
          refine qv (yAsgn (v := .slice _ _ _) rfl) rfl rfl ?_
          refine qv (yAsgn (v := .int .i64 _) rfl) rfl rfl ?_
          refine qv (yAsgn (v := .int .i64 _) rfl) rfl rfl ?_
          refine QL.nil ?_
          refine TQ.sq ?_
          refine TC.ret ?_
          refine TQ.post (v := .tuple ⟨[.slice _ _ _, .int .i64 _, .int .i64 _]⟩) rfl ?_
          have e := rdLists_ok h1 h2 h3
          have hz2 : ((rdNums s a).1.zip (rdNums s (rdNums s a).2.1).1).take k = (rdNums s a).1.zip (rdNums s (rdNums s a).2.1).1 := List.take_of_length_le (by simp only [List.length_zip]; omega)
          rw [hz2] at ho
          exact fun w hw => ⟨m, a3, c3, by rw [e, hz2], by rw [e]; exact ho, hw.dr⟩
theorem readLists_ok {c : Cx} {I : Im} (l : Ow) (s : List UInt8) (a : Int) (hs : s.length ≤ 1000000000000) : Ct Try.prog 30 [str s, .int .i64 a] (St c I l) fun v w => ∃ m a2 c2, v = .tuple ⟨[.slice a2 (rdLists s a).1.length c2, .int .i64 (rdLists s a).2.1, .int .i64 (rdLists s a).2.2]⟩ ∧ OA 49 encH 2 m a2 c2 (rdLists s a).1 ∧ St c I (m ++ l) w := by
  refine Ct.enter (n := 60) Try.func30 rfl rfl rfl rfl rfl rfl ?_
  refine TC.seq ?_
  refine TC.quiet rfl ?_
  refine qv (yAsgn (v := .slice _ _ _) rfl) rfl rfl ?_
  refine qv (yAsgn (v := .int .i64 _) rfl) rfl rfl ?_
  refine qv (yAsgn (v := .int .i64 _) rfl) rfl rfl ?_
  refine QL.nil ?_
  refine TQ.sq ?_
  refine TC.seq ?_
  refine TC.region ?_
  refine sv (yMove (v := str _) rfl) rfl rfl ?_
  refine sv (yMove (v := .int .i64 _) rfl) rfl rfl ?_
  refine sCall (RReadNumbers_ok l s a hs) rfl rfl (fun v18 w hw => ?_)
  obtain ⟨m1, a1, c1, rfl, o1, hw⟩ := hw
  refine TL.wl ?_ hw
  refine sv (yMove (v := .tuple _) rfl) rfl rfl ?_
  refine sv (yExt rfl rfl) rfl rfl ?_
  refine sv (yExt rfl rfl) rfl rfl ?_
  refine sv (yExt rfl rfl) rfl rfl ?_
  refine sv (yAsgn (v := .slice _ _ _) rfl) rfl rfl ?_
  refine sv (yAsgn (v := .int .i64 _) rfl) rfl rfl ?_
  refine sv (yAsgn (v := .int .i64 _) rfl) rfl rfl ?_
  refine TL.nil ?_
  refine TQ.sq ?_
  refine TC.seq ?_
  refine TC.seq ?_
  refine TC.quiet rfl ?_
  refine qv (yMove (v := .int .i64 _) rfl) rfl rfl ?_
  refine qcNe rfl rfl rfl rfl (fun h1 => ?_) (fun h1 => ?_)
  ·
    refine QL.nil ?_
    refine TQ.sq ?_
    refine TC.condT rfl ?_
    refine TC.seq ?_
    refine TC.quiet rfl ?_
    refine qv (yMove (v := .int .i64 _) rfl) rfl rfl ?_
    refine qv (yAsgn (v := .slice _ _ _) rfl) rfl rfl ?_
    refine qv (yAsgn (v := .int .i64 _) rfl) rfl rfl ?_
    refine qv (yAsgn (v := .int .i64 _) rfl) rfl rfl ?_
    refine QL.nil ?_
    refine TQ.sq ?_
    refine TC.ret (TQ.sqR ?_)
    refine TQ.post (v := .tuple ⟨[.slice _ _ _, .int .i64 _, .int .i64 _]⟩) rfl ?_
    have e := rdLists_e1 h1
    exact fun w hw => ⟨[], none, 0, by rw [e]; rfl, by rw [e]; exact OA.nil, hw.dr⟩
  ·
    refine QL.nil ?_
    refine TQ.sq ?_
    refine TC.condF rfl ?_
    refine TC.skip (TQ.sq ?_)
    refine TC.seq ?_
    refine TC.region ?_
    refine sv (yMove (v := str _) rfl) rfl rfl ?_
    refine sv (yMove (v := .int .i64 _) rfl) rfl rfl ?_
    refine sCall (RReadNumbers_ok (m1 ++ l) s (rdNums s a).2.1 hs) rfl rfl (fun v28 w hw => ?_)
    obtain ⟨m2, a2, c2, rfl, o2, hw⟩ := hw
    refine TL.wl ?_ hw
    refine sv (yMove (v := .tuple _) rfl) rfl rfl ?_
    refine sv (yExt rfl rfl) rfl rfl ?_
    refine sv (yExt rfl rfl) rfl rfl ?_
    refine sv (yExt rfl rfl) rfl rfl ?_
    refine sv (yAsgn (v := .slice _ _ _) rfl) rfl rfl ?_
    refine sv (yAsgn (v := .int .i64 _) rfl) rfl rfl ?_
    refine sv (yAsgn (v := .int .i64 _) rfl) rfl rfl ?_
    refine TL.nil ?_
    refine TQ.sq ?_
    refine TC.seq ?_
    refine TC.seq ?_
    refine TC.quiet rfl ?_
    refine qv (yMove (v := .int .i64 _) rfl) rfl rfl ?_
    refine qcNe rfl rfl rfl rfl (fun h2 => ?_) (fun h2 => ?_)
    ·
      refine QL.nil ?_
      refine TQ.sq ?_
      refine TC.condT rfl ?_
      refine TC.seq ?_
      refine TC.quiet rfl ?_
      refine qv (yMove (v := .int .i64 _) rfl) rfl rfl ?_
      refine qv (yAsgn (v := .slice _ _ _) rfl) rfl rfl ?_
      refine qv (yAsgn (v := .int .i64 _) rfl) rfl rfl ?_
      refine qv (yAsgn (v := .int .i64 _) rfl) rfl rfl ?_
      refine QL.nil ?_
      refine TQ.sq ?_
      refine TC.ret (TQ.sqR ?_)
      refine TQ.post (v := .tuple ⟨[.slice _ _ _, .int .i64 _, .int .i64 _]⟩) rfl ?_
      have e := rdLists_e2 h1 h2
      exact fun w hw => ⟨[], none, 0, by rw [e]; rfl, by rw [e]; exact OA.nil, hw.dr⟩
    ·
      refine QL.nil ?_
      refine TQ.sq ?_
      refine TC.condF rfl ?_
      refine TC.skip (TQ.sq ?_)
      refine TC.seq ?_
      refine TC.seq ?_
      refine TC.quiet rfl ?_
      refine qv (yMove (v := .slice _ _ _) rfl) rfl rfl ?_
      refine qv (ySlLen ul50 rfl) rfl rfl ?_
      refine qv (yMove (v := .slice _ _ _) rfl) rfl rfl ?_
      refine qv (ySlLen ul50 rfl) rfl rfl ?_
      refine qcNe rfl rfl rfl rfl (fun h3 => ?_) (fun h3 => ?_)
      ·
        refine QL.nil ?_
        refine TQ.sq ?_
        refine TC.condT rfl ?_
        refine TC.seq ?_
        refine TC.quiet rfl ?_
        refine qv (yAsgn (v := .slice _ _ _) rfl) rfl rfl ?_
        refine qv (yAsgn (v := .int .i64 _) rfl) rfl rfl ?_
        refine qv (yAsgn (v := .int .i64 _) rfl) rfl rfl ?_
        refine QL.nil ?_
        refine TQ.sq ?_
        refine TC.ret (TQ.sqR ?_)
        refine TQ.post (v := .tuple ⟨[.slice _ _ _, .int .i64 _, .int .i64 _]⟩) rfl ?_
        have e := rdLists_e3 h1 h2 h3
        exact fun w hw => ⟨[], none, 0, by rw [e]; rfl, by rw [e]; exact OA.nil, hw.dr⟩
      ·
        have hwf := (rdNums_wf h1).2.1
        refine QL.nil ?_
        refine TQ.sq ?_
        refine TC.condF rfl ?_
        refine TC.skip (TQ.sq ?_)
        refine TC.seq ?_
        refine TC.quiet rfl ?_
        refine qv (yAsgn (v := .slice _ _ _) rfl) rfl rfl ?_
        refine QL.nil ?_
        refine TQ.sq ?_
        refine TC.seq ?_
        refine TC.seq ?_
        refine TC.quiet rfl ?_
        refine qv (yAsgn (v := .int .i64 _) rfl) rfl rfl ?_
        refine QL.nil ?_
        refine TQ.sq ?_
        refine TC.block ?_
        refine TC.loopL (ι := (Nat) × (Ow) × (Option Addr) × (Nat)) [13, 14, 40, 41, 42, 43, 44, 45, 46, 47, 48, 49, 50, 51, 52, 53, 54, 55, 56, 57] (fun ⟨k, m, a3, c3⟩ => [(14, .int .i64 (k : Int)), (13, .slice a3 (((rdNums s a).1.zip (rdNums s (rdNums s a).2.1).1).take k).length c3)]) (fun ⟨k, m, a3, c3⟩ w => (k ≤ (rdNums s a).1.length ∧ OA 49 encH 2 m a3 c3 (((rdNums s a).1.zip (rdNums s (rdNums s a).2.1).1).take k)) ∧ St c I (m ++ (m2 ++ (m1 ++ l))) w) (fun ⟨k, m, a3, c3⟩ => (rdNums s a).1.length - k) (0, [], none, 0) ⟨rfl, rfl, trivial⟩ (fun w hw => ⟨⟨by omega, OA.nil⟩, hw⟩) ?_
        rintro g0 ⟨k, m, a3, c3⟩
        dsimp only
        refine TC.pure fun ⟨hk, ho⟩ => ?_
        refine TC.seq ?_
        refine TC.seq ?_
        refine TC.quiet rfl ?_
        refine qv (yMove (v := .int .i64 _) rfl) rfl rfl ?_
        refine qv (yMove (v := .slice _ _ _) rfl) rfl rfl ?_
        refine qv (ySlLen ul50 rfl) rfl rfl ?_
        refine qcLt rfl rfl rfl rfl (fun h4 => ?_) (fun h4 => ?_)
        ·
          obtain ⟨u, hu⟩ := getSome (xs := (rdNums s a).1) (k := k) (by omega)
          obtain ⟨v, hv⟩ := getSome (xs := (rdNums s (rdNums s a).2.1).1) (k := k) (by omega)
          have hz := zip_at hu hv
          have htl : (((rdNums s a).1.zip (rdNums s (rdNums s a).2.1).1).take k).length ≤ k := by simp; omega
          refine QL.nil ?_
          refine TQ.sq ?_
          refine TC.condT rfl ?_
          refine TC.skip (TQ.sq ?_)
          refine TC.seq ?_
          refine TC.block ?_
          refine TC.held (St c I (m2 ++ (m1 ++ l))) 12 (.q 0 (.q 1 (.q 2 (.q 3 (.q 4 (.q 5 (.q 6 (.q 7 (.q 8 (.q 9 (.x 10 (.x 11 (.x 12 .done))))))))))))) (fun _ _ h => h.drawn _) mixed rfl (by kernel_rfl) (by kernel_rfl) ?_
          refine Go.E.hq rfl (yMove (v := .slice _ _ _) rfl) rfl rfl (by first | exact Wk.w | exact fun w hw => (hw.le (by assumption)).dr) ?_
          refine Go.E.hq rfl (yMove (v := .slice _ _ _) rfl) rfl rfl (by first | exact Wk.w | exact fun w hw => (hw.le (by assumption)).dr) ?_
          refine Go.E.hq rfl (yMove (v := .int .i64 _) rfl) rfl rfl (by first | exact Wk.w | exact fun w hw => (hw.le (by assumption)).dr) ?_
          refine hElA (ho1 := rfl) (ho2 := rfl) (v := .int .i64 _) ul50 ti3 rfl (by first | exact RA.sa (by assumption) | exact OA.sa (by assumption) | exact OA.sub (by assumption) (by simp) | exact OA.fm (by assumption) | exact SlR.mono (by assumption) Wk.w) rfl (by omega) (by simpa using hu) (fun _ => rfl) (fun _ => rfl) rfl rfl (fun _ => rfl) rfl rfl (by first | exact Wk.w | exact fun w hw => (hw.le (by assumption)).dr) (fun _ => ?_)
          refine Go.E.hq rfl (yMove (v := .slice _ _ _) rfl) rfl rfl (by first | exact Wk.w | exact fun w hw => (hw.le (by assumption)).dr) ?_
          refine Go.E.hq rfl (yMove (v := .int .i64 _) rfl) rfl rfl (by first | exact Wk.w | exact fun w hw => (hw.le (by assumption)).dr) ?_
          refine hElA (ho1 := rfl) (ho2 := rfl) (v := .int .i64 _) ul50 ti3 rfl (by first | exact RA.sa (by assumption) | exact OA.sa (by assumption) | exact OA.sub (by assumption) (by simp) | exact OA.fm (by assumption) | exact SlR.mono (by assumption) Wk.w) rfl (by omega) (by simpa using hv) (fun _ => rfl) (fun _ => rfl) rfl rfl (fun _ => rfl) rfl rfl (by first | exact Wk.w | exact fun w hw => (hw.le (by assumption)).dr) (fun _ => ?_)
          refine Go.E.hq rfl (yBuild (vs := [.int .i64 _, .int .i64 _]) ti49 pl49 rfl) rfl rfl (by first | exact Wk.w | exact fun w hw => (hw.le (by assumption)).dr) ?_
          refine Go.E.hx rfl ?_
          refine sBuildSl (vs := [.int .i64 _, .int .i64 _]) ul27 ti49 rfl rfl rfl rfl (fun b1 => ?_)
          refine Go.E.hn (fun _ => by exact (by first | exact Wk.w | exact fun w hw => (hw.le (by assumption)).dr)) ?_
          refine Go.E.hx rfl ?_
          refine sAppA1F (enc := encH) ((u, v)) ul27 ul27 ti49 rfl rfl ho rfl rfl (fun _ => rfl) (by omega) (by omega) rfl (fun m4 a4 c4 ho4 => ?_)
          refine Go.E.hn (fun _ => by exact (by first | exact Wk.w | exact fun w hw => (hw.le (by assumption)).dr)) ?_
          refine Go.E.hx rfl ?_
          refine sv (yAsgn (v := .slice _ _ _) rfl) rfl rfl ?_
          refine Go.E.hn (fun h => nomatch h) ?_
          refine TQ.blk (TQ.sq ?_)
          refine TC.quiet rfl ?_
          refine qv (yMove (v := .int .i64 _) rfl) rfl rfl ?_
          refine qv (yAdd rfl rfl (by omega)) rfl rfl ?_
          refine qv (yAsgn (v := .int .i64 _) rfl) rfl rfl ?_
          refine QL.nil ?_
          refine TQ.lpL (k + 1, m4, a4, c4) (by first | omega | (dsimp only; omega)) (by repeat (first | exact OffL.refl | refine OffL.updO rfl ?_ | refine OffL.upd rfl ?_ | refine OffL.updL rfl ?_ | refine OffL.mask rfl ?_)) ⟨rfl, (by rw [take_snoc hz]; rfl), trivial⟩ (fun w hw => ⟨⟨by omega, by rw [take_snoc hz]; exact ho4⟩, hw.dr⟩)
        ·
          refine QL.nil ?_
          refine TQ.sq ?_
          refine TC.condF rfl ?_
          refine TC.exit (TQ.sqX (TQ.lpLX (TQ.blkX (TQ.sq ?_))))
          refine TC.seq ?_
          refine TC.quiet rfl ?_
          refine qv (yMove (v := .slice _ _ _) rfl) rfl rfl ?_
          refine qv (yMove (v := .int .i64 _) rfl) rfl rfl ?_
          refine qv (yAsgn (v := .slice _ _ _) rfl) rfl rfl ?_
          refine qv (yAsgn (v := .int .i64 _) rfl) rfl rfl ?_
          refine qv (yAsgn (v := .int .i64 _) rfl) rfl rfl ?_
          refine QL.nil ?_
          refine TQ.sq ?_
          refine TC.ret ?_
          refine TQ.post (v := .tuple ⟨[.slice _ _ _, .int .i64 _, .int .i64 _]⟩) rfl ?_
          have e := rdLists_ok h1 h2 h3
          have hz2 : ((rdNums s a).1.zip (rdNums s (rdNums s a).2.1).1).take k = (rdNums s a).1.zip (rdNums s (rdNums s a).2.1).1 := List.take_of_length_le (by simp only [List.length_zip]; omega)
          rw [hz2] at ho
          exact fun w hw => ⟨m, a3, c3, by rw [e, hz2], by rw [e]; exact ho, hw.dr⟩
end Go.Proofs.Ytfiambcocnceiaa
