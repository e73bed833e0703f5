import Derived.Test.YtfiambcocnceiaaLay3
set_option linter.unusedVariables false
set_option maxRecDepth 100000
namespace Go.Proofs.Ytfiambcocnceiaa
open Go Go.E

abbrev Hd := Int × Int
def encH (p : Hd) : List Value := [.int .i64 p.1, .int .i64 p.2]
def okH (u : Hd) : Bool := decide (0 ≤ u.1 ∧ u.1 ≤ 1099511627776 ∧ 0 ≤ u.2 ∧ u.2 ≤ 4096)
def plainG : Int → List Hd → Bool
  | _, [] => true
  | p, u :: r => decide (p < u.1) && (okH u && plainG u.1 r)
def plainB (hs : List Hd) : Bool := plainG (-1) hs
theorem plainG_end {p : Int} {hs : List Hd} {k : Nat} (h : hs.length ≤ k) : plainG p (hs.drop k) = true := by rw [List.drop_eq_nil_of_le h]; rfl
theorem drop_at {α : Type} {hs : List α} {k : Nat} {u : α} (h : hs[k]? = some u) : hs.drop k = u :: hs.drop (k + 1) := by
  obtain ⟨h1, h2⟩ := List.getElem?_eq_some_iff.1 h
  rw [List.drop_eq_getElem_cons h1, h2]
theorem plainG_bad {p : Int} {hs : List Hd} {k : Nat} {u : Hd} (h : hs[k]? = some u) (hb : u.1 ≤ p ∨ u.1 < 0 ∨ 1099511627776 < u.1 ∨ u.2 < 0 ∨ 4096 < u.2) : plainG p (hs.drop k) = false := by
  rw [drop_at h]
  unfold plainG
  by_cases h1 : p < u.1
  · rw [show okH u = false from by unfold okH; rw [decide_eq_false_iff_not]; omega]; simp
  · simp [h1]
theorem plainG_good {p : Int} {hs : List Hd} {k : Nat} {u : Hd} (h : hs[k]? = some u) (hb : p < u.1 ∧ 0 ≤ u.1 ∧ u.1 ≤ 1099511627776 ∧ 0 ≤ u.2 ∧ u.2 ≤ 4096) : plainG p (hs.drop k) = plainG u.1 (hs.drop (k + 1)) := by
  rw [drop_at h]
  conv => lhs; unfold plainG
  rw [decide_eq_true hb.1, show okH u = true from by unfold okH; rw [decide_eq_true_iff]; omega]; rfl
/-- a held list, put -/
def putH (h : Hd) : List Hd → List Hd
  | [] => [h]
  | p :: r => if p.1 < h.1 then p :: putH h r else if p.1 = h.1 then p :: r else h :: p :: r
theorem putH_ge {h : Hd} {hs : List Hd} {k : Nat} (hk : k ≤ hs.length) (hl : ∀ j u, j < k → hs[j]? = some u → u.1 < h.1) : putH h hs = hs.take k ++ putH h (hs.drop k) := by
  induction hs generalizing k with
  | nil => simp at hk; subst hk; rfl
  | cons p r ih =>
    cases k with
    | zero => rfl
    | succ k =>
      have h1 := hl 0 p (by omega) rfl
      simp only [putH, h1, if_true, List.take_succ_cons, List.drop_succ_cons, List.cons_append]
      rw [ih (k := k) (by simpa using hk) fun j u hj hu => hl (j + 1) u (by omega) (by simpa using hu)]
theorem putH_same {h u : Hd} {hs : List Hd} {k : Nat} (hl : ∀ j u, j < k → hs[j]? = some u → u.1 < h.1) (hu : hs[k]? = some u) (he : u.1 = h.1) : putH h hs = hs := by
  have hk := (List.getElem?_eq_some_iff.1 hu).1
  rw [putH_ge (k := k) (by omega) hl, drop_at hu]
  unfold putH
  rw [if_neg (by omega), if_pos he, ← drop_at hu, List.take_append_drop]
theorem putH_end {h : Hd} {hs : List Hd} (hl : ∀ j u, j < hs.length → hs[j]? = some u → u.1 < h.1) : putH h hs = hs.take hs.length ++ [h] ++ hs.drop hs.length := by
  rw [putH_ge (k := hs.length) (by omega) hl, List.drop_length]; simp [putH]
theorem putH_mid {h u : Hd} {hs : List Hd} {k : Nat} (hl : ∀ j u, j < k → hs[j]? = some u → u.1 < h.1) (hu : hs[k]? = some u) (he : h.1 < u.1) : putH h hs = hs.take k ++ [h] ++ hs.drop k := by
  have hk := (List.getElem?_eq_some_iff.1 hu).1
  rw [putH_ge (k := k) (by omega) hl, drop_at hu]
  conv => lhs; rhs; unfold putH
  rw [if_neg (by omega), if_neg (by omega)]; simp
theorem putH_len (h : Hd) (hs : List Hd) : (putH h hs).length ≤ hs.length + 1 := by
  induction hs with
  | nil => simp [putH]
  | cons p r ih =>
    unfold putH; split
    · simp only [List.length_cons]; omega
    · split <;> simp
theorem dget_at {hs : List Hd} {k : Nat} {u : Hd} {n : Int} (h : hs[k]? = some u) : dget (hs.drop k) n = if n = u.1 then some u.2 else dget (hs.drop (k + 1)) n := by
  rw [drop_at h]; rfl
theorem dget_end {hs : List Hd} {k : Nat} {n : Int} (h : hs.length ≤ k) : dget (hs.drop k) n = none := by rw [List.drop_eq_nil_of_le h]; rfl
theorem pair_eq {u v : Hd} {b : Bool} (h : (decide (u.1 = v.1) && (decide (u.2 = v.2) && true)) = b) : decide (u = v) = b := by
  rw [← h, Bool.and_true, Bool.eq_iff_iff]; simp [Prod.ext_iff]

theorem plain_ok {c : Cx} {I : Im} (l : Ow) (a : Option Addr) (cap : Nat) (hs : List Hd) (hs0 : SA (St c I l) encH 2 a hs) (hl : hs.length ≤ 1000000000000) : Ct Try.prog 20 [.slice a hs.length cap] (St c I l) fun v w => v = .bool (plainB hs) ∧ St c I l w := by
  refine Ct.enter (n := 46) Try.func20 rfl rfl rfl rfl rfl rfl ?_
  refine TC.seq ?_
  refine TC.quiet rfl ?_
  refine qv (yAsgn (v := .bool _) rfl) rfl rfl ?_
  refine QL.nil ?_
  refine TQ.sq ?_
  refine TC.seq ?_
  refine TC.seq ?_
  refine TC.quiet rfl ?_
  refine qv (yMove (v := .slice _ _ _) rfl) rfl rfl ?_
  refine qv (ySlLen ul27 rfl) rfl rfl ?_
  refine qv (yMove (v := .int .i64 _) rfl) rfl rfl ?_
  refine QL.nil ?_
  refine TQ.sq ?_
  refine TC.block ?_
  refine TC.loopL (ι := (Nat) × (Int)) [2, 3, 4, 7, 8, 9, 10, 11, 12, 13, 14, 15, 16, 17, 18, 19, 20, 21, 22, 23, 24, 25, 26, 27, 28, 29, 30, 31, 32, 33, 34, 35, 36, 37, 38, 39, 40, 41, 42, 43, 44, 45] (fun ⟨k, p⟩ => [(7, .int .i64 (k : Int))]) (fun ⟨k, p⟩ w => (k ≤ hs.length ∧ plainG p (hs.drop k) = plainB hs ∧ (k = 0 → p = -1) ∧ (0 < k → ∃ v, hs[k - 1]? = some v ∧ v.1 = p)) ∧ St c I l w) (fun ⟨k, p⟩ => hs.length - k) (0, -1) ⟨rfl, trivial⟩ (fun w hw => ⟨⟨by omega, rfl, fun _ => rfl, fun h => absurd h (by omega)⟩, hw⟩) ?_
  rintro g0 ⟨k, p⟩
  dsimp only
  refine TC.pure fun ⟨hk, hg, hz, hv⟩ => ?_
  refine TC.seq ?_
  refine TC.quiet rfl ?_
  refine qcLt rfl rfl rfl rfl (fun h8 => ?_) (fun h8 => ?_)
  ·
    refine QL.nil ?_
    refine TQ.sq ?_
    refine TC.seq ?_
    refine TC.condT rfl ?_
    refine TC.skip (TQ.sq ?_)
    refine TC.seq ?_
    refine TC.block ?_
    refine TC.seq ?_
    refine TC.region ?_
    refine sv (yMove (v := .int .i64 _) rfl) rfl rfl ?_
    obtain ⟨u, hu⟩ := getSome (xs := hs) (k := k) (by omega)
    refine sElA (v := .agg ⟨[.int .i64 _, .int .i64 _]⟩) ul27 ti49 rfl (SlR.mono hs0 Wk.w) rfl (by omega) (by simpa using hu) (fun _ => rfl) (fun h => nomatch h) rfl rfl rfl (fun _ => ?_)
    refine sAlloc ti49 rfl rfl (fun b1 => ?_)
    refine sv (yAsgn (v := .int .i64 _) rfl) rfl rfl ?_
    refine sStore (vs := [.int .i64 _, .int .i64 _]) (cs' := [.int .i64 _, .int .i64 _]) ti49 rfl rfl rfl rfl rfl (.inl rfl) (Nat.le_of_ble_eq_true rfl) rfl rfl ?_
    refine TL.nil ?_
    refine TQ.sq ?_
    refine TC.seq ?_
    refine TC.quietD (fun _ _ h => h.drawn _) mixed (by kernel_rfl) rfl ?_
    refine qv (yFA fld49_0 ti3 (by decide) rfl) rfl rfl ?_
    refine qv (yLd1 ti3 rfl (by first | exact RdC.rd | exact rdI (by assumption)) rfl) rfl rfl ?_
    refine qcLt rfl rfl rfl rfl (fun h14 => ?_) (fun h14 => ?_)
    ·
      refine qv (yMove (v := .bool _) rfl) rfl rfl ?_
      refine qk (.inl ⟨_, _, rfl, rfl, rfl⟩) rfl ?_
      refine qk (.inl ⟨_, _, rfl, rfl, rfl⟩) rfl ?_
      refine qk (.inl ⟨_, _, rfl, rfl, rfl⟩) rfl ?_
      refine qv (yPickT rfl rfl) rfl rfl ?_
      refine qv (yMove (v := .bool _) rfl) rfl rfl ?_
      refine qk (.inl ⟨_, _, rfl, rfl, rfl⟩) rfl ?_
      refine qk (.inl ⟨_, _, rfl, rfl, rfl⟩) rfl ?_
      refine qk (.inl ⟨_, _, rfl, rfl, rfl⟩) rfl ?_
      refine qv (yPickT rfl rfl) rfl rfl ?_
      refine qv (yMove (v := .bool _) rfl) rfl rfl ?_
      refine qk (.inl ⟨_, _, rfl, rfl, rfl⟩) rfl ?_
      refine qk (.inl ⟨_, _, rfl, rfl, rfl⟩) rfl ?_
      refine qk (.inl ⟨_, _, rfl, rfl, rfl⟩) rfl ?_
      refine qv (yPickT rfl rfl) rfl rfl ?_
      refine qv (yMove (v := .bool _) rfl) rfl rfl ?_
      refine qk (.inl ⟨_, _, rfl, rfl, rfl⟩) rfl ?_
      refine qk (.inl ⟨_, _, rfl, rfl, rfl⟩) rfl ?_
      refine qk (.inl ⟨_, _, rfl, rfl, rfl⟩) rfl ?_
      refine qk (.inr ⟨rfl, _, rfl, rfl⟩) rfl ?_
      refine qk (.inr ⟨rfl, _, rfl, rfl⟩) rfl ?_
      refine qk (.inr ⟨rfl, _, rfl, rfl⟩) rfl ?_
      refine qk (.inr ⟨rfl, _, rfl, rfl⟩) rfl ?_
      refine qk (.inr ⟨rfl, _, rfl, rfl⟩) rfl ?_
      refine qk (.inr ⟨rfl, _, rfl, rfl⟩) rfl ?_
      refine qk (.inr ⟨rfl, _, rfl, rfl⟩) rfl ?_
      refine qk (.inr ⟨rfl, _, rfl, rfl⟩) rfl ?_
      refine qk (.inr ⟨rfl, _, rfl, rfl⟩) rfl ?_
      refine qk (.inl ⟨_, _, rfl, rfl, rfl⟩) rfl ?_
      refine qv (yPickT rfl rfl) rfl rfl ?_
      refine QL.nil ?_
      refine TQ.sq ?_
      refine TC.condT rfl ?_
      refine TC.seq ?_
      refine TC.quiet rfl ?_
      refine qv (yAsgn (v := .bool _) rfl) rfl rfl ?_
      refine QL.nil ?_
      refine TQ.sq ?_
      refine TC.ret (TQ.blkR (TQ.sqR (TQ.lpLR (TQ.blkR (TQ.sqR ?_)))))
      refine TQ.post (v := .bool _) rfl ?_
      have e := (plainG_bad (p := p) hu (by omega)).symm.trans hg
      exact fun w hw => ⟨by rw [← e], hw.tl⟩
    ·
      refine qv (yMove (v := .bool _) rfl) rfl rfl ?_
      refine qv (yFA fld49_0 ti3 (by decide) rfl) (.inl ⟨_, _, rfl, rfl, rfl⟩) rfl ?_
      refine qv (yLd1 ti3 rfl (by first | exact RdC.rd | exact rdI (by assumption)) rfl) (.inl ⟨_, _, rfl, rfl, rfl⟩) rfl ?_
      refine qcGt rfl rfl (.inl ⟨_, _, rfl, rfl, rfl⟩) rfl (fun h18 => ?_) (fun h18 => ?_)
      ·
        refine qv (yPickF rfl rfl) rfl rfl ?_
        refine qv (yMove (v := .bool _) rfl) rfl rfl ?_
        refine qk (.inl ⟨_, _, rfl, rfl, rfl⟩) rfl ?_
        refine qk (.inl ⟨_, _, rfl, rfl, rfl⟩) rfl ?_
        refine qk (.inl ⟨_, _, rfl, rfl, rfl⟩) rfl ?_
        refine qv (yPickT rfl rfl) rfl rfl ?_
        refine qv (yMove (v := .bool _) rfl) rfl rfl ?_
        refine qk (.inl ⟨_, _, rfl, rfl, rfl⟩) rfl ?_
        refine qk (.inl ⟨_, _, rfl, rfl, rfl⟩) rfl ?_
        refine qk (.inl ⟨_, _, rfl, rfl, rfl⟩) rfl ?_
        refine qv (yPickT rfl rfl) rfl rfl ?_
        refine qv (yMove (v := .bool _) rfl) rfl rfl ?_
        refine qk (.inl ⟨_, _, rfl, rfl, rfl⟩) rfl ?_
        refine qk (.inl ⟨_, _, rfl, rfl, rfl⟩) rfl ?_
        refine qk (.inl ⟨_, _, rfl, rfl, rfl⟩) rfl ?_
        refine qk (.inr ⟨rfl, _, rfl, rfl⟩) rfl ?_
        refine qk (.inr ⟨rfl, _, rfl, rfl⟩) rfl ?_
        refine qk (.inr ⟨rfl, _, rfl, rfl⟩) rfl ?_
        refine qk (.inr ⟨rfl, _, rfl, rfl⟩) rfl ?_
        refine qk (.inr ⟨rfl, _, rfl, rfl⟩) rfl ?_
        refine qk (.inr ⟨rfl, _, rfl, rfl⟩) rfl ?_
        refine qk (.inr ⟨rfl, _, rfl, rfl⟩) rfl ?_
        refine qk (.inr ⟨rfl, _, rfl, rfl⟩) rfl ?_
        refine qk (.inr ⟨rfl, _, rfl, rfl⟩) rfl ?_
        refine qk (.inl ⟨_, _, rfl, rfl, rfl⟩) rfl ?_
        refine qv (yPickT rfl rfl) rfl rfl ?_
        refine QL.nil ?_
        refine TQ.sq ?_
        refine TC.condT rfl ?_
        refine TC.seq ?_
        refine TC.quiet rfl ?_
        refine qv (yAsgn (v := .bool _) rfl) rfl rfl ?_
        refine QL.nil ?_
        refine TQ.sq ?_
        refine TC.ret (TQ.blkR (TQ.sqR (TQ.lpLR (TQ.blkR (TQ.sqR ?_)))))
        refine TQ.post (v := .bool _) rfl ?_
        have e := (plainG_bad (p := p) hu (by omega)).symm.trans hg
        exact fun w hw => ⟨by rw [← e], hw.tl⟩
      ·
        refine qv (yPickF rfl rfl) rfl rfl ?_
        refine qv (yMove (v := .bool _) rfl) rfl rfl ?_
        refine qv (yFA fld49_1 ti3 (by decide) rfl) (.inl ⟨_, _, rfl, rfl, rfl⟩) rfl ?_
        refine qv (yLd1 ti3 rfl (by first | exact RdC.rd | exact rdI (by assumption)) rfl) (.inl ⟨_, _, rfl, rfl, rfl⟩) rfl ?_
        refine qcLt rfl rfl (.inl ⟨_, _, rfl, rfl, rfl⟩) rfl (fun h23 => ?_) (fun h23 => ?_)
        ·
          refine qv (yPickF rfl rfl) rfl rfl ?_
          refine qv (yMove (v := .bool _) rfl) rfl rfl ?_
          refine qk (.inl ⟨_, _, rfl, rfl, rfl⟩) rfl ?_
          refine qk (.inl ⟨_, _, rfl, rfl, rfl⟩) rfl ?_
          refine qk (.inl ⟨_, _, rfl, rfl, rfl⟩) rfl ?_
          refine qv (yPickT rfl rfl) rfl rfl ?_
          refine qv (yMove (v := .bool _) rfl) rfl rfl ?_
          refine qk (.inl ⟨_, _, rfl, rfl, rfl⟩) rfl ?_
          refine qk (.inl ⟨_, _, rfl, rfl, rfl⟩) rfl ?_
          refine qk (.inl ⟨_, _, rfl, rfl, rfl⟩) rfl ?_
          refine qk (.inr ⟨rfl, _, rfl, rfl⟩) rfl ?_
          refine qk (.inr ⟨rfl, _, rfl, rfl⟩) rfl ?_
          refine qk (.inr ⟨rfl, _, rfl, rfl⟩) rfl ?_
          refine qk (.inr ⟨rfl, _, rfl, rfl⟩) rfl ?_
          refine qk (.inr ⟨rfl, _, rfl, rfl⟩) rfl ?_
          refine qk (.inr ⟨rfl, _, rfl, rfl⟩) rfl ?_
          refine qk (.inr ⟨rfl, _, rfl, rfl⟩) rfl ?_
          refine qk (.inr ⟨rfl, _, rfl, rfl⟩) rfl ?_
          refine qk (.inr ⟨rfl, _, rfl, rfl⟩) rfl ?_
          refine qk (.inl ⟨_, _, rfl, rfl, rfl⟩) rfl ?_
          refine qv (yPickT rfl rfl) rfl rfl ?_
          refine QL.nil ?_
          refine TQ.sq ?_
          refine TC.condT rfl ?_
          refine TC.seq ?_
          refine TC.quiet rfl ?_
          refine qv (yAsgn (v := .bool _) rfl) rfl rfl ?_
          refine QL.nil ?_
          refine TQ.sq ?_
          refine TC.ret (TQ.blkR (TQ.sqR (TQ.lpLR (TQ.blkR (TQ.sqR ?_)))))
          refine TQ.post (v := .bool _) rfl ?_
          have e := (plainG_bad (p := p) hu (by omega)).symm.trans hg
          exact fun w hw => ⟨by rw [← e], hw.tl⟩
        ·
          refine qv (yPickF rfl rfl) rfl rfl ?_
          refine qv (yMove (v := .bool _) rfl) rfl rfl ?_
          refine qv (yFA fld49_1 ti3 (by decide) rfl) (.inl ⟨_, _, rfl, rfl, rfl⟩) rfl ?_
          refine qv (yLd1 ti3 rfl (by first | exact RdC.rd | exact rdI (by assumption)) rfl) (.inl ⟨_, _, rfl, rfl, rfl⟩) rfl ?_
          refine qcGt rfl rfl (.inl ⟨_, _, rfl, rfl, rfl⟩) rfl (fun h28 => ?_) (fun h28 => ?_)
          ·
            refine qv (yPickF rfl rfl) rfl rfl ?_
            refine qv (yMove (v := .bool _) rfl) rfl rfl ?_
            refine qk (.inl ⟨_, _, rfl, rfl, rfl⟩) rfl ?_
            refine qk (.inl ⟨_, _, rfl, rfl, rfl⟩) rfl ?_
            refine qk (.inl ⟨_, _, rfl, rfl, rfl⟩) rfl ?_
            refine qk (.inr ⟨rfl, _, rfl, rfl⟩) rfl ?_
            refine qk (.inr ⟨rfl, _, rfl, rfl⟩) rfl ?_
            refine qk (.inr ⟨rfl, _, rfl, rfl⟩) rfl ?_
            refine qk (.inr ⟨rfl, _, rfl, rfl⟩) rfl ?_
            refine qk (.inr ⟨rfl, _, rfl, rfl⟩) rfl ?_
            refine qk (.inr ⟨rfl, _, rfl, rfl⟩) rfl ?_
            refine qk (.inr ⟨rfl, _, rfl, rfl⟩) rfl ?_
            refine qk (.inr ⟨rfl, _, rfl, rfl⟩) rfl ?_
            refine qk (.inr ⟨rfl, _, rfl, rfl⟩) rfl ?_
            refine qk (.inl ⟨_, _, rfl, rfl, rfl⟩) rfl ?_
            refine qv (yPickT rfl rfl) rfl rfl ?_
            refine QL.nil ?_
            refine TQ.sq ?_
            refine TC.condT rfl ?_
            refine TC.seq ?_
            refine TC.quiet rfl ?_
            refine qv (yAsgn (v := .bool _) rfl) rfl rfl ?_
            refine QL.nil ?_
            refine TQ.sq ?_
            refine TC.ret (TQ.blkR (TQ.sqR (TQ.lpLR (TQ.blkR (TQ.sqR ?_)))))
            refine TQ.post (v := .bool _) rfl ?_
            have e := (plainG_bad (p := p) hu (by omega)).symm.trans hg
            exact fun w hw => ⟨by rw [← e], hw.tl⟩
          ·
            refine qv (yPickF rfl rfl) rfl rfl ?_
            refine qv (yMove (v := .bool _) rfl) rfl rfl ?_
            refine qv (yMove (v := .int .i64 _) rfl) (.inl ⟨_, _, rfl, rfl, rfl⟩) rfl ?_
            refine qcGt rfl rfl (.inl ⟨_, _, rfl, rfl, rfl⟩) rfl (fun h32 => ?_) (fun h32 => ?_)
            ·
              refine qv (yMove (v := .bool _) rfl) (.inl ⟨_, _, rfl, rfl, rfl⟩) rfl ?_
              refine qv (yFA fld49_0 ti3 (by decide) rfl) (.inl ⟨_, _, rfl, rfl, rfl⟩) rfl ?_
              refine qv (yLd1 ti3 rfl (by first | exact RdC.rd | exact rdI (by assumption)) rfl) (.inl ⟨_, _, rfl, rfl, rfl⟩) rfl ?_
              refine qv (yMove (v := .slice _ _ _) rfl) (.inl ⟨_, _, rfl, rfl, rfl⟩) rfl ?_
              refine qv (yMove (v := .int .i64 _) rfl) (.inl ⟨_, _, rfl, rfl, rfl⟩) rfl ?_
              refine qv (ySub rfl rfl (by omega)) (.inl ⟨_, _, rfl, rfl, rfl⟩) rfl ?_
              obtain ⟨v, hv1, hv2⟩ := hv (by omega)
              have hv3 : hs[((k : Int) - 1).toNat]? = some v := by rw [show ((k : Int) - 1).toNat = k - 1 from by omega]; exact hv1
              refine qElF (v := .int .i64 _) ul27 ti49 fld49_0 ti3 (by decide) rfl (SlR.mono hs0 Wk.w) rfl (by omega) (by omega) (flat_cell (enc := encH) (k := 2) (fun _ => rfl) (by simpa using hv3) (by decide) rfl) (.inl ⟨_, _, rfl, rfl, rfl⟩) (fun _ => (.inl ⟨_, _, rfl, rfl, rfl⟩)) (fun _ _ => (.inl ⟨_, _, rfl, rfl, rfl⟩)) rfl rfl rfl (fun _ _ => ?_)
              refine qcLe rfl rfl (.inl ⟨_, _, rfl, rfl, rfl⟩) rfl (fun h42 => ?_) (fun h42 => ?_)
              ·
                refine qv (yPickT rfl rfl) (.inl ⟨_, _, rfl, rfl, rfl⟩) rfl ?_
                refine qv (yPickF rfl rfl) rfl rfl ?_
                refine QL.nil ?_
                refine TQ.sq ?_
                refine TC.condT rfl ?_
                refine TC.seq ?_
                refine TC.quiet rfl ?_
                refine qv (yAsgn (v := .bool _) rfl) rfl rfl ?_
                refine QL.nil ?_
                refine TQ.sq ?_
                refine TC.ret (TQ.blkR (TQ.sqR (TQ.lpLR (TQ.blkR (TQ.sqR ?_)))))
                refine TQ.post (v := .bool _) rfl ?_
                have e := (plainG_bad (p := p) hu (by omega)).symm.trans hg
                exact fun w hw => ⟨by rw [← e], hw.tl⟩
              ·
                refine qv (yPickT rfl rfl) (.inl ⟨_, _, rfl, rfl, rfl⟩) rfl ?_
                refine qv (yPickF rfl rfl) rfl rfl ?_
                refine QL.nil ?_
                refine TQ.sq ?_
                refine TC.condF rfl ?_
                refine TC.skip (TQ.blk (TQ.sq ?_))
                refine TC.quiet rfl ?_
                refine qv (yAdd rfl rfl (by omega)) rfl rfl ?_
                refine qv (yMove (v := .int .i64 _) rfl) rfl rfl ?_
                refine QL.nil ?_
                have hpu : p < u.1 := by omega
                refine TQ.lpL (k + 1, u.1) (by first | omega | (dsimp only; omega)) (by repeat (first | exact OffL.refl | refine OffL.updO rfl ?_ | refine OffL.upd rfl ?_ | refine OffL.updL rfl ?_ | refine OffL.mask rfl ?_)) ⟨rfl, trivial⟩ (fun w hw => ⟨⟨by omega, (plainG_good hu ⟨hpu, by omega, by omega, by omega, by omega⟩).symm.trans hg, fun h => absurd h (by omega), fun _ => ⟨u, by simpa using hu, rfl⟩⟩, hw.tl⟩)
            ·
              refine qv (yMove (v := .bool _) rfl) (.inl ⟨_, _, rfl, rfl, rfl⟩) rfl ?_
              refine qk (.inl ⟨_, _, rfl, rfl, rfl⟩) rfl ?_
              refine qk (.inl ⟨_, _, rfl, rfl, rfl⟩) rfl ?_
              refine qk (.inl ⟨_, _, rfl, rfl, rfl⟩) rfl ?_
              refine qk (.inl ⟨_, _, rfl, rfl, rfl⟩) rfl ?_
              refine qk (.inl ⟨_, _, rfl, rfl, rfl⟩) rfl ?_
              refine qk (.inl ⟨_, _, rfl, rfl, rfl⟩) rfl ?_
              refine qk (.inl ⟨_, _, rfl, rfl, rfl⟩) rfl ?_
              refine qk (.inl ⟨_, _, rfl, rfl, rfl⟩) rfl ?_
              refine qk (.inl ⟨_, _, rfl, rfl, rfl⟩) rfl ?_
              refine qv (yPickF rfl rfl) (.inl ⟨_, _, rfl, rfl, rfl⟩) rfl ?_
              refine qv (yPickF rfl rfl) rfl rfl ?_
              refine QL.nil ?_
              refine TQ.sq ?_
              refine TC.condF rfl ?_
              refine TC.skip (TQ.blk (TQ.sq ?_))
              refine TC.quiet rfl ?_
              refine qv (yAdd rfl rfl (by omega)) rfl rfl ?_
              refine qv (yMove (v := .int .i64 _) rfl) rfl rfl ?_
              refine QL.nil ?_
              have hpu : p < u.1 := by rw [hz (by omega)]; omega
              refine TQ.lpL (k + 1, u.1) (by first | omega | (dsimp only; omega)) (by repeat (first | exact OffL.refl | refine OffL.updO rfl ?_ | refine OffL.upd rfl ?_ | refine OffL.updL rfl ?_ | refine OffL.mask rfl ?_)) ⟨rfl, trivial⟩ (fun w hw => ⟨⟨by omega, (plainG_good hu ⟨hpu, by omega, by omega, by omega, by omega⟩).symm.trans hg, fun h => absurd h (by omega), fun _ => ⟨u, by simpa using hu, rfl⟩⟩, hw.tl⟩)
  ·
    refine QL.nil ?_
    refine TQ.sq ?_
    refine TC.seq ?_
    refine TC.condF rfl ?_
    refine TC.exit (TQ.sqX (TQ.lpLX (TQ.blkX (TQ.sq ?_))))
    refine TC.seq ?_
    refine TC.quiet rfl ?_
    refine qv (yAsgn (v := .bool _) rfl) rfl rfl ?_
    refine QL.nil ?_
    refine TQ.sq ?_
    refine TC.ret ?_
    refine TQ.post (v := .bool _) rfl ?_
    have e := (plainG_end (p := p) (by omega)).symm.trans hg
    exact fun w hw => ⟨by rw [← e], hw⟩
theorem Rise_ok {c : Cx} {I : Im} (l : Ow) (a : Option Addr) (cap : Nat) (hs : List Hd) (hs0 : SA (St c I l) encH 2 a hs) (hl : hs.length ≤ 1000000000000) : Ct Try.prog 31 [.slice a hs.length cap] (St c I l) fun v w => v = .bool (plainB hs) ∧ St c I l w := by
  refine Ct.enter (n := 46) Try.func31 rfl rfl rfl rfl rfl rfl ?_
  refine TC.seq ?_
  refine TC.quiet rfl ?_
  refine qv (yAsgn (v := .bool _) rfl) rfl rfl ?_
  refine QL.nil ?_
  refine TQ.sq ?_
  refine TC.seq ?_
  refine TC.seq ?_
  refine TC.quiet rfl ?_
  refine qv (yAsgn (v := .int .i64 _) rfl) rfl rfl ?_
  refine QL.nil ?_
  refine TQ.sq ?_
  refine TC.block ?_
  refine TC.loopL (ι := (Nat) × (Int)) [2, 3, 4, 5, 6, 7, 8, 9, 10, 11, 12, 13, 14, 15, 16, 17, 18, 19, 20, 21, 22, 23, 24, 25, 26, 27, 28, 29, 30, 31, 32, 33, 34, 35, 36, 37, 38, 39, 40, 41, 42, 43, 44, 45] (fun ⟨k, p⟩ => [(3, .int .i64 (k : Int))]) (fun ⟨k, p⟩ w => (k ≤ hs.length ∧ plainG p (hs.drop k) = plainB hs ∧ (k = 0 → p = -1) ∧ (0 < k → ∃ v, hs[k - 1]? = some v ∧ v.1 = p)) ∧ St c I l w) (fun ⟨k, p⟩ => hs.length - k) (0, -1) ⟨rfl, trivial⟩ (fun w hw => ⟨⟨by omega, rfl, fun _ => rfl, fun h => absurd h (by omega)⟩, hw⟩) ?_
  rintro g0 ⟨k, p⟩
  dsimp only
  refine TC.pure fun ⟨hk, hg, hz, hv⟩ => ?_
  refine TC.seq ?_
  refine TC.seq ?_
  refine TC.quiet rfl ?_
  refine qv (yMove (v := .int .i64 _) rfl) rfl rfl ?_
  refine qv (yMove (v := .slice _ _ _) rfl) rfl rfl ?_
  refine qv (ySlLen ul27 rfl) rfl rfl ?_
  refine qcLt rfl rfl rfl rfl (fun h8 => ?_) (fun h8 => ?_)
  ·
    refine QL.nil ?_
    refine TQ.sq ?_
    refine TC.condT rfl ?_
    refine TC.skip (TQ.sq ?_)
    refine TC.seq ?_
    refine TC.block ?_
    refine TC.seq ?_
    refine TC.region ?_
    refine sv (yMove (v := .slice _ _ _) rfl) rfl rfl ?_
    refine sv (yMove (v := .int .i64 _) rfl) rfl rfl ?_
    obtain ⟨u, hu⟩ := getSome (xs := hs) (k := k) (by omega)
    refine sElA (v := .agg ⟨[.int .i64 _, .int .i64 _]⟩) ul27 ti49 rfl (SlR.mono hs0 Wk.w) rfl (by omega) (by simpa using hu) (fun _ => rfl) (fun h => nomatch h) rfl rfl rfl (fun _ => ?_)
    refine sAlloc ti49 rfl rfl (fun b1 => ?_)
    refine sStore (vs := [.int .i64 _, .int .i64 _]) (cs' := [.int .i64 _, .int .i64 _]) ti49 rfl rfl rfl rfl rfl (.inl rfl) (Nat.le_of_ble_eq_true rfl) rfl rfl ?_
    refine TL.nil ?_
    refine TQ.sq ?_
    refine TC.seq ?_
    refine TC.seq ?_
    refine TC.quiet rfl ?_
    refine qv (yFA fld49_0 ti3 (by decide) rfl) rfl rfl ?_
    refine qv (yLd1 ti3 rfl (by first | exact RdC.rd | exact rdI (by assumption)) rfl) rfl rfl ?_
    refine qcLt rfl rfl rfl rfl (fun h17 => ?_) (fun h17 => ?_)
    ·
      refine qv (yMove (v := .bool _) rfl) rfl rfl ?_
      refine qk (.inl ⟨_, _, rfl, rfl, rfl⟩) rfl ?_
      refine qk (.inl ⟨_, _, rfl, rfl, rfl⟩) rfl ?_
      refine qk (.inl ⟨_, _, rfl, rfl, rfl⟩) rfl ?_
      refine qv (yPickT rfl rfl) rfl rfl ?_
      refine qv (yMove (v := .bool _) rfl) rfl rfl ?_
      refine qk (.inl ⟨_, _, rfl, rfl, rfl⟩) rfl ?_
      refine qk (.inl ⟨_, _, rfl, rfl, rfl⟩) rfl ?_
      refine qk (.inl ⟨_, _, rfl, rfl, rfl⟩) rfl ?_
      refine qv (yPickT rfl rfl) rfl rfl ?_
      refine qv (yMove (v := .bool _) rfl) rfl rfl ?_
      refine qk (.inl ⟨_, _, rfl, rfl, rfl⟩) rfl ?_
      refine qk (.inl ⟨_, _, rfl, rfl, rfl⟩) rfl ?_
      refine qk (.inl ⟨_, _, rfl, rfl, rfl⟩) rfl ?_
      refine qv (yPickT rfl rfl) rfl rfl ?_
      refine QL.nil ?_
      refine TQ.sq ?_
      refine TC.condT rfl ?_
      refine TC.seq ?_
      refine TC.quiet rfl ?_
      refine qv (yAsgn (v := .bool _) rfl) rfl rfl ?_
      refine QL.nil ?_
      refine TQ.sq ?_
      refine TC.ret (TQ.sqR (TQ.blkR (TQ.sqR (TQ.lpLR (TQ.blkR (TQ.sqR ?_))))))
      refine TQ.post (v := .bool _) rfl ?_
      have e := (plainG_bad (p := p) hu (by omega)).symm.trans hg
      exact fun w hw => ⟨by rw [← e], hw.tl⟩
    ·
      refine qv (yMove (v := .bool _) rfl) rfl rfl ?_
      refine qv (yFA fld49_0 ti3 (by decide) rfl) (.inl ⟨_, _, rfl, rfl, rfl⟩) rfl ?_
      refine qv (yLd1 ti3 rfl (by first | exact RdC.rd | exact rdI (by assumption)) rfl) (.inl ⟨_, _, rfl, rfl, rfl⟩) rfl ?_
      refine qcGt rfl rfl (.inl ⟨_, _, rfl, rfl, rfl⟩) rfl (fun h21 => ?_) (fun h21 => ?_)
      ·
        refine qv (yPickF rfl rfl) rfl rfl ?_
        refine qv (yMove (v := .bool _) rfl) rfl rfl ?_
        refine qk (.inl ⟨_, _, rfl, rfl, rfl⟩) rfl ?_
        refine qk (.inl ⟨_, _, rfl, rfl, rfl⟩) rfl ?_
        refine qk (.inl ⟨_, _, rfl, rfl, rfl⟩) rfl ?_
        refine qv (yPickT rfl rfl) rfl rfl ?_
        refine qv (yMove (v := .bool _) rfl) rfl rfl ?_
        refine qk (.inl ⟨_, _, rfl, rfl, rfl⟩) rfl ?_
        refine qk (.inl ⟨_, _, rfl, rfl, rfl⟩) rfl ?_
        refine qk (.inl ⟨_, _, rfl, rfl, rfl⟩) rfl ?_
        refine qv (yPickT rfl rfl) rfl rfl ?_
        refine QL.nil ?_
        refine TQ.sq ?_
        refine TC.condT rfl ?_
        refine TC.seq ?_
        refine TC.quiet rfl ?_
        refine qv (yAsgn (v := .bool _) rfl) rfl rfl ?_
        refine QL.nil ?_
        refine TQ.sq ?_
        refine TC.ret (TQ.sqR (TQ.blkR (TQ.sqR (TQ.lpLR (TQ.blkR (TQ.sqR ?_))))))
        refine TQ.post (v := .bool _) rfl ?_
        have e := (plainG_bad (p := p) hu (by omega)).symm.trans hg
        exact fun w hw => ⟨by rw [← e], hw.tl⟩
      ·
        refine qv (yPickF rfl rfl) rfl rfl ?_
        refine qv (yMove (v := .bool _) rfl) rfl rfl ?_
        refine qv (yFA fld49_1 ti3 (by decide) rfl) (.inl ⟨_, _, rfl, rfl, rfl⟩) rfl ?_
        refine qv (yLd1 ti3 rfl (by first | exact RdC.rd | exact rdI (by assumption)) rfl) (.inl ⟨_, _, rfl, rfl, rfl⟩) rfl ?_
        refine qcLt rfl rfl (.inl ⟨_, _, rfl, rfl, rfl⟩) rfl (fun h26 => ?_) (fun h26 => ?_)
        ·
          refine qv (yPickF rfl rfl) rfl rfl ?_
          refine qv (yMove (v := .bool _) rfl) rfl rfl ?_
          refine qk (.inl ⟨_, _, rfl, rfl, rfl⟩) rfl ?_
          refine qk (.inl ⟨_, _, rfl, rfl, rfl⟩) rfl ?_
          refine qk (.inl ⟨_, _, rfl, rfl, rfl⟩) rfl ?_
          refine qv (yPickT rfl rfl) rfl rfl ?_
          refine QL.nil ?_
          refine TQ.sq ?_
          refine TC.condT rfl ?_
          refine TC.seq ?_
          refine TC.quiet rfl ?_
          refine qv (yAsgn (v := .bool _) rfl) rfl rfl ?_
          refine QL.nil ?_
          refine TQ.sq ?_
          refine TC.ret (TQ.sqR (TQ.blkR (TQ.sqR (TQ.lpLR (TQ.blkR (TQ.sqR ?_))))))
          refine TQ.post (v := .bool _) rfl ?_
          have e := (plainG_bad (p := p) hu (by omega)).symm.trans hg
          exact fun w hw => ⟨by rw [← e], hw.tl⟩
        ·
          refine qv (yPickF rfl rfl) rfl rfl ?_
          refine qv (yMove (v := .bool _) rfl) rfl rfl ?_
          refine qv (yFA fld49_1 ti3 (by decide) rfl) (.inl ⟨_, _, rfl, rfl, rfl⟩) rfl ?_
          refine qv (yLd1 ti3 rfl (by first | exact RdC.rd | exact rdI (by assumption)) rfl) (.inl ⟨_, _, rfl, rfl, rfl⟩) rfl ?_
          refine qcGt rfl rfl (.inl ⟨_, _, rfl, rfl, rfl⟩) rfl (fun h31 => ?_) (fun h31 => ?_)
          ·
            refine qv (yPickF rfl rfl) rfl rfl ?_
            refine QL.nil ?_
            refine TQ.sq ?_
            refine TC.condT rfl ?_
            refine TC.seq ?_
            refine TC.quiet rfl ?_
            refine qv (yAsgn (v := .bool _) rfl) rfl rfl ?_
            refine QL.nil ?_
            refine TQ.sq ?_
            refine TC.ret (TQ.sqR (TQ.blkR (TQ.sqR (TQ.lpLR (TQ.blkR (TQ.sqR ?_))))))
            refine TQ.post (v := .bool _) rfl ?_
            have e := (plainG_bad (p := p) hu (by omega)).symm.trans hg
            exact fun w hw => ⟨by rw [← e], hw.tl⟩
          ·
            refine qv (yPickF rfl rfl) rfl rfl ?_
            refine QL.nil ?_
            refine TQ.sq ?_
            refine TC.condF rfl ?_
            refine TC.skip (TQ.sq ?_)
            refine TC.seq ?_
            refine TC.quietD (fun _ _ h => h.drawn _) mixed (by kernel_rfl) rfl ?_
            refine qv (yMove (v := .int .i64 _) rfl) rfl rfl ?_
            refine qcGt rfl rfl rfl rfl (fun h34 => ?_) (fun h34 => ?_)
            ·
              refine qv (yMove (v := .bool _) rfl) rfl rfl ?_
              refine qv (yMove (v := .slice _ _ _) rfl) (.inl ⟨_, _, rfl, rfl, rfl⟩) rfl ?_
              refine qv (yMove (v := .int .i64 _) rfl) (.inl ⟨_, _, rfl, rfl, rfl⟩) rfl ?_
              refine qv (ySub rfl rfl (by omega)) (.inl ⟨_, _, rfl, rfl, rfl⟩) rfl ?_
              obtain ⟨v, hv1, hv2⟩ := hv (by omega)
              have hv3 : hs[((k : Int) - 1).toNat]? = some v := by rw [show ((k : Int) - 1).toNat = k - 1 from by omega]; exact hv1
              refine qElF (v := .int .i64 _) ul27 ti49 fld49_0 ti3 (by decide) rfl (SlR.mono hs0 Wk.w) rfl (by omega) (by omega) (flat_cell (enc := encH) (k := 2) (fun _ => rfl) (by simpa using hv3) (by decide) rfl) (.inl ⟨_, _, rfl, rfl, rfl⟩) (fun _ => (.inl ⟨_, _, rfl, rfl, rfl⟩)) (fun _ _ => (.inl ⟨_, _, rfl, rfl, rfl⟩)) rfl rfl rfl (fun _ _ => ?_)
              refine qv (yFA fld49_0 ti3 (by decide) rfl) (.inl ⟨_, _, rfl, rfl, rfl⟩) rfl ?_
              refine qv (yLd1 ti3 rfl (by first | exact RdC.rd | exact rdI (by assumption)) rfl) (.inl ⟨_, _, rfl, rfl, rfl⟩) rfl ?_
              refine qcGe rfl rfl (.inl ⟨_, _, rfl, rfl, rfl⟩) rfl (fun h44 => ?_) (fun h44 => ?_)
              ·
                refine qv (yPickT rfl rfl) rfl rfl ?_
                refine QL.nil ?_
                refine TQ.sq ?_
                refine TC.condT rfl ?_
                refine TC.seq ?_
                refine TC.quiet rfl ?_
                refine qv (yAsgn (v := .bool _) rfl) rfl rfl ?_
                refine QL.nil ?_
                refine TQ.sq ?_
                refine TC.ret (TQ.blkR (TQ.sqR (TQ.lpLR (TQ.blkR (TQ.sqR ?_)))))
                refine TQ.post (v := .bool _) rfl ?_
                have e := (plainG_bad (p := p) hu (by omega)).symm.trans hg
                exact fun w hw => ⟨by rw [← e], hw.tl⟩
              ·
                refine qv (yPickT rfl rfl) rfl rfl ?_
                refine QL.nil ?_
                refine TQ.sq ?_
                refine TC.condF rfl ?_
                refine TC.skip (TQ.blk (TQ.sq ?_))
                refine TC.quiet rfl ?_
                refine qv (yMove (v := .int .i64 _) rfl) rfl rfl ?_
                refine qv (yAdd rfl rfl (by omega)) rfl rfl ?_
                refine qv (yAsgn (v := .int .i64 _) rfl) rfl rfl ?_
                refine QL.nil ?_
                have hpu : p < u.1 := by omega
                refine TQ.lpL (k + 1, u.1) (by first | omega | (dsimp only; omega)) (by repeat (first | exact OffL.refl | refine OffL.updO rfl ?_ | refine OffL.upd rfl ?_ | refine OffL.updL rfl ?_ | refine OffL.mask rfl ?_)) ⟨rfl, trivial⟩ (fun w hw => ⟨⟨by omega, (plainG_good hu ⟨hpu, by omega, by omega, by omega, by omega⟩).symm.trans hg, fun h => absurd h (by omega), fun _ => ⟨u, by simpa using hu, rfl⟩⟩, hw.tl⟩)
            ·
              refine qv (yMove (v := .bool _) rfl) rfl rfl ?_
              refine qk (.inl ⟨_, _, rfl, rfl, rfl⟩) rfl ?_
              refine qk (.inl ⟨_, _, rfl, rfl, rfl⟩) rfl ?_
              refine qk (.inl ⟨_, _, rfl, rfl, rfl⟩) rfl ?_
              refine qk (.inl ⟨_, _, rfl, rfl, rfl⟩) rfl ?_
              refine qk (.inl ⟨_, _, rfl, rfl, rfl⟩) rfl ?_
              refine qk (.inl ⟨_, _, rfl, rfl, rfl⟩) rfl ?_
              refine qk (.inl ⟨_, _, rfl, rfl, rfl⟩) rfl ?_
              refine qk (.inl ⟨_, _, rfl, rfl, rfl⟩) rfl ?_
              refine qk (.inl ⟨_, _, rfl, rfl, rfl⟩) rfl ?_
              refine qv (yPickF rfl rfl) rfl rfl ?_
              refine QL.nil ?_
              refine TQ.sq ?_
              refine TC.condF rfl ?_
              refine TC.skip (TQ.blk (TQ.sq ?_))
              refine TC.quiet rfl ?_
              refine qv (yMove (v := .int .i64 _) rfl) rfl rfl ?_
              refine qv (yAdd rfl rfl (by omega)) rfl rfl ?_
              refine qv (yAsgn (v := .int .i64 _) rfl) rfl rfl ?_
              refine QL.nil ?_
              have hpu : p < u.1 := by rw [hz (by omega)]; omega
              refine TQ.lpL (k + 1, u.1) (by first | omega | (dsimp only; omega)) (by repeat (first | exact OffL.refl | refine OffL.updO rfl ?_ | refine OffL.upd rfl ?_ | refine OffL.updL rfl ?_ | refine OffL.mask rfl ?_)) ⟨rfl, trivial⟩ (fun w hw => ⟨⟨by omega, (plainG_good hu ⟨hpu, by omega, by omega, by omega, by omega⟩).symm.trans hg, fun h => absurd h (by omega), fun _ => ⟨u, by simpa using hu, rfl⟩⟩, hw.tl⟩)
  ·
    refine QL.nil ?_
    refine TQ.sq ?_
    refine TC.condF rfl ?_
    refine TC.exit (TQ.sqX (TQ.lpLX (TQ.blkX (TQ.sq ?_))))
    refine TC.seq ?_
    refine TC.quiet rfl ?_
    refine qv (yAsgn (v := .bool _) rfl) rfl rfl ?_
    refine QL.nil ?_
    refine TQ.sq ?_
    refine TC.ret ?_
    refine TQ.post (v := .bool _) rfl ?_
    have e := (plainG_end (p := p) (by omega)).symm.trans hg
    exact fun w hw => ⟨by rw [← e], hw⟩
theorem in_ok {S0 : World → Prop} (a : Option Addr) (cap : Nat) (hs : List Hd) (n : Int) (hs0 : SA S0 encH 2 a hs) (hl : hs.length ≤ 1000000000000) : Ct Try.prog 45 [.slice a hs.length cap, .int .i64 n] S0 fun v w => v = .tuple ⟨[.int .i64 ((dget hs n).getD 0), .bool (dget hs n).isSome]⟩ ∧ S0 w := by
  refine Ct.enter (n := 25) Try.func45 rfl rfl rfl rfl rfl rfl ?_
  refine TC.seq ?_
  refine TC.quiet rfl ?_
  refine qv (yAsgn (v := .int .i64 _) rfl) rfl rfl ?_
  refine qv (yAsgn (v := .bool _) rfl) rfl rfl ?_
  refine QL.nil ?_
  refine TQ.sq ?_
  refine TC.seq ?_
  refine TC.seq ?_
  refine TC.quiet rfl ?_
  refine qv (yAsgn (v := .int .i64 _) rfl) rfl rfl ?_
  refine QL.nil ?_
  refine TQ.sq ?_
  refine TC.block ?_
  refine TC.loopL (ι := (Nat)) [4, 5, 6, 7, 8, 9, 10, 11, 12, 13, 14, 15, 16, 17, 18, 19, 20, 21, 22, 23, 24] (fun k => [(6, .int .i64 (k : Int))]) (fun k w => (k ≤ hs.length ∧ dget (hs.drop k) n = dget hs n) ∧ S0 w) (fun k => hs.length - k) 0 ⟨rfl, trivial⟩ (fun w hw => ⟨⟨by omega, rfl⟩, hw⟩) ?_
  rintro g0 k
  dsimp only
  refine TC.pure fun ⟨hk, he⟩ => ?_
  refine TC.seq ?_
  refine TC.seq ?_
  refine TC.quiet rfl ?_
  refine qv (yMove (v := .int .i64 _) rfl) rfl rfl ?_
  refine qv (yMove (v := .slice _ _ _) rfl) rfl rfl ?_
  refine qv (ySlLen ul27 rfl) rfl rfl ?_
  refine qcLt rfl rfl rfl rfl (fun h10 => ?_) (fun h10 => ?_)
  ·
    refine QL.nil ?_
    refine TQ.sq ?_
    refine TC.condT rfl ?_
    refine TC.skip (TQ.sq ?_)
    refine TC.seq ?_
    refine TC.block ?_
    refine TC.seq ?_
    refine TC.quiet rfl ?_
    refine qv (yMove (v := .slice _ _ _) rfl) rfl rfl ?_
    refine qv (yMove (v := .int .i64 _) rfl) rfl rfl ?_
    obtain ⟨u, hu⟩ := getSome (xs := hs) (k := k) (by omega)
    refine qElF (v := .int .i64 _) ul27 ti49 fld49_0 ti3 (by decide) rfl hs0 rfl (by omega) (by omega) (flat_cell (enc := encH) (k := 2) (fun _ => rfl) (by simpa using hu) (by decide) rfl) rfl (fun _ => rfl) (fun _ _ => rfl) rfl rfl rfl (fun _ _ => ?_)
    refine qv (yMove (v := .int .i64 _) rfl) rfl rfl ?_
    refine qcEq rfl rfl rfl rfl (fun h19 => ?_) (fun h19 => ?_)
    ·
      refine QL.nil ?_
      refine TQ.sq ?_
      refine TC.condT rfl ?_
      refine TC.seq ?_
      refine TC.quiet rfl ?_
      refine qv (yMove (v := .slice _ _ _) rfl) rfl rfl ?_
      refine qv (yMove (v := .int .i64 _) rfl) rfl rfl ?_
      refine qElF (v := .int .i64 _) ul27 ti49 fld49_1 ti3 (by decide) rfl hs0 rfl (by omega) (by omega) (flat_cell (enc := encH) (k := 2) (fun _ => rfl) (by simpa using hu) (by decide) rfl) rfl (fun _ => rfl) (fun _ _ => rfl) rfl rfl rfl (fun _ _ => ?_)
      refine qv (yAsgn (v := .int .i64 _) rfl) rfl rfl ?_
      refine qv (yAsgn (v := .bool _) rfl) rfl rfl ?_
      refine QL.nil ?_
      refine TQ.sq ?_
      refine TC.ret (TQ.blkR (TQ.sqR (TQ.lpLR (TQ.blkR (TQ.sqR ?_)))))
      refine TQ.post (v := .tuple ⟨[.int .i64 _, .bool _]⟩) rfl ?_
      have e : dget hs n = some u.2 := by rw [← he, dget_at hu, if_pos (by omega)]
      exact fun w hw => ⟨by rw [e]; rfl, hw⟩
    ·
      refine QL.nil ?_
      refine TQ.sq ?_
      refine TC.condF rfl ?_
      refine TC.skip (TQ.blk (TQ.sq ?_))
      refine TC.quiet rfl ?_
      refine qv (yMove (v := .int .i64 _) rfl) rfl rfl ?_
      refine qv (yAdd rfl rfl (by omega)) rfl rfl ?_
      refine qv (yAsgn (v := .int .i64 _) rfl) rfl rfl ?_
      refine QL.nil ?_
      refine TQ.lpL (k + 1) (by first | omega | (dsimp only; omega)) (by repeat (first | exact OffL.refl | refine OffL.updO rfl ?_ | refine OffL.upd rfl ?_ | refine OffL.updL rfl ?_ | refine OffL.mask rfl ?_)) ⟨rfl, trivial⟩ (fun w hw => ⟨⟨by omega, by rw [dget_at hu, if_neg (by omega)] at he; exact he⟩, hw⟩)
  ·
    refine QL.nil ?_
    refine TQ.sq ?_
    refine TC.condF rfl ?_
    refine TC.exit (TQ.sqX (TQ.lpLX (TQ.blkX (TQ.sq ?_))))
    refine TC.seq ?_
    refine TC.quiet rfl ?_
    refine qv (yAsgn (v := .int .i64 _) rfl) rfl rfl ?_
    refine qv (yAsgn (v := .bool _) rfl) rfl rfl ?_
    refine QL.nil ?_
    refine TQ.sq ?_
    refine TC.ret ?_
    refine TQ.post (v := .tuple ⟨[.int .i64 _, .bool _]⟩) rfl ?_
    have e : dget hs n = none := by rw [← he, dget_end (by omega)]
    exact fun w hw => ⟨by rw [e]; rfl, hw⟩
theorem Same_ok {S0 : World → Prop} (hD : ∀ w k, S0 w → S0 { w with drawn := k }) (a b : Option Addr) (c1 c2 : Nat) (xs ys : List Hd) (hx : SA S0 encH 2 a xs) (hy : SA S0 encH 2 b ys) (hl : xs.length ≤ 1000000000000) : Ct Try.prog 26 [.slice a xs.length c1, .slice b ys.length c2] S0 fun v w => v = .bool (decide (xs = ys)) ∧ S0 w := by
  refine Ct.enter (n := 26) Try.func26 rfl rfl rfl rfl rfl rfl ?_
  refine TC.seq ?_
  refine TC.quiet rfl ?_
  refine qv (yAsgn (v := .bool _) rfl) rfl rfl ?_
  refine QL.nil ?_
  refine TQ.sq ?_
  refine TC.seq ?_
  refine TC.seq ?_
  refine TC.quiet rfl ?_
  refine qv (yMove (v := .slice _ _ _) rfl) rfl rfl ?_
  refine qv (ySlLen ul27 rfl) rfl rfl ?_
  refine qv (yMove (v := .slice _ _ _) rfl) rfl rfl ?_
  refine qv (ySlLen ul27 rfl) rfl rfl ?_
  refine qcNe rfl rfl rfl rfl (fun h10 => ?_) (fun h10 => ?_)
  ·
    refine QL.nil ?_
    refine TQ.sq ?_
    refine TC.condT rfl ?_
    refine TC.seq ?_
    refine TC.quiet rfl ?_
    refine qv (yAsgn (v := .bool _) rfl) rfl rfl ?_
    refine QL.nil ?_
    refine TQ.sq ?_
    refine TC.ret (TQ.sqR ?_)
    refine TQ.post (v := .bool _) rfl ?_
    exact fun w hw => ⟨by rw [decide_eq_false]; exact fun h => h10 (by rw [h]), hw⟩
  ·
    refine QL.nil ?_
    refine TQ.sq ?_
    refine TC.condF rfl ?_
    refine TC.skip (TQ.sq ?_)
    refine TC.seq ?_
    refine TC.seq ?_
    refine TC.quiet rfl ?_
    refine qv (yAsgn (v := .int .i64 _) rfl) rfl rfl ?_
    refine QL.nil ?_
    refine TQ.sq ?_
    refine TC.block ?_
    refine TC.loopL (ι := (Nat)) [4, 5, 11, 12, 13, 14, 15, 16, 17, 18, 19, 20, 21, 22, 23, 24, 25] (fun k => [(5, .int .i64 (k : Int))]) (fun k w => (k ≤ xs.length ∧ xs.take k = ys.take k) ∧ S0 w) (fun k => xs.length - k) 0 ⟨rfl, trivial⟩ (fun w hw => ⟨⟨by omega, rfl⟩, hw⟩) ?_
    rintro g0 k
    dsimp only
    refine TC.pure fun ⟨hk, he⟩ => ?_
    refine TC.seq ?_
    refine TC.seq ?_
    refine TC.quiet rfl ?_
    refine qv (yMove (v := .int .i64 _) rfl) rfl rfl ?_
    refine qv (yMove (v := .slice _ _ _) rfl) rfl rfl ?_
    refine qv (ySlLen ul27 rfl) rfl rfl ?_
    refine qcLt rfl rfl rfl rfl (fun h14 => ?_) (fun h14 => ?_)
    ·
      obtain ⟨u, hu⟩ := getSome (xs := xs) (k := k) (by omega)
      obtain ⟨v, hv⟩ := getSome (xs := ys) (k := k) (by omega)
      refine QL.nil ?_
      refine TQ.sq ?_
      refine TC.condT rfl ?_
      refine TC.skip (TQ.sq ?_)
      refine TC.seq ?_
      refine TC.block ?_
      refine TC.seq ?_
      refine TC.quietD hD mixed (by kernel_rfl) rfl ?_
      refine qv (yMove (v := .slice _ _ _) rfl) rfl rfl ?_
      refine qv (yMove (v := .int .i64 _) rfl) rfl rfl ?_
      refine qElA (v := .agg ⟨[.int .i64 _, .int .i64 _]⟩) ul27 ti49 rfl hx rfl (by omega) (by simpa using hu) (fun _ => rfl) (fun h => nomatch h) rfl rfl (fun _ => rfl) rfl rfl (fun _ => ?_)
      refine qv (yMove (v := .slice _ _ _) rfl) rfl rfl ?_
      refine qv (yMove (v := .int .i64 _) rfl) rfl rfl ?_
      refine qElA (v := .agg ⟨[.int .i64 _, .int .i64 _]⟩) ul27 ti49 rfl hy rfl (by omega) (by simpa using hv) (fun _ => rfl) (fun h => nomatch h) rfl rfl (fun _ => rfl) rfl rfl (fun _ => ?_)
      refine qv (yAggNe sd49 rfl rfl rfl) rfl rfl ?_
      refine QL.nil ?_
      refine TQ.sq ?_
      refine TC.cond rfl (fun h25 => ?_) (fun h25 => ?_)
      ·
        refine TC.seq ?_
        refine TC.quiet rfl ?_
        refine qv (yAsgn (v := .bool _) rfl) rfl rfl ?_
        refine QL.nil ?_
        refine TQ.sq ?_
        refine TC.ret (TQ.blkR (TQ.sqR (TQ.lpLR (TQ.blkR (TQ.sqR ?_)))))
        refine TQ.post (v := .bool _) rfl ?_
        exact fun w hw => ⟨by rw [decide_eq_false]; exact ne_of_get hu hv (of_decide_eq_false (pair_eq (Bool.not_inj h25))), hw⟩
      ·
        refine TC.skip (TQ.blk (TQ.sq ?_))
        refine TC.quiet rfl ?_
        refine qv (yMove (v := .int .i64 _) rfl) rfl rfl ?_
        refine qv (yAdd rfl rfl (by omega)) rfl rfl ?_
        refine qv (yAsgn (v := .int .i64 _) rfl) rfl rfl ?_
        refine QL.nil ?_
        refine TQ.lpL (k + 1) (by first | omega | (dsimp only; omega)) (by repeat (first | exact OffL.refl | refine OffL.updO rfl ?_ | refine OffL.upd rfl ?_ | refine OffL.updL rfl ?_ | refine OffL.mask rfl ?_)) ⟨rfl, trivial⟩ (fun w hw => ⟨⟨by omega, take_ext he hu hv (of_decide_eq_true (pair_eq (Bool.not_inj h25)))⟩, hw⟩)
    ·
      refine QL.nil ?_
      refine TQ.sq ?_
      refine TC.condF rfl ?_
      refine TC.exit (TQ.sqX (TQ.lpLX (TQ.blkX (TQ.sq ?_))))
      refine TC.seq ?_
      refine TC.quiet rfl ?_
      refine qv (yAsgn (v := .bool _) rfl) rfl rfl ?_
      refine QL.nil ?_
      refine TQ.sq ?_
      refine TC.ret ?_
      refine TQ.post (v := .bool _) rfl ?_
      obtain rfl : k = xs.length := by omega
      rw [List.take_length, show xs.length = ys.length from by omega, List.take_length] at he
      exact fun w hw => ⟨by rw [decide_eq_true he], hw⟩
theorem put_ok {c : Cx} {I : Im} (l : Ow) (a : Option Addr) (cap : Nat) (hs : List Hd) (h : Hd) (hr : RA I encH 2 a hs) (hc : hs.length ≤ cap) (hl : hs.length ≤ 1000000000000) : Ct Try.prog 44 [.slice a hs.length cap, .agg ⟨encH h⟩] (St c I l) fun v w => ∃ J a' cap', Le I J ∧ v = .slice a' (putH h hs).length cap' ∧ RA J encH 2 a' (putH h hs) ∧ (putH h hs).length ≤ cap' ∧ St c J l w := by
  refine Ct.enter (n := 49) Try.func44 rfl rfl rfl rfl rfl rfl ?_
  refine TC.seq ?_
  refine TC.region ?_
  refine sBox (vs := [.int .i64 _, .int .i64 _]) rfl rfl rfl (fun b0 => ?_)
  refine sv (yAsgn (v := .slice _ _ _) rfl) rfl rfl ?_
  refine TL.nil ?_
  refine TQ.sq ?_
  refine TC.seq ?_
  refine TC.quiet rfl ?_
  refine qv (yAsgn (v := .int .i64 _) rfl) rfl rfl ?_
  refine QL.nil ?_
  refine TQ.sq ?_
  refine TC.seq ?_
  refine TC.block ?_
  refine TC.loopL (ι := (Nat)) [5, 6, 7, 8, 9, 10, 11, 12, 13, 14, 15, 16, 17, 18, 19, 20, 21] (fun k => [(5, .int .i64 (k : Int))]) (fun k w => (k ≤ hs.length ∧ (∀ j u, j < k → hs[j]? = some u → u.1 < h.1)) ∧ St c I ((b0, _) :: l) w) (fun k => hs.length - k) 0 ⟨rfl, trivial⟩ (fun w hw => ⟨⟨by omega, fun j u h => absurd h (by omega)⟩, hw⟩) ?_
  rintro g0 k
  dsimp only
  refine TC.pure fun ⟨hk, hlt⟩ => ?_
  refine TC.seq ?_
  refine TC.seq ?_
  refine TC.quietD (fun _ _ h => h.drawn _) mixed (by kernel_rfl) rfl ?_
  refine qv (yMove (v := .int .i64 _) rfl) rfl rfl ?_
  refine qv (yMove (v := .slice _ _ _) rfl) rfl rfl ?_
  refine qv (ySlLen ul27 rfl) rfl rfl ?_
  refine qcLt rfl rfl rfl rfl (fun h9 => ?_) (fun h9 => ?_)
  ·
    refine qv (yMove (v := .bool _) rfl) rfl rfl ?_
    refine qv (yMove (v := .slice _ _ _) rfl) (.inl ⟨_, _, rfl, rfl, rfl⟩) rfl ?_
    refine qv (yMove (v := .int .i64 _) rfl) (.inl ⟨_, _, rfl, rfl, rfl⟩) rfl ?_
    obtain ⟨u, hu⟩ := getSome (xs := hs) (k := k) (by omega)
    refine qElF (v := .int .i64 _) ul27 ti49 fld49_0 ti3 (by decide) rfl (by first | exact RA.sa (by assumption) | exact OA.sa (by assumption) | exact OA.sub (by assumption) (by simp) | exact OA.fm (by assumption) | exact SlR.mono (by assumption) Wk.w) rfl (by omega) (by omega) (flat_cell (enc := encH) (k := 2) (fun _ => rfl) (by simpa using hu) (by decide) rfl) (.inl ⟨_, _, rfl, rfl, rfl⟩) (fun _ => (.inl ⟨_, _, rfl, rfl, rfl⟩)) (fun _ _ => (.inl ⟨_, _, rfl, rfl, rfl⟩)) rfl rfl rfl (fun _ _ => ?_)
    refine qv (yFA fld49_0 ti3 (by decide) rfl) (.inl ⟨_, _, rfl, rfl, rfl⟩) rfl ?_
    refine qv (yLd1 ti3 rfl (by first | exact RdC.rd | exact rdI (by assumption)) rfl) (.inl ⟨_, _, rfl, rfl, rfl⟩) rfl ?_
    refine qcLt rfl rfl (.inl ⟨_, _, rfl, rfl, rfl⟩) rfl (fun h18 => ?_) (fun h18 => ?_)
    ·
      refine qv (yPickT rfl rfl) rfl rfl ?_
      refine QL.nil ?_
      refine TQ.sq ?_
      refine TC.condT rfl ?_
      refine TC.skip (TQ.sq ?_)
      refine TC.block ?_
      refine TC.quiet rfl ?_
      refine qv (yMove (v := .int .i64 _) rfl) rfl rfl ?_
      refine qv (yAdd rfl rfl (by omega)) rfl rfl ?_
      refine qv (yAsgn (v := .int .i64 _) rfl) rfl rfl ?_
      refine QL.nil ?_
      refine TQ.blk ?_
      have hl2 : ∀ j u, j < k + 1 → hs[j]? = some u → u.1 < h.1 := fun j v hj hv => by
        rcases Nat.lt_or_eq_of_le (Nat.le_of_lt_succ hj) with h | h
        · exact hlt j v h hv
        · subst h; rw [show hs[j]? = some u from by simpa using hu] at hv; cases hv; exact h18
      refine TQ.lpL (k + 1) (by first | omega | (dsimp only; omega)) (by repeat (first | exact OffL.refl | refine OffL.updO rfl ?_ | refine OffL.upd rfl ?_ | refine OffL.updL rfl ?_ | refine OffL.mask rfl ?_)) ⟨rfl, trivial⟩ (fun w hw => ⟨⟨by omega, hl2⟩, hw⟩)
    ·
      refine qv (yPickT rfl rfl) rfl rfl ?_
      refine QL.nil ?_
      refine TQ.sq ?_
      refine TC.condF rfl ?_
      refine TC.exit (TQ.sqX (TQ.lpLX (TQ.blkX (TQ.sq ?_))))
      refine TC.seq ?_
      refine TC.seq ?_
      refine TC.quietD (fun _ _ h => h.drawn _) mixed (by kernel_rfl) rfl ?_
      refine qv (yMove (v := .int .i64 _) rfl) rfl rfl ?_
      refine qv (yMove (v := .slice _ _ _) rfl) rfl rfl ?_
      refine qv (ySlLen ul27 rfl) rfl rfl ?_
      refine qcLtT rfl rfl (by omega) rfl rfl ?_
      refine qv (yMove (v := .bool _) rfl) rfl rfl ?_
      refine qv (yMove (v := .slice _ _ _) rfl) (.inl ⟨_, _, rfl, rfl, rfl⟩) rfl ?_
      refine qv (yMove (v := .int .i64 _) rfl) (.inl ⟨_, _, rfl, rfl, rfl⟩) rfl ?_
      refine qElF (v := .int .i64 _) ul27 ti49 fld49_0 ti3 (by decide) rfl (by first | exact RA.sa (by assumption) | exact OA.sa (by assumption) | exact OA.sub (by assumption) (by simp) | exact OA.fm (by assumption) | exact SlR.mono (by assumption) Wk.w) rfl (by omega) (by omega) (flat_cell (enc := encH) (k := 2) (fun _ => rfl) (by simpa using hu) (by decide) rfl) (.inl ⟨_, _, rfl, rfl, rfl⟩) (fun _ => (.inl ⟨_, _, rfl, rfl, rfl⟩)) (fun _ _ => (.inl ⟨_, _, rfl, rfl, rfl⟩)) rfl rfl rfl (fun _ _ => ?_)
      refine qv (yFA fld49_0 ti3 (by decide) rfl) (.inl ⟨_, _, rfl, rfl, rfl⟩) rfl ?_
      refine qv (yLd1 ti3 rfl (by first | exact RdC.rd | exact rdI (by assumption)) rfl) (.inl ⟨_, _, rfl, rfl, rfl⟩) rfl ?_
      refine qcEq rfl rfl (.inl ⟨_, _, rfl, rfl, rfl⟩) rfl (fun h34 => ?_) (fun h34 => ?_)
      ·
        refine qv (yPickT rfl rfl) rfl rfl ?_
        refine QL.nil ?_
        refine TQ.sq ?_
        refine TC.condT rfl ?_
        refine TC.seq ?_
        refine TC.quiet rfl ?_
        refine qv (yMove (v := .slice _ _ _) rfl) rfl rfl ?_
        refine qv (yAsgn (v := .slice _ _ _) rfl) rfl rfl ?_
        refine QL.nil ?_
        refine TQ.sq ?_
        refine TC.ret (TQ.sqR ?_)
        refine TQ.post (v := .slice _ _ _) rfl ?_
        have e := putH_same (h := h) hlt (by simpa using hu) h34
        exact fun w hw => ⟨I, a, cap, Le.refl I, by rw [e], by rw [e]; exact hr, by rw [e]; exact hc, hw.tl⟩
      ·
        refine qv (yPickT rfl rfl) rfl rfl ?_
        refine QL.nil ?_
        refine TQ.sq ?_
        refine TC.condF rfl ?_
        refine TC.skip (TQ.sq ?_)
        refine TC.seq ?_
        refine TC.heldS 12 (.q 1 (.q 2 (.q 3 (.q 5 (.q 8 (.q 9 (.q 10 (.y 0 (.y 4 (.x 6 (.x 7 (.x 11 (.x 12 .done)))) 6 (.x 4 (.x 7 (.x 11 (.x 12 .done))))) 6 (.x 0 (.x 4 (.x 7 (.x 11 (.x 12 .done))))))))))))) (fun _ _ h => h.drawn _) mixed rfl (by kernel_rfl) (by kernel_rfl) ?_
        refine Go.E.hq rfl (yMove (v := .slice _ _ _) rfl) rfl rfl Wk.w ?_
        refine Go.E.hq rfl (yMove (v := .int .i64 _) rfl) rfl rfl Wk.w ?_
        refine Go.E.hq rfl (yCutHiA hs ul27 ti49 rfl rfl (by omega) (by omega)) rfl rfl Wk.w ?_
        refine Go.E.hq rfl (yLdS (vs := [.int .i64 _, .int .i64 _]) ti49 rfl (by first | exact RdC.rd | exact rdI (by assumption)) rfl rfl) rfl rfl Wk.w ?_
        refine Go.E.hq rfl (yMove (v := .slice _ _ _) rfl) rfl rfl Wk.w ?_
        refine Go.E.hq rfl (yMove (v := .int .i64 _) rfl) rfl rfl Wk.w ?_
        refine Go.E.hq rfl (yCutLoA hs ul27 ti49 rfl rfl (by omega)) rfl rfl Wk.w ?_
        refine Go.E.hy rfl rfl ?_ ?_
        ·
          refine sBuildSl (vs := []) ul27 ti49 rfl rfl rfl rfl (fun b1 => ?_)
          refine Go.E.hn (fun _ => by exact Wk.w) ?_
          refine Go.E.hy rfl rfl ?_ ?_
          ·
            refine sAppA (ys := hs.take k) (xs := ([] : List Hd)) (enc := encH) ul27 ul27 ti49 rfl rfl (OA.made rfl (fun _ => rfl) (by decide)) (RA.sa (RA.hi (enc := encH) (k := 2) (fun _ => rfl) hr hk)) (fun _ => rfl) (by simp; omega) (by simp; omega) rfl (fun m1 a1 c1 o1 => ?_)
            refine Go.E.hn (fun _ => by exact Wk.w) ?_
            refine Go.E.hx rfl ?_
            refine sBuildSl (vs := [.int .i64 _, .int .i64 _]) ul27 ti49 rfl rfl rfl rfl (fun b2 => ?_)
            refine Go.E.hn (fun _ => by exact Wk.w) ?_
            refine Go.E.hx rfl ?_
            refine sAppA1 (enc := encH) (h) ul27 ul27 ti49 rfl rfl (by assumption) rfl rfl (fun _ => rfl) (by simp; omega) (by simp; omega) rfl (fun m2 a2 c2 o2 => ?_)
            refine Go.E.hn (fun _ => by exact Wk.w) ?_
            refine Go.E.hx rfl ?_
            refine sAppA (ys := hs.drop k) (enc := encH) ul27 ul27 ti49 rfl rfl o2 (RA.sa (RA.lo (enc := encH) (k := 2) (fun _ => rfl) hr hk hc)) (fun _ => rfl) (by simp; omega) (by simp; omega) rfl (fun m3 a3 c3 o3 => ?_)
            refine Go.E.hn (fun _ => by exact Wk.w) ?_
            refine Go.E.hx rfl ?_
            refine sv (yAsgn (v := .slice _ _ _) rfl) rfl rfl ?_
            refine Go.E.hn (fun h => nomatch h) ?_
            refine TQ.sq ?_
            refine TC.ret ?_
            refine TQ.post (v := .slice _ _ _) rfl ?_
            have e : putH h hs = hs.take k ++ [h] ++ hs.drop k := putH_mid (h := h) hlt (by simpa using hu) (by omega)
            refine fun w hw => ?_
            obtain ⟨J, hJ, hra, hw⟩ := o3.freeze hw
            have hle := o3.le
            simp only [List.nil_append] at hra hle
            exact ⟨J, a3, c3, hJ, by rw [e, List.nil_append], by rw [e]; exact hra, by rw [e]; exact hle, hw.tl⟩
          ·
            refine sBuildSl (vs := [.int .i64 _, .int .i64 _]) ul27 ti49 rfl rfl rfl rfl (fun b2 => ?_)
            refine Go.E.hn (fun _ => by exact Wk.w) ?_
            refine Go.E.hx rfl ?_
            refine TL.pre (fun w h => h.f1) ?_
            refine sAppA (ys := hs.take k) (xs := ([] : List Hd)) (enc := encH) ul27 ul27 ti49 rfl rfl (OA.made rfl (fun _ => rfl) (by decide)) (RA.sa (RA.hi (enc := encH) (k := 2) (fun _ => rfl) hr hk)) (fun _ => rfl) (by simp; omega) (by simp; omega) rfl (fun m1 a1 c1 o1 => ?_)
            refine Go.E.hn (fun _ => by exact Wk.w) ?_
            refine Go.E.hx rfl ?_
            refine TL.pre (fun w h => h.mid') ?_
            refine sAppA1 (enc := encH) (h) ul27 ul27 ti49 rfl rfl (by assumption) rfl rfl (fun _ => rfl) (by simp; omega) (by simp; omega) rfl (fun m2 a2 c2 o2 => ?_)
            refine Go.E.hn (fun _ => by exact Wk.w) ?_
            refine Go.E.hx rfl ?_
            refine sAppA (ys := hs.drop k) (enc := encH) ul27 ul27 ti49 rfl rfl o2 (RA.sa (RA.lo (enc := encH) (k := 2) (fun _ => rfl) hr hk hc)) (fun _ => rfl) (by simp; omega) (by simp; omega) rfl (fun m3 a3 c3 o3 => ?_)
            refine Go.E.hn (fun _ => by exact Wk.w) ?_
            refine Go.E.hx rfl ?_
            refine sv (yAsgn (v := .slice _ _ _) rfl) rfl rfl ?_
            refine Go.E.hn (fun h => nomatch h) ?_
            refine TQ.sq ?_
            refine TC.ret ?_
            refine TQ.post (v := .slice _ _ _) rfl ?_
            have e : putH h hs = hs.take k ++ [h] ++ hs.drop k := putH_mid (h := h) hlt (by simpa using hu) (by omega)
            refine fun w hw => ?_
            obtain ⟨J, hJ, hra, hw⟩ := o3.freeze hw
            have hle := o3.le
            simp only [List.nil_append] at hra hle
            exact ⟨J, a3, c3, hJ, by rw [e, List.nil_append], by rw [e]; exact hra, by rw [e]; exact hle, hw.tl⟩
        ·
          refine sBuildSl (vs := [.int .i64 _, .int .i64 _]) ul27 ti49 rfl rfl rfl rfl (fun b2 => ?_)
          refine Go.E.hn (fun _ => by exact Wk.w) ?_
          refine Go.E.hx rfl ?_
          refine sBuildSl (vs := []) ul27 ti49 rfl rfl rfl rfl (fun b1 => ?_)
          refine Go.E.hn (fun _ => by exact Wk.w) ?_
          refine Go.E.hx rfl ?_
          refine sAppA (ys := hs.take k) (xs := ([] : List Hd)) (enc := encH) ul27 ul27 ti49 rfl rfl (OA.made rfl (fun _ => rfl) (by decide)) (RA.sa (RA.hi (enc := encH) (k := 2) (fun _ => rfl) hr hk)) (fun _ => rfl) (by simp; omega) (by simp; omega) rfl (fun m1 a1 c1 o1 => ?_)
          refine Go.E.hn (fun _ => by exact Wk.w) ?_
          refine Go.E.hx rfl ?_
          refine TL.pre (fun w h => h.mid') ?_
          refine sAppA1 (enc := encH) (h) ul27 ul27 ti49 rfl rfl (by assumption) rfl rfl (fun _ => rfl) (by simp; omega) (by simp; omega) rfl (fun m2 a2 c2 o2 => ?_)
          refine Go.E.hn (fun _ => by exact Wk.w) ?_
          refine Go.E.hx rfl ?_
          refine sAppA (ys := hs.drop k) (enc := encH) ul27 ul27 ti49 rfl rfl o2 (RA.sa (RA.lo (enc := encH) (k := 2) (fun _ => rfl) hr hk hc)) (fun _ => rfl) (by simp; omega) (by simp; omega) rfl (fun m3 a3 c3 o3 => ?_)
          refine Go.E.hn (fun _ => by exact Wk.w) ?_
          refine Go.E.hx rfl ?_
          refine sv (yAsgn (v := .slice _ _ _) rfl) rfl rfl ?_
          refine Go.E.hn (fun h => nomatch h) ?_
          refine TQ.sq ?_
          refine TC.ret ?_
          refine TQ.post (v := .slice _ _ _) rfl ?_
          have e : putH h hs = hs.take k ++ [h] ++ hs.drop k := putH_mid (h := h) hlt (by simpa using hu) (by omega)
          refine fun w hw => ?_
          obtain ⟨J, hJ, hra, hw⟩ := o3.freeze hw
          have hle := o3.le
          simp only [List.nil_append] at hra hle
          exact ⟨J, a3, c3, hJ, by rw [e, List.nil_append], by rw [e]; exact hra, by rw [e]; exact hle, hw.tl⟩
  ·
    refine qv (yMove (v := .bool _) rfl) rfl rfl ?_
    refine qk (.inl ⟨_, _, rfl, rfl, rfl⟩) rfl ?_
    refine qk (.inl ⟨_, _, rfl, rfl, rfl⟩) rfl ?_
    refine qk (.inl ⟨_, _, rfl, rfl, rfl⟩) rfl ?_
    refine qk (.inl ⟨_, _, rfl, rfl, rfl⟩) rfl ?_
    refine qk (.inl ⟨_, _, rfl, rfl, rfl⟩) rfl ?_
    refine qk (.inl ⟨_, _, rfl, rfl, rfl⟩) rfl ?_
    refine qk (.inl ⟨_, _, rfl, rfl, rfl⟩) rfl ?_
    refine qk (.inl ⟨_, _, rfl, rfl, rfl⟩) rfl ?_
    refine qv (yPickF rfl rfl) rfl rfl ?_
    refine QL.nil ?_
    refine TQ.sq ?_
    refine TC.condF rfl ?_
    refine TC.exit (TQ.sqX (TQ.lpLX (TQ.blkX (TQ.sq ?_))))
    refine TC.seq ?_
    refine TC.seq ?_
    refine TC.quietD (fun _ _ h => h.drawn _) mixed (by kernel_rfl) rfl ?_
    refine qv (yMove (v := .int .i64 _) rfl) rfl rfl ?_
    refine qv (yMove (v := .slice _ _ _) rfl) rfl rfl ?_
    refine qv (ySlLen ul27 rfl) rfl rfl ?_
    refine qcLtF rfl rfl (by omega) rfl rfl ?_
    refine qv (yMove (v := .bool _) rfl) rfl rfl ?_
    refine qk (.inl ⟨_, _, rfl, rfl, rfl⟩) rfl ?_
    refine qk (.inl ⟨_, _, rfl, rfl, rfl⟩) rfl ?_
    refine qk (.inl ⟨_, _, rfl, rfl, rfl⟩) rfl ?_
    refine qk (.inl ⟨_, _, rfl, rfl, rfl⟩) rfl ?_
    refine qk (.inl ⟨_, _, rfl, rfl, rfl⟩) rfl ?_
    refine qk (.inl ⟨_, _, rfl, rfl, rfl⟩) rfl ?_
    refine qk (.inl ⟨_, _, rfl, rfl, rfl⟩) rfl ?_
    refine qk (.inl ⟨_, _, rfl, rfl, rfl⟩) rfl ?_
    refine qv (yPickF rfl rfl) rfl rfl ?_
    refine QL.nil ?_
    refine TQ.sq ?_
    refine TC.condF rfl ?_
    refine TC.skip (TQ.sq ?_)
    refine TC.seq ?_
    refine TC.heldS 12 (.q 1 (.q 2 (.q 3 (.q 5 (.q 8 (.q 9 (.q 10 (.y 0 (.y 4 (.x 6 (.x 7 (.x 11 (.x 12 .done)))) 6 (.x 4 (.x 7 (.x 11 (.x 12 .done))))) 6 (.x 0 (.x 4 (.x 7 (.x 11 (.x 12 .done))))))))))))) (fun _ _ h => h.drawn _) mixed rfl (by kernel_rfl) (by kernel_rfl) ?_
    refine Go.E.hq rfl (yMove (v := .slice _ _ _) rfl) rfl rfl Wk.w ?_
    refine Go.E.hq rfl (yMove (v := .int .i64 _) rfl) rfl rfl Wk.w ?_
    refine Go.E.hq rfl (yCutHiA hs ul27 ti49 rfl rfl (by omega) (by omega)) rfl rfl Wk.w ?_
    refine Go.E.hq rfl (yLdS (vs := [.int .i64 _, .int .i64 _]) ti49 rfl (by first | exact RdC.rd | exact rdI (by assumption)) rfl rfl) rfl rfl Wk.w ?_
    refine Go.E.hq rfl (yMove (v := .slice _ _ _) rfl) rfl rfl Wk.w ?_
    refine Go.E.hq rfl (yMove (v := .int .i64 _) rfl) rfl rfl Wk.w ?_
    refine Go.E.hq rfl (yCutLoA hs ul27 ti49 rfl rfl (by omega)) rfl rfl Wk.w ?_
    refine Go.E.hy rfl rfl ?_ ?_
    ·
      refine sBuildSl (vs := []) ul27 ti49 rfl rfl rfl rfl (fun b1 => ?_)
      refine Go.E.hn (fun _ => by exact Wk.w) ?_
      refine Go.E.hy rfl rfl ?_ ?_
      ·
        refine sAppA (ys := hs.take k) (xs := ([] : List Hd)) (enc := encH) ul27 ul27 ti49 rfl rfl (OA.made rfl (fun _ => rfl) (by decide)) (RA.sa (RA.hi (enc := encH) (k := 2) (fun _ => rfl) hr hk)) (fun _ => rfl) (by simp; omega) (by simp; omega) rfl (fun m1 a1 c1 o1 => ?_)
        refine Go.E.hn (fun _ => by exact Wk.w) ?_
        refine Go.E.hx rfl ?_
        refine sBuildSl (vs := [.int .i64 _, .int .i64 _]) ul27 ti49 rfl rfl rfl rfl (fun b2 => ?_)
        refine Go.E.hn (fun _ => by exact Wk.w) ?_
        refine Go.E.hx rfl ?_
        refine sAppA1 (enc := encH) (h) ul27 ul27 ti49 rfl rfl (by assumption) rfl rfl (fun _ => rfl) (by simp; omega) (by simp; omega) rfl (fun m2 a2 c2 o2 => ?_)
        refine Go.E.hn (fun _ => by exact Wk.w) ?_
        refine Go.E.hx rfl ?_
        refine sAppA (ys := hs.drop k) (enc := encH) ul27 ul27 ti49 rfl rfl o2 (RA.sa (RA.lo (enc := encH) (k := 2) (fun _ => rfl) hr hk hc)) (fun _ => rfl) (by simp; omega) (by simp; omega) rfl (fun m3 a3 c3 o3 => ?_)
        refine Go.E.hn (fun _ => by exact Wk.w) ?_
        refine Go.E.hx rfl ?_
        refine sv (yAsgn (v := .slice _ _ _) rfl) rfl rfl ?_
        refine Go.E.hn (fun h => nomatch h) ?_
        refine TQ.sq ?_
        refine TC.ret ?_
        refine TQ.post (v := .slice _ _ _) rfl ?_
        have e : putH h hs = hs.take k ++ [h] ++ hs.drop k := by have hkk : k = hs.length := (by omega); subst hkk; exact putH_end hlt
        refine fun w hw => ?_
        obtain ⟨J, hJ, hra, hw⟩ := o3.freeze hw
        have hle := o3.le
        simp only [List.nil_append] at hra hle
        exact ⟨J, a3, c3, hJ, by rw [e, List.nil_append], by rw [e]; exact hra, by rw [e]; exact hle, hw.tl⟩
      ·
        refine sBuildSl (vs := [.int .i64 _, .int .i64 _]) ul27 ti49 rfl rfl rfl rfl (fun b2 => ?_)
        refine Go.E.hn (fun _ => by exact Wk.w) ?_
        refine Go.E.hx rfl ?_
        refine TL.pre (fun w h => h.f1) ?_
        refine sAppA (ys := hs.take k) (xs := ([] : List Hd)) (enc := encH) ul27 ul27 ti49 rfl rfl (OA.made rfl (fun _ => rfl) (by decide)) (RA.sa (RA.hi (enc := encH) (k := 2) (fun _ => rfl) hr hk)) (fun _ => rfl) (by simp; omega) (by simp; omega) rfl (fun m1 a1 c1 o1 => ?_)
        refine Go.E.hn (fun _ => by exact Wk.w) ?_
        refine Go.E.hx rfl ?_
        refine TL.pre (fun w h => h.mid') ?_
        refine sAppA1 (enc := encH) (h) ul27 ul27 ti49 rfl rfl (by assumption) rfl rfl (fun _ => rfl) (by simp; omega) (by simp; omega) rfl (fun m2 a2 c2 o2 => ?_)
        refine Go.E.hn (fun _ => by exact Wk.w) ?_
        refine Go.E.hx rfl ?_
        refine sAppA (ys := hs.drop k) (enc := encH) ul27 ul27 ti49 rfl rfl o2 (RA.sa (RA.lo (enc := encH) (k := 2) (fun _ => rfl) hr hk hc)) (fun _ => rfl) (by simp; omega) (by simp; omega) rfl (fun m3 a3 c3 o3 => ?_)
        refine Go.E.hn (fun _ => by exact Wk.w) ?_
        refine Go.E.hx rfl ?_
        refine sv (yAsgn (v := .slice _ _ _) rfl) rfl rfl ?_
        refine Go.E.hn (fun h => nomatch h) ?_
        refine TQ.sq ?_
        refine TC.ret ?_
        refine TQ.post (v := .slice _ _ _) rfl ?_
        have e : putH h hs = hs.take k ++ [h] ++ hs.drop k := by have hkk : k = hs.length := (by omega); subst hkk; exact putH_end hlt
        refine fun w hw => ?_
        obtain ⟨J, hJ, hra, hw⟩ := o3.freeze hw
        have hle := o3.le
        simp only [List.nil_append] at hra hle
        exact ⟨J, a3, c3, hJ, by rw [e, List.nil_append], by rw [e]; exact hra, by rw [e]; exact hle, hw.tl⟩
    ·
      refine sBuildSl (vs := [.int .i64 _, .int .i64 _]) ul27 ti49 rfl rfl rfl rfl (fun b2 => ?_)
      refine Go.E.hn (fun _ => by exact Wk.w) ?_
      refine Go.E.hx rfl ?_
      refine sBuildSl (vs := []) ul27 ti49 rfl rfl rfl rfl (fun b1 => ?_)
      refine Go.E.hn (fun _ => by exact Wk.w) ?_
      refine Go.E.hx rfl ?_
      refine sAppA (ys := hs.take k) (xs := ([] : List Hd)) (enc := encH) ul27 ul27 ti49 rfl rfl (OA.made rfl (fun _ => rfl) (by decide)) (RA.sa (RA.hi (enc := encH) (k := 2) (fun _ => rfl) hr hk)) (fun _ => rfl) (by simp; omega) (by simp; omega) rfl (fun m1 a1 c1 o1 => ?_)
      refine Go.E.hn (fun _ => by exact Wk.w) ?_
      refine Go.E.hx rfl ?_
      refine TL.pre (fun w h => h.mid') ?_
      refine sAppA1 (enc := encH) (h) ul27 ul27 ti49 rfl rfl (by assumption) rfl rfl (fun _ => rfl) (by simp; omega) (by simp; omega) rfl (fun m2 a2 c2 o2 => ?_)
      refine Go.E.hn (fun _ => by exact Wk.w) ?_
      refine Go.E.hx rfl ?_
      refine sAppA (ys := hs.drop k) (enc := encH) ul27 ul27 ti49 rfl rfl o2 (RA.sa (RA.lo (enc := encH) (k := 2) (fun _ => rfl) hr hk hc)) (fun _ => rfl) (by simp; omega) (by simp; omega) rfl (fun m3 a3 c3 o3 => ?_)
      refine Go.E.hn (fun _ => by exact Wk.w) ?_
      refine Go.E.hx rfl ?_
      refine sv (yAsgn (v := .slice _ _ _) rfl) rfl rfl ?_
      refine Go.E.hn (fun h => nomatch h) ?_
      refine TQ.sq ?_
      refine TC.ret ?_
      refine TQ.post (v := .slice _ _ _) rfl ?_
      have e : putH h hs = hs.take k ++ [h] ++ hs.drop k := by have hkk : k = hs.length := (by omega); subst hkk; exact putH_end hlt
      refine fun w hw => ?_
      obtain ⟨J, hJ, hra, hw⟩ := o3.freeze hw
      have hle := o3.le
      simp only [List.nil_append] at hra hle
      exact ⟨J, a3, c3, hJ, by rw [e, List.nil_append], by rw [e]; exact hra, by rw [e]; exact hle, hw.tl⟩
end Go.Proofs.Ytfiambcocnceiaa
