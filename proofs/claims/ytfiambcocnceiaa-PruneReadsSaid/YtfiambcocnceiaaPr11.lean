import Derived.Test.YtfiambcocnceiaaPr10
set_option linter.unusedVariables false
set_option maxRecDepth 100000
namespace Go.Proofs.Ytfiambcocnceiaa
open Go Go.E

abbrev SS2 := List (Int × List Hd)
def rdSt (s : List UInt8) : Nat → Int → SS2 → SS2 × Int × Int
  | 0, a, acc => (acc, a, 0)
  | k + 1, a, acc => if (rdNum s a).2.2 ≠ 0 then ([], 0, (rdNum s a).2.2) else if (rdLists s (rdNum s a).2.1).2.2 ≠ 0 then ([], 0, (rdLists s (rdNum s a).2.1).2.2)
    else rdSt s k (rdLists s (rdNum s a).2.1).2.1 (acc ++ [((rdNum s a).1, (rdLists s (rdNum s a).2.1).1)])
theorem rdSt_e1 {s : List UInt8} {k : Nat} {a : Int} {acc : SS2} (h : (rdNum s a).2.2 ≠ 0) : rdSt s (k + 1) a acc = ([], 0, (rdNum s a).2.2) := by unfold rdSt; rw [if_pos h]
theorem rdSt_e2 {s : List UInt8} {k : Nat} {a : Int} {acc : SS2} (h : (rdNum s a).2.2 = 0) (h2 : (rdLists s (rdNum s a).2.1).2.2 ≠ 0) : rdSt s (k + 1) a acc = ([], 0, (rdLists s (rdNum s a).2.1).2.2) := by unfold rdSt; rw [if_neg (by simp [h]), if_pos h2]
theorem rdSt_go {s : List UInt8} {k : Nat} {a : Int} {acc : SS2} (h : (rdNum s a).2.2 = 0) (h2 : (rdLists s (rdNum s a).2.1).2.2 = 0) : rdSt s (k + 1) a acc = rdSt s k (rdLists s (rdNum s a).2.1).2.1 (acc ++ [((rdNum s a).1, (rdLists s (rdNum s a).2.1).1)]) := by
  conv => lhs; unfold rdSt
  rw [if_neg (by simp [h]), if_neg (by simp [h2])]
def addsB (dead : List Hd) : SS2 → SS2 → Bool
  | [], _ => true
  | x :: r, S => decide (addR S dead x.1 x.2 = 0) && addsB dead r (S ++ [x])
theorem addsB_at {dead : List Hd} {L S : SS2} {i : Nat} {x : Int × List Hd} (h : L[i]? = some x) : addsB dead (L.drop i) S = (decide (addR S dead x.1 x.2 = 0) && addsB dead (L.drop (i + 1)) (S ++ [x])) := by rw [drop_at h]; rfl
theorem addsB_end {dead : List Hd} {L S : SS2} {i : Nat} (h : L.length ≤ i) : addsB dead (L.drop i) S = true := by rw [List.drop_eq_nil_of_le h]; rfl
abbrev rdN0 (s : List UInt8) := rdSt s (rdNum s 0).1.toNat (rdNum s 0).2.1 []
abbrev rdD (s : List UInt8) := rdLists s (rdN0 s).2.1
def readS (s : List UInt8) : Int × SS2 × List Hd :=
  if (rdNum s 0).2.2 ≠ 0 then ((rdNum s 0).2.2, [], [])
  else if (rdNum s 0).1 < 0 ∨ 512 < (rdNum s 0).1 then (6, [], [])
  else if (rdN0 s).2.2 ≠ 0 then ((rdN0 s).2.2, [], [])
  else if (rdD s).2.2 ≠ 0 then ((rdD s).2.2, [], [])
  else if (rdD s).2.1 ≠ s.length ∨ plainB (rdD s).1 = false ∨ 256 < (rdD s).1.length then (6, [], [])
  else if addsB (rdD s).1 (rdN0 s).1 [] = true then (0, (rdN0 s).1, (rdD s).1) else (6, [], [])
theorem readS_1 {s : List UInt8} (h : (rdNum s 0).2.2 ≠ 0) : readS s = ((rdNum s 0).2.2, [], []) := by unfold readS; rw [if_pos h]
theorem readS_2 {s : List UInt8} (h : (rdNum s 0).2.2 = 0) (h2 : (rdNum s 0).1 < 0 ∨ 512 < (rdNum s 0).1) : readS s = (6, [], []) := by unfold readS; rw [if_neg (by simp [h]), if_pos h2]
theorem readS_3 {s : List UInt8} (h : (rdNum s 0).2.2 = 0) (h2 : ¬ ((rdNum s 0).1 < 0 ∨ 512 < (rdNum s 0).1)) (h3 : (rdN0 s).2.2 ≠ 0) : readS s = ((rdN0 s).2.2, [], []) := by unfold readS; rw [if_neg (by simp [h]), if_neg h2, if_pos h3]
theorem readS_4 {s : List UInt8} (h : (rdNum s 0).2.2 = 0) (h2 : ¬ ((rdNum s 0).1 < 0 ∨ 512 < (rdNum s 0).1)) (h3 : (rdN0 s).2.2 = 0) (h4 : (rdD s).2.2 ≠ 0) : readS s = ((rdD s).2.2, [], []) := by unfold readS; rw [if_neg (by simp [h]), if_neg h2, if_neg (by simp [h3]), if_pos h4]
theorem readS_5 {s : List UInt8} (h : (rdNum s 0).2.2 = 0) (h2 : ¬ ((rdNum s 0).1 < 0 ∨ 512 < (rdNum s 0).1)) (h3 : (rdN0 s).2.2 = 0) (h4 : (rdD s).2.2 = 0) (h5 : (rdD s).2.1 ≠ s.length ∨ plainB (rdD s).1 = false ∨ 256 < (rdD s).1.length) : readS s = (6, [], []) := by unfold readS; rw [if_neg (by simp [h]), if_neg h2, if_neg (by simp [h3]), if_neg (by simp [h4]), if_pos h5]
theorem readS_6 {s : List UInt8} (h : (rdNum s 0).2.2 = 0) (h2 : ¬ ((rdNum s 0).1 < 0 ∨ 512 < (rdNum s 0).1)) (h3 : (rdN0 s).2.2 = 0) (h4 : (rdD s).2.2 = 0) (h5 : ¬ ((rdD s).2.1 ≠ s.length ∨ plainB (rdD s).1 = false ∨ 256 < (rdD s).1.length)) (h6 : addsB (rdD s).1 (rdN0 s).1 [] = false) : readS s = (6, [], []) := by unfold readS; rw [if_neg (by simp [h]), if_neg h2, if_neg (by simp [h3]), if_neg (by simp [h4]), if_neg h5, if_neg (by simp [h6])]
theorem readS_0 {s : List UInt8} (h : (rdNum s 0).2.2 = 0) (h2 : ¬ ((rdNum s 0).1 < 0 ∨ 512 < (rdNum s 0).1)) (h3 : (rdN0 s).2.2 = 0) (h4 : (rdD s).2.2 = 0) (h5 : ¬ ((rdD s).2.1 ≠ s.length ∨ plainB (rdD s).1 = false ∨ 256 < (rdD s).1.length)) (h6 : addsB (rdD s).1 (rdN0 s).1 [] = true) : readS s = (0, (rdN0 s).1, (rdD s).1) := by unfold readS; rw [if_neg (by simp [h]), if_neg h2, if_neg (by simp [h3]), if_neg (by simp [h4]), if_neg h5, if_pos h6]
theorem rds_le {s : List UInt8} : ∀ (m : Nat) {a : Int} {acc : List Int}, 512 - acc.length ≤ m → 0 ≤ a → a ≤ s.length → (rds s a acc).2.2 = 0 → (rds s a acc).2.1 ≤ s.length ∧ 0 ≤ (rds s a acc).2.1 := by
  intro m
  induction m with
  | zero =>
    intro a acc hm h0 ha h
    by_cases h1 : a = s.length
    · rw [rds_end h1] at h; exact absurd h (by decide)
    by_cases h2 : s[a.toNat]? = some 41
    · have := (List.getElem?_eq_some_iff.1 h2).1
      rw [rds_done h1 h2]; simp; omega
    · rw [rds_many h1 h2 (by omega)] at h; exact absurd h (by decide)
  | succ m ih =>
    intro a acc hm h0 ha h
    by_cases h1 : a = s.length
    · rw [rds_end h1] at h; exact absurd h (by decide)
    by_cases h2 : s[a.toNat]? = some 41
    · have := (List.getElem?_eq_some_iff.1 h2).1
      rw [rds_done h1 h2]; simp; omega
    by_cases h3 : 512 ≤ acc.length
    · rw [rds_many h1 h2 h3] at h; exact absurd h (by decide)
    by_cases h4 : (rdNum s a).2.2 = 0
    · have h5 := rdNum_next h4 ha
      rw [rds_step h1 h2 (by omega) h4] at h ⊢
      exact ih (by simp; omega) (by omega) h5.2 h
    · rw [rds_err h1 h2 (by omega) h4] at h; exact absurd h h4
theorem rdNums_le {s : List UInt8} {a : Int} (h : (rdNums s a).2.2 = 0) : (rdNums s a).2.1 ≤ s.length ∧ 0 ≤ (rdNums s a).2.1 := by
  unfold rdNums at h ⊢
  by_cases h1 : a < 0 ∨ (s.length : Int) < a
  · rw [if_pos h1] at h; exact absurd h (by decide)
  rw [if_neg h1] at h ⊢
  by_cases h2 : a = s.length
  · rw [if_pos h2] at h; exact absurd h (by decide)
  rw [if_neg h2] at h ⊢
  by_cases h3 : s[a.toNat]? ≠ some 40
  · rw [if_pos h3] at h; exact absurd h (by decide)
  rw [if_neg h3] at h ⊢
  exact rds_le 512 (by simp) (by omega) (by omega) h
theorem rdLists_inv {s : List UInt8} {a : Int} (h : (rdLists s a).2.2 = 0) : (rdNums s a).2.2 = 0 ∧ (rdNums s (rdNums s a).2.1).2.2 = 0 ∧ (rdNums s a).1.length = (rdNums s (rdNums s a).2.1).1.length ∧ rdLists s a = ((rdNums s a).1.zip (rdNums s (rdNums s a).2.1).1, (rdNums s (rdNums s a).2.1).2.1, 0) := by
  by_cases h1 : (rdNums s a).2.2 = 0
  · by_cases h2 : (rdNums s (rdNums s a).2.1).2.2 = 0
    · by_cases h3 : (rdNums s a).1.length = (rdNums s (rdNums s a).2.1).1.length
      · exact ⟨h1, h2, h3, rdLists_ok h1 h2 (by omega)⟩
      · rw [rdLists_e3 h1 h2 (by omega)] at h; exact absurd h (by decide)
    · rw [rdLists_e2 h1 h2] at h; exact absurd h h2
  · rw [rdLists_e1 h1] at h; exact absurd h h1
theorem rdLists_len {s : List UInt8} {a : Int} : (rdLists s a).1.length ≤ 512 := by
  by_cases h : (rdLists s a).2.2 = 0
  · obtain ⟨h1, h2, h3, h4⟩ := rdLists_inv h
    have := (rdNums_wf h1).2.1
    rw [h4]; simp [List.length_zip]; omega
  · unfold rdLists at h ⊢
    split <;> rename_i h1
    · simp
    · rw [if_neg h1] at h
      split <;> rename_i h2
      · simp
      · rw [if_neg h2] at h
        split <;> rename_i h3
        · simp
        · rw [if_neg h3] at h; exact absurd rfl h
theorem rdLists_le {s : List UInt8} {a : Int} (h : (rdLists s a).2.2 = 0) : (rdLists s a).2.1 ≤ s.length := by
  obtain ⟨h1, h2, h3, h4⟩ := rdLists_inv h
  rw [h4]; exact (rdNums_le h2).1
theorem adds_BI {dead : List Hd} : ∀ {L S : SS2}, BI S dead → addsB dead L S = true → BI (S ++ L) dead
  | [], S, h, _ => by simpa using h
  | x :: r, S, h, ha => by
    unfold addsB at ha
    simp only [Bool.and_eq_true, decide_eq_true_eq] at ha
    have := adds_BI (h.add ha.1) ha.2
    simpa using this
theorem readS_inv {s : List UInt8} (h : (readS s).1 = 0) : (rdNum s 0).2.2 = 0 ∧ ¬ ((rdNum s 0).1 < 0 ∨ 512 < (rdNum s 0).1) ∧ (rdN0 s).2.2 = 0 ∧ (rdD s).2.2 = 0 ∧ ¬ ((rdD s).2.1 ≠ s.length ∨ plainB (rdD s).1 = false ∨ 256 < (rdD s).1.length) ∧ addsB (rdD s).1 (rdN0 s).1 [] = true ∧ readS s = (0, (rdN0 s).1, (rdD s).1) := by
  by_cases h1 : (rdNum s 0).2.2 = 0
  · by_cases h2 : (rdNum s 0).1 < 0 ∨ 512 < (rdNum s 0).1
    · rw [readS_2 h1 h2] at h; exact absurd h (by decide)
    by_cases h3 : (rdN0 s).2.2 = 0
    · by_cases h4 : (rdD s).2.2 = 0
      · by_cases h5 : (rdD s).2.1 ≠ s.length ∨ plainB (rdD s).1 = false ∨ 256 < (rdD s).1.length
        · rw [readS_5 h1 h2 h3 h4 h5] at h; exact absurd h (by decide)
        cases h6 : addsB (rdD s).1 (rdN0 s).1 [] with
        | false => rw [readS_6 h1 h2 h3 h4 h5 h6] at h; exact absurd h (by decide)
        | true => exact ⟨h1, h2, h3, h4, h5, rfl, readS_0 h1 h2 h3 h4 h5 h6⟩
      · rw [readS_4 h1 h2 h3 h4] at h; exact absurd h h4
    · rw [readS_3 h1 h2 h3] at h; exact absurd h h3
  · rw [readS_1 h1] at h; exact absurd h h1
theorem readS_BI {s : List UInt8} (h : (readS s).1 = 0) : BI (readS s).2.1 (readS s).2.2 := by
  obtain ⟨h1, h2, h3, h4, h5, h6, h7⟩ := readS_inv h
  rw [h7]
  have hp : plainB (rdD s).1 = true := by
    cases hp : plainB (rdD s).1 with
    | true => rfl
    | false => exact absurd (.inr (.inl hp)) h5
  simpa using adds_BI (BI.dead0 hp (by omega)) h6

theorem New_ok {c : Cx} {I : Im} (l : Ow) : Ct Try.prog 5 [] (St c I l) fun v w => ∃ p, v = .pointer (some ⟨p, 0, none⟩) ∧ St c I ((p, bkO 46 none 0 0 none 0 0) :: l) w := by
  refine Ct.enter (n := 3) Try.func5 rfl rfl rfl rfl rfl rfl ?_
  refine TC.seq ?_
  refine TC.quiet rfl ?_
  refine qv (yAsgn (v := .pointer _) rfl) rfl rfl ?_
  refine QL.nil ?_
  refine TQ.sq ?_
  refine TC.seq ?_
  refine TC.region ?_
  refine sv (yBuild (vs := [.slice _ _ _, .slice _ _ _]) ti46 pl46 rfl) rfl rfl ?_
  refine sBox (vs := [.slice _ _ _, .slice _ _ _]) rfl rfl rfl (fun b2 => ?_)
  refine sv (yAsgn (v := .pointer _) rfl) rfl rfl ?_
  refine TL.nil ?_
  refine TQ.sq ?_
  refine TC.ret ?_
  refine TQ.post (v := .pointer _) rfl ?_
  exact fun w hw => ⟨b2, rfl, hw⟩
theorem LRead_ok {c : Cx} {I : Im} (l : Ow) (s : List UInt8) (hs : s.length ≤ 1000000000000) : Ct Try.prog 8 [str s] (St c I l) fun v w => ∃ J, Le I J ∧ (((readS s).1 ≠ 0 ∧ v = .tuple ⟨[.pointer none, .int .i64 (readS s).1]⟩ ∧ St c J l w) ∨ ((readS s).1 = 0 ∧ ∃ p a1 c1 xs md a2 c2, v = .tuple ⟨[.pointer (some ⟨p, 0, none⟩), .int .i64 0]⟩ ∧ SL J a1 xs ∧ xs.length ≤ c1 ∧ OA 49 encH 2 md a2 c2 (readS s).2.2 ∧ xs.map absS = (readS s).2.1 ∧ St c J (md ++ (p, bkO 46 a1 xs.length c1 a2 (readS s).2.2.length c2) :: l) w)) := by
  refine Ct.enter (n := 105) Try.func8 rfl rfl rfl rfl rfl rfl ?_
  refine TC.seq ?_
  refine TC.quiet rfl ?_
  refine qv (yAsgn (v := .pointer _) rfl) rfl rfl ?_
  refine qv (yAsgn (v := .int .i64 _) rfl) rfl rfl ?_
  refine QL.nil ?_
  refine TQ.sq ?_
  refine TC.seq ?_
  refine TC.region ?_
  refine sv (yMove (v := str _) rfl) rfl rfl ?_
  refine sCall (LReadNumber_ok _ s 0 hs) rfl rfl (fun v15 w hw => ?_)
  obtain ⟨rfl, hw⟩ := hw
  refine TL.wl ?_ hw
  refine sv (yMove (v := .tuple _) rfl) rfl rfl ?_
  refine sv (yExt rfl rfl) rfl rfl ?_
  refine sv (yExt rfl rfl) rfl rfl ?_
  refine sv (yExt rfl rfl) rfl rfl ?_
  refine sv (yAsgn (v := .int .i64 _) rfl) rfl rfl ?_
  refine sv (yAsgn (v := .int .i64 _) rfl) rfl rfl ?_
  refine sv (yAsgn (v := .int .i64 _) rfl) rfl rfl ?_
  refine TL.nil ?_
  refine TQ.sq ?_
  refine TC.seq ?_
  refine TC.block ?_
  refine TC.seq ?_
  refine TC.quiet rfl ?_
  refine qv (yMove (v := .int .i64 _) rfl) rfl rfl ?_
  refine qcNe rfl rfl rfl rfl (fun h21 => ?_) (fun h21 => ?_)
  ·
    refine qv (yAsgn (v := .bool _) rfl) rfl rfl ?_
    refine QL.nil ?_
    refine TQ.sq ?_
    refine TC.condT rfl ?_
    refine TC.seq ?_
    refine TC.quiet rfl ?_
    refine qv (yMove (v := .int .i64 _) rfl) rfl rfl ?_
    refine qv (yAsgn (v := .pointer _) rfl) rfl rfl ?_
    refine qv (yAsgn (v := .int .i64 _) rfl) rfl rfl ?_
    refine QL.nil ?_
    refine TQ.sq ?_
    refine TC.ret (TQ.blkR (TQ.sqR ?_))
    refine TQ.post (v := .tuple ⟨[.pointer _, .int .i64 _]⟩) rfl ?_
    have hne := h21
    have e := readS_1 h21
    exact fun w hw => ⟨I, Le.refl I, .inl ⟨by rw [e]; first | exact hne | decide, by rw [e], hw.dr⟩⟩
  ·
    refine qv (yAsgn (v := .bool _) rfl) rfl rfl ?_
    refine QL.nil ?_
    refine TQ.sq ?_
    refine TC.condF rfl ?_
    refine TC.seq ?_
    refine TC.quiet rfl ?_
    refine qv (yMove (v := .int .i64 _) rfl) rfl rfl ?_
    refine qcLt rfl rfl rfl rfl (fun h25 => ?_) (fun h25 => ?_)
    ·
      refine qv (yMove (v := .bool _) rfl) rfl rfl ?_
      refine qk (.inl ⟨_, _, rfl, rfl, rfl⟩) rfl ?_
      refine qk (.inl ⟨_, _, rfl, rfl, rfl⟩) rfl ?_
      refine qv (yPickT rfl rfl) rfl rfl ?_
      refine qv (yAsgn (v := .bool _) rfl) rfl rfl ?_
      refine QL.nil ?_
      refine TQ.sq ?_
      refine TC.condT rfl ?_
      refine TC.seq ?_
      refine TC.quiet rfl ?_
      refine qv (yAsgn (v := .pointer _) rfl) rfl rfl ?_
      refine qv (yAsgn (v := .int .i64 _) rfl) rfl rfl ?_
      refine QL.nil ?_
      refine TQ.sq ?_
      refine TC.ret (TQ.blkR (TQ.sqR ?_))
      refine TQ.post (v := .tuple ⟨[.pointer _, .int .i64 _]⟩) rfl ?_
      have e := readS_2 (by omega) (.inl (by omega))
      exact fun w hw => ⟨I, Le.refl I, .inl ⟨by rw [e]; first | exact hne | decide, by rw [e], hw.dr⟩⟩
    ·
      refine qv (yMove (v := .bool _) rfl) rfl rfl ?_
      refine qv (yMove (v := .int .i64 _) rfl) (.inl ⟨_, _, rfl, rfl, rfl⟩) rfl ?_
      refine qcGt rfl rfl (.inl ⟨_, _, rfl, rfl, rfl⟩) rfl (fun h28 => ?_) (fun h28 => ?_)
      ·
        refine qv (yPickF rfl rfl) rfl rfl ?_
        refine qv (yAsgn (v := .bool _) rfl) rfl rfl ?_
        refine QL.nil ?_
        refine TQ.sq ?_
        refine TC.condT rfl ?_
        refine TC.seq ?_
        refine TC.quiet rfl ?_
        refine qv (yAsgn (v := .pointer _) rfl) rfl rfl ?_
        refine qv (yAsgn (v := .int .i64 _) rfl) rfl rfl ?_
        refine QL.nil ?_
        refine TQ.sq ?_
        refine TC.ret (TQ.blkR (TQ.sqR ?_))
        refine TQ.post (v := .tuple ⟨[.pointer _, .int .i64 _]⟩) rfl ?_
        have e := readS_2 (by omega) (.inr (by omega))
        exact fun w hw => ⟨I, Le.refl I, .inl ⟨by rw [e]; first | exact hne | decide, by rw [e], hw.dr⟩⟩
      ·
        refine qv (yPickF rfl rfl) rfl rfl ?_
        refine qv (yAsgn (v := .bool _) rfl) rfl rfl ?_
        refine QL.nil ?_
        refine TQ.sq ?_
        refine TC.condF rfl ?_
        refine TC.skip (TQ.blk (TQ.sq ?_))
        refine TC.seq ?_
        refine TC.quiet rfl ?_
        refine qv (yAsgn (v := .slice _ _ _) rfl) rfl rfl ?_
        refine QL.nil ?_
        refine TQ.sq ?_
        refine TC.seq ?_
        refine TC.seq ?_
        refine TC.quiet rfl ?_
        refine qv (yMove (v := .int .i64 _) rfl) rfl rfl ?_
        refine qv (yMove (v := .int .i64 _) rfl) rfl rfl ?_
        refine QL.nil ?_
        refine TQ.sq ?_
        refine TC.block ?_
        refine TC.loopL (ι := (Nat) × (Nat) × (Im) × (Int) × (List SX) × (Ow) × (Option Addr) × (Nat)) [2, 3, 5, 6, 7, 8, 31, 32, 33, 34, 35, 36, 37, 38, 39, 40, 41, 42, 43, 44, 45, 46, 47, 48, 49, 50, 51, 52, 53, 54, 55, 56, 57, 58, 59, 60] (fun ⟨k, r, J, at_, acc, m, a2, c2⟩ => [(31, .int .i64 (k : Int)), (5, .int .i64 at_), (7, .slice a2 acc.length c2)]) (fun ⟨k, r, J, at_, acc, m, a2, c2⟩ w => (k + r = (rdNum s 0).1.toNat ∧ Le I J ∧ (∀ x, x ∈ acc → RA J encH 2 x.a x.hs ∧ x.hs.length ≤ x.cap ∧ x.hs.length ≤ 1000) ∧ OA 59 encS 2 m a2 c2 acc ∧ acc.length = k ∧ rdSt s r at_ (acc.map absS) = rdN0 s) ∧ St c J (m ++ l) w) (fun ⟨k, r, J, at_, acc, m, a2, c2⟩ => r) (0, (rdNum s 0).1.toNat, I, (rdNum s 0).2.1, [], [], none, 0) ⟨rfl, rfl, rfl, trivial⟩ (fun w hw => ⟨⟨by omega, Le.refl I, fun x hx => absurd hx (by simp), OA.nil, rfl, rfl⟩, hw⟩) ?_
        rintro g0 ⟨k, r, J, at_, acc, m, a2, c2⟩
        dsimp only
        refine TC.pure fun ⟨hkr, hJ, hel, ho, hal, hrd⟩ => ?_
        refine TC.seq ?_
        refine TC.quiet rfl ?_
        refine qcLt rfl rfl rfl rfl (fun h32 => ?_) (fun h32 => ?_)
        ·
          obtain ⟨r, rfl⟩ : ∃ r0, r = r0 + 1 := ⟨r - 1, by omega⟩
          refine QL.nil ?_
          refine TQ.sq ?_
          refine TC.seq ?_
          refine TC.condT rfl ?_
          refine TC.skip (TQ.sq ?_)
          refine TC.seq ?_
          refine TC.block ?_
          refine TC.seq ?_
          refine TC.region ?_
          refine sv (yBuild (vs := [.int .i64 _, .slice _ _ _]) ti59 pl59 rfl) rfl rfl ?_
          refine sAlloc ti59 rfl rfl (fun b8 => ?_)
          refine sStoreF (vs := [.int .i64 _, .slice _ _ _]) (cs' := [.int .i64 _, .slice _ _ _]) ti59 rfl rfl rfl rfl rfl (.inl rfl) (Nat.le_of_ble_eq_true rfl) rfl rfl ?_
          refine TL.nil ?_
          refine TQ.sq ?_
          refine TC.seq ?_
          refine TC.seq ?_
          refine TC.region ?_
          refine sv (yMove (v := str _) rfl) rfl rfl ?_
          refine sv (yMove (v := .int .i64 _) rfl) rfl rfl ?_
          refine sCall (LReadNumber_ok _ s at_ hs) rfl rfl (fun v37 w hw => ?_)
          obtain ⟨rfl, hw⟩ := hw
          refine TL.wl ?_ hw
          refine sv (yMove (v := .tuple _) rfl) rfl rfl ?_
          refine sv (yExt rfl rfl) rfl rfl ?_
          refine sv (yExt rfl rfl) rfl rfl ?_
          refine sv (yExt rfl rfl) rfl rfl ?_
          refine sv (yFA fld59_0 ti3 (by decide) rfl) rfl rfl ?_
          refine sStoreF (vs := [.int .i64 _]) (cs' := [.int .i64 _, .slice _ _ _]) ti3 rfl rfl rfl rfl rfl (.inl rfl) (Nat.le_of_ble_eq_true rfl) rfl rfl ?_
          refine sv (yAsgn (v := .int .i64 _) rfl) rfl rfl ?_
          refine sv (yAsgn (v := .int .i64 _) rfl) rfl rfl ?_
          refine TL.nil ?_
          refine TQ.sq ?_
          refine TC.seq ?_
          refine TC.quiet rfl ?_
          refine qv (yMove (v := .int .i64 _) rfl) rfl rfl ?_
          refine qcNe rfl rfl rfl rfl (fun h43 => ?_) (fun h43 => ?_)
          ·
            refine QL.nil ?_
            refine TQ.sq ?_
            refine TC.condT rfl ?_
            refine TC.seq ?_
            refine TC.quiet rfl ?_
            refine qv (yMove (v := .int .i64 _) rfl) rfl rfl ?_
            refine qv (yAsgn (v := .pointer _) rfl) rfl rfl ?_
            refine qv (yAsgn (v := .int .i64 _) rfl) rfl rfl ?_
            refine QL.nil ?_
            refine TQ.sq ?_
            refine TC.ret (TQ.sqR (TQ.blkR (TQ.sqR (TQ.lpLR (TQ.blkR (TQ.sqR ?_))))))
            refine TQ.post (v := .tuple ⟨[.pointer _, .int .i64 _]⟩) rfl ?_
            have hne := h43
            have h3 : rdN0 s = _ := hrd.symm.trans (rdSt_e1 h43)
            have e := (readS_3 (s := s) (by omega) (by omega) (by rw [h3]; exact h43)).trans (by rw [h3])
            exact fun w hw => ⟨J, hJ, .inl ⟨by rw [e]; first | exact hne | decide, by rw [e], hw.dr⟩⟩
          ·
            refine QL.nil ?_
            refine TQ.sq ?_
            refine TC.condF rfl ?_
            refine TC.skip (TQ.sq ?_)
            refine TC.seq ?_
            refine TC.seq ?_
            refine TC.region ?_
            refine sv (yMove (v := str _) rfl) rfl rfl ?_
            refine sv (yMove (v := .int .i64 _) rfl) rfl rfl ?_
            refine sCall (blobs_ok _ s (rdNum s at_).2.1 hs) rfl rfl (fun v48 w hw => ?_)
            obtain ⟨mb, ab, cb, rfl, ob, hw⟩ := hw
            obtain ⟨J2, hJ2, hrb, hw⟩ := ob.freeze hw
            refine TL.wl ?_ hw
            refine sv (yMove (v := .tuple _) rfl) rfl rfl ?_
            refine sv (yExt rfl rfl) rfl rfl ?_
            refine sv (yExt rfl rfl) rfl rfl ?_
            refine sv (yExt rfl rfl) rfl rfl ?_
            refine sv (yFA fld59_1 ti27 (by decide) rfl) rfl rfl ?_
            refine sStoreF (vs := [.slice _ _ _]) (cs' := [.int .i64 _, .slice _ _ _]) ti27 rfl rfl rfl rfl rfl (.inl rfl) (Nat.le_of_ble_eq_true rfl) rfl rfl ?_
            refine sv (yAsgn (v := .int .i64 _) rfl) rfl rfl ?_
            refine sv (yAsgn (v := .int .i64 _) rfl) rfl rfl ?_
            refine TL.nil ?_
            refine TQ.sq ?_
            refine TC.seq ?_
            refine TC.quiet rfl ?_
            refine qv (yMove (v := .int .i64 _) rfl) rfl rfl ?_
            refine qcNe rfl rfl rfl rfl (fun h54 => ?_) (fun h54 => ?_)
            ·
              refine QL.nil ?_
              refine TQ.sq ?_
              refine TC.condT rfl ?_
              refine TC.seq ?_
              refine TC.quiet rfl ?_
              refine qv (yMove (v := .int .i64 _) rfl) rfl rfl ?_
              refine qv (yAsgn (v := .pointer _) rfl) rfl rfl ?_
              refine qv (yAsgn (v := .int .i64 _) rfl) rfl rfl ?_
              refine QL.nil ?_
              refine TQ.sq ?_
              refine TC.ret (TQ.sqR (TQ.blkR (TQ.sqR (TQ.lpLR (TQ.blkR (TQ.sqR ?_))))))
              refine TQ.post (v := .tuple ⟨[.pointer _, .int .i64 _]⟩) rfl ?_
              have hne := h54
              have h3 : rdN0 s = _ := hrd.symm.trans (rdSt_e2 (by omega) h54)
              have e := (readS_3 (s := s) (by omega) (by omega) (by rw [h3]; exact h54)).trans (by rw [h3])
              exact fun w hw => ⟨J2, hJ.trans hJ2, .inl ⟨by rw [e]; first | exact hne | decide, by rw [e], hw.dr⟩⟩
            ·
              refine QL.nil ?_
              refine TQ.sq ?_
              refine TC.condF rfl ?_
              refine TC.skip (TQ.sq ?_)
              refine TC.region ?_
              refine sv (yMove (v := .slice _ _ _) rfl) rfl rfl ?_
              refine sv (yLdS (vs := [.int .i64 _, .slice _ _ _]) ti59 rfl (by first | exact RdC.rd | exact rdI (by assumption)) rfl rfl) rfl rfl ?_
              refine sBuildSl (vs := [.int .i64 _, .slice _ _ _]) ul44 ti59 rfl rfl rfl rfl (fun b58 => ?_)
              refine sAppA1F (enc := encS) ((⟨(rdNum s at_).1, ab, cb, (rdLists s (rdNum s at_).2.1).1⟩ : SX)) ul44 ul44 ti59 rfl rfl ho rfl rfl (fun _ => rfl) (by omega) (by omega) rfl (fun m4 a4 c4 o4 => ?_)
              refine sv (yAsgn (v := .slice _ _ _) rfl) rfl rfl ?_
              refine TL.nil ?_
              refine TQ.blk (TQ.sq ?_)
              refine TC.quiet rfl ?_
              refine qv (yAdd rfl rfl (by omega)) rfl rfl ?_
              refine qv (yMove (v := .int .i64 _) rfl) rfl rfl ?_
              refine QL.nil ?_
              have hel2 : ∀ x, x ∈ acc ++ [(⟨(rdNum s at_).1, ab, cb, (rdLists s (rdNum s at_).2.1).1⟩ : SX)] → RA J2 encH 2 x.a x.hs ∧ x.hs.length ≤ x.cap ∧ x.hs.length ≤ 1000 := by
                intro x hx
                rcases List.mem_append.1 hx with hx | hx
                · exact ⟨(hel x hx).1.le hJ2, (hel x hx).2⟩
                · rw [List.mem_singleton.1 hx]; exact ⟨hrb, ob.le, by have := rdLists_len (s := s) (a := (rdNum s at_).2.1); dsimp only; omega⟩
              refine TQ.lpL (k + 1, r, J2, (rdLists s (rdNum s at_).2.1).2.1, acc ++ [⟨(rdNum s at_).1, ab, cb, (rdLists s (rdNum s at_).2.1).1⟩], m4, a4, c4) (by dsimp only; omega) (by repeat (first | exact OffL.refl | refine OffL.updO rfl ?_ | refine OffL.upd rfl ?_ | refine OffL.updL rfl ?_ | refine OffL.mask rfl ?_)) ⟨rfl, rfl, rfl, trivial⟩ (fun w hw => ⟨⟨by dsimp only; omega, hJ.trans hJ2, hel2, o4, by simp [hal], by dsimp only; rw [List.map_append]; rw [rdSt_go (by omega) (by omega)] at hrd; exact hrd⟩, hw.dr⟩)
        ·
          obtain rfl : r = 0 := by omega
          have hN : rdN0 s = (acc.map absS, at_, 0) := hrd.symm
          have hD : rdD s = rdLists s at_ := by unfold rdD; rw [hN]
          refine QL.nil ?_
          refine TQ.sq ?_
          refine TC.seq ?_
          refine TC.condF rfl ?_
          refine TC.exit (TQ.sqX (TQ.lpLX (TQ.blkX (TQ.sq ?_))))
          refine TC.seq ?_
          refine TC.region ?_
          refine sv (yMove (v := str _) rfl) rfl rfl ?_
          refine sv (yMove (v := .int .i64 _) rfl) rfl rfl ?_
          refine sCall (blobs_ok _ s at_ hs) rfl rfl (fun v64 w hw => ?_)
          obtain ⟨md, ad, cd, rfl, od, hw⟩ := hw
          refine TL.wl ?_ hw
          refine sv (yMove (v := .tuple _) rfl) rfl rfl ?_
          refine sv (yExt rfl rfl) rfl rfl ?_
          refine sv (yExt rfl rfl) rfl rfl ?_
          refine sv (yExt rfl rfl) rfl rfl ?_
          refine sv (yAsgn (v := .slice _ _ _) rfl) rfl rfl ?_
          refine sv (yAsgn (v := .int .i64 _) rfl) rfl rfl ?_
          refine sv (yAsgn (v := .int .i64 _) rfl) rfl rfl ?_
          refine TL.nil ?_
          refine TQ.sq ?_
          refine TC.seq ?_
          refine TC.block ?_
          refine TC.seq ?_
          refine TC.quiet rfl ?_
          refine qv (yMove (v := .int .i64 _) rfl) rfl rfl ?_
          refine qcNe rfl rfl rfl rfl (fun h70 => ?_) (fun h70 => ?_)
          ·
            refine qv (yAsgn (v := .bool _) rfl) rfl rfl ?_
            refine QL.nil ?_
            refine TQ.sq ?_
            refine TC.condT rfl ?_
            refine TC.seq ?_
            refine TC.quiet rfl ?_
            refine qv (yMove (v := .int .i64 _) rfl) rfl rfl ?_
            refine qv (yAsgn (v := .pointer _) rfl) rfl rfl ?_
            refine qv (yAsgn (v := .int .i64 _) rfl) rfl rfl ?_
            refine QL.nil ?_
            refine TQ.sq ?_
            refine TC.ret (TQ.blkR (TQ.sqR ?_))
            refine TQ.post (v := .tuple ⟨[.pointer _, .int .i64 _]⟩) rfl ?_
            have hne := h70
            have e := (readS_4 (s := s) (by omega) (by omega) (by rw [hN]) (by rw [hD]; exact h70)).trans (by rw [hD])
            exact fun w hw => ⟨J, hJ, .inl ⟨by rw [e]; first | exact hne | decide, by rw [e], hw.dr⟩⟩
          ·
            refine qv (yAsgn (v := .bool _) rfl) rfl rfl ?_
            refine QL.nil ?_
            refine TQ.sq ?_
            refine TC.condF rfl ?_
            refine TC.seq ?_
            refine TC.region ?_
            refine sv (yMove (v := .int .i64 _) rfl) rfl rfl ?_
            refine sv (yMove (v := str _) rfl) rfl rfl ?_
            refine sv (yStrLen ul9 rfl) rfl rfl ?_
            refine scLt rfl rfl rfl rfl (fun h76 => ?_) (fun h76 => ?_)
            ·
              refine sv (yMove (v := .bool _) rfl) rfl rfl ?_
              refine sk rfl (.inl ⟨_, _, rfl, rfl, rfl⟩) rfl ?_
              refine sk rfl (.inl ⟨_, _, rfl, rfl, rfl⟩) rfl ?_
              refine sk rfl (.inl ⟨_, _, rfl, rfl, rfl⟩) rfl ?_
              refine sv (yPickT rfl rfl) rfl rfl ?_
              refine sv (yMove (v := .bool _) rfl) rfl rfl ?_
              refine sk rfl (.inl ⟨_, _, rfl, rfl, rfl⟩) rfl ?_
              refine sk rfl (.inl ⟨_, _, rfl, rfl, rfl⟩) rfl ?_
              refine sk rfl (.inl ⟨_, _, rfl, rfl, rfl⟩) rfl ?_
              refine sv (yPickT rfl rfl) rfl rfl ?_
              refine sv (yAsgn (v := .bool _) rfl) rfl rfl ?_
              refine TL.nil ?_
              refine TQ.sq ?_
              refine TC.condT rfl ?_
              refine TC.seq ?_
              refine TC.quiet rfl ?_
              refine qv (yAsgn (v := .pointer _) rfl) rfl rfl ?_
              refine qv (yAsgn (v := .int .i64 _) rfl) rfl rfl ?_
              refine QL.nil ?_
              refine TQ.sq ?_
              refine TC.ret (TQ.blkR (TQ.sqR ?_))
              refine TQ.post (v := .tuple ⟨[.pointer _, .int .i64 _]⟩) rfl ?_
              have e := readS_5 (s := s) (by omega) (by omega) (by rw [hN]) (by rw [hD]; omega) (.inl (by rw [hD]; omega))
              exact fun w hw => ⟨J, hJ, .inl ⟨by rw [e]; first | exact hne | decide, by rw [e], hw.dr⟩⟩
            ·
              refine sv (yMove (v := .bool _) rfl) rfl rfl ?_
              refine sg (yMove (v := .slice _ _ _) rfl) rfl (.inl ⟨_, _, rfl, rfl, rfl⟩) rfl ?_
              refine TL.ung rfl (.inl ⟨_, _, rfl, rfl, rfl⟩) ?_
              refine sCall (plain_ok _ ad cd (rdLists s at_).1 (OA.fm od) (by have := rdLists_len (s := s) (a := at_); omega)) rfl rfl (fun v79 w hw => ?_)
              obtain ⟨rfl, hw⟩ := hw
              refine TL.wl ?_ hw
              cases hp : plainB (rdLists s at_).1
              ·
                refine sg (yNotT rfl) rfl (.inl ⟨_, _, rfl, rfl, rfl⟩) rfl ?_
                refine sv (yPickF rfl rfl) rfl rfl ?_
                refine sv (yMove (v := .bool _) rfl) rfl rfl ?_
                refine sk rfl (.inl ⟨_, _, rfl, rfl, rfl⟩) rfl ?_
                refine sk rfl (.inl ⟨_, _, rfl, rfl, rfl⟩) rfl ?_
                refine sk rfl (.inl ⟨_, _, rfl, rfl, rfl⟩) rfl ?_
                refine sv (yPickT rfl rfl) rfl rfl ?_
                refine sv (yAsgn (v := .bool _) rfl) rfl rfl ?_
                refine TL.nil ?_
                refine TQ.sq ?_
                refine TC.condT rfl ?_
                refine TC.seq ?_
                refine TC.quiet rfl ?_
                refine qv (yAsgn (v := .pointer _) rfl) rfl rfl ?_
                refine qv (yAsgn (v := .int .i64 _) rfl) rfl rfl ?_
                refine QL.nil ?_
                refine TQ.sq ?_
                refine TC.ret (TQ.blkR (TQ.sqR ?_))
                refine TQ.post (v := .tuple ⟨[.pointer _, .int .i64 _]⟩) rfl ?_
                have e := readS_5 (s := s) (by omega) (by omega) (by rw [hN]) (by rw [hD]; omega) (.inr (.inl (by rw [hD]; exact hp)))
                exact fun w hw => ⟨J, hJ, .inl ⟨by rw [e]; first | exact hne | decide, by rw [e], hw.dr⟩⟩
              ·
                refine sg (yNotF rfl) rfl (.inl ⟨_, _, rfl, rfl, rfl⟩) rfl ?_
                refine sv (yPickF rfl rfl) rfl rfl ?_
                refine sv (yMove (v := .bool _) rfl) rfl rfl ?_
                refine sg (yMove (v := .slice _ _ _) rfl) rfl (.inl ⟨_, _, rfl, rfl, rfl⟩) rfl ?_
                refine sg (ySlLen ul27 rfl) rfl (.inl ⟨_, _, rfl, rfl, rfl⟩) rfl ?_
                have hdl := rdLists_len (s := s) (a := at_)
                refine sgcGt rfl rfl rfl (.inl ⟨_, _, rfl, rfl, rfl⟩) rfl (fun h85 => ?_) (fun h85 => ?_)
                ·
                  refine sv (yPickF rfl rfl) rfl rfl ?_
                  refine sv (yAsgn (v := .bool _) rfl) rfl rfl ?_
                  refine TL.nil ?_
                  refine TQ.sq ?_
                  refine TC.condT rfl ?_
                  refine TC.seq ?_
                  refine TC.quiet rfl ?_
                  refine qv (yAsgn (v := .pointer _) rfl) rfl rfl ?_
                  refine qv (yAsgn (v := .int .i64 _) rfl) rfl rfl ?_
                  refine QL.nil ?_
                  refine TQ.sq ?_
                  refine TC.ret (TQ.blkR (TQ.sqR ?_))
                  refine TQ.post (v := .tuple ⟨[.pointer _, .int .i64 _]⟩) rfl ?_
                  have e := readS_5 (s := s) (by omega) (by omega) (by rw [hN]) (by rw [hD]; omega) (.inr (.inr (by rw [hD]; omega)))
                  exact fun w hw => ⟨J, hJ, .inl ⟨by rw [e]; first | exact hne | decide, by rw [e], hw.dr⟩⟩
                ·
                  have h5 : ¬ ((rdD s).2.1 ≠ s.length ∨ plainB (rdD s).1 = false ∨ 256 < (rdD s).1.length) := by
                    rw [hD]
                    rintro (h | h | h)
                    · have := rdLists_le (s := s) (a := at_) (by omega); omega
                    · rw [hp] at h; cases h
                    · omega
                  refine sv (yPickF rfl rfl) rfl rfl ?_
                  refine sv (yAsgn (v := .bool _) rfl) rfl rfl ?_
                  refine TL.nil ?_
                  refine TQ.sq ?_
                  refine TC.condF rfl ?_
                  refine TC.skip (TQ.blk (TQ.sq ?_))
                  refine TC.seq ?_
                  refine TC.region ?_
                  refine sv (yMove (v := .slice _ _ _) rfl) rfl rfl ?_
                  refine sv (yBuild (vs := [.slice _ _ _, .slice _ _ _]) ti46 pl46 rfl) rfl rfl ?_
                  refine sBox (vs := [.slice _ _ _, .slice _ _ _]) rfl rfl rfl (fun p => ?_)
                  refine sv (yAsgn (v := .pointer _) rfl) rfl rfl ?_
                  refine TL.nil ?_
                  refine TQ.sq ?_
                  refine TC.seq ?_
                  refine TC.seq ?_
                  refine TC.quiet rfl ?_
                  refine qv (yMove (v := .slice _ _ _) rfl) rfl rfl ?_
                  refine qv (ySlLen ul44 rfl) rfl rfl ?_
                  refine qv (yMove (v := .int .i64 _) rfl) rfl rfl ?_
                  refine QL.nil ?_
                  refine TQ.sq ?_
                  refine TC.block ?_
                  have hB0 := BI.dead0 (dead := (rdLists s at_).1) hp (by omega)
                  refine TC.loopL (ι := (Nat) × (Im) × (Option Addr) × (Nat) × (List SX)) [2, 3, 12, 92, 93, 94, 95, 96, 97, 98, 99, 100, 101, 102, 103] (fun ⟨i, J3, a1, c1, xs⟩ => [(92, .int .i64 (i : Int))]) (fun ⟨i, J3, a1, c1, xs⟩ w => (i ≤ acc.length ∧ Le J J3 ∧ SL J3 a1 xs ∧ xs.length ≤ c1 ∧ xs.map absS = (acc.map absS).take i ∧ BI (xs.map absS) (rdLists s at_).1 ∧ addsB (rdLists s at_).1 ((acc.map absS).drop i) (xs.map absS) = addsB (rdLists s at_).1 (acc.map absS) []) ∧ St c J3 ((p, (bkO 46 a1 xs.length c1 ad (rdLists s at_).1.length cd)) :: (md ++ (m ++ l))) w) (fun ⟨i, J3, a1, c1, xs⟩ => acc.length - i) (0, J, none, 0, []) ⟨rfl, trivial⟩ (fun w hw => ⟨⟨by omega, Le.refl _, ⟨RA.nil _, fun x hx => absurd hx (by simp), by simp⟩, by simp, rfl, hB0, rfl⟩, hw.dr⟩) ?_
                  rintro g1 ⟨i, J3, a1, c1, xs⟩
                  dsimp only
                  refine TC.pure fun ⟨hi, hJ3, hS, hc1, hxs, hB, had⟩ => ?_
                  refine TC.seq ?_
                  refine TC.quiet rfl ?_
                  refine qcLt rfl rfl rfl rfl (fun h93 => ?_) (fun h93 => ?_)
                  ·
                    obtain ⟨x, hxi⟩ := getSome (xs := acc) (k := i) (by omega)
                    have hxe := hel x (getMem hxi)
                    have hBl := hB.len
                    simp only [List.length_map] at hBl
                    have hBd := hB.lend
                    refine QL.nil ?_
                    refine TQ.sq ?_
                    refine TC.seq ?_
                    refine TC.condT rfl ?_
                    refine TC.skip (TQ.sq ?_)
                    refine TC.seq ?_
                    refine TC.block ?_
                    refine TC.seq ?_
                    refine TC.region ?_
                    refine sElA (v := .agg ⟨[.int .i64 _, .slice _ _ _]⟩) ul44 ti59 rfl (OA.fm ho) rfl (by omega) (by simpa using hxi) (fun _ => rfl) (fun h => nomatch h) rfl rfl rfl (fun _ => ?_)
                    refine sAlloc ti59 rfl rfl (fun b12 => ?_)
                    refine sStoreF (vs := [.int .i64 _, .slice _ _ _]) (cs' := [.int .i64 _, .slice _ _ _]) ti59 rfl rfl rfl rfl rfl (.inl rfl) (Nat.le_of_ble_eq_true rfl) rfl rfl ?_
                    refine TL.nil ?_
                    refine TQ.sq ?_
                    refine TC.seq ?_
                    refine TC.region ?_
                    refine sv (yMove (v := .pointer _) rfl) rfl rfl ?_
                    refine sv (yFA fld59_0 ti3 (by decide) rfl) rfl rfl ?_
                    refine sv (yLd1 ti3 rfl (by first | exact RdC.rd | exact rdI (by assumption)) rfl) rfl rfl ?_
                    refine sv (yFA fld59_1 ti27 (by decide) rfl) rfl rfl ?_
                    refine sv (yLd1 ti27 rfl (by first | exact RdC.rd | exact rdI (by assumption)) rfl) rfl rfl ?_
                    refine sCallF (LAdd_ok (md ++ (m ++ l)) p a1 c1 xs ad cd (rdLists s at_).1 x.n x.a x.cap x.hs hS hc1 (by omega) (OKS_of hB) (OA.fm od) (by omega) (RA.sa (hxe.1.le hJ3)) (by omega)) rfl rfl (fun v101 w hw => ?_)
                    obtain ⟨J4, a3, c3, ys, hJ4, rfl, hS4, hc4, hys, hw⟩ := hw
                    refine TL.wl ?_ hw
                    refine scNe rfl rfl rfl rfl (fun h102 => ?_) (fun h102 => ?_)
                    ·
                      have hnz : ¬ addR (xs.map absS) (rdLists s at_).1 x.n x.hs = 0 := by rw [← add_same hB]; omega
                      refine TL.nil ?_
                      refine TQ.sq ?_
                      refine TC.condT rfl ?_
                      refine TC.seq ?_
                      refine TC.quiet rfl ?_
                      refine qv (yAsgn (v := .pointer _) rfl) rfl rfl ?_
                      refine qv (yAsgn (v := .int .i64 _) rfl) rfl rfl ?_
                      refine QL.nil ?_
                      refine TQ.sq ?_
                      refine TC.ret (TQ.blkR (TQ.sqR (TQ.lpLR (TQ.blkR (TQ.sqR ?_)))))
                      refine TQ.post (v := .tuple ⟨[.pointer _, .int .i64 _]⟩) rfl ?_
                      have h6 : addsB (rdD s).1 (rdN0 s).1 [] = false := by rw [hD, hN]; show addsB (rdLists s at_).1 (acc.map absS) [] = false; rw [← had, addsB_at (map_at absS hxi), decide_eq_false (show ¬ addR (xs.map absS) (rdLists s at_).1 (absS x).1 (absS x).2 = 0 from hnz)]; rfl
                      have e := readS_6 (by omega) (by omega) (by rw [hN]) (by rw [hD]; omega) h5 h6
                      exact fun w hw => ⟨J4, hJ.trans (hJ3.trans hJ4), .inl ⟨by rw [e]; decide, by rw [e], hw.dr⟩⟩
                    ·
                      refine TL.nil ?_
                      refine TQ.sq ?_
                      refine TC.condF rfl ?_
                      refine TC.skip (TQ.blk (TQ.sq ?_))
                      refine TC.quiet rfl ?_
                      refine qv (yAdd rfl rfl (by omega)) rfl rfl ?_
                      refine qv (yMove (v := .int .i64 _) rfl) rfl rfl ?_
                      refine QL.nil ?_
                      have hz : addR (xs.map absS) (rdLists s at_).1 x.n x.hs = 0 := by rw [← add_same hB]; omega
                      rw [if_pos (by omega)] at hys
                      refine TQ.lpL (i + 1, J4, a3, c3, ys) (by first | omega | (dsimp only; omega)) (by repeat (first | exact OffL.refl | refine OffL.updO rfl ?_ | refine OffL.upd rfl ?_ | refine OffL.updL rfl ?_ | refine OffL.mask rfl ?_)) ⟨rfl, trivial⟩ (fun w hw => ⟨⟨by dsimp only; omega, hJ3.trans hJ4, hS4, hc4, by dsimp only; rw [hys, hxs, take_snoc (map_at absS hxi)]; rfl, by dsimp only; rw [hys]; exact hB.add hz, by dsimp only; rw [hys, ← had, addsB_at (map_at absS hxi), decide_eq_true (show addR (xs.map absS) (rdLists s at_).1 (absS x).1 (absS x).2 = 0 from hz)]; rfl⟩, hw.dr⟩)
                  ·
                    refine QL.nil ?_
                    refine TQ.sq ?_
                    refine TC.seq ?_
                    refine TC.condF rfl ?_
                    refine TC.exit (TQ.sqX (TQ.lpLX (TQ.blkX (TQ.sq ?_))))
                    refine TC.seq ?_
                    refine TC.quiet rfl ?_
                    refine qv (yMove (v := .pointer _) rfl) rfl rfl ?_
                    refine qv (yAsgn (v := .pointer _) rfl) rfl rfl ?_
                    refine qv (yAsgn (v := .int .i64 _) rfl) rfl rfl ?_
                    refine QL.nil ?_
                    refine TQ.sq ?_
                    refine TC.ret ?_
                    refine TQ.post (v := .tuple ⟨[.pointer _, .int .i64 _]⟩) rfl ?_
                    obtain rfl : i = acc.length := by omega
                    have h6 : addsB (rdD s).1 (rdN0 s).1 [] = true := by rw [hD, hN]; show addsB (rdLists s at_).1 (acc.map absS) [] = true; rw [← had, addsB_end (by simp)]
                    have e : readS s = (0, acc.map absS, (rdLists s at_).1) := by rw [readS_0 (by omega) (by omega) (by rw [hN]) (by rw [hD]; omega) h5 h6, hN, hD]
                    have hxe2 : xs.map absS = acc.map absS := by rw [hxs, List.take_of_length_le (by simp)]
                    exact fun w hw => ⟨J3, hJ.trans hJ3, .inr ⟨by rw [e], p, a1, c1, xs, md, ad, cd, by rfl, hS, hc1, by rw [e]; exact od, by rw [e]; exact hxe2, by rw [e]; exact hw.dr⟩⟩
theorem RRead_ok {c : Cx} {I : Im} (l : Ow) (s : List UInt8) (hs : s.length ≤ 1000000000000) : Ct Try.prog 12 [str s] (St c I l) fun v w => ∃ J, Le I J ∧ (((readS s).1 ≠ 0 ∧ v = .tuple ⟨[.pointer none, .int .i64 (readS s).1]⟩ ∧ St c J l w) ∨ ((readS s).1 = 0 ∧ ∃ p a1 c1 xs a2 c2, v = .tuple ⟨[.pointer (some ⟨p, 0, none⟩), .int .i64 0]⟩ ∧ SL J a1 xs ∧ xs.length ≤ c1 ∧ RA J encH 2 a2 (readS s).2.2 ∧ xs.map absS = (readS s).2.1 ∧ (readS s).2.2.length ≤ c2 ∧ St c J ((p, bkO 29 a1 xs.length c1 a2 (readS s).2.2.length c2) :: l) w)) := by
  refine Ct.enter (n := 114) Try.func12 rfl rfl rfl rfl rfl rfl ?_
  refine TC.seq ?_
  refine TC.quiet rfl ?_
  refine qv (yAsgn (v := .pointer _) rfl) rfl rfl ?_
  refine qv (yAsgn (v := .int .i64 _) rfl) rfl rfl ?_
  refine QL.nil ?_
  refine TQ.sq ?_
  refine TC.seq ?_
  refine TC.region ?_
  refine sv (yMove (v := str _) rfl) rfl rfl ?_
  refine sCall (RReadNumber_ok _ s 0 hs) rfl rfl (fun v22 w hw => ?_)
  obtain ⟨rfl, hw⟩ := hw
  refine TL.wl ?_ hw
  refine sv (yMove (v := .tuple _) rfl) rfl rfl ?_
  refine sv (yExt rfl rfl) rfl rfl ?_
  refine sv (yExt rfl rfl) rfl rfl ?_
  refine sv (yExt rfl rfl) rfl rfl ?_
  refine sv (yAsgn (v := .int .i64 _) rfl) rfl rfl ?_
  refine sv (yAsgn (v := .int .i64 _) rfl) rfl rfl ?_
  refine sv (yAsgn (v := .int .i64 _) rfl) rfl rfl ?_
  refine TL.nil ?_
  refine TQ.sq ?_
  refine TC.seq ?_
  refine TC.seq ?_
  refine TC.quiet rfl ?_
  refine qv (yMove (v := .int .i64 _) rfl) rfl rfl ?_
  refine qcNe rfl rfl rfl rfl (fun h21 => ?_) (fun h21 => ?_)
  ·
    refine QL.nil ?_
    refine TQ.sq ?_
    refine TC.condT rfl ?_
    refine TC.seq ?_
    refine TC.quiet rfl ?_
    refine qv (yMove (v := .int .i64 _) rfl) rfl rfl ?_
    refine qv (yAsgn (v := .pointer _) rfl) rfl rfl ?_
    refine qv (yAsgn (v := .int .i64 _) rfl) rfl rfl ?_
    refine QL.nil ?_
    refine TQ.sq ?_
    refine TC.ret (TQ.sqR ?_)
    refine TQ.post (v := .tuple ⟨[.pointer _, .int .i64 _]⟩) rfl ?_
    have hne := h21
    have e := readS_1 h21
    exact fun w hw => ⟨I, Le.refl I, .inl ⟨by rw [e]; first | exact hne | decide, by rw [e], hw.dr⟩⟩
  ·
    refine QL.nil ?_
    refine TQ.sq ?_
    refine TC.condF rfl ?_
    refine TC.skip (TQ.sq ?_)
    refine TC.seq ?_
    refine TC.seq ?_
    refine TC.quiet rfl ?_
    refine qv (yMove (v := .int .i64 _) rfl) rfl rfl ?_
    refine qcLt rfl rfl rfl rfl (fun h25 => ?_) (fun h25 => ?_)
    ·
      refine qv (yMove (v := .bool _) rfl) rfl rfl ?_
      refine qk (.inl ⟨_, _, rfl, rfl, rfl⟩) rfl ?_
      refine qk (.inl ⟨_, _, rfl, rfl, rfl⟩) rfl ?_
      refine qv (yPickT rfl rfl) rfl rfl ?_
      refine QL.nil ?_
      refine TQ.sq ?_
      refine TC.condT rfl ?_
      refine TC.seq ?_
      refine TC.quiet rfl ?_
      refine qv (yAsgn (v := .pointer _) rfl) rfl rfl ?_
      refine qv (yAsgn (v := .int .i64 _) rfl) rfl rfl ?_
      refine QL.nil ?_
      refine TQ.sq ?_
      refine TC.ret (TQ.sqR ?_)
      refine TQ.post (v := .tuple ⟨[.pointer _, .int .i64 _]⟩) rfl ?_
      have e := readS_2 (by omega) (.inl (by omega))
      exact fun w hw => ⟨I, Le.refl I, .inl ⟨by rw [e]; first | exact hne | decide, by rw [e], hw.dr⟩⟩
    ·
      refine qv (yMove (v := .bool _) rfl) rfl rfl ?_
      refine qv (yMove (v := .int .i64 _) rfl) (.inl ⟨_, _, rfl, rfl, rfl⟩) rfl ?_
      refine qcGt rfl rfl (.inl ⟨_, _, rfl, rfl, rfl⟩) rfl (fun h28 => ?_) (fun h28 => ?_)
      ·
        refine qv (yPickF rfl rfl) rfl rfl ?_
        refine QL.nil ?_
        refine TQ.sq ?_
        refine TC.condT rfl ?_
        refine TC.seq ?_
        refine TC.quiet rfl ?_
        refine qv (yAsgn (v := .pointer _) rfl) rfl rfl ?_
        refine qv (yAsgn (v := .int .i64 _) rfl) rfl rfl ?_
        refine QL.nil ?_
        refine TQ.sq ?_
        refine TC.ret (TQ.sqR ?_)
        refine TQ.post (v := .tuple ⟨[.pointer _, .int .i64 _]⟩) rfl ?_
        have e := readS_2 (by omega) (.inr (by omega))
        exact fun w hw => ⟨I, Le.refl I, .inl ⟨by rw [e]; first | exact hne | decide, by rw [e], hw.dr⟩⟩
      ·
        refine qv (yPickF rfl rfl) rfl rfl ?_
        refine QL.nil ?_
        refine TQ.sq ?_
        refine TC.condF rfl ?_
        refine TC.skip (TQ.sq ?_)
        refine TC.seq ?_
        refine TC.quiet rfl ?_
        refine qv (yAsgn (v := .slice _ _ _) rfl) rfl rfl ?_
        refine QL.nil ?_
        refine TQ.sq ?_
        refine TC.seq ?_
        refine TC.seq ?_
        refine TC.quiet rfl ?_
        refine qv (yAsgn (v := .int .i64 _) rfl) rfl rfl ?_
        refine QL.nil ?_
        refine TQ.sq ?_
        refine TC.block ?_
        refine TC.loopL (ι := (Nat) × (Nat) × (Im) × (Int) × (List SX) × (Ow) × (Option Addr) × (Nat)) [2, 3, 5, 7, 8, 9, 10, 11, 12, 13, 14, 35, 36, 37, 38, 39, 40, 41, 42, 43, 44, 45, 46, 47, 48, 49, 50, 51, 52, 53, 54, 55, 56, 57, 58, 59, 60, 61, 62, 63, 64, 65, 66] (fun ⟨k, r, J, at_, acc, m, a2, c2⟩ => [(8, .int .i64 (k : Int)), (5, .int .i64 at_), (7, .slice a2 acc.length c2)]) (fun ⟨k, r, J, at_, acc, m, a2, c2⟩ w => (k + r = (rdNum s 0).1.toNat ∧ Le I J ∧ (∀ x, x ∈ acc → RA J encH 2 x.a x.hs ∧ x.hs.length ≤ x.cap ∧ x.hs.length ≤ 1000) ∧ OA 66 encS 2 m a2 c2 acc ∧ acc.length = k ∧ rdSt s r at_ (acc.map absS) = rdN0 s) ∧ St c J (m ++ l) w) (fun ⟨k, r, J, at_, acc, m, a2, c2⟩ => r) (0, (rdNum s 0).1.toNat, I, (rdNum s 0).2.1, [], [], none, 0) ⟨rfl, rfl, rfl, trivial⟩ (fun w hw => ⟨⟨by omega, Le.refl I, fun x hx => absurd hx (by simp), OA.nil, rfl, rfl⟩, hw⟩) ?_
        rintro g0 ⟨k, r, J, at_, acc, m, a2, c2⟩
        dsimp only
        refine TC.pure fun ⟨hkr, hJ, hel, ho, hal, hrd⟩ => ?_
        refine TC.seq ?_
        refine TC.seq ?_
        refine TC.quiet rfl ?_
        refine qv (yMove (v := .int .i64 _) rfl) rfl rfl ?_
        refine qv (yMove (v := .int .i64 _) rfl) rfl rfl ?_
        refine qcLt rfl rfl rfl rfl (fun h32 => ?_) (fun h32 => ?_)
        ·
          obtain ⟨r, rfl⟩ : ∃ r0, r = r0 + 1 := ⟨r - 1, by omega⟩
          refine QL.nil ?_
          refine TQ.sq ?_
          refine TC.condT rfl ?_
          refine TC.skip (TQ.sq ?_)
          refine TC.seq ?_
          refine TC.block ?_
          refine TC.seq ?_
          refine TC.region ?_
          refine sv (yMove (v := str _) rfl) rfl rfl ?_
          refine sv (yMove (v := .int .i64 _) rfl) rfl rfl ?_
          refine sCall (RReadNumber_ok _ s at_ hs) rfl rfl (fun v43 w hw => ?_)
          obtain ⟨rfl, hw⟩ := hw
          refine TL.wl ?_ hw
          refine sv (yMove (v := .tuple _) rfl) rfl rfl ?_
          refine sv (yExt rfl rfl) rfl rfl ?_
          refine sv (yExt rfl rfl) rfl rfl ?_
          refine sv (yExt rfl rfl) rfl rfl ?_
          refine sv (yAsgn (v := .int .i64 _) rfl) rfl rfl ?_
          refine sv (yAsgn (v := .int .i64 _) rfl) rfl rfl ?_
          refine sv (yAsgn (v := .int .i64 _) rfl) rfl rfl ?_
          refine TL.nil ?_
          refine TQ.sq ?_
          refine TC.seq ?_
          refine TC.seq ?_
          refine TC.quiet rfl ?_
          refine qv (yMove (v := .int .i64 _) rfl) rfl rfl ?_
          refine qcNe rfl rfl rfl rfl (fun h43 => ?_) (fun h43 => ?_)
          ·
            refine QL.nil ?_
            refine TQ.sq ?_
            refine TC.condT rfl ?_
            refine TC.seq ?_
            refine TC.quiet rfl ?_
            refine qv (yMove (v := .int .i64 _) rfl) rfl rfl ?_
            refine qv (yAsgn (v := .pointer _) rfl) rfl rfl ?_
            refine qv (yAsgn (v := .int .i64 _) rfl) rfl rfl ?_
            refine QL.nil ?_
            refine TQ.sq ?_
            refine TC.ret (TQ.sqR (TQ.blkR (TQ.sqR (TQ.lpLR (TQ.blkR (TQ.sqR ?_))))))
            refine TQ.post (v := .tuple ⟨[.pointer _, .int .i64 _]⟩) rfl ?_
            have hne := h43
            have h3 : rdN0 s = _ := hrd.symm.trans (rdSt_e1 h43)
            have e := (readS_3 (s := s) (by omega) (by omega) (by rw [h3]; exact h43)).trans (by rw [h3])
            exact fun w hw => ⟨J, hJ, .inl ⟨by rw [e]; first | exact hne | decide, by rw [e], hw.dr⟩⟩
          ·
            refine QL.nil ?_
            refine TQ.sq ?_
            refine TC.condF rfl ?_
            refine TC.skip (TQ.sq ?_)
            refine TC.seq ?_
            refine TC.region ?_
            refine sv (yMove (v := str _) rfl) rfl rfl ?_
            refine sv (yMove (v := .int .i64 _) rfl) rfl rfl ?_
            refine sCall (readLists_ok _ s (rdNum s at_).2.1 hs) rfl rfl (fun v53 w hw => ?_)
            obtain ⟨mb, ab, cb, rfl, ob, hw⟩ := hw
            obtain ⟨J2, hJ2, hrb, hw⟩ := ob.freeze hw
            refine TL.wl ?_ hw
            refine sv (yMove (v := .tuple _) rfl) rfl rfl ?_
            refine sv (yExt rfl rfl) rfl rfl ?_
            refine sv (yExt rfl rfl) rfl rfl ?_
            refine sv (yExt rfl rfl) rfl rfl ?_
            refine sv (yAsgn (v := .slice _ _ _) rfl) rfl rfl ?_
            refine sv (yAsgn (v := .int .i64 _) rfl) rfl rfl ?_
            refine sv (yAsgn (v := .int .i64 _) rfl) rfl rfl ?_
            refine TL.nil ?_
            refine TQ.sq ?_
            refine TC.seq ?_
            refine TC.seq ?_
            refine TC.quiet rfl ?_
            refine qv (yMove (v := .int .i64 _) rfl) rfl rfl ?_
            refine qcNe rfl rfl rfl rfl (fun h54 => ?_) (fun h54 => ?_)
            ·
              refine QL.nil ?_
              refine TQ.sq ?_
              refine TC.condT rfl ?_
              refine TC.seq ?_
              refine TC.quiet rfl ?_
              refine qv (yMove (v := .int .i64 _) rfl) rfl rfl ?_
              refine qv (yAsgn (v := .pointer _) rfl) rfl rfl ?_
              refine qv (yAsgn (v := .int .i64 _) rfl) rfl rfl ?_
              refine QL.nil ?_
              refine TQ.sq ?_
              refine TC.ret (TQ.sqR (TQ.blkR (TQ.sqR (TQ.lpLR (TQ.blkR (TQ.sqR ?_))))))
              refine TQ.post (v := .tuple ⟨[.pointer _, .int .i64 _]⟩) rfl ?_
              have hne := h54
              have h3 : rdN0 s = _ := hrd.symm.trans (rdSt_e2 (by omega) h54)
              have e := (readS_3 (s := s) (by omega) (by omega) (by rw [h3]; exact h54)).trans (by rw [h3])
              exact fun w hw => ⟨J2, hJ.trans hJ2, .inl ⟨by rw [e]; first | exact hne | decide, by rw [e], hw.dr⟩⟩
            ·
              refine QL.nil ?_
              refine TQ.sq ?_
              refine TC.condF rfl ?_
              refine TC.skip (TQ.sq ?_)
              refine TC.seq ?_
              refine TC.region ?_
              refine sv (yMove (v := .slice _ _ _) rfl) rfl rfl ?_
              refine sv (yMove (v := .int .i64 _) rfl) rfl rfl ?_
              refine sv (yMove (v := .slice _ _ _) rfl) rfl rfl ?_
              refine sv (yBuild (vs := [.int .i64 _, .slice _ _ _]) ti66 pl66 rfl) rfl rfl ?_
              refine sBuildSl (vs := [.int .i64 _, .slice _ _ _]) ul26 ti66 rfl rfl rfl rfl (fun b58 => ?_)
              refine sAppA1F (enc := encS) ((⟨(rdNum s at_).1, ab, cb, (rdLists s (rdNum s at_).2.1).1⟩ : SX)) ul26 ul26 ti66 rfl rfl ho rfl rfl (fun _ => rfl) (by omega) (by omega) rfl (fun m4 a4 c4 o4 => ?_)
              refine sv (yAsgn (v := .slice _ _ _) rfl) rfl rfl ?_
              refine TL.nil ?_
              refine TQ.sq ?_
              refine TC.quiet rfl ?_
              refine qv (yMove (v := .int .i64 _) rfl) rfl rfl ?_
              refine qv (yAsgn (v := .int .i64 _) rfl) rfl rfl ?_
              refine QL.nil ?_
              refine TQ.blk (TQ.sq ?_)
              refine TC.quiet rfl ?_
              refine qv (yMove (v := .int .i64 _) rfl) rfl rfl ?_
              refine qv (yAdd rfl rfl (by omega)) rfl rfl ?_
              refine qv (yAsgn (v := .int .i64 _) rfl) rfl rfl ?_
              refine QL.nil ?_
              have hel2 : ∀ x, x ∈ acc ++ [(⟨(rdNum s at_).1, ab, cb, (rdLists s (rdNum s at_).2.1).1⟩ : SX)] → RA J2 encH 2 x.a x.hs ∧ x.hs.length ≤ x.cap ∧ x.hs.length ≤ 1000 := by
                intro x hx
                rcases List.mem_append.1 hx with hx | hx
                · exact ⟨(hel x hx).1.le hJ2, (hel x hx).2⟩
                · rw [List.mem_singleton.1 hx]; exact ⟨hrb, ob.le, by have := rdLists_len (s := s) (a := (rdNum s at_).2.1); dsimp only; omega⟩
              refine TQ.lpL (k + 1, r, J2, (rdLists s (rdNum s at_).2.1).2.1, acc ++ [⟨(rdNum s at_).1, ab, cb, (rdLists s (rdNum s at_).2.1).1⟩], m4, a4, c4) (by dsimp only; omega) (by repeat (first | exact OffL.refl | refine OffL.updO rfl ?_ | refine OffL.upd rfl ?_ | refine OffL.updL rfl ?_ | refine OffL.mask rfl ?_)) ⟨rfl, rfl, rfl, trivial⟩ (fun w hw => ⟨⟨by dsimp only; omega, hJ.trans hJ2, hel2, o4, by simp [hal], by dsimp only; rw [List.map_append]; rw [rdSt_go (by omega) (by omega)] at hrd; exact hrd⟩, hw.dr⟩)
        ·
          obtain rfl : r = 0 := by omega
          have hN : rdN0 s = (acc.map absS, at_, 0) := hrd.symm
          have hD : rdD s = rdLists s at_ := by unfold rdD; rw [hN]
          refine QL.nil ?_
          refine TQ.sq ?_
          refine TC.condF rfl ?_
          refine TC.exit (TQ.sqX (TQ.lpLX (TQ.blkX (TQ.sq ?_))))
          refine TC.seq ?_
          refine TC.region ?_
          refine sv (yMove (v := str _) rfl) rfl rfl ?_
          refine sv (yMove (v := .int .i64 _) rfl) rfl rfl ?_
          refine sCall (readLists_ok _ s at_ hs) rfl rfl (fun v70 w hw => ?_)
          obtain ⟨md, ad, cd, rfl, od, hw⟩ := hw
          obtain ⟨Jd, hJd, hrd2, hw⟩ := od.freeze hw
          have hdc := od.le
          refine TL.wl ?_ hw
          refine sv (yMove (v := .tuple _) rfl) rfl rfl ?_
          refine sv (yExt rfl rfl) rfl rfl ?_
          refine sv (yExt rfl rfl) rfl rfl ?_
          refine sv (yExt rfl rfl) rfl rfl ?_
          refine sv (yAsgn (v := .slice _ _ _) rfl) rfl rfl ?_
          refine sv (yAsgn (v := .int .i64 _) rfl) rfl rfl ?_
          refine sv (yAsgn (v := .int .i64 _) rfl) rfl rfl ?_
          refine TL.nil ?_
          refine TQ.sq ?_
          refine TC.seq ?_
          refine TC.seq ?_
          refine TC.quiet rfl ?_
          refine qv (yMove (v := .int .i64 _) rfl) rfl rfl ?_
          refine qcNe rfl rfl rfl rfl (fun h70 => ?_) (fun h70 => ?_)
          ·
            refine QL.nil ?_
            refine TQ.sq ?_
            refine TC.condT rfl ?_
            refine TC.seq ?_
            refine TC.quiet rfl ?_
            refine qv (yMove (v := .int .i64 _) rfl) rfl rfl ?_
            refine qv (yAsgn (v := .pointer _) rfl) rfl rfl ?_
            refine qv (yAsgn (v := .int .i64 _) rfl) rfl rfl ?_
            refine QL.nil ?_
            refine TQ.sq ?_
            refine TC.ret (TQ.sqR ?_)
            refine TQ.post (v := .tuple ⟨[.pointer _, .int .i64 _]⟩) rfl ?_
            have hne := h70
            have e := (readS_4 (s := s) (by omega) (by omega) (by rw [hN]) (by rw [hD]; exact h70)).trans (by rw [hD])
            exact fun w hw => ⟨Jd, hJ.trans hJd, .inl ⟨by rw [e]; first | exact hne | decide, by rw [e], hw.dr⟩⟩
          ·
            refine QL.nil ?_
            refine TQ.sq ?_
            refine TC.condF rfl ?_
            refine TC.skip (TQ.sq ?_)
            refine TC.seq ?_
            refine TC.seq ?_
            refine TC.region ?_
            refine sv (yMove (v := .int .i64 _) rfl) rfl rfl ?_
            refine sv (yMove (v := str _) rfl) rfl rfl ?_
            refine sv (yStrLen ul9 rfl) rfl rfl ?_
            refine scNe rfl rfl rfl rfl (fun h76 => ?_) (fun h76 => ?_)
            ·
              refine sv (yMove (v := .bool _) rfl) rfl rfl ?_
              refine sk rfl (.inl ⟨_, _, rfl, rfl, rfl⟩) rfl ?_
              refine sk rfl (.inl ⟨_, _, rfl, rfl, rfl⟩) rfl ?_
              refine sk rfl (.inl ⟨_, _, rfl, rfl, rfl⟩) rfl ?_
              refine sv (yPickT rfl rfl) rfl rfl ?_
              refine sv (yMove (v := .bool _) rfl) rfl rfl ?_
              refine sk rfl (.inl ⟨_, _, rfl, rfl, rfl⟩) rfl ?_
              refine sk rfl (.inl ⟨_, _, rfl, rfl, rfl⟩) rfl ?_
              refine sk rfl (.inl ⟨_, _, rfl, rfl, rfl⟩) rfl ?_
              refine sv (yPickT rfl rfl) rfl rfl ?_
              refine TL.nil ?_
              refine TQ.sq ?_
              refine TC.condT rfl ?_
              refine TC.seq ?_
              refine TC.quiet rfl ?_
              refine qv (yAsgn (v := .pointer _) rfl) rfl rfl ?_
              refine qv (yAsgn (v := .int .i64 _) rfl) rfl rfl ?_
              refine QL.nil ?_
              refine TQ.sq ?_
              refine TC.ret (TQ.sqR ?_)
              refine TQ.post (v := .tuple ⟨[.pointer _, .int .i64 _]⟩) rfl ?_
              have e := readS_5 (s := s) (by omega) (by omega) (by rw [hN]) (by rw [hD]; omega) (.inl (by rw [hD]; omega))
              exact fun w hw => ⟨Jd, hJ.trans hJd, .inl ⟨by rw [e]; first | exact hne | decide, by rw [e], hw.dr⟩⟩
            ·
              refine sv (yMove (v := .bool _) rfl) rfl rfl ?_
              refine sg (yMove (v := .slice _ _ _) rfl) rfl (.inl ⟨_, _, rfl, rfl, rfl⟩) rfl ?_
              refine TL.ung rfl (.inl ⟨_, _, rfl, rfl, rfl⟩) ?_
              refine sCall (Rise_ok _ ad cd (rdLists s at_).1 (RA.sa hrd2) (by have := rdLists_len (s := s) (a := at_); omega)) rfl rfl (fun v83 w hw => ?_)
              obtain ⟨rfl, hw⟩ := hw
              refine TL.wl ?_ hw
              cases hp : plainB (rdLists s at_).1
              ·
                refine sg (yNotT rfl) rfl (.inl ⟨_, _, rfl, rfl, rfl⟩) rfl ?_
                refine sv (yPickF rfl rfl) rfl rfl ?_
                refine sv (yMove (v := .bool _) rfl) rfl rfl ?_
                refine sk rfl (.inl ⟨_, _, rfl, rfl, rfl⟩) rfl ?_
                refine sk rfl (.inl ⟨_, _, rfl, rfl, rfl⟩) rfl ?_
                refine sk rfl (.inl ⟨_, _, rfl, rfl, rfl⟩) rfl ?_
                refine sv (yPickT rfl rfl) rfl rfl ?_
                refine TL.nil ?_
                refine TQ.sq ?_
                refine TC.condT rfl ?_
                refine TC.seq ?_
                refine TC.quiet rfl ?_
                refine qv (yAsgn (v := .pointer _) rfl) rfl rfl ?_
                refine qv (yAsgn (v := .int .i64 _) rfl) rfl rfl ?_
                refine QL.nil ?_
                refine TQ.sq ?_
                refine TC.ret (TQ.sqR ?_)
                refine TQ.post (v := .tuple ⟨[.pointer _, .int .i64 _]⟩) rfl ?_
                have e := readS_5 (s := s) (by omega) (by omega) (by rw [hN]) (by rw [hD]; omega) (.inr (.inl (by rw [hD]; exact hp)))
                exact fun w hw => ⟨Jd, hJ.trans hJd, .inl ⟨by rw [e]; first | exact hne | decide, by rw [e], hw.dr⟩⟩
              ·
                refine sg (yNotF rfl) rfl (.inl ⟨_, _, rfl, rfl, rfl⟩) rfl ?_
                refine sv (yPickF rfl rfl) rfl rfl ?_
                refine sv (yMove (v := .bool _) rfl) rfl rfl ?_
                refine sg (yMove (v := .slice _ _ _) rfl) rfl (.inl ⟨_, _, rfl, rfl, rfl⟩) rfl ?_
                refine sg (ySlLen ul27 rfl) rfl (.inl ⟨_, _, rfl, rfl, rfl⟩) rfl ?_
                have hdl := rdLists_len (s := s) (a := at_)
                refine sgcGt rfl rfl rfl (.inl ⟨_, _, rfl, rfl, rfl⟩) rfl (fun h85 => ?_) (fun h85 => ?_)
                ·
                  refine sv (yPickF rfl rfl) rfl rfl ?_
                  refine TL.nil ?_
                  refine TQ.sq ?_
                  refine TC.condT rfl ?_
                  refine TC.seq ?_
                  refine TC.quiet rfl ?_
                  refine qv (yAsgn (v := .pointer _) rfl) rfl rfl ?_
                  refine qv (yAsgn (v := .int .i64 _) rfl) rfl rfl ?_
                  refine QL.nil ?_
                  refine TQ.sq ?_
                  refine TC.ret (TQ.sqR ?_)
                  refine TQ.post (v := .tuple ⟨[.pointer _, .int .i64 _]⟩) rfl ?_
                  have e := readS_5 (s := s) (by omega) (by omega) (by rw [hN]) (by rw [hD]; omega) (.inr (.inr (by rw [hD]; omega)))
                  exact fun w hw => ⟨Jd, hJ.trans hJd, .inl ⟨by rw [e]; first | exact hne | decide, by rw [e], hw.dr⟩⟩
                ·
                  have h5 : ¬ ((rdD s).2.1 ≠ s.length ∨ plainB (rdD s).1 = false ∨ 256 < (rdD s).1.length) := by
                    rw [hD]
                    rintro (h | h | h)
                    · have := rdLists_le (s := s) (a := at_) (by omega); omega
                    · rw [hp] at h; cases h
                    · omega
                  refine sv (yPickF rfl rfl) rfl rfl ?_
                  refine TL.nil ?_
                  refine TQ.sq ?_
                  refine TC.condF rfl ?_
                  refine TC.skip (TQ.sq ?_)
                  refine TC.seq ?_
                  refine TC.region ?_
                  refine sv (yMove (v := .slice _ _ _) rfl) rfl rfl ?_
                  refine sv (yBuild (vs := [.slice _ _ _, .slice _ _ _]) ti29 pl29 rfl) rfl rfl ?_
                  refine sBox (vs := [.slice _ _ _, .slice _ _ _]) rfl rfl rfl (fun p => ?_)
                  refine sv (yAsgn (v := .pointer _) rfl) rfl rfl ?_
                  refine TL.nil ?_
                  refine TQ.sq ?_
                  refine TC.seq ?_
                  refine TC.seq ?_
                  refine TC.quiet rfl ?_
                  refine qv (yAsgn (v := .int .i64 _) rfl) rfl rfl ?_
                  refine QL.nil ?_
                  refine TQ.sq ?_
                  refine TC.block ?_
                  have hB0 := BI.dead0 (dead := (rdLists s at_).1) hp (by omega)
                  refine TC.loopL (ι := (Nat) × (Im) × (Option Addr) × (Nat) × (List SX)) [2, 3, 19, 94, 95, 96, 97, 98, 99, 100, 101, 102, 103, 104, 105, 106, 107, 108, 109, 110, 111, 112] (fun ⟨i, J3, a1, c1, xs⟩ => [(19, .int .i64 (i : Int))]) (fun ⟨i, J3, a1, c1, xs⟩ w => (i ≤ acc.length ∧ Le Jd J3 ∧ SL J3 a1 xs ∧ xs.length ≤ c1 ∧ xs.map absS = (acc.map absS).take i ∧ BI (xs.map absS) (rdLists s at_).1 ∧ addsB (rdLists s at_).1 ((acc.map absS).drop i) (xs.map absS) = addsB (rdLists s at_).1 (acc.map absS) []) ∧ St c J3 ((p, (bkO 29 a1 xs.length c1 ad (rdLists s at_).1.length cd)) :: (m ++ l)) w) (fun ⟨i, J3, a1, c1, xs⟩ => acc.length - i) (0, Jd, none, 0, []) ⟨rfl, trivial⟩ (fun w hw => ⟨⟨by omega, Le.refl _, ⟨RA.nil _, fun x hx => absurd hx (by simp), by simp⟩, by simp, rfl, hB0, rfl⟩, hw.dr⟩) ?_
                  rintro g1 ⟨i, J3, a1, c1, xs⟩
                  dsimp only
                  refine TC.pure fun ⟨hi, hJ3, hS, hc1, hxs, hB, had⟩ => ?_
                  refine TC.seq ?_
                  refine TC.seq ?_
                  refine TC.quiet rfl ?_
                  refine qv (yMove (v := .int .i64 _) rfl) rfl rfl ?_
                  refine qv (yMove (v := .slice _ _ _) rfl) rfl rfl ?_
                  refine qv (ySlLen ul26 rfl) rfl rfl ?_
                  refine qcLt rfl rfl rfl rfl (fun h93 => ?_) (fun h93 => ?_)
                  ·
                    obtain ⟨x, hxi⟩ := getSome (xs := acc) (k := i) (by omega)
                    have hxe := hel x (getMem hxi)
                    have hBl := hB.len
                    simp only [List.length_map] at hBl
                    have hBd := hB.lend
                    refine QL.nil ?_
                    refine TQ.sq ?_
                    refine TC.condT rfl ?_
                    refine TC.skip (TQ.sq ?_)
                    refine TC.seq ?_
                    refine TC.block ?_
                    refine TC.seq ?_
                    refine TC.held (St c J3 (m ++ l)) 13 (.q 0 (.q 1 (.q 2 (.q 3 (.q 4 (.q 5 (.q 6 (.q 7 (.q 8 (.q 9 (.q 10 (.x 11 (.q 12 .done))))))))))))) (fun _ _ h => h.drawn _) mixed rfl (by kernel_rfl) (by kernel_rfl) ?_
                    refine Go.E.hq rfl (yMove (v := .pointer _) rfl) rfl rfl (by first | exact Wk.w | exact fun w hw => (hw.le (by assumption)).dr) ?_
                    refine Go.E.hq rfl (yMove (v := .slice _ _ _) rfl) rfl rfl (by first | exact Wk.w | exact fun w hw => (hw.le (by assumption)).dr) ?_
                    refine Go.E.hq rfl (yMove (v := .int .i64 _) rfl) rfl rfl (by first | exact Wk.w | exact fun w hw => (hw.le (by assumption)).dr) ?_
                    refine hElF rfl rfl rfl (v := .int .i64 _) ul26 ti66 fld66_0 ti3 (by decide) rfl (OA.fm ho) rfl (by omega) (by omega) (flat_cell (enc := encS) (k := 2) (fun _ => rfl) (by simpa using hxi) (by decide) rfl) rfl (fun _ => rfl) (fun _ _ => rfl) rfl rfl rfl (by first | exact Wk.w | exact fun w hw => (hw.le (by assumption)).dr) (fun _ _ => ?_)
                    refine Go.E.hq rfl (yMove (v := .slice _ _ _) rfl) rfl rfl (by first | exact Wk.w | exact fun w hw => (hw.le (by assumption)).dr) ?_
                    refine Go.E.hq rfl (yMove (v := .int .i64 _) rfl) rfl rfl (by first | exact Wk.w | exact fun w hw => (hw.le (by assumption)).dr) ?_
                    refine hElF rfl rfl rfl (v := .slice _ _ _) ul26 ti66 fld66_1 ti27 (by decide) rfl (OA.fm ho) rfl (by omega) (by omega) (flat_cell (enc := encS) (k := 2) (fun _ => rfl) (by simpa using hxi) (by decide) rfl) rfl (fun _ => rfl) (fun _ _ => rfl) rfl rfl rfl (by first | exact Wk.w | exact fun w hw => (hw.le (by assumption)).dr) (fun _ _ => ?_)
                    refine Go.E.hx rfl ?_
                    refine sCallG [[(p, (bkO 29 a1 xs.length c1 ad (rdLists s at_).1.length cd))]] (RAdd_ok _ p a1 c1 xs ad cd (rdLists s at_).1 x.n x.a x.cap x.hs hS hc1 (by omega) (hrd2.le hJ3) hdc (by omega) ((hxe.1.le hJd).le hJ3) (by omega)) rfl rfl (fun v111 w hw => ?_)
                    obtain ⟨J4, a3, c3, ys, hJ4, rfl, hS4, hc4, hys, hw⟩ := hw
                    try simp only [catL, List.append_eq, List.nil_append] at hw
                    refine TL.wl ?_ hw
                    refine Go.E.hn (fun _ => by exact (by first | exact Wk.w | exact fun w hw => (hw.le (by assumption)).dr)) ?_
                    refine hcNe rfl rfl rfl rfl rfl (by first | exact Wk.w | exact fun w hw => (hw.le (by assumption)).dr) (fun h102 => ?_) (fun h102 => ?_)
                    ·
                      have hnz : ¬ addR (xs.map absS) (rdLists s at_).1 x.n x.hs = 0 := h102
                      refine TQ.sq ?_
                      refine TC.condT rfl ?_
                      refine TC.seq ?_
                      refine TC.quiet rfl ?_
                      refine qv (yAsgn (v := .pointer _) rfl) rfl rfl ?_
                      refine qv (yAsgn (v := .int .i64 _) rfl) rfl rfl ?_
                      refine QL.nil ?_
                      refine TQ.sq ?_
                      refine TC.ret (TQ.blkR (TQ.sqR (TQ.lpLR (TQ.blkR (TQ.sqR ?_)))))
                      refine TQ.post (v := .tuple ⟨[.pointer _, .int .i64 _]⟩) rfl ?_
                      have h6 : addsB (rdD s).1 (rdN0 s).1 [] = false := by rw [hD, hN]; show addsB (rdLists s at_).1 (acc.map absS) [] = false; rw [← had, addsB_at (map_at absS hxi), decide_eq_false (show ¬ addR (xs.map absS) (rdLists s at_).1 (absS x).1 (absS x).2 = 0 from hnz)]; rfl
                      have e := readS_6 (by omega) (by omega) (by rw [hN]) (by rw [hD]; omega) h5 h6
                      exact fun w hw => ⟨J4, hJ.trans (hJd.trans (hJ3.trans hJ4)), .inl ⟨by rw [e]; decide, by rw [e], hw.dr⟩⟩
                    ·
                      refine TQ.sq ?_
                      refine TC.condF rfl ?_
                      refine TC.skip (TQ.blk (TQ.sq ?_))
                      refine TC.quiet rfl ?_
                      refine qv (yMove (v := .int .i64 _) rfl) rfl rfl ?_
                      refine qv (yAdd rfl rfl (by omega)) rfl rfl ?_
                      refine qv (yAsgn (v := .int .i64 _) rfl) rfl rfl ?_
                      refine QL.nil ?_
                      have hz : addR (xs.map absS) (rdLists s at_).1 x.n x.hs = 0 := by omega
                      rw [if_pos (by omega)] at hys
                      refine TQ.lpL (i + 1, J4, a3, c3, ys) (by first | omega | (dsimp only; omega)) (by repeat (first | exact OffL.refl | refine OffL.updO rfl ?_ | refine OffL.upd rfl ?_ | refine OffL.updL rfl ?_ | refine OffL.mask rfl ?_)) ⟨rfl, trivial⟩ (fun w hw => ⟨⟨by dsimp only; omega, hJ3.trans hJ4, hS4, hc4, by dsimp only; rw [hys, hxs, take_snoc (map_at absS hxi)]; rfl, by dsimp only; rw [hys]; exact hB.add hz, by dsimp only; rw [hys, ← had, addsB_at (map_at absS hxi), decide_eq_true (show addR (xs.map absS) (rdLists s at_).1 (absS x).1 (absS x).2 = 0 from hz)]; rfl⟩, hw.dr⟩)
                  ·
                    refine QL.nil ?_
                    refine TQ.sq ?_
                    refine TC.condF rfl ?_
                    refine TC.exit (TQ.sqX (TQ.lpLX (TQ.blkX (TQ.sq ?_))))
                    refine TC.seq ?_
                    refine TC.quiet rfl ?_
                    refine qv (yMove (v := .pointer _) rfl) rfl rfl ?_
                    refine qv (yAsgn (v := .pointer _) rfl) rfl rfl ?_
                    refine qv (yAsgn (v := .int .i64 _) rfl) rfl rfl ?_
                    refine QL.nil ?_
                    refine TQ.sq ?_
                    refine TC.ret ?_
                    refine TQ.post (v := .tuple ⟨[.pointer _, .int .i64 _]⟩) rfl ?_
                    obtain rfl : i = acc.length := by omega
                    have h6 : addsB (rdD s).1 (rdN0 s).1 [] = true := by rw [hD, hN]; show addsB (rdLists s at_).1 (acc.map absS) [] = true; rw [← had, addsB_end (by simp)]
                    have e : readS s = (0, acc.map absS, (rdLists s at_).1) := by rw [readS_0 (by omega) (by omega) (by rw [hN]) (by rw [hD]; omega) h5 h6, hN, hD]
                    have hxe2 : xs.map absS = acc.map absS := by rw [hxs, List.take_of_length_le (by simp)]
                    exact fun w hw => ⟨J3, hJ.trans (hJd.trans hJ3), .inr ⟨by rw [e], p, a1, c1, xs, ad, cd, by rfl, hS, hc1, by rw [e]; exact hrd2.le hJ3, by rw [e]; exact hxe2, by rw [e]; exact hdc, by rw [e]; exact hw.dr⟩⟩
end Go.Proofs.Ytfiambcocnceiaa
