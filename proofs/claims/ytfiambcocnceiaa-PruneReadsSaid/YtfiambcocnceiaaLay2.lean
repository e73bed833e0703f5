import Derived.Test.YtfiambcocnceiaaLay
set_option linter.unusedVariables false
set_option maxRecDepth 100000
namespace Go.Proofs.Ytfiambcocnceiaa
open Go Go.E

theorem u64rng (z : Int) : 0 ≤ IntKind.u64.wrap z ∧ IntKind.u64.wrap z ≤ 18446744073709551615 := by
  simp [IntKind.wrap, IntKind.bits, IntKind.signed]; omega
theorem u64u {z : Int} : IntKind.u64.wrap z = z % 18446744073709551616 := by simp [IntKind.wrap, IntKind.bits, IntKind.signed]
theorem u64negi {z : Int} (h : 0 ≤ z) (h1 : z ≤ 9223372036854775808) : IntKind.i64.wrap (IntKind.u64.wrap (0 - z)) = -z := by
  rw [u64u]
  by_cases h0 : z = 0
  · subst h0; decide
  · have : (0 - z) % 18446744073709551616 = 18446744073709551616 - z := by omega
    rw [this]
    simp [IntKind.wrap, IntKind.bits, IntKind.signed]
    split <;> omega
theorem runQuo {m d : Int} (h0 : 0 ≤ d) (h1 : d ≤ 9) (h2 : 9 ≤ m) (h3 : m ≤ 9223372036854775808) : IntKind.u64.wrap ((m - d).tdiv 10) = (m - d) / 10 := by
  rw [Int.tdiv_eq_ediv_of_nonneg (by omega)]; exact u64in ⟨by omega, by omega⟩
theorem quoMin {d : Int} (h0 : 0 ≤ d) (h1 : d ≤ 9) : IntKind.i64.wrap ((-9223372036854775808 + d).tdiv 10) = -((9223372036854775808 - d) / 10) := by
  have : (-9223372036854775808 + d).tdiv 10 = -((9223372036854775808 - d) / 10) := by
    rw [show (-9223372036854775808 + d) = -(9223372036854775808 - d) from by omega, Int.neg_tdiv, Int.tdiv_eq_ediv_of_nonneg (by omega)]
  rw [this]; exact i64in ⟨by omega, by omega⟩
theorem cut_zero {s : List UInt8} {f e : Nat} (h : f ≤ e) (h1 : e ≤ s.length) : (s.drop f).take (e - f) = [48] ↔ e = f + 1 ∧ s[f]? = some 48 := by
  constructor
  · intro hh
    have hl := congrArg List.length hh
    simp at hl
    have he : e = f + 1 := by omega
    refine ⟨he, ?_⟩
    have := congrArg (fun l => l[0]?) hh
    simp [he] at this
    exact this
  · rintro ⟨rfl, h2⟩
    obtain ⟨h3, h4⟩ := List.getElem?_eq_some_iff.1 h2
    rw [List.drop_eq_getElem_cons h3, h4]
    simp
theorem endD_not (s : List UInt8) (i : Nat) (u : UInt8) (h : s[endD s i]? = some u) : isD u = false := by
  rw [endD] at h; split at h
  · rename_i hl
    split at h
    · exact endD_not s (i + 1) u h
    · rename_i hd; rw [List.getElem?_eq_getElem hl] at h; cases h; simpa using hd
  · rename_i hl; rw [List.getElem?_eq_none (by omega)] at h; cases h
termination_by s.length - i
theorem runVal {n d most : Int} {nv : Nat} (hn : (nv : Int) * 10 + d ≤ most) (h : (nv : Int) ≤ most → n = nv) (h0 : 0 ≤ d) (hm : most ≤ 9223372036854775808) : IntKind.u64.wrap (IntKind.u64.wrap (n * 10) + d) = nv * 10 + d := by
  rw [h (by omega), u64in (z := (nv : Int) * 10) ⟨by omega, by omega⟩, u64in ⟨by omega, by omega⟩]

theorem Lrun_ok {c : Cx} {I : Im} (l : Ow) (s : List UInt8) (i : Nat) (most : Int) (hi : i ≤ s.length) (hs : s.length ≤ 1000000000000) (hm1 : 9 ≤ most) (hm2 : most ≤ 9223372036854775808) : Ct Try.prog 38 [str s, .int .i64 i, .int .u64 most] (St c I l) fun v w => ∃ n : Int, v = .tuple ⟨[.int .i64 (endD s i), .int .u64 n, .bool (decide ((valD s i 0 : Int) ≤ most))]⟩ ∧ (0 ≤ n ∧ n ≤ 18446744073709551615) ∧ ((valD s i 0 : Int) ≤ most → n = valD s i 0) ∧ St c I l w := by
  refine Ct.enter (n := 48) Try.func38 rfl rfl rfl rfl rfl rfl ?_
  refine TC.seq ?_
  refine TC.quiet rfl ?_
  refine qv (yAsgn (v := .int .i64 _) rfl) rfl rfl ?_
  refine qv (yAsgn (v := .int .u64 _) rfl) rfl rfl ?_
  refine qv (yAsgn (v := .bool _) rfl) rfl rfl ?_
  refine QL.nil ?_
  refine TQ.sq ?_
  refine TC.seq ?_
  refine TC.quiet rfl ?_
  refine qv (yAsgn (v := .int .u64 _) rfl) rfl rfl ?_
  refine qv (yAsgn (v := .bool _) rfl) rfl rfl ?_
  refine QL.nil ?_
  refine TQ.sq ?_
  refine TC.seq ?_
  refine TC.block ?_
  refine TC.loopL (ι := (Nat) × (Int) × (Bool) × (Nat)) [1, 9, 10, 11, 12, 13, 14, 15, 16, 17, 18, 19, 20, 21, 22, 23, 24, 25, 26, 27, 28, 29, 30, 31, 32, 33, 34, 35, 36, 37, 38, 39, 40, 41, 42, 43, 44] (fun ⟨k, n, ok, nv⟩ => [(1, .int .i64 (k : Int)), (9, .int .u64 n), (10, .bool ok)]) (fun ⟨k, n, ok, nv⟩ w => (k ≤ s.length ∧ endD s k = endD s i ∧ valD s k nv = valD s i 0 ∧ (0 ≤ n ∧ n ≤ 18446744073709551615) ∧ ok = decide ((nv : Int) ≤ most) ∧ ((nv : Int) ≤ most → n = nv)) ∧ St c I l w) (fun ⟨k, n, ok, nv⟩ => s.length - k) (i, 0, true, 0) ⟨rfl, rfl, rfl, trivial⟩ (fun w hw => ⟨⟨hi, rfl, rfl, by omega, by symm; simp; omega, fun _ => rfl⟩, hw⟩) ?_
  rintro g0 ⟨k, n, ok, nv⟩
  dsimp only
  refine TC.pure fun ⟨hk, he, hv, hn, hok, hnv⟩ => ?_
  refine TC.seq ?_
  refine TC.seq ?_
  refine TC.quiet rfl ?_
  refine qv (yMove (v := .int .i64 _) rfl) rfl rfl ?_
  refine qv (yMove (v := str _) rfl) rfl rfl ?_
  refine qv (yStrLen ul9 rfl) rfl rfl ?_
  refine qcLt rfl rfl rfl rfl (fun h15 => ?_) (fun h15 => ?_)
  ·
    refine qv (yMove (v := .bool _) rfl) rfl rfl ?_
    refine qv (yMove (v := str _) rfl) (.inl ⟨_, _, rfl, rfl, rfl⟩) rfl ?_
    refine qv (yMove (v := .int .i64 _) rfl) (.inl ⟨_, _, rfl, rfl, rfl⟩) rfl ?_
    obtain ⟨u, hu⟩ := idx_some (s := s) (i := (k : Int)) (by omega) (by omega)
    refine qv (yStrIdx ul9 rfl rfl (by omega) hu) (.inl ⟨_, _, rfl, rfl, rfl⟩) rfl ?_
    refine qcGe rfl rfl (.inl ⟨_, _, rfl, rfl, rfl⟩) rfl (fun h20 => ?_) (fun h20 => ?_)
    ·
      refine qv (yPickT rfl rfl) rfl rfl ?_
      refine qv (yMove (v := .bool _) rfl) rfl rfl ?_
      refine qv (yMove (v := str _) rfl) (.inl ⟨_, _, rfl, rfl, rfl⟩) rfl ?_
      refine qv (yMove (v := .int .i64 _) rfl) (.inl ⟨_, _, rfl, rfl, rfl⟩) rfl ?_
      refine qv (yStrIdx ul9 rfl rfl (by omega) hu) (.inl ⟨_, _, rfl, rfl, rfl⟩) rfl ?_
      refine qcLe rfl rfl (.inl ⟨_, _, rfl, rfl, rfl⟩) rfl (fun h26 => ?_) (fun h26 => ?_)
      ·
        refine qv (yPickT rfl rfl) rfl rfl ?_
        refine QL.nil ?_
        refine TQ.sq ?_
        refine TC.condT rfl ?_
        refine TC.skip (TQ.sq ?_)
        refine TC.block ?_
        refine TC.seq ?_
        refine TC.quiet rfl ?_
        refine qv (yMove (v := str _) rfl) rfl rfl ?_
        refine qv (yMove (v := .int .i64 _) rfl) rfl rfl ?_
        refine qv (yStrIdx ul9 rfl rfl (by omega) hu) rfl rfl ?_
        refine qv (ySubK rfl rfl (u8in (by omega))) rfl rfl ?_
        refine qv (yConvI ul75 ul5 rfl (u64in (by omega))) rfl rfl ?_
        refine qv (yAsgn (v := .int .u64 _) rfl) rfl rfl ?_
        refine QL.nil ?_
        refine TQ.sq ?_
        refine TC.seq ?_
        refine TC.seq ?_
        refine TC.quiet rfl ?_
        refine qv (yMove (v := .int .u64 _) rfl) rfl rfl ?_
        refine qv (yMove (v := .int .u64 _) rfl) rfl rfl ?_
        refine qv (yMove (v := .int .u64 _) rfl) rfl rfl ?_
        refine qv (ySubK rfl rfl (u64in (by omega))) rfl rfl ?_
        refine qv (yQuoK rfl rfl (by decide) (runQuo (by omega) (by omega) hm1 hm2)) rfl rfl ?_
        refine qcGt rfl rfl rfl rfl (fun h38 => ?_) (fun h38 => ?_)
        ·
          refine QL.nil ?_
          refine TQ.sq ?_
          refine TC.condT rfl ?_
          refine TC.quiet rfl ?_
          refine qv (yAsgn (v := .bool _) rfl) rfl rfl ?_
          refine QL.nil ?_
          refine TQ.sq ?_
          refine TC.seq ?_
          refine TC.quiet rfl ?_
          refine qv (yMove (v := .int .u64 _) rfl) rfl rfl ?_
          refine qv (yMulK rfl rfl rfl) rfl rfl ?_
          refine qv (yMove (v := .int .u64 _) rfl) rfl rfl ?_
          refine qv (yAddK rfl rfl rfl) rfl rfl ?_
          refine qv (yAsgn (v := .int .u64 _) rfl) rfl rfl ?_
          refine QL.nil ?_
          refine TQ.sq ?_
          refine TC.quiet rfl ?_
          refine qv (yMove (v := .int .i64 _) rfl) rfl rfl ?_
          refine qv (yAdd rfl rfl (by omega)) rfl rfl ?_
          refine qv (yAsgn (v := .int .i64 _) rfl) rfl rfl ?_
          refine QL.nil ?_
          refine TQ.blk ?_
          have hD : isD u = true := isD_iff.2 ⟨h20, h26⟩
          have hu2 : s[k]? = some u := by simpa using hu
          have hc2 : ((nv * 10 + (u.toNat - 48) : Nat) : Int) = nv * 10 + ((u.toNat : Int) - 48) := by omega
          have hp : k + 1 ≤ s.length ∧ endD s (k + 1) = endD s i ∧ valD s (k + 1) (nv * 10 + (u.toNat - 48)) = valD s i 0 ∧ (0 ≤ IntKind.u64.wrap (IntKind.u64.wrap (n * 10) + ((u.toNat : Int) - 48)) ∧ IntKind.u64.wrap (IntKind.u64.wrap (n * 10) + ((u.toNat : Int) - 48)) ≤ 18446744073709551615) ∧ false = decide (((nv * 10 + (u.toNat - 48) : Nat) : Int) ≤ most) ∧ (((nv * 10 + (u.toNat - 48) : Nat) : Int) ≤ most → IntKind.u64.wrap (IntKind.u64.wrap (n * 10) + ((u.toNat : Int) - 48)) = ((nv * 10 + (u.toNat - 48) : Nat) : Int)) := by
            refine ⟨by omega, (endD_step hu2 hD).symm.trans he, (valD_step hu2 hD).symm.trans hv, u64rng _, ?_, fun hle => ?_⟩
            · rw [hc2]; symm; rw [decide_eq_false_iff_not]; intro hle; have := hnv (by omega); omega
            · rw [hc2] at hle ⊢; exact runVal hle hnv (by omega) hm2
          refine TQ.lpL (k + 1, IntKind.u64.wrap (IntKind.u64.wrap (n * 10) + ((u.toNat : Int) - 48)), false, nv * 10 + (u.toNat - 48)) (by first | omega | (dsimp only; omega)) (by repeat (first | exact OffL.refl | refine OffL.updO rfl ?_ | refine OffL.upd rfl ?_ | refine OffL.updL rfl ?_ | refine OffL.mask rfl ?_)) ⟨rfl, rfl, rfl, trivial⟩ (fun w hw => ⟨hp, hw⟩)
        ·
          refine QL.nil ?_
          refine TQ.sq ?_
          refine TC.condF rfl ?_
          refine TC.skip (TQ.sq ?_)
          refine TC.seq ?_
          refine TC.quiet rfl ?_
          refine qv (yMove (v := .int .u64 _) rfl) rfl rfl ?_
          refine qv (yMulK rfl rfl rfl) rfl rfl ?_
          refine qv (yMove (v := .int .u64 _) rfl) rfl rfl ?_
          refine qv (yAddK rfl rfl rfl) rfl rfl ?_
          refine qv (yAsgn (v := .int .u64 _) rfl) rfl rfl ?_
          refine QL.nil ?_
          refine TQ.sq ?_
          refine TC.quiet rfl ?_
          refine qv (yMove (v := .int .i64 _) rfl) rfl rfl ?_
          refine qv (yAdd rfl rfl (by omega)) rfl rfl ?_
          refine qv (yAsgn (v := .int .i64 _) rfl) rfl rfl ?_
          refine QL.nil ?_
          refine TQ.blk ?_
          have hD : isD u = true := isD_iff.2 ⟨h20, h26⟩
          have hu2 : s[k]? = some u := by simpa using hu
          have hc2 : ((nv * 10 + (u.toNat - 48) : Nat) : Int) = nv * 10 + ((u.toNat : Int) - 48) := by omega
          have hp : k + 1 ≤ s.length ∧ endD s (k + 1) = endD s i ∧ valD s (k + 1) (nv * 10 + (u.toNat - 48)) = valD s i 0 ∧ (0 ≤ IntKind.u64.wrap (IntKind.u64.wrap (n * 10) + ((u.toNat : Int) - 48)) ∧ IntKind.u64.wrap (IntKind.u64.wrap (n * 10) + ((u.toNat : Int) - 48)) ≤ 18446744073709551615) ∧ ok = decide (((nv * 10 + (u.toNat - 48) : Nat) : Int) ≤ most) ∧ (((nv * 10 + (u.toNat - 48) : Nat) : Int) ≤ most → IntKind.u64.wrap (IntKind.u64.wrap (n * 10) + ((u.toNat : Int) - 48)) = ((nv * 10 + (u.toNat - 48) : Nat) : Int)) := by
            refine ⟨by omega, (endD_step hu2 hD).symm.trans he, (valD_step hu2 hD).symm.trans hv, u64rng _, ?_, fun hle => ?_⟩
            · rw [hok, hc2]; by_cases hle : (nv : Int) ≤ most <;> simp [hle] <;> (try have := hnv hle) <;> omega
            · rw [hc2] at hle ⊢; exact runVal hle hnv (by omega) hm2
          refine TQ.lpL (k + 1, IntKind.u64.wrap (IntKind.u64.wrap (n * 10) + ((u.toNat : Int) - 48)), ok, nv * 10 + (u.toNat - 48)) (by first | omega | (dsimp only; omega)) (by repeat (first | exact OffL.refl | refine OffL.updO rfl ?_ | refine OffL.upd rfl ?_ | refine OffL.updL rfl ?_ | refine OffL.mask rfl ?_)) ⟨rfl, rfl, rfl, trivial⟩ (fun w hw => ⟨hp, hw⟩)
      ·
        refine qv (yPickT rfl rfl) rfl rfl ?_
        refine QL.nil ?_
        refine TQ.sq ?_
        refine TC.condF rfl ?_
        refine TC.exit (TQ.sqX (TQ.lpLX (TQ.blkX (TQ.sq ?_))))
        refine TC.seq ?_
        refine TC.quiet rfl ?_
        refine qv (yMove (v := .int .i64 _) rfl) rfl rfl ?_
        refine qv (yMove (v := .int .u64 _) rfl) rfl rfl ?_
        refine qv (yMove (v := .bool _) rfl) rfl rfl ?_
        refine qv (yAsgn (v := .int .i64 _) rfl) rfl rfl ?_
        refine qv (yAsgn (v := .int .u64 _) rfl) rfl rfl ?_
        refine qv (yAsgn (v := .bool _) rfl) rfl rfl ?_
        refine QL.nil ?_
        refine TQ.sq ?_
        refine TC.ret ?_
        refine TQ.post (v := .tuple ⟨[.int .i64 _, .int .u64 _, .bool _]⟩) rfl ?_
        have h2 := notD_hi h26
        rw [endD_stop (i := k) (fun v hv => by rw [show s[k]? = some u from by simpa using hu] at hv; cases hv; exact h2)] at he
        rw [valD_stop (i := k) (fun v hv => by rw [show s[k]? = some u from by simpa using hu] at hv; cases hv; exact h2)] at hv
        subst hv; exact fun w hw => ⟨n, by rw [hok, he], hn, hnv, hw⟩
    ·
      refine qv (yPickT rfl rfl) rfl rfl ?_
      refine qv (yMove (v := .bool _) rfl) rfl rfl ?_
      refine qk (.inl ⟨_, _, rfl, rfl, rfl⟩) rfl ?_
      refine qk (.inl ⟨_, _, rfl, rfl, rfl⟩) rfl ?_
      refine qk (.inl ⟨_, _, rfl, rfl, rfl⟩) rfl ?_
      refine qk (.inl ⟨_, _, rfl, rfl, rfl⟩) rfl ?_
      refine qv (yPickF rfl rfl) rfl rfl ?_
      refine QL.nil ?_
      refine TQ.sq ?_
      refine TC.condF rfl ?_
      refine TC.exit (TQ.sqX (TQ.lpLX (TQ.blkX (TQ.sq ?_))))
      refine TC.seq ?_
      refine TC.quiet rfl ?_
      refine qv (yMove (v := .int .i64 _) rfl) rfl rfl ?_
      refine qv (yMove (v := .int .u64 _) rfl) rfl rfl ?_
      refine qv (yMove (v := .bool _) rfl) rfl rfl ?_
      refine qv (yAsgn (v := .int .i64 _) rfl) rfl rfl ?_
      refine qv (yAsgn (v := .int .u64 _) rfl) rfl rfl ?_
      refine qv (yAsgn (v := .bool _) rfl) rfl rfl ?_
      refine QL.nil ?_
      refine TQ.sq ?_
      refine TC.ret ?_
      refine TQ.post (v := .tuple ⟨[.int .i64 _, .int .u64 _, .bool _]⟩) rfl ?_
      have h2 := notD_lo h20
      rw [endD_stop (i := k) (fun v hv => by rw [show s[k]? = some u from by simpa using hu] at hv; cases hv; exact h2)] at he
      rw [valD_stop (i := k) (fun v hv => by rw [show s[k]? = some u from by simpa using hu] at hv; cases hv; exact h2)] at hv
      subst hv; exact fun w hw => ⟨n, by rw [hok, he], hn, hnv, hw⟩
  ·
    refine qv (yMove (v := .bool _) rfl) rfl rfl ?_
    refine qk (.inl ⟨_, _, rfl, rfl, rfl⟩) rfl ?_
    refine qk (.inl ⟨_, _, rfl, rfl, rfl⟩) rfl ?_
    refine qk (.inl ⟨_, _, rfl, rfl, rfl⟩) rfl ?_
    refine qk (.inl ⟨_, _, rfl, rfl, rfl⟩) rfl ?_
    refine qv (yPickF rfl rfl) rfl rfl ?_
    refine qv (yMove (v := .bool _) rfl) rfl rfl ?_
    refine qk (.inl ⟨_, _, rfl, rfl, rfl⟩) rfl ?_
    refine qk (.inl ⟨_, _, rfl, rfl, rfl⟩) rfl ?_
    refine qk (.inl ⟨_, _, rfl, rfl, rfl⟩) rfl ?_
    refine qk (.inl ⟨_, _, rfl, rfl, rfl⟩) rfl ?_
    refine qv (yPickF rfl rfl) rfl rfl ?_
    refine QL.nil ?_
    refine TQ.sq ?_
    refine TC.condF rfl ?_
    refine TC.exit (TQ.sqX (TQ.lpLX (TQ.blkX (TQ.sq ?_))))
    refine TC.seq ?_
    refine TC.quiet rfl ?_
    refine qv (yMove (v := .int .i64 _) rfl) rfl rfl ?_
    refine qv (yMove (v := .int .u64 _) rfl) rfl rfl ?_
    refine qv (yMove (v := .bool _) rfl) rfl rfl ?_
    refine qv (yAsgn (v := .int .i64 _) rfl) rfl rfl ?_
    refine qv (yAsgn (v := .int .u64 _) rfl) rfl rfl ?_
    refine qv (yAsgn (v := .bool _) rfl) rfl rfl ?_
    refine QL.nil ?_
    refine TQ.sq ?_
    refine TC.ret ?_
    refine TQ.post (v := .tuple ⟨[.int .i64 _, .int .u64 _, .bool _]⟩) rfl ?_
    rw [endD_stop (i := k) (fun v hv => by have := (List.getElem?_eq_some_iff.1 hv).1; omega)] at he
    rw [valD_stop (i := k) (fun v hv => by have := (List.getElem?_eq_some_iff.1 hv).1; omega)] at hv
    subst hv; exact fun w hw => ⟨n, by rw [hok, he], hn, hnv, hw⟩
theorem LReadNumber_ok {c : Cx} {I : Im} (l : Ow) (s : List UInt8) (a : Int) (hs : s.length ≤ 1000000000000) : Ct Try.prog 18 [str s, .int .i64 a] (St c I l) fun v w => v = V3 (rdNum s a) ∧ St c I l w := by
  refine Ct.enter (n := 80) Try.func18 rfl rfl rfl rfl rfl rfl ?_
  refine TC.seq ?_
  refine TC.quiet rfl ?_
  refine qv (yAsgn (v := .int .i64 _) rfl) rfl rfl ?_
  refine qv (yAsgn (v := .int .i64 _) rfl) rfl rfl ?_
  refine qv (yAsgn (v := .int .i64 _) rfl) rfl rfl ?_
  refine QL.nil ?_
  refine TQ.sq ?_
  refine TC.seq ?_
  refine TC.seq ?_
  refine TC.quiet rfl ?_
  refine qv (yMove (v := .int .i64 _) rfl) rfl rfl ?_
  refine qcLt rfl rfl rfl rfl (fun h14 => ?_) (fun h14 => ?_)
  ·
    refine qv (yMove (v := .bool _) rfl) rfl rfl ?_
    refine qk (.inl ⟨_, _, rfl, rfl, rfl⟩) rfl ?_
    refine qk (.inl ⟨_, _, rfl, rfl, rfl⟩) rfl ?_
    refine qk (.inl ⟨_, _, rfl, rfl, rfl⟩) rfl ?_
    refine qk (.inl ⟨_, _, rfl, rfl, rfl⟩) rfl ?_
    refine qv (yPickT rfl rfl) rfl rfl ?_
    refine QL.nil ?_
    refine TQ.sq ?_
    refine TC.condT rfl ?_
    refine TC.seq ?_
    refine TC.quiet rfl ?_
    refine qv (yAsgn (v := .int .i64 _) rfl) rfl rfl ?_
    refine qv (yAsgn (v := .int .i64 _) rfl) rfl rfl ?_
    refine qv (yAsgn (v := .int .i64 _) rfl) rfl rfl ?_
    refine QL.nil ?_
    refine TQ.sq ?_
    refine TC.ret (TQ.sqR ?_)
    refine TQ.post (v := .tuple ⟨[.int .i64 _, .int .i64 _, .int .i64 _]⟩) rfl ?_
    exact fun w hw => ⟨by rw [rdNum_range (by omega)]; rfl, hw⟩
  ·
    refine qv (yMove (v := .bool _) rfl) rfl rfl ?_
    refine qv (yMove (v := .int .i64 _) rfl) (.inl ⟨_, _, rfl, rfl, rfl⟩) rfl ?_
    refine qv (yMove (v := str _) rfl) (.inl ⟨_, _, rfl, rfl, rfl⟩) rfl ?_
    refine qv (yStrLen ul9 rfl) (.inl ⟨_, _, rfl, rfl, rfl⟩) rfl ?_
    refine qcGt rfl rfl (.inl ⟨_, _, rfl, rfl, rfl⟩) rfl (fun h19 => ?_) (fun h19 => ?_)
    ·
      refine qv (yPickF rfl rfl) rfl rfl ?_
      refine QL.nil ?_
      refine TQ.sq ?_
      refine TC.condT rfl ?_
      refine TC.seq ?_
      refine TC.quiet rfl ?_
      refine qv (yAsgn (v := .int .i64 _) rfl) rfl rfl ?_
      refine qv (yAsgn (v := .int .i64 _) rfl) rfl rfl ?_
      refine qv (yAsgn (v := .int .i64 _) rfl) rfl rfl ?_
      refine QL.nil ?_
      refine TQ.sq ?_
      refine TC.ret (TQ.sqR ?_)
      refine TQ.post (v := .tuple ⟨[.int .i64 _, .int .i64 _, .int .i64 _]⟩) rfl ?_
      exact fun w hw => ⟨by rw [rdNum_range (by omega)]; rfl, hw⟩
    ·
      refine qv (yPickF rfl rfl) rfl rfl ?_
      refine QL.nil ?_
      refine TQ.sq ?_
      refine TC.condF rfl ?_
      refine TC.skip (TQ.sq ?_)
      refine TC.seq ?_
      refine TC.quiet rfl ?_
      refine qv (yAsgn (v := .int .u64 _) rfl) rfl rfl ?_
      refine QL.nil ?_
      refine TQ.sq ?_
      refine TC.seq ?_
      refine TC.quiet rfl ?_
      refine qv (yMove (v := .int .i64 _) rfl) rfl rfl ?_
      refine qv (yMove (v := str _) rfl) rfl rfl ?_
      refine qv (yStrLen ul9 rfl) rfl rfl ?_
      refine qcLt rfl rfl rfl rfl (fun h24 => ?_) (fun h24 => ?_)
      ·
        refine qv (yMove (v := .bool _) rfl) rfl rfl ?_
        refine qv (yMove (v := str _) rfl) (.inl ⟨_, _, rfl, rfl, rfl⟩) rfl ?_
        refine qv (yMove (v := .int .i64 _) rfl) (.inl ⟨_, _, rfl, rfl, rfl⟩) rfl ?_
        obtain ⟨u, hu⟩ := idx_some (s := s) (i := a) (by omega) (by omega)
        refine qv (yStrIdx ul9 rfl rfl (by omega) hu) (.inl ⟨_, _, rfl, rfl, rfl⟩) rfl ?_
        refine qcEq rfl rfl (.inl ⟨_, _, rfl, rfl, rfl⟩) rfl (fun h29 => ?_) (fun h29 => ?_)
        ·
          have g := rdNum_neg (s := s) (a := a) (by omega) (by omega) (some_eq (v := 45) hu h29)
          have hl := (List.getElem?_eq_some_iff.1 hu).1
          generalize hfd : a.toNat + 1 = f at g
          obtain rfl : a = (f : Int) - 1 := by omega
          have hf : f ≤ s.length := by omega
          have hge := endD_ge s f
          have hle := endD_le s f hf
          have hcr := chkD_rng s f (endD s f) 59
          refine qv (yPickT rfl rfl) rfl rfl ?_
          refine qv (yAsgn (v := .bool _) rfl) rfl rfl ?_
          refine QL.nil ?_
          refine TQ.sq ?_
          refine TC.seq ?_
          refine TC.seq ?_
          refine TC.quiet rfl ?_
          refine qv (yMove (v := .bool _) rfl) rfl rfl ?_
          refine QL.nil ?_
          refine TQ.sq ?_
          refine TC.condT rfl ?_
          refine TC.seq ?_
          refine TC.quiet rfl ?_
          refine qv (yMove (v := .int .i64 _) rfl) rfl rfl ?_
          refine qv (yAddE (r := (f : Int)) rfl rfl (by omega) (by omega)) rfl rfl ?_
          refine qv (yAsgn (v := .int .i64 _) rfl) rfl rfl ?_
          refine QL.nil ?_
          refine TQ.sq ?_
          refine TC.quiet rfl ?_
          refine qv (yMove (v := .int .u64 _) rfl) rfl rfl ?_
          refine qv (yAddK rfl rfl (u64in (by omega))) rfl rfl ?_
          refine qv (yAsgn (v := .int .u64 _) rfl) rfl rfl ?_
          refine QL.nil ?_
          refine TQ.sq ?_
          refine TC.seq ?_
          refine TC.region ?_
          refine sv (yMove (v := str _) rfl) rfl rfl ?_
          refine sv (yMove (v := .int .i64 _) rfl) rfl rfl ?_
          refine sv (yMove (v := .int .u64 _) rfl) rfl rfl ?_
          refine sCall (Lrun_ok _ s f _ hf hs (by omega) (by omega)) rfl rfl (fun v40 w hw => ?_)
          obtain ⟨n, rfl, hn, hv, hw⟩ := hw
          refine TL.wl ?_ hw
          refine sv (yMove (v := .tuple _) rfl) rfl rfl ?_
          refine sv (yExt rfl rfl) rfl rfl ?_
          refine sv (yExt rfl rfl) rfl rfl ?_
          refine sv (yExt rfl rfl) rfl rfl ?_
          refine sv (yAsgn (v := .int .i64 _) rfl) rfl rfl ?_
          refine sv (yAsgn (v := .int .u64 _) rfl) rfl rfl ?_
          refine sv (yAsgn (v := .bool _) rfl) rfl rfl ?_
          refine TL.nil ?_
          refine TQ.sq ?_
          refine TC.seq ?_
          refine TC.region ?_
          refine sv (yMove (v := str _) rfl) rfl rfl ?_
          refine sv (yMove (v := .int .i64 _) rfl) rfl rfl ?_
          refine sv (yMove (v := .int .i64 _) rfl) rfl rfl ?_
          refine sCall (Lshape_ok _ s f (endD s f) 59 hge hle hs) rfl rfl (fun v47 w hw => ?_)
          obtain ⟨rfl, hw⟩ := hw
          refine TL.wl ?_ hw
          refine sv (yAsgn (v := .int .i64 _) rfl) rfl rfl ?_
          refine TL.nil ?_
          refine TQ.sq ?_
          refine TC.seq ?_
          refine TC.block ?_
          refine TC.seq ?_
          refine TC.quiet rfl ?_
          refine qv (yMove (v := .int .i64 _) rfl) rfl rfl ?_
          refine qcNe rfl rfl rfl rfl (fun h50 => ?_) (fun h50 => ?_)
          ·
            refine qv (yAsgn (v := .bool _) rfl) rfl rfl ?_
            refine QL.nil ?_
            refine TQ.sq ?_
            refine TC.condT rfl ?_
            refine TC.seq ?_
            refine TC.quiet rfl ?_
            refine qv (yMove (v := .int .i64 _) rfl) rfl rfl ?_
            refine qv (yAsgn (v := .int .i64 _) rfl) rfl rfl ?_
            refine qv (yAsgn (v := .int .i64 _) rfl) rfl rfl ?_
            refine qv (yAsgn (v := .int .i64 _) rfl) rfl rfl ?_
            refine QL.nil ?_
            refine TQ.sq ?_
            refine TC.ret (TQ.blkR (TQ.sqR ?_))
            refine TQ.post (v := .tuple ⟨[.int .i64 _, .int .i64 _, .int .i64 _]⟩) rfl ?_
            exact fun w hw => ⟨by rw [g]; unfold rdN; rw [rdF_chk (by omega)]; rfl, hw⟩
          ·
            refine qv (yAsgn (v := .bool _) rfl) rfl rfl ?_
            refine QL.nil ?_
            refine TQ.sq ?_
            refine TC.condF rfl ?_
            refine TC.seq ?_
            refine TC.quiet rfl ?_
            refine qv (yMove (v := .bool _) rfl) rfl rfl ?_
            refine qv (yMove (v := .bool _) rfl) rfl rfl ?_
            refine qv (yMove (v := .int .i64 _) rfl) (.inl ⟨_, _, rfl, rfl, rfl⟩) rfl ?_
            refine qv (yMove (v := .int .i64 _) rfl) (.inl ⟨_, _, rfl, rfl, rfl⟩) rfl ?_
            refine qv (yAdd rfl rfl (by omega)) (.inl ⟨_, _, rfl, rfl, rfl⟩) rfl ?_
            refine qcEq rfl rfl (.inl ⟨_, _, rfl, rfl, rfl⟩) rfl (fun h58 => ?_) (fun h58 => ?_)
            ·
              refine qv (yPickT rfl rfl) rfl rfl ?_
              refine qv (yMove (v := .bool _) rfl) rfl rfl ?_
              refine qv (yMove (v := str _) rfl) (.inl ⟨_, _, rfl, rfl, rfl⟩) rfl ?_
              refine qv (yMove (v := .int .i64 _) rfl) (.inl ⟨_, _, rfl, rfl, rfl⟩) rfl ?_
              obtain ⟨q, hq_⟩ := idx_some (s := s) (i := (f : Int)) (by omega) (by omega)
              refine qv (yStrIdx ul9 rfl rfl (by omega) hq_) (.inl ⟨_, _, rfl, rfl, rfl⟩) rfl ?_
              refine qcEq rfl rfl (.inl ⟨_, _, rfl, rfl, rfl⟩) rfl (fun h64 => ?_) (fun h64 => ?_)
              ·
                refine qv (yPickT rfl rfl) rfl rfl ?_
                refine qv (yAsgn (v := .bool _) rfl) rfl rfl ?_
                refine QL.nil ?_
                refine TQ.sq ?_
                refine TC.condT rfl ?_
                refine TC.seq ?_
                refine TC.quiet rfl ?_
                refine qv (yAsgn (v := .int .i64 _) rfl) rfl rfl ?_
                refine qv (yAsgn (v := .int .i64 _) rfl) rfl rfl ?_
                refine qv (yAsgn (v := .int .i64 _) rfl) rfl rfl ?_
                refine QL.nil ?_
                refine TQ.sq ?_
                refine TC.ret (TQ.blkR (TQ.sqR ?_))
                refine TQ.post (v := .tuple ⟨[.int .i64 _, .int .i64 _, .int .i64 _]⟩) rfl ?_
                exact fun w hw => ⟨by rw [g]; unfold rdN; rw [rdF_zero (by omega) (by omega) (some_eq (v := 48) (by simpa using hq_) h64)]; rfl, hw⟩
              ·
                refine qv (yPickT rfl rfl) rfl rfl ?_
                refine qv (yAsgn (v := .bool _) rfl) rfl rfl ?_
                refine QL.nil ?_
                refine TQ.sq ?_
                refine TC.condF rfl ?_
                refine TC.seq ?_
                refine TC.quiet rfl ?_
                refine qv (yMove (v := .bool _) rfl) rfl rfl ?_
                refine qv (yNot rfl) rfl rfl ?_
                refine qv (yAsgn (v := .bool _) rfl) rfl rfl ?_
                refine QL.nil ?_
                refine TQ.sq ?_
                refine TC.cond rfl (fun hb => ?_) (fun hb => ?_)
                ·
                  refine TC.seq ?_
                  refine TC.quiet rfl ?_
                  refine qv (yAsgn (v := .int .i64 _) rfl) rfl rfl ?_
                  refine qv (yAsgn (v := .int .i64 _) rfl) rfl rfl ?_
                  refine qv (yAsgn (v := .int .i64 _) rfl) rfl rfl ?_
                  refine QL.nil ?_
                  refine TQ.sq ?_
                  refine TC.ret (TQ.blkR (TQ.sqR ?_))
                  refine TQ.post (v := .tuple ⟨[.int .i64 _, .int .i64 _, .int .i64 _]⟩) rfl ?_
                  exact fun w hw => ⟨by rw [g]; unfold rdN; rw [rdF_big (neg := true) (by omega) (fun _ => (fun hh => some_ne (v := 48) (by simpa using hq_) h64 hh.2)) (by simp at hb ⊢; omega)]; rfl, hw⟩
                ·
                  refine TC.seq ?_
                  refine TC.quiet rfl ?_
                  refine qv (yMove (v := .bool _) rfl) rfl rfl ?_
                  refine qv (yAsgn (v := .bool _) rfl) rfl rfl ?_
                  refine QL.nil ?_
                  refine TQ.sq ?_
                  refine TC.condT rfl ?_
                  refine TC.seq ?_
                  refine TC.quiet rfl ?_
                  refine qv (yMove (v := .int .u64 _) rfl) rfl rfl ?_
                  refine qv (yNegK (r := IntKind.u64.wrap (0 - n)) rfl rfl) rfl rfl ?_
                  refine qv (yConvI ul3 ul75 rfl (by have := hv (by simpa using hb); exact u64negi hn.1 (by simp at hb; omega))) rfl rfl ?_
                  refine qv (yMove (v := .int .i64 _) rfl) rfl rfl ?_
                  refine qv (yAdd rfl rfl (by omega)) rfl rfl ?_
                  refine qv (yAsgn (v := .int .i64 _) rfl) rfl rfl ?_
                  refine qv (yAsgn (v := .int .i64 _) rfl) rfl rfl ?_
                  refine qv (yAsgn (v := .int .i64 _) rfl) rfl rfl ?_
                  refine QL.nil ?_
                  refine TQ.sq ?_
                  refine TC.ret (TQ.blkR (TQ.sqR ?_))
                  refine TQ.post (v := .tuple ⟨[.int .i64 _, .int .i64 _, .int .i64 _]⟩) rfl ?_
                  have hle2 : (valD s f 0 : Int) ≤ 9223372036854775807 + 1 := by simpa using hb
                  obtain rfl := hv hle2
                  exact fun w hw => ⟨by rw [g]; unfold rdN; rw [rdF_ok (neg := true) (by omega) (fun _ => (fun hh => some_ne (v := 48) (by simpa using hq_) h64 hh.2)) (by simp; omega)]; rfl, hw⟩
            ·
              refine qv (yPickT rfl rfl) rfl rfl ?_
              refine qv (yMove (v := .bool _) rfl) rfl rfl ?_
              refine qk (.inl ⟨_, _, rfl, rfl, rfl⟩) rfl ?_
              refine qk (.inl ⟨_, _, rfl, rfl, rfl⟩) rfl ?_
              refine qk (.inl ⟨_, _, rfl, rfl, rfl⟩) rfl ?_
              refine qk (.inl ⟨_, _, rfl, rfl, rfl⟩) rfl ?_
              refine qv (yPickF rfl rfl) rfl rfl ?_
              refine qv (yAsgn (v := .bool _) rfl) rfl rfl ?_
              refine QL.nil ?_
              refine TQ.sq ?_
              refine TC.condF rfl ?_
              refine TC.seq ?_
              refine TC.quiet rfl ?_
              refine qv (yMove (v := .bool _) rfl) rfl rfl ?_
              refine qv (yNot rfl) rfl rfl ?_
              refine qv (yAsgn (v := .bool _) rfl) rfl rfl ?_
              refine QL.nil ?_
              refine TQ.sq ?_
              refine TC.cond rfl (fun hb => ?_) (fun hb => ?_)
              ·
                refine TC.seq ?_
                refine TC.quiet rfl ?_
                refine qv (yAsgn (v := .int .i64 _) rfl) rfl rfl ?_
                refine qv (yAsgn (v := .int .i64 _) rfl) rfl rfl ?_
                refine qv (yAsgn (v := .int .i64 _) rfl) rfl rfl ?_
                refine QL.nil ?_
                refine TQ.sq ?_
                refine TC.ret (TQ.blkR (TQ.sqR ?_))
                refine TQ.post (v := .tuple ⟨[.int .i64 _, .int .i64 _, .int .i64 _]⟩) rfl ?_
                exact fun w hw => ⟨by rw [g]; unfold rdN; rw [rdF_big (neg := true) (by omega) (fun _ => (fun hh => by omega)) (by simp at hb ⊢; omega)]; rfl, hw⟩
              ·
                refine TC.seq ?_
                refine TC.quiet rfl ?_
                refine qv (yMove (v := .bool _) rfl) rfl rfl ?_
                refine qv (yAsgn (v := .bool _) rfl) rfl rfl ?_
                refine QL.nil ?_
                refine TQ.sq ?_
                refine TC.condT rfl ?_
                refine TC.seq ?_
                refine TC.quiet rfl ?_
                refine qv (yMove (v := .int .u64 _) rfl) rfl rfl ?_
                refine qv (yNegK (r := IntKind.u64.wrap (0 - n)) rfl rfl) rfl rfl ?_
                refine qv (yConvI ul3 ul75 rfl (by have := hv (by simpa using hb); exact u64negi hn.1 (by simp at hb; omega))) rfl rfl ?_
                refine qv (yMove (v := .int .i64 _) rfl) rfl rfl ?_
                refine qv (yAdd rfl rfl (by omega)) rfl rfl ?_
                refine qv (yAsgn (v := .int .i64 _) rfl) rfl rfl ?_
                refine qv (yAsgn (v := .int .i64 _) rfl) rfl rfl ?_
                refine qv (yAsgn (v := .int .i64 _) rfl) rfl rfl ?_
                refine QL.nil ?_
                refine TQ.sq ?_
                refine TC.ret (TQ.blkR (TQ.sqR ?_))
                refine TQ.post (v := .tuple ⟨[.int .i64 _, .int .i64 _, .int .i64 _]⟩) rfl ?_
                have hle2 : (valD s f 0 : Int) ≤ 9223372036854775807 + 1 := by simpa using hb
                obtain rfl := hv hle2
                exact fun w hw => ⟨by rw [g]; unfold rdN; rw [rdF_ok (neg := true) (by omega) (fun _ => (fun hh => by omega)) (by simp; omega)]; rfl, hw⟩
        ·
          have g := rdNum_pos (s := s) (a := a) (by omega) (by omega) (some_ne (v := 45) hu h29)
          generalize hfd : a.toNat = f at g
          obtain rfl : a = (f : Int) := by omega
          have hf : f ≤ s.length := by omega
          have hge := endD_ge s f
          have hle := endD_le s f hf
          have hcr := chkD_rng s f (endD s f) 59
          refine qv (yPickT rfl rfl) rfl rfl ?_
          refine qv (yAsgn (v := .bool _) rfl) rfl rfl ?_
          refine QL.nil ?_
          refine TQ.sq ?_
          refine TC.seq ?_
          refine TC.seq ?_
          refine TC.quiet rfl ?_
          refine qv (yMove (v := .bool _) rfl) rfl rfl ?_
          refine QL.nil ?_
          refine TQ.sq ?_
          refine TC.condF rfl ?_
          refine TC.skip (TQ.sq ?_)
          refine TC.seq ?_
          refine TC.region ?_
          refine sv (yMove (v := str _) rfl) rfl rfl ?_
          refine sv (yMove (v := .int .i64 _) rfl) rfl rfl ?_
          refine sv (yMove (v := .int .u64 _) rfl) rfl rfl ?_
          refine sCall (Lrun_ok _ s f _ hf hs (by omega) (by omega)) rfl rfl (fun v40 w hw => ?_)
          obtain ⟨n, rfl, hn, hv, hw⟩ := hw
          refine TL.wl ?_ hw
          refine sv (yMove (v := .tuple _) rfl) rfl rfl ?_
          refine sv (yExt rfl rfl) rfl rfl ?_
          refine sv (yExt rfl rfl) rfl rfl ?_
          refine sv (yExt rfl rfl) rfl rfl ?_
          refine sv (yAsgn (v := .int .i64 _) rfl) rfl rfl ?_
          refine sv (yAsgn (v := .int .u64 _) rfl) rfl rfl ?_
          refine sv (yAsgn (v := .bool _) rfl) rfl rfl ?_
          refine TL.nil ?_
          refine TQ.sq ?_
          refine TC.seq ?_
          refine TC.region ?_
          refine sv (yMove (v := str _) rfl) rfl rfl ?_
          refine sv (yMove (v := .int .i64 _) rfl) rfl rfl ?_
          refine sv (yMove (v := .int .i64 _) rfl) rfl rfl ?_
          refine sCall (Lshape_ok _ s f (endD s f) 59 hge hle hs) rfl rfl (fun v47 w hw => ?_)
          obtain ⟨rfl, hw⟩ := hw
          refine TL.wl ?_ hw
          refine sv (yAsgn (v := .int .i64 _) rfl) rfl rfl ?_
          refine TL.nil ?_
          refine TQ.sq ?_
          refine TC.seq ?_
          refine TC.block ?_
          refine TC.seq ?_
          refine TC.quiet rfl ?_
          refine qv (yMove (v := .int .i64 _) rfl) rfl rfl ?_
          refine qcNe rfl rfl rfl rfl (fun h50 => ?_) (fun h50 => ?_)
          ·
            refine qv (yAsgn (v := .bool _) rfl) rfl rfl ?_
            refine QL.nil ?_
            refine TQ.sq ?_
            refine TC.condT rfl ?_
            refine TC.seq ?_
            refine TC.quiet rfl ?_
            refine qv (yMove (v := .int .i64 _) rfl) rfl rfl ?_
            refine qv (yAsgn (v := .int .i64 _) rfl) rfl rfl ?_
            refine qv (yAsgn (v := .int .i64 _) rfl) rfl rfl ?_
            refine qv (yAsgn (v := .int .i64 _) rfl) rfl rfl ?_
            refine QL.nil ?_
            refine TQ.sq ?_
            refine TC.ret (TQ.blkR (TQ.sqR ?_))
            refine TQ.post (v := .tuple ⟨[.int .i64 _, .int .i64 _, .int .i64 _]⟩) rfl ?_
            exact fun w hw => ⟨by rw [g]; unfold rdN; rw [rdF_chk (by omega)]; rfl, hw⟩
          ·
            refine qv (yAsgn (v := .bool _) rfl) rfl rfl ?_
            refine QL.nil ?_
            refine TQ.sq ?_
            refine TC.condF rfl ?_
            refine TC.seq ?_
            refine TC.quiet rfl ?_
            refine qv (yMove (v := .bool _) rfl) rfl rfl ?_
            refine qv (yMove (v := .bool _) rfl) rfl rfl ?_
            refine qk (.inl ⟨_, _, rfl, rfl, rfl⟩) rfl ?_
            refine qk (.inl ⟨_, _, rfl, rfl, rfl⟩) rfl ?_
            refine qk (.inl ⟨_, _, rfl, rfl, rfl⟩) rfl ?_
            refine qk (.inl ⟨_, _, rfl, rfl, rfl⟩) rfl ?_
            refine qv (yPickF rfl rfl) rfl rfl ?_
            refine qv (yMove (v := .bool _) rfl) rfl rfl ?_
            refine qk (.inl ⟨_, _, rfl, rfl, rfl⟩) rfl ?_
            refine qk (.inl ⟨_, _, rfl, rfl, rfl⟩) rfl ?_
            refine qk (.inl ⟨_, _, rfl, rfl, rfl⟩) rfl ?_
            refine qk (.inl ⟨_, _, rfl, rfl, rfl⟩) rfl ?_
            refine qv (yPickF rfl rfl) rfl rfl ?_
            refine qv (yAsgn (v := .bool _) rfl) rfl rfl ?_
            refine QL.nil ?_
            refine TQ.sq ?_
            refine TC.condF rfl ?_
            refine TC.seq ?_
            refine TC.quiet rfl ?_
            refine qv (yMove (v := .bool _) rfl) rfl rfl ?_
            refine qv (yNot rfl) rfl rfl ?_
            refine qv (yAsgn (v := .bool _) rfl) rfl rfl ?_
            refine QL.nil ?_
            refine TQ.sq ?_
            refine TC.cond rfl (fun hb => ?_) (fun hb => ?_)
            ·
              refine TC.seq ?_
              refine TC.quiet rfl ?_
              refine qv (yAsgn (v := .int .i64 _) rfl) rfl rfl ?_
              refine qv (yAsgn (v := .int .i64 _) rfl) rfl rfl ?_
              refine qv (yAsgn (v := .int .i64 _) rfl) rfl rfl ?_
              refine QL.nil ?_
              refine TQ.sq ?_
              refine TC.ret (TQ.blkR (TQ.sqR ?_))
              refine TQ.post (v := .tuple ⟨[.int .i64 _, .int .i64 _, .int .i64 _]⟩) rfl ?_
              exact fun w hw => ⟨by rw [g]; unfold rdN; rw [rdF_big (neg := false) (by omega) (fun h => by cases h) (by simp at hb ⊢; omega)]; rfl, hw⟩
            ·
              refine TC.seq ?_
              refine TC.quiet rfl ?_
              refine qv (yMove (v := .bool _) rfl) rfl rfl ?_
              refine qv (yAsgn (v := .bool _) rfl) rfl rfl ?_
              refine QL.nil ?_
              refine TQ.sq ?_
              refine TC.condF rfl ?_
              refine TC.skip (TQ.blk (TQ.sq ?_))
              refine TC.seq ?_
              refine TC.quiet rfl ?_
              refine qv (yMove (v := .int .u64 _) rfl) rfl rfl ?_
              refine qv (yConvI ul3 ul75 rfl (by have := hv (by simpa using hb); exact i64in ⟨by omega, by simp at hb; omega⟩)) rfl rfl ?_
              refine qv (yMove (v := .int .i64 _) rfl) rfl rfl ?_
              refine qv (yAdd rfl rfl (by omega)) rfl rfl ?_
              refine qv (yAsgn (v := .int .i64 _) rfl) rfl rfl ?_
              refine qv (yAsgn (v := .int .i64 _) rfl) rfl rfl ?_
              refine qv (yAsgn (v := .int .i64 _) rfl) rfl rfl ?_
              refine QL.nil ?_
              refine TQ.sq ?_
              refine TC.ret ?_
              refine TQ.post (v := .tuple ⟨[.int .i64 _, .int .i64 _, .int .i64 _]⟩) rfl ?_
              have hle2 : (valD s f 0 : Int) ≤ 9223372036854775807 := by simpa using hb
              obtain rfl := hv hle2
              exact fun w hw => ⟨by rw [g]; unfold rdN; rw [rdF_ok (neg := false) (by omega) (fun h => by cases h) (by simp; omega)]; rfl, hw⟩
      ·
        have g := rdNum_pos (s := s) (a := a) (by omega) (by omega) (fun h => by have := (List.getElem?_eq_some_iff.1 h).1; omega)
        generalize hfd : a.toNat = f at g
        obtain rfl : a = (f : Int) := by omega
        have hf : f ≤ s.length := by omega
        have hge := endD_ge s f
        have hle := endD_le s f hf
        have hcr := chkD_rng s f (endD s f) 59
        refine qv (yMove (v := .bool _) rfl) rfl rfl ?_
        refine qk (.inl ⟨_, _, rfl, rfl, rfl⟩) rfl ?_
        refine qk (.inl ⟨_, _, rfl, rfl, rfl⟩) rfl ?_
        refine qk (.inl ⟨_, _, rfl, rfl, rfl⟩) rfl ?_
        refine qk (.inl ⟨_, _, rfl, rfl, rfl⟩) rfl ?_
        refine qv (yPickF rfl rfl) rfl rfl ?_
        refine qv (yAsgn (v := .bool _) rfl) rfl rfl ?_
        refine QL.nil ?_
        refine TQ.sq ?_
        refine TC.seq ?_
        refine TC.seq ?_
        refine TC.quiet rfl ?_
        refine qv (yMove (v := .bool _) rfl) rfl rfl ?_
        refine QL.nil ?_
        refine TQ.sq ?_
        refine TC.condF rfl ?_
        refine TC.skip (TQ.sq ?_)
        refine TC.seq ?_
        refine TC.region ?_
        refine sv (yMove (v := str _) rfl) rfl rfl ?_
        refine sv (yMove (v := .int .i64 _) rfl) rfl rfl ?_
        refine sv (yMove (v := .int .u64 _) rfl) rfl rfl ?_
        refine sCall (Lrun_ok _ s f _ hf hs (by omega) (by omega)) rfl rfl (fun v40 w hw => ?_)
        obtain ⟨n, rfl, hn, hv, hw⟩ := hw
        refine TL.wl ?_ hw
        refine sv (yMove (v := .tuple _) rfl) rfl rfl ?_
        refine sv (yExt rfl rfl) rfl rfl ?_
        refine sv (yExt rfl rfl) rfl rfl ?_
        refine sv (yExt rfl rfl) rfl rfl ?_
        refine sv (yAsgn (v := .int .i64 _) rfl) rfl rfl ?_
        refine sv (yAsgn (v := .int .u64 _) rfl) rfl rfl ?_
        refine sv (yAsgn (v := .bool _) rfl) rfl rfl ?_
        refine TL.nil ?_
        refine TQ.sq ?_
        refine TC.seq ?_
        refine TC.region ?_
        refine sv (yMove (v := str _) rfl) rfl rfl ?_
        refine sv (yMove (v := .int .i64 _) rfl) rfl rfl ?_
        refine sv (yMove (v := .int .i64 _) rfl) rfl rfl ?_
        refine sCall (Lshape_ok _ s f (endD s f) 59 hge hle hs) rfl rfl (fun v47 w hw => ?_)
        obtain ⟨rfl, hw⟩ := hw
        refine TL.wl ?_ hw
        refine sv (yAsgn (v := .int .i64 _) rfl) rfl rfl ?_
        refine TL.nil ?_
        refine TQ.sq ?_
        refine TC.seq ?_
        refine TC.block ?_
        refine TC.seq ?_
        refine TC.quiet rfl ?_
        refine qv (yMove (v := .int .i64 _) rfl) rfl rfl ?_
        refine qcNe rfl rfl rfl rfl (fun h50 => ?_) (fun h50 => ?_)
        ·
          refine qv (yAsgn (v := .bool _) rfl) rfl rfl ?_
          refine QL.nil ?_
          refine TQ.sq ?_
          refine TC.condT rfl ?_
          refine TC.seq ?_
          refine TC.quiet rfl ?_
          refine qv (yMove (v := .int .i64 _) rfl) rfl rfl ?_
          refine qv (yAsgn (v := .int .i64 _) rfl) rfl rfl ?_
          refine qv (yAsgn (v := .int .i64 _) rfl) rfl rfl ?_
          refine qv (yAsgn (v := .int .i64 _) rfl) rfl rfl ?_
          refine QL.nil ?_
          refine TQ.sq ?_
          refine TC.ret (TQ.blkR (TQ.sqR ?_))
          refine TQ.post (v := .tuple ⟨[.int .i64 _, .int .i64 _, .int .i64 _]⟩) rfl ?_
          exact fun w hw => ⟨by rw [g]; unfold rdN; rw [rdF_chk (by omega)]; rfl, hw⟩
        ·
          refine qv (yAsgn (v := .bool _) rfl) rfl rfl ?_
          refine QL.nil ?_
          refine TQ.sq ?_
          refine TC.condF rfl ?_
          refine TC.seq ?_
          refine TC.quiet rfl ?_
          refine qv (yMove (v := .bool _) rfl) rfl rfl ?_
          refine qv (yMove (v := .bool _) rfl) rfl rfl ?_
          refine qk (.inl ⟨_, _, rfl, rfl, rfl⟩) rfl ?_
          refine qk (.inl ⟨_, _, rfl, rfl, rfl⟩) rfl ?_
          refine qk (.inl ⟨_, _, rfl, rfl, rfl⟩) rfl ?_
          refine qk (.inl ⟨_, _, rfl, rfl, rfl⟩) rfl ?_
          refine qv (yPickF rfl rfl) rfl rfl ?_
          refine qv (yMove (v := .bool _) rfl) rfl rfl ?_
          refine qk (.inl ⟨_, _, rfl, rfl, rfl⟩) rfl ?_
          refine qk (.inl ⟨_, _, rfl, rfl, rfl⟩) rfl ?_
          refine qk (.inl ⟨_, _, rfl, rfl, rfl⟩) rfl ?_
          refine qk (.inl ⟨_, _, rfl, rfl, rfl⟩) rfl ?_
          refine qv (yPickF rfl rfl) rfl rfl ?_
          refine qv (yAsgn (v := .bool _) rfl) rfl rfl ?_
          refine QL.nil ?_
          refine TQ.sq ?_
          refine TC.condF rfl ?_
          refine TC.seq ?_
          refine TC.quiet rfl ?_
          refine qv (yMove (v := .bool _) rfl) rfl rfl ?_
          refine qv (yNot rfl) rfl rfl ?_
          refine qv (yAsgn (v := .bool _) rfl) rfl rfl ?_
          refine QL.nil ?_
          refine TQ.sq ?_
          refine TC.cond rfl (fun hb => ?_) (fun hb => ?_)
          ·
            refine TC.seq ?_
            refine TC.quiet rfl ?_
            refine qv (yAsgn (v := .int .i64 _) rfl) rfl rfl ?_
            refine qv (yAsgn (v := .int .i64 _) rfl) rfl rfl ?_
            refine qv (yAsgn (v := .int .i64 _) rfl) rfl rfl ?_
            refine QL.nil ?_
            refine TQ.sq ?_
            refine TC.ret (TQ.blkR (TQ.sqR ?_))
            refine TQ.post (v := .tuple ⟨[.int .i64 _, .int .i64 _, .int .i64 _]⟩) rfl ?_
            exact fun w hw => ⟨by rw [g]; unfold rdN; rw [rdF_big (neg := false) (by omega) (fun h => by cases h) (by simp at hb ⊢; omega)]; rfl, hw⟩
          ·
            refine TC.seq ?_
            refine TC.quiet rfl ?_
            refine qv (yMove (v := .bool _) rfl) rfl rfl ?_
            refine qv (yAsgn (v := .bool _) rfl) rfl rfl ?_
            refine QL.nil ?_
            refine TQ.sq ?_
            refine TC.condF rfl ?_
            refine TC.skip (TQ.blk (TQ.sq ?_))
            refine TC.seq ?_
            refine TC.quiet rfl ?_
            refine qv (yMove (v := .int .u64 _) rfl) rfl rfl ?_
            refine qv (yConvI ul3 ul75 rfl (by have := hv (by simpa using hb); exact i64in ⟨by omega, by simp at hb; omega⟩)) rfl rfl ?_
            refine qv (yMove (v := .int .i64 _) rfl) rfl rfl ?_
            refine qv (yAdd rfl rfl (by omega)) rfl rfl ?_
            refine qv (yAsgn (v := .int .i64 _) rfl) rfl rfl ?_
            refine qv (yAsgn (v := .int .i64 _) rfl) rfl rfl ?_
            refine qv (yAsgn (v := .int .i64 _) rfl) rfl rfl ?_
            refine QL.nil ?_
            refine TQ.sq ?_
            refine TC.ret ?_
            refine TQ.post (v := .tuple ⟨[.int .i64 _, .int .i64 _, .int .i64 _]⟩) rfl ?_
            have hle2 : (valD s f 0 : Int) ≤ 9223372036854775807 := by simpa using hb
            obtain rfl := hv hle2
            exact fun w hw => ⟨by rw [g]; unfold rdN; rw [rdF_ok (neg := false) (by omega) (fun h => by cases h) (by simp; omega)]; rfl, hw⟩
theorem RReadNumber_ok {c : Cx} {I : Im} (l : Ow) (s : List UInt8) (a : Int) (hs : s.length ≤ 1000000000000) : Ct Try.prog 29 [str s, .int .i64 a] (St c I l) fun v w => v = V3 (rdNum s a) ∧ St c I l w := by
  refine Ct.enter (n := 84) Try.func29 rfl rfl rfl rfl rfl rfl ?_
  refine TC.seq ?_
  refine TC.quiet rfl ?_
  refine qv (yAsgn (v := .int .i64 _) rfl) rfl rfl ?_
  refine qv (yAsgn (v := .int .i64 _) rfl) rfl rfl ?_
  refine qv (yAsgn (v := .int .i64 _) rfl) rfl rfl ?_
  refine QL.nil ?_
  refine TQ.sq ?_
  refine TC.seq ?_
  refine TC.seq ?_
  refine TC.quiet rfl ?_
  refine qv (yMove (v := .int .i64 _) rfl) rfl rfl ?_
  refine qcLt rfl rfl rfl rfl (fun h14 => ?_) (fun h14 => ?_)
  ·
    refine qv (yMove (v := .bool _) rfl) rfl rfl ?_
    refine qk (.inl ⟨_, _, rfl, rfl, rfl⟩) rfl ?_
    refine qk (.inl ⟨_, _, rfl, rfl, rfl⟩) rfl ?_
    refine qk (.inl ⟨_, _, rfl, rfl, rfl⟩) rfl ?_
    refine qk (.inl ⟨_, _, rfl, rfl, rfl⟩) rfl ?_
    refine qv (yPickT rfl rfl) rfl rfl ?_
    refine QL.nil ?_
    refine TQ.sq ?_
    refine TC.condT rfl ?_
    refine TC.seq ?_
    refine TC.quiet rfl ?_
    refine qv (yAsgn (v := .int .i64 _) rfl) rfl rfl ?_
    refine qv (yAsgn (v := .int .i64 _) rfl) rfl rfl ?_
    refine qv (yAsgn (v := .int .i64 _) rfl) rfl rfl ?_
    refine QL.nil ?_
    refine TQ.sq ?_
    refine TC.ret (TQ.sqR ?_)
    refine TQ.post (v := .tuple ⟨[.int .i64 _, .int .i64 _, .int .i64 _]⟩) rfl ?_
    exact fun w hw => ⟨by rw [rdNum_range (by omega)]; rfl, hw⟩
  ·
    refine qv (yMove (v := .bool _) rfl) rfl rfl ?_
    refine qv (yMove (v := .int .i64 _) rfl) (.inl ⟨_, _, rfl, rfl, rfl⟩) rfl ?_
    refine qv (yMove (v := str _) rfl) (.inl ⟨_, _, rfl, rfl, rfl⟩) rfl ?_
    refine qv (yStrLen ul9 rfl) (.inl ⟨_, _, rfl, rfl, rfl⟩) rfl ?_
    refine qcGt rfl rfl (.inl ⟨_, _, rfl, rfl, rfl⟩) rfl (fun h19 => ?_) (fun h19 => ?_)
    ·
      refine qv (yPickF rfl rfl) rfl rfl ?_
      refine QL.nil ?_
      refine TQ.sq ?_
      refine TC.condT rfl ?_
      refine TC.seq ?_
      refine TC.quiet rfl ?_
      refine qv (yAsgn (v := .int .i64 _) rfl) rfl rfl ?_
      refine qv (yAsgn (v := .int .i64 _) rfl) rfl rfl ?_
      refine qv (yAsgn (v := .int .i64 _) rfl) rfl rfl ?_
      refine QL.nil ?_
      refine TQ.sq ?_
      refine TC.ret (TQ.sqR ?_)
      refine TQ.post (v := .tuple ⟨[.int .i64 _, .int .i64 _, .int .i64 _]⟩) rfl ?_
      exact fun w hw => ⟨by rw [rdNum_range (by omega)]; rfl, hw⟩
    ·
      refine qv (yPickF rfl rfl) rfl rfl ?_
      refine QL.nil ?_
      refine TQ.sq ?_
      refine TC.condF rfl ?_
      refine TC.skip (TQ.sq ?_)
      refine TC.seq ?_
      refine TC.quiet rfl ?_
      refine qv (yMove (v := .int .i64 _) rfl) rfl rfl ?_
      refine qv (yAsgn (v := .int .i64 _) rfl) rfl rfl ?_
      refine QL.nil ?_
      refine TQ.sq ?_
      refine TC.seq ?_
      refine TC.seq ?_
      refine TC.quiet rfl ?_
      refine qv (yMove (v := .int .i64 _) rfl) rfl rfl ?_
      refine qv (yMove (v := str _) rfl) rfl rfl ?_
      refine qv (yStrLen ul9 rfl) rfl rfl ?_
      refine qcLt rfl rfl rfl rfl (fun h24 => ?_) (fun h24 => ?_)
      ·
        refine qv (yMove (v := .bool _) rfl) rfl rfl ?_
        refine qv (yMove (v := str _) rfl) (.inl ⟨_, _, rfl, rfl, rfl⟩) rfl ?_
        refine qv (yMove (v := .int .i64 _) rfl) (.inl ⟨_, _, rfl, rfl, rfl⟩) rfl ?_
        obtain ⟨u, hu⟩ := idx_some (s := s) (i := a) (by omega) (by omega)
        refine qv (yStrIdx ul9 rfl rfl (by omega) hu) (.inl ⟨_, _, rfl, rfl, rfl⟩) rfl ?_
        refine qcEq rfl rfl (.inl ⟨_, _, rfl, rfl, rfl⟩) rfl (fun h29 => ?_) (fun h29 => ?_)
        ·
          have g := rdNum_neg (s := s) (a := a) (by omega) (by omega) (some_eq (v := 45) hu h29)
          have hl := (List.getElem?_eq_some_iff.1 hu).1
          generalize hfd : a.toNat + 1 = f at g
          obtain rfl : a = (f : Int) - 1 := by omega
          have hf : f ≤ s.length := by omega
          have hge := endD_ge s f
          have hle := endD_le s f hf
          have hcr := chkD_rng s f (endD s f) 59
          refine qv (yPickT rfl rfl) rfl rfl ?_
          refine QL.nil ?_
          refine TQ.sq ?_
          refine TC.condT rfl ?_
          refine TC.quiet rfl ?_
          refine qv (yMove (v := .int .i64 _) rfl) rfl rfl ?_
          refine qv (yAddE (r := (f : Int)) rfl rfl (by omega) (by omega)) rfl rfl ?_
          refine qv (yAsgn (v := .int .i64 _) rfl) rfl rfl ?_
          refine QL.nil ?_
          refine TQ.sq ?_
          refine TC.seq ?_
          refine TC.region ?_
          refine sv (yMove (v := str _) rfl) rfl rfl ?_
          refine sv (yMove (v := .int .i64 _) rfl) rfl rfl ?_
          refine sCall (REnd_ok _ s f hf hs) rfl rfl (fun v36 w hw => ?_)
          obtain ⟨rfl, hw⟩ := hw
          refine TL.wl ?_ hw
          refine sv (yAsgn (v := .int .i64 _) rfl) rfl rfl ?_
          refine TL.nil ?_
          refine TQ.sq ?_
          refine TC.seq ?_
          refine TC.region ?_
          refine sv (yMove (v := str _) rfl) rfl rfl ?_
          refine sv (yMove (v := .int .i64 _) rfl) rfl rfl ?_
          refine sv (yMove (v := .int .i64 _) rfl) rfl rfl ?_
          refine sCall (Rbad_ok _ s f (endD s f) 59 hge hle hs) rfl rfl (fun v40 w hw => ?_)
          obtain ⟨rfl, hw⟩ := hw
          refine TL.wl ?_ hw
          refine sv (yAsgn (v := .int .i64 _) rfl) rfl rfl ?_
          refine TL.nil ?_
          refine TQ.sq ?_
          refine TC.seq ?_
          refine TC.seq ?_
          refine TC.quiet rfl ?_
          refine qv (yMove (v := .int .i64 _) rfl) rfl rfl ?_
          refine qcNe rfl rfl rfl rfl (fun h50 => ?_) (fun h50 => ?_)
          ·
            refine QL.nil ?_
            refine TQ.sq ?_
            refine TC.condT rfl ?_
            refine TC.seq ?_
            refine TC.quiet rfl ?_
            refine qv (yMove (v := .int .i64 _) rfl) rfl rfl ?_
            refine qv (yAsgn (v := .int .i64 _) rfl) rfl rfl ?_
            refine qv (yAsgn (v := .int .i64 _) rfl) rfl rfl ?_
            refine qv (yAsgn (v := .int .i64 _) rfl) rfl rfl ?_
            refine QL.nil ?_
            refine TQ.sq ?_
            refine TC.ret (TQ.sqR ?_)
            refine TQ.post (v := .tuple ⟨[.int .i64 _, .int .i64 _, .int .i64 _]⟩) rfl ?_
            exact fun w hw => ⟨by rw [g]; unfold rdN; rw [rdF_chk (by omega)]; rfl, hw⟩
          ·
            refine QL.nil ?_
            refine TQ.sq ?_
            refine TC.condF rfl ?_
            refine TC.skip (TQ.sq ?_)
            refine TC.seq ?_
            refine TC.seq ?_
            refine TC.quiet rfl ?_
            refine qv (yMove (v := .int .i64 _) rfl) rfl rfl ?_
            refine qv (yMove (v := .int .i64 _) rfl) rfl rfl ?_
            refine qcGtT rfl rfl (by omega) rfl rfl ?_
            refine qv (yMove (v := .bool _) rfl) rfl rfl ?_
            refine qv (yMove (v := str _) rfl) (.inl ⟨_, _, rfl, rfl, rfl⟩) rfl ?_
            refine qv (yMove (v := .int .i64 _) rfl) (.inl ⟨_, _, rfl, rfl, rfl⟩) rfl ?_
            refine qv (yMove (v := .int .i64 _) rfl) (.inl ⟨_, _, rfl, rfl, rfl⟩) rfl ?_
            refine qv (yStrCut ul9 rfl ⟨_, rfl⟩ ⟨_, rfl⟩ (by omega) (by omega)) (.inl ⟨_, _, rfl, rfl, rfl⟩) rfl ?_
            refine qcSEq rfl rfl (.inl ⟨_, _, rfl, rfl, rfl⟩) rfl (fun hz => ?_) (fun hz => ?_)
            ·
              refine qv (yPickT rfl rfl) rfl rfl ?_
              refine QL.nil ?_
              refine TQ.sq ?_
              refine TC.condT rfl ?_
              refine TC.seq ?_
              refine TC.quiet rfl ?_
              refine qv (yAsgn (v := .int .i64 _) rfl) rfl rfl ?_
              refine qv (yAsgn (v := .int .i64 _) rfl) rfl rfl ?_
              refine qv (yAsgn (v := .int .i64 _) rfl) rfl rfl ?_
              refine QL.nil ?_
              refine TQ.sq ?_
              refine TC.ret (TQ.sqR ?_)
              refine TQ.post (v := .tuple ⟨[.int .i64 _, .int .i64 _, .int .i64 _]⟩) rfl ?_
              exact fun w hw => ⟨by rw [g]; unfold rdN; rw [rdF_zero (by omega) ((cut_zero (by omega) (by omega)).1 hz).1 ((cut_zero (by omega) (by omega)).1 hz).2]; rfl, hw⟩
            ·
              refine qv (yPickT rfl rfl) rfl rfl ?_
              refine QL.nil ?_
              refine TQ.sq ?_
              refine TC.condF rfl ?_
              refine TC.skip (TQ.sq ?_)
              refine TC.seq ?_
              refine TC.quiet rfl ?_
              refine qv (yAsgn (v := .int .i64 _) rfl) rfl rfl ?_
              refine QL.nil ?_
              refine TQ.sq ?_
              refine TC.seq ?_
              refine TC.seq ?_
              refine TC.quiet rfl ?_
              refine qv (yMove (v := .int .i64 _) rfl) rfl rfl ?_
              refine qv (yAsgn (v := .int .i64 _) rfl) rfl rfl ?_
              refine QL.nil ?_
              refine TQ.sq ?_
              refine TC.block ?_
              refine TC.loopL (ι := (Nat) × (Nat)) [4, 5, 6, 10, 11, 12, 55, 56, 57, 58, 59, 60, 61, 62, 63, 64, 65, 66, 67, 68, 69, 70, 71, 72, 73] (fun ⟨k, nv⟩ => [(11, .int .i64 (k : Int)), (10, .int .i64 (-(nv : Int)))]) (fun ⟨k, nv⟩ w => (f ≤ k ∧ k ≤ endD s f ∧ valD s k nv = valD s f 0 ∧ nv ≤ 9223372036854775808) ∧ St c I l w) (fun ⟨k, nv⟩ => endD s f - k) (f, 0) ⟨rfl, rfl, trivial⟩ (fun w hw => ⟨⟨by omega, hge, rfl, by omega⟩, hw⟩) ?_
              rintro g0 ⟨k, nv⟩
              dsimp only
              refine TC.pure fun ⟨hk1, hk2, hv, hnv⟩ => ?_
              refine TC.seq ?_
              refine TC.seq ?_
              refine TC.quiet rfl ?_
              refine qv (yMove (v := .int .i64 _) rfl) rfl rfl ?_
              refine qv (yMove (v := .int .i64 _) rfl) rfl rfl ?_
              refine qcLt rfl rfl rfl rfl (fun h57 => ?_) (fun h57 => ?_)
              ·
                refine QL.nil ?_
                refine TQ.sq ?_
                refine TC.condT rfl ?_
                refine TC.skip (TQ.sq ?_)
                refine TC.seq ?_
                refine TC.block ?_
                refine TC.seq ?_
                refine TC.quiet rfl ?_
                refine qv (yMove (v := str _) rfl) rfl rfl ?_
                refine qv (yMove (v := .int .i64 _) rfl) rfl rfl ?_
                obtain ⟨u, hu2, hD⟩ := endD_in s f k hk1 (by omega)
                have hd8 := isD_iff.1 hD
                refine qv (yStrIdx ul9 rfl rfl (by omega) (by simpa using hu2)) rfl rfl ?_
                refine qv (yConvI ul3 ul5 rfl (i64in (by omega))) rfl rfl ?_
                refine qv (ySub rfl rfl (by omega)) rfl rfl ?_
                refine qv (yAsgn (v := .int .i64 _) rfl) rfl rfl ?_
                refine QL.nil ?_
                refine TQ.sq ?_
                refine TC.seq ?_
                refine TC.seq ?_
                refine TC.quiet rfl ?_
                refine qv (yMove (v := .int .i64 _) rfl) rfl rfl ?_
                refine qv (yMove (v := .int .i64 _) rfl) rfl rfl ?_
                refine qv (yAdd rfl rfl (by omega)) rfl rfl ?_
                refine qv (yQuoK (r := -((9223372036854775808 - ((u.toNat : Int) - 48)) / 10)) rfl rfl (by decide) (quoMin (by omega) (by omega))) rfl rfl ?_
                refine qcLt rfl rfl rfl rfl (fun h69 => ?_) (fun h69 => ?_)
                ·
                  refine QL.nil ?_
                  refine TQ.sq ?_
                  refine TC.condT rfl ?_
                  refine TC.seq ?_
                  refine TC.quiet rfl ?_
                  refine qv (yAsgn (v := .int .i64 _) rfl) rfl rfl ?_
                  refine qv (yAsgn (v := .int .i64 _) rfl) rfl rfl ?_
                  refine qv (yAsgn (v := .int .i64 _) rfl) rfl rfl ?_
                  refine QL.nil ?_
                  refine TQ.sq ?_
                  refine TC.ret (TQ.sqR (TQ.blkR (TQ.sqR (TQ.lpLR (TQ.blkR (TQ.sqR ?_))))))
                  refine TQ.post (v := .tuple ⟨[.int .i64 _, .int .i64 _, .int .i64 _]⟩) rfl ?_
                  have hb1 := valD_ge s (k + 1) (nv * 10 + (u.toNat - 48))
                  rw [← valD_step hu2 hD, hv] at hb1
                  have hd9 : u.toNat ≤ 57 ∧ 48 ≤ u.toNat := by have := isD_iff.1 hD; omega
                  exact fun w hw => ⟨by rw [g]; unfold rdN; rw [rdF_big (neg := true) (by omega) (fun _ => (fun hh => hz ((cut_zero (by omega) (by omega)).2 hh))) (by simp; omega)]; rfl, hw⟩
                ·
                  refine QL.nil ?_
                  refine TQ.sq ?_
                  refine TC.condF rfl ?_
                  refine TC.skip (TQ.sq ?_)
                  refine TC.quiet rfl ?_
                  refine qv (yMove (v := .int .i64 _) rfl) rfl rfl ?_
                  refine qv (yMul rfl rfl (by omega)) rfl rfl ?_
                  refine qv (yMove (v := .int .i64 _) rfl) rfl rfl ?_
                  refine qv (ySub rfl rfl (by omega)) rfl rfl ?_
                  refine qv (yAsgn (v := .int .i64 _) rfl) rfl rfl ?_
                  refine QL.nil ?_
                  refine TQ.blk (TQ.sq ?_)
                  refine TC.quiet rfl ?_
                  refine qv (yMove (v := .int .i64 _) rfl) rfl rfl ?_
                  refine qv (yAdd rfl rfl (by omega)) rfl rfl ?_
                  refine qv (yAsgn (v := .int .i64 _) rfl) rfl rfl ?_
                  refine QL.nil ?_
                  have hd9 : u.toNat ≤ 57 ∧ 48 ≤ u.toNat := by have := isD_iff.1 hD; omega
                  refine TQ.lpL (k + 1, nv * 10 + (u.toNat - 48)) (by first | omega | (dsimp only; omega)) (by repeat (first | exact OffL.refl | refine OffL.updO rfl ?_ | refine OffL.upd rfl ?_ | refine OffL.updL rfl ?_ | refine OffL.mask rfl ?_)) ⟨rfl, (by show Value.int _ _ = _; congr 1; omega), trivial⟩ (fun w hw => ⟨⟨by omega, by omega, (valD_step hu2 hD).symm.trans hv, by omega⟩, hw⟩)
              ·
                refine QL.nil ?_
                refine TQ.sq ?_
                refine TC.condF rfl ?_
                refine TC.exit (TQ.sqX (TQ.lpLX (TQ.blkX (TQ.sq ?_))))
                refine TC.seq ?_
                refine TC.seq ?_
                refine TC.quiet rfl ?_
                refine qv (yMove (v := .int .i64 _) rfl) rfl rfl ?_
                refine qv (yMove (v := .int .i64 _) rfl) rfl rfl ?_
                refine qcEqF rfl rfl (by omega) rfl rfl ?_
                refine QL.nil ?_
                refine TQ.sq ?_
                refine TC.condF rfl ?_
                refine TC.skip (TQ.sq ?_)
                refine TC.seq ?_
                refine TC.quiet rfl ?_
                refine qv (yMove (v := .int .i64 _) rfl) rfl rfl ?_
                refine qv (yMove (v := .int .i64 _) rfl) rfl rfl ?_
                refine qv (yAdd rfl rfl (by omega)) rfl rfl ?_
                refine qv (yAsgn (v := .int .i64 _) rfl) rfl rfl ?_
                refine qv (yAsgn (v := .int .i64 _) rfl) rfl rfl ?_
                refine qv (yAsgn (v := .int .i64 _) rfl) rfl rfl ?_
                refine QL.nil ?_
                refine TQ.sq ?_
                refine TC.ret ?_
                refine TQ.post (v := .tuple ⟨[.int .i64 _, .int .i64 _, .int .i64 _]⟩) rfl ?_
                obtain rfl : k = endD s f := by omega
                rw [valD_stop (i := endD s f) (fun v hv2 => endD_not s f v hv2)] at hv
                subst hv
                exact fun w hw => ⟨by rw [g]; unfold rdN; rw [rdF_ok (neg := true) (by omega) (fun _ => (fun hh => hz ((cut_zero (by omega) (by omega)).2 hh))) (by simp; omega)]; rfl, hw⟩
        ·
          have g := rdNum_pos (s := s) (a := a) (by omega) (by omega) (some_ne (v := 45) hu h29)
          generalize hfd : a.toNat = f at g
          obtain rfl : a = (f : Int) := by omega
          have hf : f ≤ s.length := by omega
          have hge := endD_ge s f
          have hle := endD_le s f hf
          have hcr := chkD_rng s f (endD s f) 59
          refine qv (yPickT rfl rfl) rfl rfl ?_
          refine QL.nil ?_
          refine TQ.sq ?_
          refine TC.condF rfl ?_
          refine TC.skip (TQ.sq ?_)
          refine TC.seq ?_
          refine TC.region ?_
          refine sv (yMove (v := str _) rfl) rfl rfl ?_
          refine sv (yMove (v := .int .i64 _) rfl) rfl rfl ?_
          refine sCall (REnd_ok _ s f hf hs) rfl rfl (fun v36 w hw => ?_)
          obtain ⟨rfl, hw⟩ := hw
          refine TL.wl ?_ hw
          refine sv (yAsgn (v := .int .i64 _) rfl) rfl rfl ?_
          refine TL.nil ?_
          refine TQ.sq ?_
          refine TC.seq ?_
          refine TC.region ?_
          refine sv (yMove (v := str _) rfl) rfl rfl ?_
          refine sv (yMove (v := .int .i64 _) rfl) rfl rfl ?_
          refine sv (yMove (v := .int .i64 _) rfl) rfl rfl ?_
          refine sCall (Rbad_ok _ s f (endD s f) 59 hge hle hs) rfl rfl (fun v40 w hw => ?_)
          obtain ⟨rfl, hw⟩ := hw
          refine TL.wl ?_ hw
          refine sv (yAsgn (v := .int .i64 _) rfl) rfl rfl ?_
          refine TL.nil ?_
          refine TQ.sq ?_
          refine TC.seq ?_
          refine TC.seq ?_
          refine TC.quiet rfl ?_
          refine qv (yMove (v := .int .i64 _) rfl) rfl rfl ?_
          refine qcNe rfl rfl rfl rfl (fun h50 => ?_) (fun h50 => ?_)
          ·
            refine QL.nil ?_
            refine TQ.sq ?_
            refine TC.condT rfl ?_
            refine TC.seq ?_
            refine TC.quiet rfl ?_
            refine qv (yMove (v := .int .i64 _) rfl) rfl rfl ?_
            refine qv (yAsgn (v := .int .i64 _) rfl) rfl rfl ?_
            refine qv (yAsgn (v := .int .i64 _) rfl) rfl rfl ?_
            refine qv (yAsgn (v := .int .i64 _) rfl) rfl rfl ?_
            refine QL.nil ?_
            refine TQ.sq ?_
            refine TC.ret (TQ.sqR ?_)
            refine TQ.post (v := .tuple ⟨[.int .i64 _, .int .i64 _, .int .i64 _]⟩) rfl ?_
            exact fun w hw => ⟨by rw [g]; unfold rdN; rw [rdF_chk (by omega)]; rfl, hw⟩
          ·
            refine QL.nil ?_
            refine TQ.sq ?_
            refine TC.condF rfl ?_
            refine TC.skip (TQ.sq ?_)
            refine TC.seq ?_
            refine TC.seq ?_
            refine TC.quiet rfl ?_
            refine qv (yMove (v := .int .i64 _) rfl) rfl rfl ?_
            refine qv (yMove (v := .int .i64 _) rfl) rfl rfl ?_
            refine qcGtF rfl rfl (by omega) rfl rfl ?_
            refine qv (yMove (v := .bool _) rfl) rfl rfl ?_
            refine qk (.inl ⟨_, _, rfl, rfl, rfl⟩) rfl ?_
            refine qk (.inl ⟨_, _, rfl, rfl, rfl⟩) rfl ?_
            refine qk (.inl ⟨_, _, rfl, rfl, rfl⟩) rfl ?_
            refine qk (.inl ⟨_, _, rfl, rfl, rfl⟩) rfl ?_
            refine qk (.inl ⟨_, _, rfl, rfl, rfl⟩) rfl ?_
            refine qv (yPickF rfl rfl) rfl rfl ?_
            refine QL.nil ?_
            refine TQ.sq ?_
            refine TC.condF rfl ?_
            refine TC.skip (TQ.sq ?_)
            refine TC.seq ?_
            refine TC.quiet rfl ?_
            refine qv (yAsgn (v := .int .i64 _) rfl) rfl rfl ?_
            refine QL.nil ?_
            refine TQ.sq ?_
            refine TC.seq ?_
            refine TC.seq ?_
            refine TC.quiet rfl ?_
            refine qv (yMove (v := .int .i64 _) rfl) rfl rfl ?_
            refine qv (yAsgn (v := .int .i64 _) rfl) rfl rfl ?_
            refine QL.nil ?_
            refine TQ.sq ?_
            refine TC.block ?_
            refine TC.loopL (ι := (Nat) × (Nat)) [4, 5, 6, 10, 11, 12, 55, 56, 57, 58, 59, 60, 61, 62, 63, 64, 65, 66, 67, 68, 69, 70, 71, 72, 73] (fun ⟨k, nv⟩ => [(11, .int .i64 (k : Int)), (10, .int .i64 (-(nv : Int)))]) (fun ⟨k, nv⟩ w => (f ≤ k ∧ k ≤ endD s f ∧ valD s k nv = valD s f 0 ∧ nv ≤ 9223372036854775808) ∧ St c I l w) (fun ⟨k, nv⟩ => endD s f - k) (f, 0) ⟨rfl, rfl, trivial⟩ (fun w hw => ⟨⟨by omega, hge, rfl, by omega⟩, hw⟩) ?_
            rintro g0 ⟨k, nv⟩
            dsimp only
            refine TC.pure fun ⟨hk1, hk2, hv, hnv⟩ => ?_
            refine TC.seq ?_
            refine TC.seq ?_
            refine TC.quiet rfl ?_
            refine qv (yMove (v := .int .i64 _) rfl) rfl rfl ?_
            refine qv (yMove (v := .int .i64 _) rfl) rfl rfl ?_
            refine qcLt rfl rfl rfl rfl (fun h57 => ?_) (fun h57 => ?_)
            ·
              refine QL.nil ?_
              refine TQ.sq ?_
              refine TC.condT rfl ?_
              refine TC.skip (TQ.sq ?_)
              refine TC.seq ?_
              refine TC.block ?_
              refine TC.seq ?_
              refine TC.quiet rfl ?_
              refine qv (yMove (v := str _) rfl) rfl rfl ?_
              refine qv (yMove (v := .int .i64 _) rfl) rfl rfl ?_
              obtain ⟨u, hu2, hD⟩ := endD_in s f k hk1 (by omega)
              have hd8 := isD_iff.1 hD
              refine qv (yStrIdx ul9 rfl rfl (by omega) (by simpa using hu2)) rfl rfl ?_
              refine qv (yConvI ul3 ul5 rfl (i64in (by omega))) rfl rfl ?_
              refine qv (ySub rfl rfl (by omega)) rfl rfl ?_
              refine qv (yAsgn (v := .int .i64 _) rfl) rfl rfl ?_
              refine QL.nil ?_
              refine TQ.sq ?_
              refine TC.seq ?_
              refine TC.seq ?_
              refine TC.quiet rfl ?_
              refine qv (yMove (v := .int .i64 _) rfl) rfl rfl ?_
              refine qv (yMove (v := .int .i64 _) rfl) rfl rfl ?_
              refine qv (yAdd rfl rfl (by omega)) rfl rfl ?_
              refine qv (yQuoK (r := -((9223372036854775808 - ((u.toNat : Int) - 48)) / 10)) rfl rfl (by decide) (quoMin (by omega) (by omega))) rfl rfl ?_
              refine qcLt rfl rfl rfl rfl (fun h69 => ?_) (fun h69 => ?_)
              ·
                refine QL.nil ?_
                refine TQ.sq ?_
                refine TC.condT rfl ?_
                refine TC.seq ?_
                refine TC.quiet rfl ?_
                refine qv (yAsgn (v := .int .i64 _) rfl) rfl rfl ?_
                refine qv (yAsgn (v := .int .i64 _) rfl) rfl rfl ?_
                refine qv (yAsgn (v := .int .i64 _) rfl) rfl rfl ?_
                refine QL.nil ?_
                refine TQ.sq ?_
                refine TC.ret (TQ.sqR (TQ.blkR (TQ.sqR (TQ.lpLR (TQ.blkR (TQ.sqR ?_))))))
                refine TQ.post (v := .tuple ⟨[.int .i64 _, .int .i64 _, .int .i64 _]⟩) rfl ?_
                have hb1 := valD_ge s (k + 1) (nv * 10 + (u.toNat - 48))
                rw [← valD_step hu2 hD, hv] at hb1
                have hd9 : u.toNat ≤ 57 ∧ 48 ≤ u.toNat := by have := isD_iff.1 hD; omega
                exact fun w hw => ⟨by rw [g]; unfold rdN; rw [rdF_big (neg := false) (by omega) (fun h => by cases h) (by simp; omega)]; rfl, hw⟩
              ·
                refine QL.nil ?_
                refine TQ.sq ?_
                refine TC.condF rfl ?_
                refine TC.skip (TQ.sq ?_)
                refine TC.quiet rfl ?_
                refine qv (yMove (v := .int .i64 _) rfl) rfl rfl ?_
                refine qv (yMul rfl rfl (by omega)) rfl rfl ?_
                refine qv (yMove (v := .int .i64 _) rfl) rfl rfl ?_
                refine qv (ySub rfl rfl (by omega)) rfl rfl ?_
                refine qv (yAsgn (v := .int .i64 _) rfl) rfl rfl ?_
                refine QL.nil ?_
                refine TQ.blk (TQ.sq ?_)
                refine TC.quiet rfl ?_
                refine qv (yMove (v := .int .i64 _) rfl) rfl rfl ?_
                refine qv (yAdd rfl rfl (by omega)) rfl rfl ?_
                refine qv (yAsgn (v := .int .i64 _) rfl) rfl rfl ?_
                refine QL.nil ?_
                have hd9 : u.toNat ≤ 57 ∧ 48 ≤ u.toNat := by have := isD_iff.1 hD; omega
                refine TQ.lpL (k + 1, nv * 10 + (u.toNat - 48)) (by first | omega | (dsimp only; omega)) (by repeat (first | exact OffL.refl | refine OffL.updO rfl ?_ | refine OffL.upd rfl ?_ | refine OffL.updL rfl ?_ | refine OffL.mask rfl ?_)) ⟨rfl, (by show Value.int _ _ = _; congr 1; omega), trivial⟩ (fun w hw => ⟨⟨by omega, by omega, (valD_step hu2 hD).symm.trans hv, by omega⟩, hw⟩)
            ·
              refine QL.nil ?_
              refine TQ.sq ?_
              refine TC.condF rfl ?_
              refine TC.exit (TQ.sqX (TQ.lpLX (TQ.blkX (TQ.sq ?_))))
              refine TC.seq ?_
              refine TC.seq ?_
              refine TC.quiet rfl ?_
              refine qv (yMove (v := .int .i64 _) rfl) rfl rfl ?_
              refine qv (yMove (v := .int .i64 _) rfl) rfl rfl ?_
              refine qcEqT rfl rfl (by omega) rfl rfl ?_
              refine QL.nil ?_
              refine TQ.sq ?_
              refine TC.condT rfl ?_
              refine TC.seq ?_
              refine TC.seq ?_
              refine TC.quiet rfl ?_
              refine qv (yMove (v := .int .i64 _) rfl) rfl rfl ?_
              refine qcEq rfl rfl rfl rfl (fun h78 => ?_) (fun h78 => ?_)
              ·
                refine QL.nil ?_
                refine TQ.sq ?_
                refine TC.condT rfl ?_
                refine TC.seq ?_
                refine TC.quiet rfl ?_
                refine qv (yAsgn (v := .int .i64 _) rfl) rfl rfl ?_
                refine qv (yAsgn (v := .int .i64 _) rfl) rfl rfl ?_
                refine qv (yAsgn (v := .int .i64 _) rfl) rfl rfl ?_
                refine QL.nil ?_
                refine TQ.sq ?_
                refine TC.ret (TQ.sqR (TQ.sqR ?_))
                refine TQ.post (v := .tuple ⟨[.int .i64 _, .int .i64 _, .int .i64 _]⟩) rfl ?_
                obtain rfl : k = endD s f := by omega
                rw [valD_stop (i := endD s f) (fun v hv2 => endD_not s f v hv2)] at hv
                subst hv
                exact fun w hw => ⟨by rw [g]; unfold rdN; rw [rdF_big (neg := false) (by omega) (fun h => by cases h) (by simp; omega)]; rfl, hw⟩
              ·
                refine QL.nil ?_
                refine TQ.sq ?_
                refine TC.condF rfl ?_
                refine TC.skip (TQ.sq ?_)
                refine TC.quiet rfl ?_
                refine qv (yMove (v := .int .i64 _) rfl) rfl rfl ?_
                refine qv (yNeg rfl (by omega)) rfl rfl ?_
                refine qv (yAsgn (v := .int .i64 _) rfl) rfl rfl ?_
                refine QL.nil ?_
                refine TQ.sq ?_
                refine TC.seq ?_
                refine TC.quiet rfl ?_
                refine qv (yMove (v := .int .i64 _) rfl) rfl rfl ?_
                refine qv (yMove (v := .int .i64 _) rfl) rfl rfl ?_
                refine qv (yAdd rfl rfl (by omega)) rfl rfl ?_
                refine qv (yAsgn (v := .int .i64 _) rfl) rfl rfl ?_
                refine qv (yAsgn (v := .int .i64 _) rfl) rfl rfl ?_
                refine qv (yAsgn (v := .int .i64 _) rfl) rfl rfl ?_
                refine QL.nil ?_
                refine TQ.sq ?_
                refine TC.ret ?_
                refine TQ.post (v := .tuple ⟨[.int .i64 _, .int .i64 _, .int .i64 _]⟩) rfl ?_
                obtain rfl : k = endD s f := by omega
                rw [valD_stop (i := endD s f) (fun v hv2 => endD_not s f v hv2)] at hv
                subst hv
                exact fun w hw => ⟨by rw [g]; unfold rdN; rw [rdF_ok (neg := false) (by omega) (fun h => by cases h) (by simp; omega)]; simp [V3], hw⟩
      ·
        have g := rdNum_pos (s := s) (a := a) (by omega) (by omega) (fun h => by have := (List.getElem?_eq_some_iff.1 h).1; omega)
        generalize hfd : a.toNat = f at g
        obtain rfl : a = (f : Int) := by omega
        have hf : f ≤ s.length := by omega
        have hge := endD_ge s f
        have hle := endD_le s f hf
        have hcr := chkD_rng s f (endD s f) 59
        refine qv (yMove (v := .bool _) rfl) rfl rfl ?_
        refine qk (.inl ⟨_, _, rfl, rfl, rfl⟩) rfl ?_
        refine qk (.inl ⟨_, _, rfl, rfl, rfl⟩) rfl ?_
        refine qk (.inl ⟨_, _, rfl, rfl, rfl⟩) rfl ?_
        refine qk (.inl ⟨_, _, rfl, rfl, rfl⟩) rfl ?_
        refine qv (yPickF rfl rfl) rfl rfl ?_
        refine QL.nil ?_
        refine TQ.sq ?_
        refine TC.condF rfl ?_
        refine TC.skip (TQ.sq ?_)
        refine TC.seq ?_
        refine TC.region ?_
        refine sv (yMove (v := str _) rfl) rfl rfl ?_
        refine sv (yMove (v := .int .i64 _) rfl) rfl rfl ?_
        refine sCall (REnd_ok _ s f hf hs) rfl rfl (fun v36 w hw => ?_)
        obtain ⟨rfl, hw⟩ := hw
        refine TL.wl ?_ hw
        refine sv (yAsgn (v := .int .i64 _) rfl) rfl rfl ?_
        refine TL.nil ?_
        refine TQ.sq ?_
        refine TC.seq ?_
        refine TC.region ?_
        refine sv (yMove (v := str _) rfl) rfl rfl ?_
        refine sv (yMove (v := .int .i64 _) rfl) rfl rfl ?_
        refine sv (yMove (v := .int .i64 _) rfl) rfl rfl ?_
        refine sCall (Rbad_ok _ s f (endD s f) 59 hge hle hs) rfl rfl (fun v40 w hw => ?_)
        obtain ⟨rfl, hw⟩ := hw
        refine TL.wl ?_ hw
        refine sv (yAsgn (v := .int .i64 _) rfl) rfl rfl ?_
        refine TL.nil ?_
        refine TQ.sq ?_
        refine TC.seq ?_
        refine TC.seq ?_
        refine TC.quiet rfl ?_
        refine qv (yMove (v := .int .i64 _) rfl) rfl rfl ?_
        refine qcNe rfl rfl rfl rfl (fun h50 => ?_) (fun h50 => ?_)
        ·
          refine QL.nil ?_
          refine TQ.sq ?_
          refine TC.condT rfl ?_
          refine TC.seq ?_
          refine TC.quiet rfl ?_
          refine qv (yMove (v := .int .i64 _) rfl) rfl rfl ?_
          refine qv (yAsgn (v := .int .i64 _) rfl) rfl rfl ?_
          refine qv (yAsgn (v := .int .i64 _) rfl) rfl rfl ?_
          refine qv (yAsgn (v := .int .i64 _) rfl) rfl rfl ?_
          refine QL.nil ?_
          refine TQ.sq ?_
          refine TC.ret (TQ.sqR ?_)
          refine TQ.post (v := .tuple ⟨[.int .i64 _, .int .i64 _, .int .i64 _]⟩) rfl ?_
          exact fun w hw => ⟨by rw [g]; unfold rdN; rw [rdF_chk (by omega)]; rfl, hw⟩
        ·
          refine QL.nil ?_
          refine TQ.sq ?_
          refine TC.condF rfl ?_
          refine TC.skip (TQ.sq ?_)
          refine TC.seq ?_
          refine TC.seq ?_
          refine TC.quiet rfl ?_
          refine qv (yMove (v := .int .i64 _) rfl) rfl rfl ?_
          refine qv (yMove (v := .int .i64 _) rfl) rfl rfl ?_
          refine qcGtF rfl rfl (by omega) rfl rfl ?_
          refine qv (yMove (v := .bool _) rfl) rfl rfl ?_
          refine qk (.inl ⟨_, _, rfl, rfl, rfl⟩) rfl ?_
          refine qk (.inl ⟨_, _, rfl, rfl, rfl⟩) rfl ?_
          refine qk (.inl ⟨_, _, rfl, rfl, rfl⟩) rfl ?_
          refine qk (.inl ⟨_, _, rfl, rfl, rfl⟩) rfl ?_
          refine qk (.inl ⟨_, _, rfl, rfl, rfl⟩) rfl ?_
          refine qv (yPickF rfl rfl) rfl rfl ?_
          refine QL.nil ?_
          refine TQ.sq ?_
          refine TC.condF rfl ?_
          refine TC.skip (TQ.sq ?_)
          refine TC.seq ?_
          refine TC.quiet rfl ?_
          refine qv (yAsgn (v := .int .i64 _) rfl) rfl rfl ?_
          refine QL.nil ?_
          refine TQ.sq ?_
          refine TC.seq ?_
          refine TC.seq ?_
          refine TC.quiet rfl ?_
          refine qv (yMove (v := .int .i64 _) rfl) rfl rfl ?_
          refine qv (yAsgn (v := .int .i64 _) rfl) rfl rfl ?_
          refine QL.nil ?_
          refine TQ.sq ?_
          refine TC.block ?_
          refine TC.loopL (ι := (Nat) × (Nat)) [4, 5, 6, 10, 11, 12, 55, 56, 57, 58, 59, 60, 61, 62, 63, 64, 65, 66, 67, 68, 69, 70, 71, 72, 73] (fun ⟨k, nv⟩ => [(11, .int .i64 (k : Int)), (10, .int .i64 (-(nv : Int)))]) (fun ⟨k, nv⟩ w => (f ≤ k ∧ k ≤ endD s f ∧ valD s k nv = valD s f 0 ∧ nv ≤ 9223372036854775808) ∧ St c I l w) (fun ⟨k, nv⟩ => endD s f - k) (f, 0) ⟨rfl, rfl, trivial⟩ (fun w hw => ⟨⟨by omega, hge, rfl, by omega⟩, hw⟩) ?_
          rintro g0 ⟨k, nv⟩
          dsimp only
          refine TC.pure fun ⟨hk1, hk2, hv, hnv⟩ => ?_
          refine TC.seq ?_
          refine TC.seq ?_
          refine TC.quiet rfl ?_
          refine qv (yMove (v := .int .i64 _) rfl) rfl rfl ?_
          refine qv (yMove (v := .int .i64 _) rfl) rfl rfl ?_
          refine qcLt rfl rfl rfl rfl (fun h57 => ?_) (fun h57 => ?_)
          ·
            refine QL.nil ?_
            refine TQ.sq ?_
            refine TC.condT rfl ?_
            refine TC.skip (TQ.sq ?_)
            refine TC.seq ?_
            refine TC.block ?_
            refine TC.seq ?_
            refine TC.quiet rfl ?_
            refine qv (yMove (v := str _) rfl) rfl rfl ?_
            refine qv (yMove (v := .int .i64 _) rfl) rfl rfl ?_
            obtain ⟨u, hu2, hD⟩ := endD_in s f k hk1 (by omega)
            have hd8 := isD_iff.1 hD
            refine qv (yStrIdx ul9 rfl rfl (by omega) (by simpa using hu2)) rfl rfl ?_
            refine qv (yConvI ul3 ul5 rfl (i64in (by omega))) rfl rfl ?_
            refine qv (ySub rfl rfl (by omega)) rfl rfl ?_
            refine qv (yAsgn (v := .int .i64 _) rfl) rfl rfl ?_
            refine QL.nil ?_
            refine TQ.sq ?_
            refine TC.seq ?_
            refine TC.seq ?_
            refine TC.quiet rfl ?_
            refine qv (yMove (v := .int .i64 _) rfl) rfl rfl ?_
            refine qv (yMove (v := .int .i64 _) rfl) rfl rfl ?_
            refine qv (yAdd rfl rfl (by omega)) rfl rfl ?_
            refine qv (yQuoK (r := -((9223372036854775808 - ((u.toNat : Int) - 48)) / 10)) rfl rfl (by decide) (quoMin (by omega) (by omega))) rfl rfl ?_
            refine qcLt rfl rfl rfl rfl (fun h69 => ?_) (fun h69 => ?_)
            ·
              refine QL.nil ?_
              refine TQ.sq ?_
              refine TC.condT rfl ?_
              refine TC.seq ?_
              refine TC.quiet rfl ?_
              refine qv (yAsgn (v := .int .i64 _) rfl) rfl rfl ?_
              refine qv (yAsgn (v := .int .i64 _) rfl) rfl rfl ?_
              refine qv (yAsgn (v := .int .i64 _) rfl) rfl rfl ?_
              refine QL.nil ?_
              refine TQ.sq ?_
              refine TC.ret (TQ.sqR (TQ.blkR (TQ.sqR (TQ.lpLR (TQ.blkR (TQ.sqR ?_))))))
              refine TQ.post (v := .tuple ⟨[.int .i64 _, .int .i64 _, .int .i64 _]⟩) rfl ?_
              have hb1 := valD_ge s (k + 1) (nv * 10 + (u.toNat - 48))
              rw [← valD_step hu2 hD, hv] at hb1
              have hd9 : u.toNat ≤ 57 ∧ 48 ≤ u.toNat := by have := isD_iff.1 hD; omega
              exact fun w hw => ⟨by rw [g]; unfold rdN; rw [rdF_big (neg := false) (by omega) (fun h => by cases h) (by simp; omega)]; rfl, hw⟩
            ·
              refine QL.nil ?_
              refine TQ.sq ?_
              refine TC.condF rfl ?_
              refine TC.skip (TQ.sq ?_)
              refine TC.quiet rfl ?_
              refine qv (yMove (v := .int .i64 _) rfl) rfl rfl ?_
              refine qv (yMul rfl rfl (by omega)) rfl rfl ?_
              refine qv (yMove (v := .int .i64 _) rfl) rfl rfl ?_
              refine qv (ySub rfl rfl (by omega)) rfl rfl ?_
              refine qv (yAsgn (v := .int .i64 _) rfl) rfl rfl ?_
              refine QL.nil ?_
              refine TQ.blk (TQ.sq ?_)
              refine TC.quiet rfl ?_
              refine qv (yMove (v := .int .i64 _) rfl) rfl rfl ?_
              refine qv (yAdd rfl rfl (by omega)) rfl rfl ?_
              refine qv (yAsgn (v := .int .i64 _) rfl) rfl rfl ?_
              refine QL.nil ?_
              have hd9 : u.toNat ≤ 57 ∧ 48 ≤ u.toNat := by have := isD_iff.1 hD; omega
              refine TQ.lpL (k + 1, nv * 10 + (u.toNat - 48)) (by first | omega | (dsimp only; omega)) (by repeat (first | exact OffL.refl | refine OffL.updO rfl ?_ | refine OffL.upd rfl ?_ | refine OffL.updL rfl ?_ | refine OffL.mask rfl ?_)) ⟨rfl, (by show Value.int _ _ = _; congr 1; omega), trivial⟩ (fun w hw => ⟨⟨by omega, by omega, (valD_step hu2 hD).symm.trans hv, by omega⟩, hw⟩)
          ·
            refine QL.nil ?_
            refine TQ.sq ?_
            refine TC.condF rfl ?_
            refine TC.exit (TQ.sqX (TQ.lpLX (TQ.blkX (TQ.sq ?_))))
            refine TC.seq ?_
            refine TC.seq ?_
            refine TC.quiet rfl ?_
            refine qv (yMove (v := .int .i64 _) rfl) rfl rfl ?_
            refine qv (yMove (v := .int .i64 _) rfl) rfl rfl ?_
            refine qcEqT rfl rfl (by omega) rfl rfl ?_
            refine QL.nil ?_
            refine TQ.sq ?_
            refine TC.condT rfl ?_
            refine TC.seq ?_
            refine TC.seq ?_
            refine TC.quiet rfl ?_
            refine qv (yMove (v := .int .i64 _) rfl) rfl rfl ?_
            refine qcEq rfl rfl rfl rfl (fun h78 => ?_) (fun h78 => ?_)
            ·
              refine QL.nil ?_
              refine TQ.sq ?_
              refine TC.condT rfl ?_
              refine TC.seq ?_
              refine TC.quiet rfl ?_
              refine qv (yAsgn (v := .int .i64 _) rfl) rfl rfl ?_
              refine qv (yAsgn (v := .int .i64 _) rfl) rfl rfl ?_
              refine qv (yAsgn (v := .int .i64 _) rfl) rfl rfl ?_
              refine QL.nil ?_
              refine TQ.sq ?_
              refine TC.ret (TQ.sqR (TQ.sqR ?_))
              refine TQ.post (v := .tuple ⟨[.int .i64 _, .int .i64 _, .int .i64 _]⟩) rfl ?_
              obtain rfl : k = endD s f := by omega
              rw [valD_stop (i := endD s f) (fun v hv2 => endD_not s f v hv2)] at hv
              subst hv
              exact fun w hw => ⟨by rw [g]; unfold rdN; rw [rdF_big (neg := false) (by omega) (fun h => by cases h) (by simp; omega)]; rfl, hw⟩
            ·
              refine QL.nil ?_
              refine TQ.sq ?_
              refine TC.condF rfl ?_
              refine TC.skip (TQ.sq ?_)
              refine TC.quiet rfl ?_
              refine qv (yMove (v := .int .i64 _) rfl) rfl rfl ?_
              refine qv (yNeg rfl (by omega)) rfl rfl ?_
              refine qv (yAsgn (v := .int .i64 _) rfl) rfl rfl ?_
              refine QL.nil ?_
              refine TQ.sq ?_
              refine TC.seq ?_
              refine TC.quiet rfl ?_
              refine qv (yMove (v := .int .i64 _) rfl) rfl rfl ?_
              refine qv (yMove (v := .int .i64 _) rfl) rfl rfl ?_
              refine qv (yAdd rfl rfl (by omega)) rfl rfl ?_
              refine qv (yAsgn (v := .int .i64 _) rfl) rfl rfl ?_
              refine qv (yAsgn (v := .int .i64 _) rfl) rfl rfl ?_
              refine qv (yAsgn (v := .int .i64 _) rfl) rfl rfl ?_
              refine QL.nil ?_
              refine TQ.sq ?_
              refine TC.ret ?_
              refine TQ.post (v := .tuple ⟨[.int .i64 _, .int .i64 _, .int .i64 _]⟩) rfl ?_
              obtain rfl : k = endD s f := by omega
              rw [valD_stop (i := endD s f) (fun v hv2 => endD_not s f v hv2)] at hv
              subst hv
              exact fun w hw => ⟨by rw [g]; unfold rdN; rw [rdF_ok (neg := false) (by omega) (fun h => by cases h) (by simp; omega)]; simp [V3], hw⟩
end Go.Proofs.Ytfiambcocnceiaa
