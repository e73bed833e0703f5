import Derived.Test.YtfiambcocnceiaaNum
set_option linter.unusedVariables false
set_option maxRecDepth 100000
namespace Go.Proofs.Ytfiambcocnceiaa
open Go Go.E

theorem idx_some {s : List UInt8} {i : Int} (h0 : 0 ≤ i) (h1 : i < s.length) : ∃ u, s[i.toNat]? = some u := ⟨s[i.toNat]'(by omega), List.getElem?_eq_getElem _⟩
theorem u8_of {u : UInt8} {k : Int} (h : (u.toNat : Int) = k) : u = UInt8.ofNat k.toNat := by
  rw [← h]; simp
theorem u8_ne {u v : UInt8} (h : (u.toNat : Int) ≠ (v.toNat : Int)) : u ≠ v := fun e => h (by rw [e])
def isD (c : UInt8) : Bool := decide (48 ≤ c.toNat ∧ c.toNat ≤ 57)
def endD (s : List UInt8) (i : Nat) : Nat := if h : i < s.length then (if isD s[i] then endD s (i + 1) else i) else i
termination_by s.length - i
def valD (s : List UInt8) (i n : Nat) : Nat := if h : i < s.length then (if isD s[i] then valD s (i + 1) (n * 10 + (s[i].toNat - 48)) else n) else n
termination_by s.length - i
theorem endD_step {s : List UInt8} {i : Nat} {u : UInt8} (h : s[i]? = some u) (hd : isD u = true) : endD s i = endD s (i + 1) := by
  obtain ⟨h1, h2⟩ := List.getElem?_eq_some_iff.1 h
  rw [endD, dif_pos h1, h2, if_pos hd]
theorem valD_step {s : List UInt8} {i n : Nat} {u : UInt8} (h : s[i]? = some u) (hd : isD u = true) : valD s i n = valD s (i + 1) (n * 10 + (u.toNat - 48)) := by
  obtain ⟨h1, h2⟩ := List.getElem?_eq_some_iff.1 h
  rw [valD, dif_pos h1, h2, if_pos hd]
theorem endD_stop {s : List UInt8} {i : Nat} (h : ∀ u, s[i]? = some u → isD u = false) : endD s i = i := by
  rw [endD]; split
  · rename_i hl
    rw [if_neg (by rw [h _ (List.getElem?_eq_getElem hl)]; simp)]
  · rfl
theorem valD_stop {s : List UInt8} {i n : Nat} (h : ∀ u, s[i]? = some u → isD u = false) : valD s i n = n := by
  rw [valD]; split
  · rename_i hl
    rw [if_neg (by rw [h _ (List.getElem?_eq_getElem hl)]; simp)]
  · rfl
theorem endD_ge (s : List UInt8) (i : Nat) : i ≤ endD s i := by
  rw [endD]; split
  · split
    · have := endD_ge s (i + 1); omega
    · omega
  · omega
termination_by s.length - i
theorem endD_le (s : List UInt8) (i : Nat) (h : i ≤ s.length) : endD s i ≤ s.length := by
  rw [endD]; split
  · split
    · exact endD_le s (i + 1) (by omega)
    · omega
  · omega
termination_by s.length - i
theorem valD_ge (s : List UInt8) (i n : Nat) : n ≤ valD s i n := by
  rw [valD]; split
  · split
    · have := valD_ge s (i + 1) (n * 10 + (s[i].toNat - 48)); omega
    · omega
  · omega
termination_by s.length - i
/-- between a place and where its digits end stand digits -/
theorem endD_in (s : List UInt8) (i k : Nat) (h0 : i ≤ k) (h1 : k < endD s i) : ∃ u, s[k]? = some u ∧ isD u = true := by
  rw [endD] at h1; split at h1
  · rename_i hl
    split at h1
    · rename_i hd
      by_cases e : i = k
      · subst e; exact ⟨_, List.getElem?_eq_getElem hl, hd⟩
      · exact endD_in s (i + 1) k (by omega) h1
    · omega
  · omega
termination_by s.length - i
theorem isD_iff {u : UInt8} : isD u = true ↔ 48 ≤ (u.toNat : Int) ∧ (u.toNat : Int) ≤ 57 := by unfold isD; simp; omega
theorem notD_lo {u : UInt8} (h : (u.toNat : Int) < 48) : isD u = false := by unfold isD; simp; omega
theorem notD_hi {u : UInt8} (h : 57 < (u.toNat : Int)) : isD u = false := by unfold isD; simp; omega
def chkD (s : List UInt8) (i e : Nat) (last : UInt8) : Int := if e = s.length then 5 else if e = i ∨ s[e]? ≠ some last then 6 else if i + 1 < e ∧ s[i]? = some 48 then 6 else 0
def rdF (s : List UInt8) (neg : Bool) (f e v : Nat) : Int × Int × Int :=
  if chkD s f e 59 ≠ 0 then (0, 0, chkD s f e 59) else if neg = true ∧ e = f + 1 ∧ s[f]? = some 48 then (0, 0, 6)
  else if (if neg then 9223372036854775808 else 9223372036854775807) < v then (0, 0, 4) else ((if neg then -(v : Int) else (v : Int)), (e : Int) + 1, 0)
def rdN (s : List UInt8) (neg : Bool) (f : Nat) : Int × Int × Int := rdF s neg f (endD s f) (valD s f 0)
def rdNum (s : List UInt8) (at_ : Int) : Int × Int × Int :=
  if at_ < 0 ∨ (s.length : Int) < at_ then (0, 0, 3) else if s[at_.toNat]? = some 45 then rdN s true (at_.toNat + 1) else rdN s false at_.toNat
theorem rdNum_range {s : List UInt8} {a : Int} (h : a < 0 ∨ (s.length : Int) < a) : rdNum s a = (0, 0, 3) := by unfold rdNum; rw [if_pos h]
theorem rdNum_neg {s : List UInt8} {a : Int} (h0 : 0 ≤ a) (h1 : a ≤ s.length) (h : s[a.toNat]? = some 45) : rdNum s a = rdN s true (a.toNat + 1) := by unfold rdNum; rw [if_neg (by omega), if_pos h]
theorem rdNum_pos {s : List UInt8} {a : Int} (h0 : 0 ≤ a) (h1 : a ≤ s.length) (h : s[a.toNat]? ≠ some 45) : rdNum s a = rdN s false a.toNat := by unfold rdNum; rw [if_neg (by omega), if_neg h]
def V3 (p : Int × Int × Int) : Value := .tuple ⟨[.int .i64 p.1, .int .i64 p.2.1, .int .i64 p.2.2]⟩
theorem chkD_rng (s : List UInt8) (i e : Nat) (last : UInt8) : 0 ≤ chkD s i e last ∧ chkD s i e last ≤ 6 := by
  unfold chkD
  split
  · decide
  · split
    · decide
    · split <;> decide
theorem rdNum_next {s : List UInt8} {a : Int} (h : (rdNum s a).2.2 = 0) (h1 : a ≤ s.length) : a < (rdNum s a).2.1 ∧ (rdNum s a).2.1 ≤ s.length := by
  have key : ∀ (neg : Bool) (f : Nat), f ≤ s.length → (rdN s neg f).2.2 = 0 → (f : Int) < (rdN s neg f).2.1 ∧ (rdN s neg f).2.1 ≤ s.length := by
    intro neg f hf h
    unfold rdN rdF at h ⊢
    have hge := endD_ge s f
    have hle := endD_le s f hf
    by_cases h1 : chkD s f (endD s f) 59 ≠ 0
    · rw [if_pos h1] at h; exact absurd h h1
    · rw [if_neg h1] at h ⊢
      by_cases h2 : neg = true ∧ endD s f = f + 1 ∧ s[f]? = some 48
      · rw [if_pos h2] at h; exact absurd h (by decide)
      · rw [if_neg h2] at h ⊢
        by_cases h3 : (if neg then 9223372036854775808 else 9223372036854775807) < valD s f 0
        · rw [if_pos h3] at h; exact absurd h (by decide)
        · rw [if_neg h3]
          have hne : endD s f ≠ s.length := fun e => h1 (by unfold chkD; rw [if_pos e]; decide)
          have hne2 : endD s f ≠ f := fun e => h1 (by unfold chkD; rw [if_neg hne, if_pos (.inl e)]; decide)
          simp; omega
  unfold rdNum at h ⊢
  by_cases h2 : a < 0 ∨ (s.length : Int) < a
  · rw [if_pos h2] at h; exact absurd h (by decide)
  · rw [if_neg h2] at h ⊢
    by_cases h3 : s[a.toNat]? = some 45
    · rw [if_pos h3] at h ⊢
      have hl := (List.getElem?_eq_some_iff.1 h3).1
      have := key true (a.toNat + 1) (by omega) h; omega
    · rw [if_neg h3] at h ⊢
      have := key false a.toNat (by omega) h; omega
theorem rdNum_wf {s : List UInt8} {a : Int} (h : (rdNum s a).2.2 = 0) : -9223372036854775808 ≤ (rdNum s a).1 ∧ (rdNum s a).1 ≤ 9223372036854775807 := by
  have key : ∀ (neg : Bool) (f : Nat), -9223372036854775808 ≤ (rdN s neg f).1 ∧ (rdN s neg f).1 ≤ 9223372036854775807 := by
    intro neg f
    unfold rdN rdF
    by_cases h1 : chkD s f (endD s f) 59 ≠ 0
    · rw [if_pos h1]; constructor <;> simp
    · rw [if_neg h1]
      by_cases h2 : neg = true ∧ endD s f = f + 1 ∧ s[f]? = some 48
      · rw [if_pos h2]; constructor <;> decide
      · rw [if_neg h2]
        by_cases h3 : (if neg then 9223372036854775808 else 9223372036854775807) < valD s f 0
        · rw [if_pos h3]; constructor <;> decide
        · rw [if_neg h3]
          cases neg <;> simp at h3 ⊢ <;> omega
  unfold rdNum
  split
  · constructor <;> decide
  · split <;> exact key _ _

theorem chkD5 {s : List UInt8} {i e : Nat} {l : UInt8} (h : e = s.length) : chkD s i e l = 5 := by unfold chkD; rw [if_pos h]
theorem chkD6 {s : List UInt8} {i e : Nat} {l : UInt8} (h : e ≠ s.length) (h1 : e = i ∨ s[e]? ≠ some l) : chkD s i e l = 6 := by unfold chkD; rw [if_neg h, if_pos h1]
theorem chkD6' {s : List UInt8} {i e : Nat} {l : UInt8} (h : e ≠ s.length) (h1 : e ≠ i) (h2 : s[e]? = some l) (h3 : i + 1 < e) (h4 : s[i]? = some 48) : chkD s i e l = 6 := by unfold chkD; rw [if_neg h, if_neg (by simp [h1, h2]), if_pos ⟨h3, h4⟩]
theorem chkD0 {s : List UInt8} {i e : Nat} {l : UInt8} (h : e ≠ s.length) (h1 : e ≠ i) (h2 : s[e]? = some l) (h3 : ¬ (i + 1 < e ∧ s[i]? = some 48)) : chkD s i e l = 0 := by unfold chkD; rw [if_neg h, if_neg (by simp [h1, h2]), if_neg h3]
theorem some_ne {o : Option UInt8} {u v : UInt8} (h : o = some u) (hn : (u.toNat : Int) ≠ (v.toNat : Int)) : o ≠ some v := fun e => u8_ne hn (by rw [h] at e; exact Option.some.inj e)
theorem some_eq {o : Option UInt8} {u v : UInt8} (h : o = some u) (hn : (u.toNat : Int) = (v.toNat : Int)) : o = some v := by rw [h]; congr 1; exact UInt8.toNat_inj.1 (by omega)
theorem rdF_chk {s : List UInt8} {neg : Bool} {f e v : Nat} (h : chkD s f e 59 ≠ 0) : rdF s neg f e v = (0, 0, chkD s f e 59) := by unfold rdF; rw [if_pos h]
theorem rdF_zero {s : List UInt8} {f e v : Nat} (h : chkD s f e 59 = 0) (h1 : e = f + 1) (h2 : s[f]? = some 48) : rdF s true f e v = (0, 0, 6) := by unfold rdF; rw [if_neg (by simp [h]), if_pos ⟨rfl, h1, h2⟩]
theorem rdF_big {s : List UInt8} {neg : Bool} {f e v : Nat} (h : chkD s f e 59 = 0) (h1 : neg = true → ¬ (e = f + 1 ∧ s[f]? = some 48)) (h2 : (if neg then 9223372036854775808 else 9223372036854775807) < v) : rdF s neg f e v = (0, 0, 4) := by
  unfold rdF; rw [if_neg (by simp [h]), if_neg (fun hh => h1 hh.1 hh.2), if_pos h2]
theorem rdF_ok {s : List UInt8} {neg : Bool} {f e v : Nat} (h : chkD s f e 59 = 0) (h1 : neg = true → ¬ (e = f + 1 ∧ s[f]? = some 48)) (h2 : ¬ (if neg then 9223372036854775808 else 9223372036854775807) < v) : rdF s neg f e v = ((if neg then -(v : Int) else (v : Int)), (e : Int) + 1, 0) := by
  unfold rdF; rw [if_neg (by simp [h]), if_neg (fun hh => h1 hh.1 hh.2), if_neg h2]

theorem REnd_ok {c : Cx} {I : Im} (l : Ow) (s : List UInt8) (i : Nat) (hi : i ≤ s.length) (hs : s.length ≤ 1000000000000) : Ct Try.prog 49 [str s, .int .i64 i] (St c I l) fun v w => v = .int .i64 (endD s i) ∧ St c I l w := by
  refine Ct.enter (n := 24) Try.func49 rfl rfl rfl rfl rfl rfl ?_
  refine TC.seq ?_
  refine TC.quiet rfl ?_
  refine qv (yAsgn (v := .int .i64 _) rfl) rfl rfl ?_
  refine QL.nil ?_
  refine TQ.sq ?_
  refine TC.seq ?_
  refine TC.block ?_
  refine TC.loopL (ι := (Nat)) [1, 5, 6, 7, 8, 9, 10, 11, 12, 13, 14, 15, 16, 17, 18, 19, 20, 21, 22] (fun k => [(1, .int .i64 (k : Int))]) (fun k w => (k ≤ s.length ∧ endD s k = endD s i) ∧ St c I l w) (fun k => s.length - k) i ⟨rfl, trivial⟩ (fun w hw => ⟨⟨hi, rfl⟩, hw⟩) ?_
  rintro g0 k
  dsimp only
  refine TC.pure fun ⟨hk, he⟩ => ?_
  refine TC.seq ?_
  refine TC.seq ?_
  refine TC.quiet rfl ?_
  refine qv (yMove (v := .int .i64 _) rfl) rfl rfl ?_
  refine qv (yMove (v := str _) rfl) rfl rfl ?_
  refine qv (yStrLen ul9 rfl) rfl rfl ?_
  refine qcLt rfl rfl rfl rfl (fun h8 => ?_) (fun h8 => ?_)
  ·
    refine qv (yMove (v := .bool _) rfl) rfl rfl ?_
    refine qv (yMove (v := str _) rfl) (.inl ⟨_, _, rfl, rfl, rfl⟩) rfl ?_
    refine qv (yMove (v := .int .i64 _) rfl) (.inl ⟨_, _, rfl, rfl, rfl⟩) rfl ?_
    obtain ⟨u, hu⟩ := idx_some (s := s) (i := (k : Int)) (by omega) (by omega)
    refine qv (yStrIdx ul9 rfl rfl (by omega) hu) (.inl ⟨_, _, rfl, rfl, rfl⟩) rfl ?_
    refine qcGe rfl rfl (.inl ⟨_, _, rfl, rfl, rfl⟩) rfl (fun h13 => ?_) (fun h13 => ?_)
    ·
      refine qv (yPickT rfl rfl) rfl rfl ?_
      refine qv (yMove (v := .bool _) rfl) rfl rfl ?_
      refine qv (yMove (v := str _) rfl) (.inl ⟨_, _, rfl, rfl, rfl⟩) rfl ?_
      refine qv (yMove (v := .int .i64 _) rfl) (.inl ⟨_, _, rfl, rfl, rfl⟩) rfl ?_
      refine qv (yStrIdx ul9 rfl rfl (by omega) hu) (.inl ⟨_, _, rfl, rfl, rfl⟩) rfl ?_
      refine qcLe rfl rfl (.inl ⟨_, _, rfl, rfl, rfl⟩) rfl (fun h19 => ?_) (fun h19 => ?_)
      ·
        refine qv (yPickT rfl rfl) rfl rfl ?_
        refine QL.nil ?_
        refine TQ.sq ?_
        refine TC.condT rfl ?_
        refine TC.skip (TQ.sq ?_)
        refine TC.block ?_
        refine TC.quiet rfl ?_
        refine qv (yMove (v := .int .i64 _) rfl) rfl rfl ?_
        refine qv (yAdd rfl rfl (by omega)) rfl rfl ?_
        refine qv (yAsgn (v := .int .i64 _) rfl) rfl rfl ?_
        refine QL.nil ?_
        refine TQ.blk ?_
        refine TQ.lpL (k + 1) (by first | omega | (dsimp only; omega)) (by repeat (first | exact OffL.refl | refine OffL.updO rfl ?_ | refine OffL.upd rfl ?_ | refine OffL.updL rfl ?_ | refine OffL.mask rfl ?_)) ⟨rfl, trivial⟩ (fun w hw => ⟨⟨by omega, (endD_step (u := u) (by simpa using hu) (isD_iff.2 ⟨h13, h19⟩)).symm.trans he⟩, hw⟩)
      ·
        refine qv (yPickT rfl rfl) rfl rfl ?_
        refine QL.nil ?_
        refine TQ.sq ?_
        refine TC.condF rfl ?_
        refine TC.exit (TQ.sqX (TQ.lpLX (TQ.blkX (TQ.sq ?_))))
        refine TC.seq ?_
        refine TC.quiet rfl ?_
        refine qv (yMove (v := .int .i64 _) rfl) rfl rfl ?_
        refine qv (yAsgn (v := .int .i64 _) rfl) rfl rfl ?_
        refine QL.nil ?_
        refine TQ.sq ?_
        refine TC.ret ?_
        refine TQ.post (v := .int .i64 _) rfl ?_
        have := endD_stop (s := s) (i := k) (fun v hv => by rw [show s[k]? = some u from by simpa using hu] at hv; cases hv; exact notD_hi h19)
        exact fun w hw => ⟨by rw [← he, this], hw⟩
    ·
      refine qv (yPickT rfl rfl) rfl rfl ?_
      refine qv (yMove (v := .bool _) rfl) rfl rfl ?_
      refine qk (.inl ⟨_, _, rfl, rfl, rfl⟩) rfl ?_
      refine qk (.inl ⟨_, _, rfl, rfl, rfl⟩) rfl ?_
      refine qk (.inl ⟨_, _, rfl, rfl, rfl⟩) rfl ?_
      refine qk (.inl ⟨_, _, rfl, rfl, rfl⟩) rfl ?_
      refine qv (yPickF rfl rfl) rfl rfl ?_
      refine QL.nil ?_
      refine TQ.sq ?_
      refine TC.condF rfl ?_
      refine TC.exit (TQ.sqX (TQ.lpLX (TQ.blkX (TQ.sq ?_))))
      refine TC.seq ?_
      refine TC.quiet rfl ?_
      refine qv (yMove (v := .int .i64 _) rfl) rfl rfl ?_
      refine qv (yAsgn (v := .int .i64 _) rfl) rfl rfl ?_
      refine QL.nil ?_
      refine TQ.sq ?_
      refine TC.ret ?_
      refine TQ.post (v := .int .i64 _) rfl ?_
      have := endD_stop (s := s) (i := k) (fun v hv => by rw [show s[k]? = some u from by simpa using hu] at hv; cases hv; exact notD_lo h13)
      exact fun w hw => ⟨by rw [← he, this], hw⟩
  ·
    refine qv (yMove (v := .bool _) rfl) rfl rfl ?_
    refine qk (.inl ⟨_, _, rfl, rfl, rfl⟩) rfl ?_
    refine qk (.inl ⟨_, _, rfl, rfl, rfl⟩) rfl ?_
    refine qk (.inl ⟨_, _, rfl, rfl, rfl⟩) rfl ?_
    refine qk (.inl ⟨_, _, rfl, rfl, rfl⟩) rfl ?_
    refine qv (yPickF rfl rfl) rfl rfl ?_
    refine qv (yMove (v := .bool _) rfl) rfl rfl ?_
    refine qk (.inl ⟨_, _, rfl, rfl, rfl⟩) rfl ?_
    refine qk (.inl ⟨_, _, rfl, rfl, rfl⟩) rfl ?_
    refine qk (.inl ⟨_, _, rfl, rfl, rfl⟩) rfl ?_
    refine qk (.inl ⟨_, _, rfl, rfl, rfl⟩) rfl ?_
    refine qv (yPickF rfl rfl) rfl rfl ?_
    refine QL.nil ?_
    refine TQ.sq ?_
    refine TC.condF rfl ?_
    refine TC.exit (TQ.sqX (TQ.lpLX (TQ.blkX (TQ.sq ?_))))
    refine TC.seq ?_
    refine TC.quiet rfl ?_
    refine qv (yMove (v := .int .i64 _) rfl) rfl rfl ?_
    refine qv (yAsgn (v := .int .i64 _) rfl) rfl rfl ?_
    refine QL.nil ?_
    refine TQ.sq ?_
    refine TC.ret ?_
    refine TQ.post (v := .int .i64 _) rfl ?_
    have := endD_stop (s := s) (i := k) (fun v hv => by have := (List.getElem?_eq_some_iff.1 hv).1; omega)
    exact fun w hw => ⟨by rw [← he, this], hw⟩
theorem Rbad_ok {c : Cx} {I : Im} (l : Ow) (s : List UInt8) (i e : Nat) (last : UInt8) (hi : i ≤ e) (he : e ≤ s.length) (hs : s.length ≤ 1000000000000) : Ct Try.prog 50 [str s, .int .i64 i, .int .i64 e, .int .u8 last.toNat] (St c I l) fun v w => v = .int .i64 (chkD s i e last) ∧ St c I l w := by
  refine Ct.enter (n := 33) Try.func50 rfl rfl rfl rfl rfl rfl ?_
  refine TC.seq ?_
  refine TC.quiet rfl ?_
  refine qv (yAsgn (v := .int .i64 _) rfl) rfl rfl ?_
  refine QL.nil ?_
  refine TQ.sq ?_
  refine TC.seq ?_
  refine TC.seq ?_
  refine TC.quiet rfl ?_
  refine qv (yMove (v := .int .i64 _) rfl) rfl rfl ?_
  refine qv (yMove (v := str _) rfl) rfl rfl ?_
  refine qv (yStrLen ul9 rfl) rfl rfl ?_
  refine qcGe rfl rfl rfl rfl (fun h12 => ?_) (fun h12 => ?_)
  ·
    refine QL.nil ?_
    refine TQ.sq ?_
    refine TC.condT rfl ?_
    refine TC.seq ?_
    refine TC.quiet rfl ?_
    refine qv (yAsgn (v := .int .i64 _) rfl) rfl rfl ?_
    refine QL.nil ?_
    refine TQ.sq ?_
    refine TC.ret (TQ.sqR ?_)
    refine TQ.post (v := .int .i64 _) rfl ?_
    exact fun w hw => ⟨by rw [chkD5 (by omega)], hw⟩
  ·
    refine QL.nil ?_
    refine TQ.sq ?_
    refine TC.condF rfl ?_
    refine TC.skip (TQ.sq ?_)
    refine TC.seq ?_
    refine TC.seq ?_
    refine TC.quiet rfl ?_
    refine qv (yMove (v := .int .i64 _) rfl) rfl rfl ?_
    refine qv (yMove (v := .int .i64 _) rfl) rfl rfl ?_
    refine qcEq rfl rfl rfl rfl (fun h15 => ?_) (fun h15 => ?_)
    ·
      refine qv (yMove (v := .bool _) rfl) rfl rfl ?_
      refine qk (.inl ⟨_, _, rfl, rfl, rfl⟩) rfl ?_
      refine qk (.inl ⟨_, _, rfl, rfl, rfl⟩) rfl ?_
      refine qk (.inl ⟨_, _, rfl, rfl, rfl⟩) rfl ?_
      refine qk (.inl ⟨_, _, rfl, rfl, rfl⟩) rfl ?_
      refine qk (.inl ⟨_, _, rfl, rfl, rfl⟩) rfl ?_
      refine qv (yPickT rfl rfl) rfl rfl ?_
      refine QL.nil ?_
      refine TQ.sq ?_
      refine TC.condT rfl ?_
      refine TC.seq ?_
      refine TC.quiet rfl ?_
      refine qv (yAsgn (v := .int .i64 _) rfl) rfl rfl ?_
      refine QL.nil ?_
      refine TQ.sq ?_
      refine TC.ret (TQ.sqR ?_)
      refine TQ.post (v := .int .i64 _) rfl ?_
      exact fun w hw => ⟨by rw [chkD6 (by omega) (.inl (by omega))], hw⟩
    ·
      refine qv (yMove (v := .bool _) rfl) rfl rfl ?_
      refine qv (yMove (v := str _) rfl) (.inl ⟨_, _, rfl, rfl, rfl⟩) rfl ?_
      refine qv (yMove (v := .int .i64 _) rfl) (.inl ⟨_, _, rfl, rfl, rfl⟩) rfl ?_
      obtain ⟨u, hu⟩ := idx_some (s := s) (i := (e : Int)) (by omega) (by omega)
      refine qv (yStrIdx ul9 rfl rfl (by omega) hu) (.inl ⟨_, _, rfl, rfl, rfl⟩) rfl ?_
      refine qv (yMove (v := .int .u8 _) rfl) (.inl ⟨_, _, rfl, rfl, rfl⟩) rfl ?_
      refine qcNe rfl rfl (.inl ⟨_, _, rfl, rfl, rfl⟩) rfl (fun h21 => ?_) (fun h21 => ?_)
      ·
        refine qv (yPickF rfl rfl) rfl rfl ?_
        refine QL.nil ?_
        refine TQ.sq ?_
        refine TC.condT rfl ?_
        refine TC.seq ?_
        refine TC.quiet rfl ?_
        refine qv (yAsgn (v := .int .i64 _) rfl) rfl rfl ?_
        refine QL.nil ?_
        refine TQ.sq ?_
        refine TC.ret (TQ.sqR ?_)
        refine TQ.post (v := .int .i64 _) rfl ?_
        exact fun w hw => ⟨by rw [chkD6 (by omega) (.inr (some_ne (by simpa using hu) h21))], hw⟩
      ·
        refine qv (yPickF rfl rfl) rfl rfl ?_
        refine QL.nil ?_
        refine TQ.sq ?_
        refine TC.condF rfl ?_
        refine TC.skip (TQ.sq ?_)
        refine TC.seq ?_
        refine TC.seq ?_
        refine TC.quiet rfl ?_
        refine qv (yMove (v := .int .i64 _) rfl) rfl rfl ?_
        refine qv (yMove (v := .int .i64 _) rfl) rfl rfl ?_
        refine qv (yAdd rfl rfl (by omega)) rfl rfl ?_
        refine qcGt rfl rfl rfl rfl (fun h26 => ?_) (fun h26 => ?_)
        ·
          refine qv (yMove (v := .bool _) rfl) rfl rfl ?_
          refine qv (yMove (v := str _) rfl) (.inl ⟨_, _, rfl, rfl, rfl⟩) rfl ?_
          refine qv (yMove (v := .int .i64 _) rfl) (.inl ⟨_, _, rfl, rfl, rfl⟩) rfl ?_
          obtain ⟨q, hq_⟩ := idx_some (s := s) (i := (i : Int)) (by omega) (by omega)
          refine qv (yStrIdx ul9 rfl rfl (by omega) hq_) (.inl ⟨_, _, rfl, rfl, rfl⟩) rfl ?_
          refine qcEq rfl rfl (.inl ⟨_, _, rfl, rfl, rfl⟩) rfl (fun h31 => ?_) (fun h31 => ?_)
          ·
            refine qv (yPickT rfl rfl) rfl rfl ?_
            refine QL.nil ?_
            refine TQ.sq ?_
            refine TC.condT rfl ?_
            refine TC.seq ?_
            refine TC.quiet rfl ?_
            refine qv (yAsgn (v := .int .i64 _) rfl) rfl rfl ?_
            refine QL.nil ?_
            refine TQ.sq ?_
            refine TC.ret (TQ.sqR ?_)
            refine TQ.post (v := .int .i64 _) rfl ?_
            exact fun w hw => ⟨by rw [chkD6' (by omega) (by omega) (some_eq (by simpa using hu) h21) (by omega) (some_eq (v := 48) (by simpa using hq_) h31)], hw⟩
          ·
            refine qv (yPickT rfl rfl) rfl rfl ?_
            refine QL.nil ?_
            refine TQ.sq ?_
            refine TC.condF rfl ?_
            refine TC.skip (TQ.sq ?_)
            refine TC.seq ?_
            refine TC.quiet rfl ?_
            refine qv (yAsgn (v := .int .i64 _) rfl) rfl rfl ?_
            refine QL.nil ?_
            refine TQ.sq ?_
            refine TC.ret ?_
            refine TQ.post (v := .int .i64 _) rfl ?_
            exact fun w hw => ⟨by rw [chkD0 (by omega) (by omega) (some_eq (by simpa using hu) h21) (fun h => some_ne (v := 48) (by simpa using hq_) h31 h.2)], hw⟩
        ·
          refine qv (yMove (v := .bool _) rfl) rfl rfl ?_
          refine qk (.inl ⟨_, _, rfl, rfl, rfl⟩) rfl ?_
          refine qk (.inl ⟨_, _, rfl, rfl, rfl⟩) rfl ?_
          refine qk (.inl ⟨_, _, rfl, rfl, rfl⟩) rfl ?_
          refine qk (.inl ⟨_, _, rfl, rfl, rfl⟩) rfl ?_
          refine qv (yPickF rfl rfl) rfl rfl ?_
          refine QL.nil ?_
          refine TQ.sq ?_
          refine TC.condF rfl ?_
          refine TC.skip (TQ.sq ?_)
          refine TC.seq ?_
          refine TC.quiet rfl ?_
          refine qv (yAsgn (v := .int .i64 _) rfl) rfl rfl ?_
          refine QL.nil ?_
          refine TQ.sq ?_
          refine TC.ret ?_
          refine TQ.post (v := .int .i64 _) rfl ?_
          exact fun w hw => ⟨by rw [chkD0 (by omega) (by omega) (some_eq (by simpa using hu) h21) (fun h => by omega)], hw⟩
theorem Lshape_ok {c : Cx} {I : Im} (l : Ow) (s : List UInt8) (i e : Nat) (last : UInt8) (hi : i ≤ e) (he : e ≤ s.length) (hs : s.length ≤ 1000000000000) : Ct Try.prog 39 [str s, .int .i64 i, .int .i64 e, .int .u8 last.toNat] (St c I l) fun v w => v = .int .i64 (chkD s i e last) ∧ St c I l w := by
  refine Ct.enter (n := 37) Try.func39 rfl rfl rfl rfl rfl rfl ?_
  refine TC.seq ?_
  refine TC.quiet rfl ?_
  refine qv (yAsgn (v := .int .i64 _) rfl) rfl rfl ?_
  refine QL.nil ?_
  refine TQ.sq ?_
  refine TC.seq ?_
  refine TC.block ?_
  refine TC.seq ?_
  refine TC.quiet rfl ?_
  refine qv (yMove (v := .int .i64 _) rfl) rfl rfl ?_
  refine qv (yMove (v := str _) rfl) rfl rfl ?_
  refine qv (yStrLen ul9 rfl) rfl rfl ?_
  refine qcEq rfl rfl rfl rfl (fun h12 => ?_) (fun h12 => ?_)
  ·
    refine qv (yAsgn (v := .bool _) rfl) rfl rfl ?_
    refine QL.nil ?_
    refine TQ.sq ?_
    refine TC.condT rfl ?_
    refine TC.seq ?_
    refine TC.quiet rfl ?_
    refine qv (yAsgn (v := .int .i64 _) rfl) rfl rfl ?_
    refine QL.nil ?_
    refine TQ.sq ?_
    refine TC.ret (TQ.blkR (TQ.sqR ?_))
    refine TQ.post (v := .int .i64 _) rfl ?_
    exact fun w hw => ⟨by rw [chkD5 (by omega)], hw⟩
  ·
    refine qv (yAsgn (v := .bool _) rfl) rfl rfl ?_
    refine QL.nil ?_
    refine TQ.sq ?_
    refine TC.condF rfl ?_
    refine TC.seq ?_
    refine TC.quiet rfl ?_
    refine qv (yMove (v := .int .i64 _) rfl) rfl rfl ?_
    refine qv (yMove (v := .int .i64 _) rfl) rfl rfl ?_
    refine qcEq rfl rfl rfl rfl (fun h15 => ?_) (fun h15 => ?_)
    ·
      refine qv (yMove (v := .bool _) rfl) rfl rfl ?_
      refine qk (.inl ⟨_, _, rfl, rfl, rfl⟩) rfl ?_
      refine qk (.inl ⟨_, _, rfl, rfl, rfl⟩) rfl ?_
      refine qk (.inl ⟨_, _, rfl, rfl, rfl⟩) rfl ?_
      refine qk (.inl ⟨_, _, rfl, rfl, rfl⟩) rfl ?_
      refine qk (.inl ⟨_, _, rfl, rfl, rfl⟩) rfl ?_
      refine qv (yPickT rfl rfl) rfl rfl ?_
      refine qv (yMove (v := .bool _) rfl) rfl rfl ?_
      refine qk (.inl ⟨_, _, rfl, rfl, rfl⟩) rfl ?_
      refine qk (.inl ⟨_, _, rfl, rfl, rfl⟩) rfl ?_
      refine qk (.inl ⟨_, _, rfl, rfl, rfl⟩) rfl ?_
      refine qk (.inl ⟨_, _, rfl, rfl, rfl⟩) rfl ?_
      refine qk (.inl ⟨_, _, rfl, rfl, rfl⟩) rfl ?_
      refine qk (.inr ⟨rfl, _, rfl, rfl⟩) rfl ?_
      refine qk (.inr ⟨rfl, _, rfl, rfl⟩) rfl ?_
      refine qk (.inr ⟨rfl, _, rfl, rfl⟩) rfl ?_
      refine qk (.inr ⟨rfl, _, rfl, rfl⟩) rfl ?_
      refine qk (.inl ⟨_, _, rfl, rfl, rfl⟩) rfl ?_
      refine qv (yPickT rfl rfl) rfl rfl ?_
      refine qv (yAsgn (v := .bool _) rfl) rfl rfl ?_
      refine QL.nil ?_
      refine TQ.sq ?_
      refine TC.condT rfl ?_
      refine TC.seq ?_
      refine TC.quiet rfl ?_
      refine qv (yAsgn (v := .int .i64 _) rfl) rfl rfl ?_
      refine QL.nil ?_
      refine TQ.sq ?_
      refine TC.ret (TQ.blkR (TQ.sqR ?_))
      refine TQ.post (v := .int .i64 _) rfl ?_
      exact fun w hw => ⟨by rw [chkD6 (by omega) (.inl (by omega))], hw⟩
    ·
      refine qv (yMove (v := .bool _) rfl) rfl rfl ?_
      refine qv (yMove (v := str _) rfl) (.inl ⟨_, _, rfl, rfl, rfl⟩) rfl ?_
      refine qv (yMove (v := .int .i64 _) rfl) (.inl ⟨_, _, rfl, rfl, rfl⟩) rfl ?_
      obtain ⟨u, hu⟩ := idx_some (s := s) (i := (e : Int)) (by omega) (by omega)
      refine qv (yStrIdx ul9 rfl rfl (by omega) hu) (.inl ⟨_, _, rfl, rfl, rfl⟩) rfl ?_
      refine qv (yMove (v := .int .u8 _) rfl) (.inl ⟨_, _, rfl, rfl, rfl⟩) rfl ?_
      refine qcNe rfl rfl (.inl ⟨_, _, rfl, rfl, rfl⟩) rfl (fun h21 => ?_) (fun h21 => ?_)
      ·
        refine qv (yPickF rfl rfl) rfl rfl ?_
        refine qv (yMove (v := .bool _) rfl) rfl rfl ?_
        refine qk (.inl ⟨_, _, rfl, rfl, rfl⟩) rfl ?_
        refine qk (.inl ⟨_, _, rfl, rfl, rfl⟩) rfl ?_
        refine qk (.inl ⟨_, _, rfl, rfl, rfl⟩) rfl ?_
        refine qk (.inl ⟨_, _, rfl, rfl, rfl⟩) rfl ?_
        refine qk (.inl ⟨_, _, rfl, rfl, rfl⟩) rfl ?_
        refine qk (.inr ⟨rfl, _, rfl, rfl⟩) rfl ?_
        refine qk (.inr ⟨rfl, _, rfl, rfl⟩) rfl ?_
        refine qk (.inr ⟨rfl, _, rfl, rfl⟩) rfl ?_
        refine qk (.inr ⟨rfl, _, rfl, rfl⟩) rfl ?_
        refine qk (.inl ⟨_, _, rfl, rfl, rfl⟩) rfl ?_
        refine qv (yPickT rfl rfl) rfl rfl ?_
        refine qv (yAsgn (v := .bool _) rfl) rfl rfl ?_
        refine QL.nil ?_
        refine TQ.sq ?_
        refine TC.condT rfl ?_
        refine TC.seq ?_
        refine TC.quiet rfl ?_
        refine qv (yAsgn (v := .int .i64 _) rfl) rfl rfl ?_
        refine QL.nil ?_
        refine TQ.sq ?_
        refine TC.ret (TQ.blkR (TQ.sqR ?_))
        refine TQ.post (v := .int .i64 _) rfl ?_
        exact fun w hw => ⟨by rw [chkD6 (by omega) (.inr (some_ne (by simpa using hu) h21))], hw⟩
      ·
        refine qv (yPickF rfl rfl) rfl rfl ?_
        refine qv (yMove (v := .bool _) rfl) rfl rfl ?_
        refine qv (yMove (v := .int .i64 _) rfl) (.inl ⟨_, _, rfl, rfl, rfl⟩) rfl ?_
        refine qv (yMove (v := .int .i64 _) rfl) (.inl ⟨_, _, rfl, rfl, rfl⟩) rfl ?_
        refine qv (ySub rfl rfl (by omega)) (.inl ⟨_, _, rfl, rfl, rfl⟩) rfl ?_
        refine qcGt rfl rfl (.inl ⟨_, _, rfl, rfl, rfl⟩) rfl (fun h26 => ?_) (fun h26 => ?_)
        ·
          refine qv (yMove (v := .bool _) rfl) (.inl ⟨_, _, rfl, rfl, rfl⟩) rfl ?_
          refine qv (yMove (v := str _) rfl) (.inl ⟨_, _, rfl, rfl, rfl⟩) rfl ?_
          refine qv (yMove (v := .int .i64 _) rfl) (.inl ⟨_, _, rfl, rfl, rfl⟩) rfl ?_
          obtain ⟨q, hq_⟩ := idx_some (s := s) (i := (i : Int)) (by omega) (by omega)
          refine qv (yStrIdx ul9 rfl rfl (by omega) hq_) (.inl ⟨_, _, rfl, rfl, rfl⟩) rfl ?_
          refine qcEq rfl rfl (.inl ⟨_, _, rfl, rfl, rfl⟩) rfl (fun h31 => ?_) (fun h31 => ?_)
          ·
            refine qv (yPickT rfl rfl) (.inl ⟨_, _, rfl, rfl, rfl⟩) rfl ?_
            refine qv (yPickF rfl rfl) rfl rfl ?_
            refine qv (yAsgn (v := .bool _) rfl) rfl rfl ?_
            refine QL.nil ?_
            refine TQ.sq ?_
            refine TC.condT rfl ?_
            refine TC.seq ?_
            refine TC.quiet rfl ?_
            refine qv (yAsgn (v := .int .i64 _) rfl) rfl rfl ?_
            refine QL.nil ?_
            refine TQ.sq ?_
            refine TC.ret (TQ.blkR (TQ.sqR ?_))
            refine TQ.post (v := .int .i64 _) rfl ?_
            exact fun w hw => ⟨by rw [chkD6' (by omega) (by omega) (some_eq (by simpa using hu) h21) (by omega) (some_eq (v := 48) (by simpa using hq_) h31)], hw⟩
          ·
            refine qv (yPickT rfl rfl) (.inl ⟨_, _, rfl, rfl, rfl⟩) rfl ?_
            refine qv (yPickF rfl rfl) rfl rfl ?_
            refine qv (yAsgn (v := .bool _) rfl) rfl rfl ?_
            refine QL.nil ?_
            refine TQ.sq ?_
            refine TC.condF rfl ?_
            refine TC.skip (TQ.blk (TQ.sq ?_))
            refine TC.seq ?_
            refine TC.quiet rfl ?_
            refine qv (yAsgn (v := .int .i64 _) rfl) rfl rfl ?_
            refine QL.nil ?_
            refine TQ.sq ?_
            refine TC.ret ?_
            refine TQ.post (v := .int .i64 _) rfl ?_
            exact fun w hw => ⟨by rw [chkD0 (by omega) (by omega) (some_eq (by simpa using hu) h21) (fun h => some_ne (v := 48) (by simpa using hq_) h31 h.2)], hw⟩
        ·
          refine qv (yMove (v := .bool _) rfl) (.inl ⟨_, _, rfl, rfl, rfl⟩) rfl ?_
          refine qk (.inl ⟨_, _, rfl, rfl, rfl⟩) rfl ?_
          refine qk (.inl ⟨_, _, rfl, rfl, rfl⟩) rfl ?_
          refine qk (.inl ⟨_, _, rfl, rfl, rfl⟩) rfl ?_
          refine qk (.inl ⟨_, _, rfl, rfl, rfl⟩) rfl ?_
          refine qv (yPickF rfl rfl) (.inl ⟨_, _, rfl, rfl, rfl⟩) rfl ?_
          refine qv (yPickF rfl rfl) rfl rfl ?_
          refine qv (yAsgn (v := .bool _) rfl) rfl rfl ?_
          refine QL.nil ?_
          refine TQ.sq ?_
          refine TC.condF rfl ?_
          refine TC.skip (TQ.blk (TQ.sq ?_))
          refine TC.seq ?_
          refine TC.quiet rfl ?_
          refine qv (yAsgn (v := .int .i64 _) rfl) rfl rfl ?_
          refine QL.nil ?_
          refine TQ.sq ?_
          refine TC.ret ?_
          refine TQ.post (v := .int .i64 _) rfl ?_
          exact fun w hw => ⟨by rw [chkD0 (by omega) (by omega) (some_eq (by simpa using hu) h21) (fun h => by omega)], hw⟩
end Go.Proofs.Ytfiambcocnceiaa
