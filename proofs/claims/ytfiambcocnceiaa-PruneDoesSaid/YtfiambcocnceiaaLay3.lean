import Derived.Test.YtfiambcocnceiaaLay2
set_option linter.unusedVariables false
set_option maxRecDepth 100000
namespace Go.Proofs.Ytfiambcocnceiaa
open Go Go.E

abbrev W64 (z : Int) : Prop := -9223372036854775808 ≤ z ∧ z ≤ 9223372036854775807
def encI (z : Int) : List Value := [.int .i64 z]
def numsP (xs : List Int) : List UInt8 := 40 :: xs.flatMap numS
def numsB (xs : List Int) : List UInt8 := numsP xs ++ [41]
theorem numsP_len {xs : List Int} (h : ∀ x ∈ xs, W64 x) : (numsP xs).length ≤ 1 + 22 * xs.length := by
  have : (xs.flatMap numS).length ≤ 22 * xs.length := by
    induction xs with
    | nil => simp
    | cons x r ih =>
      have h1 := numS_len (h x (by simp)).1 (h x (by simp)).2
      have h2 := ih fun y hy => h y (by simp [hy])
      simp only [List.flatMap_cons, List.length_append, List.length_cons]; omega
  unfold numsP; rw [List.length_cons]; omega
theorem numsB_len {xs : List Int} (h : ∀ x ∈ xs, W64 x) : (numsB xs).length ≤ 2 + 22 * xs.length := by
  have := numsP_len h
  unfold numsB; rw [List.length_append, List.length_singleton]; omega
theorem numsP_take {xs : List Int} {k : Nat} {u : Int} (h : xs[k]? = some u) : numsP (xs.take k) ++ numS u = numsP (xs.take (k + 1)) := by
  unfold numsP
  rw [List.take_add_one, h]; simp
theorem getSome {α : Type} {xs : List α} {k : Nat} (h : k < xs.length) : ∃ u, xs[k]? = some u := ⟨_, List.getElem?_eq_getElem h⟩
theorem getMem {α : Type} {xs : List α} {k : Nat} {u : α} (h : xs[k]? = some u) : u ∈ xs := List.mem_of_getElem? h
/-- what a list of numbers reads as -/
def rds (s : List UInt8) (a : Int) (acc : List Int) : List Int × Int × Int :=
  if a = s.length then ([], 0, 5) else if s[a.toNat]? = some 41 then (acc, a + 1, 0) else if h : 512 ≤ acc.length then ([], 0, 4)
  else if (rdNum s a).2.2 ≠ 0 then ([], 0, (rdNum s a).2.2) else rds s (rdNum s a).2.1 (acc ++ [(rdNum s a).1])
termination_by 512 - acc.length
decreasing_by simp; omega
def rdNums (s : List UInt8) (a : Int) : List Int × Int × Int :=
  if a < 0 ∨ (s.length : Int) < a then ([], 0, 3) else if a = s.length then ([], 0, 5) else if s[a.toNat]? ≠ some 40 then ([], 0, 6) else rds s (a + 1) []
theorem rds_end {s : List UInt8} {a : Int} {acc : List Int} (h : a = s.length) : rds s a acc = ([], 0, 5) := by rw [rds, if_pos h]
theorem rds_done {s : List UInt8} {a : Int} {acc : List Int} (h : a ≠ s.length) (h1 : s[a.toNat]? = some 41) : rds s a acc = (acc, a + 1, 0) := by rw [rds, if_neg h, if_pos h1]
theorem rds_many {s : List UInt8} {a : Int} {acc : List Int} (h : a ≠ s.length) (h1 : s[a.toNat]? ≠ some 41) (h2 : 512 ≤ acc.length) : rds s a acc = ([], 0, 4) := by rw [rds, if_neg h, if_neg h1, dif_pos h2]
theorem rds_err {s : List UInt8} {a : Int} {acc : List Int} (h : a ≠ s.length) (h1 : s[a.toNat]? ≠ some 41) (h2 : acc.length < 512) (h3 : (rdNum s a).2.2 ≠ 0) : rds s a acc = ([], 0, (rdNum s a).2.2) := by rw [rds, if_neg h, if_neg h1, dif_neg (by omega), if_pos h3]
theorem rds_step {s : List UInt8} {a : Int} {acc : List Int} (h : a ≠ s.length) (h1 : s[a.toNat]? ≠ some 41) (h2 : acc.length < 512) (h3 : (rdNum s a).2.2 = 0) : rds s a acc = rds s (rdNum s a).2.1 (acc ++ [(rdNum s a).1]) := by
  conv => lhs; rw [rds, if_neg h, if_neg h1, dif_neg (by omega), if_neg (by simp [h3])]
theorem rds_wf {s : List UInt8} : ∀ (m : Nat) {a : Int} {acc : List Int}, 512 - acc.length ≤ m → a ≤ s.length → (∀ x ∈ acc, W64 x) → (rds s a acc).2.2 = 0 → acc.length ≤ 512 → (∀ x ∈ (rds s a acc).1, W64 x) ∧ (rds s a acc).1.length ≤ 512 ∧ a < (rds s a acc).2.1 ∧ (rds s a acc).2.1 ≤ s.length + 1 := by
  intro m
  induction m with
  | zero =>
    intro a acc hm ha hw h hl
    by_cases h1 : a = s.length
    · rw [rds_end h1] at h; exact absurd h (by decide)
    by_cases h2 : s[a.toNat]? = some 41
    · rw [rds_done h1 h2]; exact ⟨hw, hl, by simp; omega, by simp; omega⟩
    · rw [rds_many h1 h2 (by omega)] at h; exact absurd h (by decide)
  | succ m ih =>
    intro a acc hm ha hw h hl
    by_cases h1 : a = s.length
    · rw [rds_end h1] at h; exact absurd h (by decide)
    by_cases h2 : s[a.toNat]? = some 41
    · rw [rds_done h1 h2]; exact ⟨hw, hl, by simp; omega, by simp; omega⟩
    by_cases h3 : 512 ≤ acc.length
    · rw [rds_many h1 h2 h3] at h; exact absurd h (by decide)
    by_cases h4 : (rdNum s a).2.2 = 0
    · have h5 := rdNum_next h4 ha
      rw [rds_step h1 h2 (by omega) h4] at h ⊢
      have := ih (acc := acc ++ [(rdNum s a).1]) (by simp; omega) h5.2 (fun x hx => by
        rcases List.mem_append.1 hx with hx | hx
        · exact hw x hx
        · rw [List.mem_singleton.1 hx]; exact rdNum_wf h4) h (by simp; omega)
      exact ⟨this.1, this.2.1, by omega, this.2.2.2⟩
    · rw [rds_err h1 h2 (by omega) h4] at h; exact absurd h h4
theorem rdNums_wf {s : List UInt8} {a : Int} (h : (rdNums s a).2.2 = 0) : (∀ x ∈ (rdNums s a).1, W64 x) ∧ (rdNums s a).1.length ≤ 512 ∧ a < (rdNums s a).2.1 ∧ (rdNums s a).2.1 ≤ s.length + 1 := by
  unfold rdNums at h ⊢
  by_cases h1 : a < 0 ∨ (s.length : Int) < a
  · rw [if_pos h1] at h; exact absurd h (by decide)
  rw [if_neg h1] at h ⊢
  by_cases h2 : a = s.length
  · rw [if_pos h2] at h; exact absurd h (by decide)
  rw [if_neg h2] at h ⊢
  by_cases h3 : s[a.toNat]? ≠ some 40
  · rw [if_pos h3] at h; exact absurd h (by decide)
  rw [if_neg h3] at h ⊢
  have := rds_wf 512 (by simp) (by omega) (by simp) h (by simp)
  exact ⟨this.1, this.2.1, by omega, this.2.2.2⟩
theorem take_ext {α : Type} {xs ys : List α} {k : Nat} {u v : α} (h : xs.take k = ys.take k) (hu : xs[k]? = some u) (hv : ys[k]? = some v) (e : u = v) : xs.take (k + 1) = ys.take (k + 1) := by
  rw [List.take_add_one, List.take_add_one, h, hu, hv, e]
theorem ne_of_get {α : Type} {xs ys : List α} {k : Nat} {u v : α} (hu : xs[k]? = some u) (hv : ys[k]? = some v) (e : u ≠ v) : xs ≠ ys := fun h => e (by rw [h, hv] at hu; exact (Option.some.inj hu).symm)

theorem N1_ok {c : Cx} {I : Im} (l : Ow) (z : Int) (hz : W64 z) : Ct Try.prog 56 [.int .i64 z] (St c I l) fun v w => v = .tuple ⟨[str (numS z), .int .i64 0]⟩ ∧ St c I l w := by
  refine Ct.enter (n := 6) Try.func56 rfl rfl rfl rfl rfl rfl ?_
  refine TC.seq ?_
  refine TC.quiet rfl ?_
  refine qv (yAsgn (v := str _) rfl) rfl rfl ?_
  refine qv (yAsgn (v := .int .i64 _) rfl) rfl rfl ?_
  refine QL.nil ?_
  refine TQ.sq ?_
  refine TC.seq ?_
  refine TC.region ?_
  refine sv (yMove (v := .int .i64 _) rfl) rfl rfl ?_
  refine sCall (LNumber_ok _ _ hz.1 hz.2) rfl rfl (fun v5 w hw => ?_)
  obtain ⟨rfl, hw⟩ := hw
  refine TL.wl ?_ hw
  refine sv (yAsgn (v := str _) rfl) rfl rfl ?_
  refine sv (yAsgn (v := .int .i64 _) rfl) rfl rfl ?_
  refine TL.nil ?_
  refine TQ.sq ?_
  refine TC.ret ?_
  refine TQ.post (v := .tuple ⟨[str _, .int .i64 _]⟩) rfl ?_
  exact fun w hw => ⟨rfl, hw⟩
theorem list_ok {c : Cx} {I : Im} (l : Ow) (a : Option Addr) (cap : Nat) (xs : List Int) (hs : SA (St c I l) encI 1 a xs) (hx : ∀ x ∈ xs, W64 x) (hl : xs.length ≤ 512) : Ct Try.prog 55 [.slice a xs.length cap, .func (.func 56) #[] #[]] (St c I l) fun v w => v = .tuple ⟨[str (numsB xs), .int .i64 0]⟩ ∧ St c I l w := by
  refine Ct.enter (n := 38) Try.func55 rfl rfl rfl rfl rfl rfl ?_
  refine TC.seq ?_
  refine TC.quiet rfl ?_
  refine qv (yAsgn (v := str _) rfl) rfl rfl ?_
  refine qv (yAsgn (v := .int .i64 _) rfl) rfl rfl ?_
  refine QL.nil ?_
  refine TQ.sq ?_
  refine TC.seq ?_
  refine TC.seq ?_
  refine TC.quiet rfl ?_
  refine qv (yMove (v := .slice _ _ _) rfl) rfl rfl ?_
  refine qv (ySlLen ul50 rfl) rfl rfl ?_
  refine qcGtF rfl rfl (by omega) rfl rfl ?_
  refine QL.nil ?_
  refine TQ.sq ?_
  refine TC.condF rfl ?_
  refine TC.skip (TQ.sq ?_)
  refine TC.seq ?_
  refine TC.region ?_
  refine sBuildSl (vs := [.int .u8 _]) ul62 ti5 rfl rfl rfl rfl (fun b0 => ?_)
  refine sv (yAsgn (v := .slice _ _ _) rfl) rfl rfl ?_
  refine TL.nil ?_
  refine TQ.sq ?_
  refine TC.seq ?_
  refine TC.seq ?_
  refine TC.quiet rfl ?_
  refine qv (yMove (v := .slice _ _ _) rfl) rfl rfl ?_
  refine qv (ySlLen ul50 rfl) rfl rfl ?_
  refine qv (yMove (v := .int .i64 _) rfl) rfl rfl ?_
  refine QL.nil ?_
  refine TQ.sq ?_
  refine TC.block ?_
  refine TC.loopL (ι := (Nat) × (Ow) × (Option Addr) × (Nat)) [4, 5, 6, 8, 9, 10, 17, 18, 19, 20, 21, 22, 23, 24, 25, 26, 27, 28, 29, 30, 31, 32, 33] (fun ⟨k, m, a2, c2⟩ => [(17, .int .i64 (k : Int)), (6, .slice a2 (numsP (xs.take k)).length c2)]) (fun ⟨k, m, a2, c2⟩ w => (k ≤ xs.length ∧ OB 5 m a2 c2 (numsP (xs.take k))) ∧ St c I (m ++ l) w) (fun ⟨k, m, a2, c2⟩ => xs.length - k) (0, [(b0, _)], some ⟨b0, 0, none⟩, 1) ⟨rfl, rfl, trivial⟩ (fun w hw => ⟨⟨by omega, OB.made (bs := [40]) rfl (by decide)⟩, hw⟩) ?_
  rintro g0 ⟨k, m, a2, c2⟩
  dsimp only
  refine TC.pure fun ⟨hk, ho⟩ => ?_
  refine TC.seq ?_
  refine TC.quiet rfl ?_
  refine qcLt rfl rfl rfl rfl (fun h18 => ?_) (fun h18 => ?_)
  ·
    refine QL.nil ?_
    refine TQ.sq ?_
    refine TC.seq ?_
    refine TC.condT rfl ?_
    refine TC.skip (TQ.sq ?_)
    refine TC.seq ?_
    refine TC.block ?_
    refine TC.seq ?_
    refine TC.quiet rfl ?_
    obtain ⟨u, hu⟩ := getSome (xs := xs) (k := k) (by omega)
    have hw64 := hx u (getMem hu)
    have hpl := numsP_len (xs := xs.take k) (fun x hx2 => hx x (List.mem_of_mem_take hx2))
    have hnl := numS_len hw64.1 hw64.2
    have htl : (xs.take k).length = k := by simp; omega
    refine qElA (v := .int .i64 _) ul50 ti3 rfl (hs.mono fun w hw => hw.dropL) rfl (by omega) (by simpa using hu) (fun _ => rfl) (fun _ => rfl) rfl rfl (fun _ => rfl) rfl rfl (fun _ => ?_)
    refine qv (yAsgn (v := .int .i64 _) rfl) rfl rfl ?_
    refine QL.nil ?_
    refine TQ.sq ?_
    refine TC.seq ?_
    refine TC.region ?_
    refine sv (yMove (v := .func _ _ _) rfl) rfl rfl ?_
    refine sv (yMove (v := .int .i64 _) rfl) rfl rfl ?_
    refine sCallV rfl (N1_ok _ u hw64) rfl rfl (fun v24 w hw => ?_)
    obtain ⟨rfl, hw⟩ := hw
    refine TL.wl ?_ hw
    refine sv (yMove (v := .tuple _) rfl) rfl rfl ?_
    refine sv (yExt rfl rfl) rfl rfl ?_
    refine sv (yExt rfl rfl) rfl rfl ?_
    refine sv (yAsgn (v := str _) rfl) rfl rfl ?_
    refine sv (yAsgn (v := .int .i64 _) rfl) rfl rfl ?_
    refine TL.nil ?_
    refine TQ.sq ?_
    refine TC.seq ?_
    refine TC.seq ?_
    refine TC.quiet rfl ?_
    refine qv (yMove (v := .int .i64 _) rfl) rfl rfl ?_
    refine qcNeF rfl rfl (by omega) rfl rfl ?_
    refine QL.nil ?_
    refine TQ.sq ?_
    refine TC.condF rfl ?_
    refine TC.skip (TQ.sq ?_)
    refine TC.region ?_
    refine sv (yMove (v := .slice _ _ _) rfl) rfl rfl ?_
    refine sv (yMove (v := str _) rfl) rfl rfl ?_
    refine sAppB ul62 ti5 rfl rfl (by assumption) (Src.of_str ul9) (by omega) rfl (fun m2 a3 c3 ho2 => ?_)
    refine sv (yAsgn (v := .slice _ _ _) rfl) rfl rfl ?_
    refine TL.nil ?_
    refine TQ.blk (TQ.sq ?_)
    refine TC.quiet rfl ?_
    refine qv (yAdd rfl rfl (by omega)) rfl rfl ?_
    refine qv (yMove (v := .int .i64 _) rfl) rfl rfl ?_
    refine QL.nil ?_
    refine TQ.lpL (k + 1, m2, a3, c3) (by first | omega | (dsimp only; omega)) (by repeat (first | exact OffL.refl | refine OffL.updO rfl ?_ | refine OffL.upd rfl ?_ | refine OffL.updL rfl ?_ | refine OffL.mask rfl ?_)) ⟨rfl, (by rw [← numsP_take hu]; rfl), trivial⟩ (fun w hw => ⟨⟨by omega, by rw [← numsP_take hu]; exact ho2⟩, hw⟩)
  ·
    refine QL.nil ?_
    refine TQ.sq ?_
    refine TC.seq ?_
    refine TC.condF rfl ?_
    refine TC.exit (TQ.sqX (TQ.lpLX (TQ.blkX (TQ.sq ?_))))
    refine TC.seq ?_
    refine TC.region ?_
    refine sv (yMove (v := .slice _ _ _) rfl) rfl rfl ?_
    refine sBuildSl (vs := [.int .u8 _]) ul62 ti5 rfl rfl rfl rfl (fun b1 => ?_)
    refine sAppB1 (41) ul62 ul62 ti5 rfl rfl (by assumption) rfl (by have := numsP_len (xs := xs.take k) (fun x hx2 => hx x (List.mem_of_mem_take hx2)); have : (xs.take k).length ≤ k := by {simp; omega}; omega) rfl (fun m3 a4 c4 ho3 => ?_)
    refine sv (yToStr ul62 ul5 ul9 rfl ho3.sl) rfl rfl ?_
    refine sv (yAsgn (v := str _) rfl) rfl rfl ?_
    refine sv (yAsgn (v := .int .i64 _) rfl) rfl rfl ?_
    refine TL.nil ?_
    refine TQ.sq ?_
    refine TC.ret ?_
    refine TQ.post (v := .tuple ⟨[str _, .int .i64 _]⟩) rfl ?_
    obtain rfl : k = xs.length := by omega
    exact fun w hw => ⟨by rw [List.take_length]; rfl, hw.dropL⟩
theorem Numbers_ok {c : Cx} {I : Im} (l : Ow) (a : Option Addr) (cap : Nat) (xs : List Int) (hs : SA (St c I l) encI 1 a xs) (hx : ∀ x ∈ xs, W64 x) (hl : xs.length ≤ 512) : Ct Try.prog 42 [.slice a xs.length cap] (St c I l) fun v w => v = .tuple ⟨[str (numsB xs), .int .i64 0]⟩ ∧ St c I l w := by
  refine Ct.enter (n := 8) Try.func42 rfl rfl rfl rfl rfl rfl ?_
  refine TC.seq ?_
  refine TC.quiet rfl ?_
  refine qv (yAsgn (v := str _) rfl) rfl rfl ?_
  refine qv (yAsgn (v := .int .i64 _) rfl) rfl rfl ?_
  refine QL.nil ?_
  refine TQ.sq ?_
  refine TC.seq ?_
  refine TC.region ?_
  refine sv (yMove (v := .slice _ _ _) rfl) rfl rfl ?_
  refine sCall (list_ok l a cap xs hs hx hl) rfl rfl (fun v5 w hw => ?_)
  obtain ⟨rfl, hw⟩ := hw
  refine TL.wl ?_ hw
  refine sv (yExt rfl rfl) rfl rfl ?_
  refine sv (yExt rfl rfl) rfl rfl ?_
  refine sv (yAsgn (v := str _) rfl) rfl rfl ?_
  refine sv (yAsgn (v := .int .i64 _) rfl) rfl rfl ?_
  refine TL.nil ?_
  refine TQ.sq ?_
  refine TC.ret ?_
  refine TQ.post (v := .tuple ⟨[str _, .int .i64 _]⟩) rfl ?_
  exact fun w hw => ⟨rfl, hw⟩
theorem read_ok {c : Cx} {I : Im} (l : Ow) (s : List UInt8) (a : Int) (hs : s.length ≤ 1000000000000) : Ct Try.prog 54 [str s, .int .i64 a, .func (.func 18) #[] #[]] (St c I l) fun v w => ∃ m a2 c2, v = .tuple ⟨[.slice a2 (rdNums s a).1.length c2, .int .i64 (rdNums s a).2.1, .int .i64 (rdNums s a).2.2]⟩ ∧ OA 3 encI 1 m a2 c2 (rdNums s a).1 ∧ St c I (m ++ l) w := by
  refine Ct.enter (n := 67) Try.func54 rfl rfl rfl rfl rfl rfl ?_
  refine TC.seq ?_
  refine TC.quiet rfl ?_
  refine qv (yAsgn (v := .slice _ _ _) rfl) rfl rfl ?_
  refine qv (yAsgn (v := .int .i64 _) rfl) rfl rfl ?_
  refine qv (yAsgn (v := .int .i64 _) rfl) rfl rfl ?_
  refine QL.nil ?_
  refine TQ.sq ?_
  refine TC.seq ?_
  refine TC.block ?_
  refine TC.seq ?_
  refine TC.quiet rfl ?_
  refine qv (yMove (v := .int .i64 _) rfl) rfl rfl ?_
  refine qcLt rfl rfl rfl rfl (fun h15 => ?_) (fun h15 => ?_)
  ·
    refine qv (yMove (v := .bool _) rfl) rfl rfl ?_
    refine qk (.inl ⟨_, _, rfl, rfl, rfl⟩) rfl ?_
    refine qk (.inl ⟨_, _, rfl, rfl, rfl⟩) rfl ?_
    refine qk (.inl ⟨_, _, rfl, rfl, rfl⟩) rfl ?_
    refine qk (.inl ⟨_, _, rfl, rfl, rfl⟩) rfl ?_
    refine qv (yPickT rfl rfl) rfl rfl ?_
    refine qv (yAsgn (v := .bool _) rfl) rfl rfl ?_
    refine QL.nil ?_
    refine TQ.sq ?_
    refine TC.condT rfl ?_
    refine TC.seq ?_
    refine TC.quiet rfl ?_
    refine qv (yAsgn (v := .slice _ _ _) rfl) rfl rfl ?_
    refine qv (yAsgn (v := .int .i64 _) rfl) rfl rfl ?_
    refine qv (yAsgn (v := .int .i64 _) rfl) rfl rfl ?_
    refine QL.nil ?_
    refine TQ.sq ?_
    refine TC.ret (TQ.blkR (TQ.sqR ?_))
    refine TQ.post (v := .tuple ⟨[.slice _ _ _, .int .i64 _, .int .i64 _]⟩) rfl ?_
    have g : rdNums s a = ([], 0, 3) := by unfold rdNums; rw [if_pos (by omega)]
    exact fun w hw => ⟨[], none, 0, by rw [g]; rfl, by rw [g]; exact OA.nil, hw⟩
  ·
    refine qv (yMove (v := .bool _) rfl) rfl rfl ?_
    refine qv (yMove (v := .int .i64 _) rfl) (.inl ⟨_, _, rfl, rfl, rfl⟩) rfl ?_
    refine qv (yMove (v := str _) rfl) (.inl ⟨_, _, rfl, rfl, rfl⟩) rfl ?_
    refine qv (yStrLen ul9 rfl) (.inl ⟨_, _, rfl, rfl, rfl⟩) rfl ?_
    refine qcGt rfl rfl (.inl ⟨_, _, rfl, rfl, rfl⟩) rfl (fun h20 => ?_) (fun h20 => ?_)
    ·
      refine qv (yPickF rfl rfl) rfl rfl ?_
      refine qv (yAsgn (v := .bool _) rfl) rfl rfl ?_
      refine QL.nil ?_
      refine TQ.sq ?_
      refine TC.condT rfl ?_
      refine TC.seq ?_
      refine TC.quiet rfl ?_
      refine qv (yAsgn (v := .slice _ _ _) rfl) rfl rfl ?_
      refine qv (yAsgn (v := .int .i64 _) rfl) rfl rfl ?_
      refine qv (yAsgn (v := .int .i64 _) rfl) rfl rfl ?_
      refine QL.nil ?_
      refine TQ.sq ?_
      refine TC.ret (TQ.blkR (TQ.sqR ?_))
      refine TQ.post (v := .tuple ⟨[.slice _ _ _, .int .i64 _, .int .i64 _]⟩) rfl ?_
      have g : rdNums s a = ([], 0, 3) := by unfold rdNums; rw [if_pos (by omega)]
      exact fun w hw => ⟨[], none, 0, by rw [g]; rfl, by rw [g]; exact OA.nil, hw⟩
    ·
      refine qv (yPickF rfl rfl) rfl rfl ?_
      refine qv (yAsgn (v := .bool _) rfl) rfl rfl ?_
      refine QL.nil ?_
      refine TQ.sq ?_
      refine TC.condF rfl ?_
      refine TC.seq ?_
      refine TC.quiet rfl ?_
      refine qv (yMove (v := .int .i64 _) rfl) rfl rfl ?_
      refine qv (yMove (v := str _) rfl) rfl rfl ?_
      refine qv (yStrLen ul9 rfl) rfl rfl ?_
      refine qcEq rfl rfl rfl rfl (fun h26 => ?_) (fun h26 => ?_)
      ·
        refine qv (yAsgn (v := .bool _) rfl) rfl rfl ?_
        refine QL.nil ?_
        refine TQ.sq ?_
        refine TC.condT rfl ?_
        refine TC.seq ?_
        refine TC.quiet rfl ?_
        refine qv (yAsgn (v := .slice _ _ _) rfl) rfl rfl ?_
        refine qv (yAsgn (v := .int .i64 _) rfl) rfl rfl ?_
        refine qv (yAsgn (v := .int .i64 _) rfl) rfl rfl ?_
        refine QL.nil ?_
        refine TQ.sq ?_
        refine TC.ret (TQ.blkR (TQ.sqR ?_))
        refine TQ.post (v := .tuple ⟨[.slice _ _ _, .int .i64 _, .int .i64 _]⟩) rfl ?_
        have g : rdNums s a = ([], 0, 5) := by unfold rdNums; rw [if_neg (by omega), if_pos (by omega)]
        exact fun w hw => ⟨[], none, 0, by rw [g]; rfl, by rw [g]; exact OA.nil, hw⟩
      ·
        refine qv (yAsgn (v := .bool _) rfl) rfl rfl ?_
        refine QL.nil ?_
        refine TQ.sq ?_
        refine TC.condF rfl ?_
        refine TC.seq ?_
        refine TC.quiet rfl ?_
        refine qv (yMove (v := str _) rfl) rfl rfl ?_
        refine qv (yMove (v := .int .i64 _) rfl) rfl rfl ?_
        obtain ⟨u, hu⟩ := idx_some (s := s) (i := a) (by omega) (by omega)
        refine qv (yStrIdx ul9 rfl rfl (by omega) hu) rfl rfl ?_
        refine qcNe rfl rfl rfl rfl (fun h31 => ?_) (fun h31 => ?_)
        ·
          refine qv (yAsgn (v := .bool _) rfl) rfl rfl ?_
          refine QL.nil ?_
          refine TQ.sq ?_
          refine TC.condT rfl ?_
          refine TC.seq ?_
          refine TC.quiet rfl ?_
          refine qv (yAsgn (v := .slice _ _ _) rfl) rfl rfl ?_
          refine qv (yAsgn (v := .int .i64 _) rfl) rfl rfl ?_
          refine qv (yAsgn (v := .int .i64 _) rfl) rfl rfl ?_
          refine QL.nil ?_
          refine TQ.sq ?_
          refine TC.ret (TQ.blkR (TQ.sqR ?_))
          refine TQ.post (v := .tuple ⟨[.slice _ _ _, .int .i64 _, .int .i64 _]⟩) rfl ?_
          have g : rdNums s a = ([], 0, 6) := by unfold rdNums; rw [if_neg (by omega), if_neg (by omega), if_pos (some_ne (v := 40) hu h31)]
          exact fun w hw => ⟨[], none, 0, by rw [g]; rfl, by rw [g]; exact OA.nil, hw⟩
        ·
          refine qv (yAsgn (v := .bool _) rfl) rfl rfl ?_
          refine QL.nil ?_
          refine TQ.sq ?_
          refine TC.condF rfl ?_
          refine TC.skip (TQ.blk (TQ.sq ?_))
          refine TC.seq ?_
          refine TC.quiet rfl ?_
          refine qv (yMove (v := .int .i64 _) rfl) rfl rfl ?_
          refine qv (yAdd rfl rfl (by omega)) rfl rfl ?_
          refine qv (yAsgn (v := .int .i64 _) rfl) rfl rfl ?_
          refine QL.nil ?_
          refine TQ.sq ?_
          refine TC.seq ?_
          refine TC.quiet rfl ?_
          refine qv (yAsgn (v := .slice _ _ _) rfl) rfl rfl ?_
          refine QL.nil ?_
          refine TQ.sq ?_
          refine TC.block ?_
          have g0 : rds s (a + 1) [] = rdNums s a := by unfold rdNums; rw [if_neg (by omega), if_neg (by omega), if_neg (by simpa using some_eq (v := 40) hu h31)]
          refine TC.loopL (ι := (Int) × (List Int) × (Ow) × (Option Addr) × (Nat)) [1, 6, 7, 8, 9, 10, 11, 12, 34, 35, 36, 37, 38, 39, 40, 41, 42, 43, 44, 45, 46, 47, 48, 49, 50, 51, 52, 53, 54, 55, 56, 57, 58, 59, 60, 61, 62, 63, 64, 65, 66] (fun ⟨a1, acc, m, a2, c2⟩ => [(1, .int .i64 a1), (9, .slice a2 acc.length c2)]) (fun ⟨a1, acc, m, a2, c2⟩ w => (a1 ≤ s.length ∧ 0 ≤ a1 ∧ acc.length ≤ 512 ∧ rds s a1 acc = rdNums s a ∧ OA 3 encI 1 m a2 c2 acc) ∧ St c I (m ++ l) w) (fun ⟨a1, acc, m, a2, c2⟩ => 512 - acc.length) (a + 1, [], [], none, 0) ⟨rfl, rfl, trivial⟩ (fun w hw => ⟨⟨by omega, by omega, by simp, g0, OA.nil⟩, hw⟩) ?_
          rintro g0 ⟨a1, acc, m, a2, c2⟩
          dsimp only
          refine TC.pure fun ⟨ha1, ha0, hal, g, ho⟩ => ?_
          refine TC.block ?_
          refine TC.seq ?_
          refine TC.block ?_
          refine TC.seq ?_
          refine TC.quiet rfl ?_
          refine qv (yMove (v := .int .i64 _) rfl) rfl rfl ?_
          refine qv (yMove (v := str _) rfl) rfl rfl ?_
          refine qv (yStrLen ul9 rfl) rfl rfl ?_
          refine qcEq rfl rfl rfl rfl (fun h38 => ?_) (fun h38 => ?_)
          ·
            refine qv (yAsgn (v := .bool _) rfl) rfl rfl ?_
            refine QL.nil ?_
            refine TQ.sq ?_
            refine TC.condT rfl ?_
            refine TC.seq ?_
            refine TC.quiet rfl ?_
            refine qv (yAsgn (v := .slice _ _ _) rfl) rfl rfl ?_
            refine qv (yAsgn (v := .int .i64 _) rfl) rfl rfl ?_
            refine qv (yAsgn (v := .int .i64 _) rfl) rfl rfl ?_
            refine QL.nil ?_
            refine TQ.sq ?_
            refine TC.ret (TQ.blkR (TQ.sqR (TQ.blkR (TQ.lpLR (TQ.blkR ?_)))))
            refine TQ.post (v := .tuple ⟨[.slice _ _ _, .int .i64 _, .int .i64 _]⟩) rfl ?_
            rw [rds_end (by omega)] at g
            exact fun w hw => ⟨[], none, 0, by rw [← g]; rfl, by rw [← g]; exact OA.nil, hw.dropL⟩
          ·
            refine qv (yAsgn (v := .bool _) rfl) rfl rfl ?_
            refine QL.nil ?_
            refine TQ.sq ?_
            refine TC.condF rfl ?_
            refine TC.seq ?_
            refine TC.quiet rfl ?_
            refine qv (yMove (v := str _) rfl) rfl rfl ?_
            refine qv (yMove (v := .int .i64 _) rfl) rfl rfl ?_
            obtain ⟨v, hv⟩ := idx_some (s := s) (i := a1) (by omega) (by omega)
            refine qv (yStrIdx ul9 rfl rfl (by omega) hv) rfl rfl ?_
            refine qcEq rfl rfl rfl rfl (fun h43 => ?_) (fun h43 => ?_)
            ·
              refine qv (yAsgn (v := .bool _) rfl) rfl rfl ?_
              refine QL.nil ?_
              refine TQ.sq ?_
              refine TC.condT rfl ?_
              refine TC.seq ?_
              refine TC.quiet rfl ?_
              refine qv (yMove (v := .slice _ _ _) rfl) rfl rfl ?_
              refine qv (yMove (v := .int .i64 _) rfl) rfl rfl ?_
              refine qv (yAdd rfl rfl (by omega)) rfl rfl ?_
              refine qv (yAsgn (v := .slice _ _ _) rfl) rfl rfl ?_
              refine qv (yAsgn (v := .int .i64 _) rfl) rfl rfl ?_
              refine qv (yAsgn (v := .int .i64 _) rfl) rfl rfl ?_
              refine QL.nil ?_
              refine TQ.sq ?_
              refine TC.ret (TQ.blkR (TQ.sqR (TQ.blkR (TQ.lpLR (TQ.blkR ?_)))))
              refine TQ.post (v := .tuple ⟨[.slice _ _ _, .int .i64 _, .int .i64 _]⟩) rfl ?_
              rw [rds_done (by omega) (some_eq (v := 41) hv h43)] at g
              exact fun w hw => ⟨m, a2, c2, by rw [← g], by rw [← g]; exact ho, hw⟩
            ·
              have hn41 := some_ne (v := 41) hv h43
              refine qv (yAsgn (v := .bool _) rfl) rfl rfl ?_
              refine QL.nil ?_
              refine TQ.sq ?_
              refine TC.condF rfl ?_
              refine TC.seq ?_
              refine TC.quiet rfl ?_
              refine qv (yMove (v := .slice _ _ _) rfl) rfl rfl ?_
              refine qv (ySlLen ul50 rfl) rfl rfl ?_
              refine qcGe rfl rfl rfl rfl (fun h50 => ?_) (fun h50 => ?_)
              ·
                refine qv (yAsgn (v := .bool _) rfl) rfl rfl ?_
                refine QL.nil ?_
                refine TQ.sq ?_
                refine TC.condT rfl ?_
                refine TC.seq ?_
                refine TC.quiet rfl ?_
                refine qv (yAsgn (v := .slice _ _ _) rfl) rfl rfl ?_
                refine qv (yAsgn (v := .int .i64 _) rfl) rfl rfl ?_
                refine qv (yAsgn (v := .int .i64 _) rfl) rfl rfl ?_
                refine QL.nil ?_
                refine TQ.sq ?_
                refine TC.ret (TQ.blkR (TQ.sqR (TQ.blkR (TQ.lpLR (TQ.blkR ?_)))))
                refine TQ.post (v := .tuple ⟨[.slice _ _ _, .int .i64 _, .int .i64 _]⟩) rfl ?_
                rw [rds_many (by omega) hn41 (by omega)] at g
                exact fun w hw => ⟨[], none, 0, by rw [← g]; rfl, by rw [← g]; exact OA.nil, hw.dropL⟩
              ·
                refine qv (yAsgn (v := .bool _) rfl) rfl rfl ?_
                refine QL.nil ?_
                refine TQ.sq ?_
                refine TC.condF rfl ?_
                refine TC.skip (TQ.blk (TQ.sq ?_))
                refine TC.seq ?_
                refine TC.region ?_
                refine sv (yMove (v := .func _ _ _) rfl) rfl rfl ?_
                refine sv (yMove (v := str _) rfl) rfl rfl ?_
                refine sv (yMove (v := .int .i64 _) rfl) rfl rfl ?_
                refine sCallV rfl (LReadNumber_ok _ s a1 hs) rfl rfl (fun v55 w hw => ?_)
                obtain ⟨rfl, hw⟩ := hw
                refine TL.wl ?_ hw
                refine sv (yMove (v := .tuple _) rfl) rfl rfl ?_
                refine sv (yExt rfl rfl) rfl rfl ?_
                refine sv (yExt rfl rfl) rfl rfl ?_
                refine sv (yExt rfl rfl) rfl rfl ?_
                refine sv (yAsgn (v := .int .i64 _) rfl) rfl rfl ?_
                refine sv (yAsgn (v := .int .i64 _) rfl) rfl rfl ?_
                refine sv (yAsgn (v := .int .i64 _) rfl) rfl rfl ?_
                refine TL.nil ?_
                refine TQ.sq ?_
                refine TC.seq ?_
                refine TC.seq ?_
                refine TC.quiet rfl ?_
                refine qv (yMove (v := .int .i64 _) rfl) rfl rfl ?_
                refine qcNe rfl rfl rfl rfl (fun h60 => ?_) (fun h60 => ?_)
                ·
                  refine QL.nil ?_
                  refine TQ.sq ?_
                  refine TC.condT rfl ?_
                  refine TC.seq ?_
                  refine TC.quiet rfl ?_
                  refine qv (yMove (v := .int .i64 _) rfl) rfl rfl ?_
                  refine qv (yAsgn (v := .slice _ _ _) rfl) rfl rfl ?_
                  refine qv (yAsgn (v := .int .i64 _) rfl) rfl rfl ?_
                  refine qv (yAsgn (v := .int .i64 _) rfl) rfl rfl ?_
                  refine QL.nil ?_
                  refine TQ.sq ?_
                  refine TC.ret (TQ.sqR (TQ.blkR (TQ.lpLR (TQ.blkR ?_))))
                  refine TQ.post (v := .tuple ⟨[.slice _ _ _, .int .i64 _, .int .i64 _]⟩) rfl ?_
                  rw [rds_err (by omega) hn41 (by omega) h60] at g
                  exact fun w hw => ⟨[], none, 0, by rw [← g]; rfl, by rw [← g]; exact OA.nil, hw.dropL⟩
                ·
                  refine QL.nil ?_
                  refine TQ.sq ?_
                  refine TC.condF rfl ?_
                  refine TC.skip (TQ.sq ?_)
                  refine TC.seq ?_
                  refine TC.region ?_
                  refine sv (yMove (v := .slice _ _ _) rfl) rfl rfl ?_
                  refine sv (yMove (v := .int .i64 _) rfl) rfl rfl ?_
                  refine sBuildSl (vs := [.int .i64 _]) ul50 ti3 rfl rfl rfl rfl (fun b1 => ?_)
                  refine sAppA1 (enc := encI) ((rdNum s a1).1) ul50 ul50 ti3 rfl rfl (by assumption) rfl rfl (fun _ => rfl) (by omega) (by omega) rfl (fun m2 a3 c3 ho2 => ?_)
                  refine sv (yAsgn (v := .slice _ _ _) rfl) rfl rfl ?_
                  refine TL.nil ?_
                  refine TQ.sq ?_
                  refine TC.quiet rfl ?_
                  refine qv (yMove (v := .int .i64 _) rfl) rfl rfl ?_
                  refine qv (yAsgn (v := .int .i64 _) rfl) rfl rfl ?_
                  refine QL.nil ?_
                  refine TQ.blk ?_
                  have hnx := rdNum_next (by omega) ha1
                  refine TQ.lpL ((rdNum s a1).2.1, acc ++ [(rdNum s a1).1], m2, a3, c3) (by simp; omega) (by repeat (first | exact OffL.refl | refine OffL.updO rfl ?_ | refine OffL.upd rfl ?_ | refine OffL.updL rfl ?_ | refine OffL.mask rfl ?_)) ⟨rfl, rfl, trivial⟩ (fun w hw => ⟨⟨hnx.2, by omega, by simp; omega, (rds_step (by omega) hn41 (by omega) (by omega)).symm.trans g, ho2⟩, hw⟩)
theorem LReadNumbers_ok {c : Cx} {I : Im} (l : Ow) (s : List UInt8) (a : Int) (hs : s.length ≤ 1000000000000) : Ct Try.prog 40 [str s, .int .i64 a] (St c I l) fun v w => ∃ m a2 c2, v = .tuple ⟨[.slice a2 (rdNums s a).1.length c2, .int .i64 (rdNums s a).2.1, .int .i64 (rdNums s a).2.2]⟩ ∧ OA 3 encI 1 m a2 c2 (rdNums s a).1 ∧ St c I (m ++ l) w := by
  refine Ct.enter (n := 13) Try.func40 rfl rfl rfl rfl rfl rfl ?_
  refine TC.seq ?_
  refine TC.quiet rfl ?_
  refine qv (yAsgn (v := .slice _ _ _) rfl) rfl rfl ?_
  refine qv (yAsgn (v := .int .i64 _) rfl) rfl rfl ?_
  refine qv (yAsgn (v := .int .i64 _) rfl) rfl rfl ?_
  refine QL.nil ?_
  refine TQ.sq ?_
  refine TC.seq ?_
  refine TC.region ?_
  refine sv (yMove (v := str _) rfl) rfl rfl ?_
  refine sv (yMove (v := .int .i64 _) rfl) rfl rfl ?_
  refine sCall (read_ok l s a hs) rfl rfl (fun v9 w hw => ?_)
  obtain ⟨m, a2, c2, rfl, ho, hw⟩ := hw
  refine TL.wl ?_ hw
  refine sv (yExt rfl rfl) rfl rfl ?_
  refine sv (yExt rfl rfl) rfl rfl ?_
  refine sv (yExt rfl rfl) rfl rfl ?_
  refine sv (yAsgn (v := .slice _ _ _) rfl) rfl rfl ?_
  refine sv (yAsgn (v := .int .i64 _) rfl) rfl rfl ?_
  refine sv (yAsgn (v := .int .i64 _) rfl) rfl rfl ?_
  refine TL.nil ?_
  refine TQ.sq ?_
  refine TC.ret ?_
  refine TQ.post (v := .tuple ⟨[.slice _ _ _, .int .i64 _, .int .i64 _]⟩) rfl ?_
  exact fun w hw => ⟨m, a2, c2, rfl, ho, hw⟩
theorem Ropen_ok {c : Cx} {I : Im} (l : Ow) (s : List UInt8) (a : Int) (hs : s.length ≤ 1000000000000) : Ct Try.prog 58 [str s, .int .i64 a] (St c I l) fun v w => v = .int .i64 (if a < 0 ∨ (s.length : Int) < a then 3 else if a = s.length then 5 else if s[a.toNat]? ≠ some 40 then 6 else 0) ∧ St c I l w := by
  refine Ct.enter (n := 21) Try.func58 rfl rfl rfl rfl rfl rfl ?_
  refine TC.seq ?_
  refine TC.quiet rfl ?_
  refine qv (yAsgn (v := .int .i64 _) rfl) rfl rfl ?_
  refine QL.nil ?_
  refine TQ.sq ?_
  refine TC.seq ?_
  refine TC.seq ?_
  refine TC.quiet rfl ?_
  refine qv (yMove (v := .int .i64 _) rfl) rfl rfl ?_
  refine qcLt rfl rfl rfl rfl (fun h15 => ?_) (fun h15 => ?_)
  ·
    refine qv (yMove (v := .bool _) rfl) rfl rfl ?_
    refine qk (.inl ⟨_, _, rfl, rfl, rfl⟩) rfl ?_
    refine qk (.inl ⟨_, _, rfl, rfl, rfl⟩) rfl ?_
    refine qk (.inl ⟨_, _, rfl, rfl, rfl⟩) rfl ?_
    refine qk (.inl ⟨_, _, rfl, rfl, rfl⟩) rfl ?_
    refine qv (yPickT rfl rfl) rfl rfl ?_
    refine QL.nil ?_
    refine TQ.sq ?_
    refine TC.condT rfl ?_
    refine TC.seq ?_
    refine TC.quiet rfl ?_
    refine qv (yAsgn (v := .int .i64 _) rfl) rfl rfl ?_
    refine QL.nil ?_
    refine TQ.sq ?_
    refine TC.ret (TQ.sqR ?_)
    refine TQ.post (v := .int .i64 _) rfl ?_
    exact fun w hw => ⟨by rw [if_pos (by omega)], hw⟩
  ·
    refine qv (yMove (v := .bool _) rfl) rfl rfl ?_
    refine qv (yMove (v := .int .i64 _) rfl) (.inl ⟨_, _, rfl, rfl, rfl⟩) rfl ?_
    refine qv (yMove (v := str _) rfl) (.inl ⟨_, _, rfl, rfl, rfl⟩) rfl ?_
    refine qv (yStrLen ul9 rfl) (.inl ⟨_, _, rfl, rfl, rfl⟩) rfl ?_
    refine qcGt rfl rfl (.inl ⟨_, _, rfl, rfl, rfl⟩) rfl (fun h20 => ?_) (fun h20 => ?_)
    ·
      refine qv (yPickF rfl rfl) rfl rfl ?_
      refine QL.nil ?_
      refine TQ.sq ?_
      refine TC.condT rfl ?_
      refine TC.seq ?_
      refine TC.quiet rfl ?_
      refine qv (yAsgn (v := .int .i64 _) rfl) rfl rfl ?_
      refine QL.nil ?_
      refine TQ.sq ?_
      refine TC.ret (TQ.sqR ?_)
      refine TQ.post (v := .int .i64 _) rfl ?_
      exact fun w hw => ⟨by rw [if_pos (by omega)], hw⟩
    ·
      refine qv (yPickF rfl rfl) rfl rfl ?_
      refine QL.nil ?_
      refine TQ.sq ?_
      refine TC.condF rfl ?_
      refine TC.skip (TQ.sq ?_)
      refine TC.seq ?_
      refine TC.seq ?_
      refine TC.quiet rfl ?_
      refine qv (yMove (v := .int .i64 _) rfl) rfl rfl ?_
      refine qv (yMove (v := str _) rfl) rfl rfl ?_
      refine qv (yStrLen ul9 rfl) rfl rfl ?_
      refine qcEq rfl rfl rfl rfl (fun h26 => ?_) (fun h26 => ?_)
      ·
        refine QL.nil ?_
        refine TQ.sq ?_
        refine TC.condT rfl ?_
        refine TC.seq ?_
        refine TC.quiet rfl ?_
        refine qv (yAsgn (v := .int .i64 _) rfl) rfl rfl ?_
        refine QL.nil ?_
        refine TQ.sq ?_
        refine TC.ret (TQ.sqR ?_)
        refine TQ.post (v := .int .i64 _) rfl ?_
        exact fun w hw => ⟨by rw [if_neg (by omega), if_pos (by omega)], hw⟩
      ·
        refine QL.nil ?_
        refine TQ.sq ?_
        refine TC.condF rfl ?_
        refine TC.skip (TQ.sq ?_)
        refine TC.seq ?_
        refine TC.seq ?_
        refine TC.quiet rfl ?_
        refine qv (yMove (v := str _) rfl) rfl rfl ?_
        refine qv (yMove (v := .int .i64 _) rfl) rfl rfl ?_
        obtain ⟨u, hu⟩ := idx_some (s := s) (i := a) (by omega) (by omega)
        refine qv (yStrIdx ul9 rfl rfl (by omega) hu) rfl rfl ?_
        refine qcNe rfl rfl rfl rfl (fun h31 => ?_) (fun h31 => ?_)
        ·
          refine QL.nil ?_
          refine TQ.sq ?_
          refine TC.condT rfl ?_
          refine TC.seq ?_
          refine TC.quiet rfl ?_
          refine qv (yAsgn (v := .int .i64 _) rfl) rfl rfl ?_
          refine QL.nil ?_
          refine TQ.sq ?_
          refine TC.ret (TQ.sqR ?_)
          refine TQ.post (v := .int .i64 _) rfl ?_
          exact fun w hw => ⟨by rw [if_neg (by omega), if_neg (by omega), if_pos (some_ne (v := 40) hu h31)], hw⟩
        ·
          refine QL.nil ?_
          refine TQ.sq ?_
          refine TC.condF rfl ?_
          refine TC.skip (TQ.sq ?_)
          refine TC.seq ?_
          refine TC.quiet rfl ?_
          refine qv (yAsgn (v := .int .i64 _) rfl) rfl rfl ?_
          refine QL.nil ?_
          refine TQ.sq ?_
          refine TC.ret ?_
          refine TQ.post (v := .int .i64 _) rfl ?_
          exact fun w hw => ⟨by rw [if_neg (by omega), if_neg (by omega), if_neg (by simpa using some_eq (v := 40) hu h31)], hw⟩
theorem RReadNumbers_ok {c : Cx} {I : Im} (l : Ow) (s : List UInt8) (a : Int) (hs : s.length ≤ 1000000000000) : Ct Try.prog 51 [str s, .int .i64 a] (St c I l) fun v w => ∃ m a2 c2, v = .tuple ⟨[.slice a2 (rdNums s a).1.length c2, .int .i64 (rdNums s a).2.1, .int .i64 (rdNums s a).2.2]⟩ ∧ OA 3 encI 1 m a2 c2 (rdNums s a).1 ∧ St c I (m ++ l) w := by
  refine Ct.enter (n := 55) Try.func51 rfl rfl rfl rfl rfl rfl ?_
  refine TC.seq ?_
  refine TC.quiet rfl ?_
  refine qv (yAsgn (v := .slice _ _ _) rfl) rfl rfl ?_
  refine qv (yAsgn (v := .int .i64 _) rfl) rfl rfl ?_
  refine qv (yAsgn (v := .int .i64 _) rfl) rfl rfl ?_
  refine QL.nil ?_
  refine TQ.sq ?_
  refine TC.seq ?_
  refine TC.region ?_
  refine sv (yMove (v := str _) rfl) rfl rfl ?_
  refine sv (yMove (v := .int .i64 _) rfl) rfl rfl ?_
  refine sCall (Ropen_ok _ s a hs) rfl rfl (fun v14 w hw => ?_)
  obtain ⟨rfl, hw⟩ := hw
  refine TL.wl ?_ hw
  refine sv (yAsgn (v := .int .i64 _) rfl) rfl rfl ?_
  refine TL.nil ?_
  refine TQ.sq ?_
  refine TC.seq ?_
  refine TC.seq ?_
  refine TC.quiet rfl ?_
  refine qv (yMove (v := .int .i64 _) rfl) rfl rfl ?_
  refine qcNe rfl rfl rfl rfl (fun h15 => ?_) (fun h15 => ?_)
  ·
    refine QL.nil ?_
    refine TQ.sq ?_
    refine TC.condT rfl ?_
    refine TC.seq ?_
    refine TC.quiet rfl ?_
    refine qv (yMove (v := .int .i64 _) rfl) rfl rfl ?_
    refine qv (yAsgn (v := .slice _ _ _) rfl) rfl rfl ?_
    refine qv (yAsgn (v := .int .i64 _) rfl) rfl rfl ?_
    refine qv (yAsgn (v := .int .i64 _) rfl) rfl rfl ?_
    refine QL.nil ?_
    refine TQ.sq ?_
    refine TC.ret (TQ.sqR ?_)
    refine TQ.post (v := .tuple ⟨[.slice _ _ _, .int .i64 _, .int .i64 _]⟩) rfl ?_
    have g : rdNums s a = ([], 0, ite (a < 0 ∨ (s.length : Int) < a) (3 : Int) (ite (a = s.length) 5 (ite (s[a.toNat]? ≠ some 40) 6 0))) := by
      unfold rdNums
      by_cases h1 : a < 0 ∨ (s.length : Int) < a
      · rw [if_pos h1, if_pos h1]
      rw [if_neg h1, if_neg h1] at *
      by_cases h2 : a = s.length
      · rw [if_pos h2, if_pos h2]
      rw [if_neg h2, if_neg h2] at *
      by_cases h3 : s[a.toNat]? ≠ some 40
      · rw [if_pos h3, if_pos h3]
      rw [if_neg h3] at h15; exact absurd rfl h15
    exact fun w hw => ⟨[], none, 0, by rw [g]; rfl, by rw [g]; exact OA.nil, hw⟩
  ·
    have ho1 : ¬ (a < 0 ∨ (s.length : Int) < a) := fun h => by rw [if_pos h] at h15; exact absurd h15 (by decide)
    have ho2 : ¬ (a = s.length)  := fun h => by rw [if_neg ho1, if_pos h] at h15; exact absurd h15 (by decide)
    have ho3 : ¬ (s[a.toNat]? ≠ some 40)  := fun h => by rw [if_neg ho1, if_neg ho2, if_pos h] at h15; exact absurd h15 (by decide)
    refine QL.nil ?_
    refine TQ.sq ?_
    refine TC.condF rfl ?_
    refine TC.skip (TQ.sq ?_)
    refine TC.seq ?_
    refine TC.quiet rfl ?_
    refine qv (yAsgn (v := .slice _ _ _) rfl) rfl rfl ?_
    refine QL.nil ?_
    refine TQ.sq ?_
    refine TC.seq ?_
    refine TC.quiet rfl ?_
    refine qv (yMove (v := .int .i64 _) rfl) rfl rfl ?_
    refine qv (yAdd rfl rfl (by omega)) rfl rfl ?_
    refine qv (yAsgn (v := .int .i64 _) rfl) rfl rfl ?_
    refine QL.nil ?_
    refine TQ.sq ?_
    refine TC.seq ?_
    refine TC.block ?_
    have g0 : rds s (a + 1) [] = rdNums s a := by unfold rdNums; rw [if_neg (by omega), if_neg (by omega), if_neg ho3]
    refine TC.loopL (ι := (Int) × (List Int) × (Ow) × (Option Addr) × (Nat)) [1, 4, 5, 6, 8, 9, 10, 11, 20, 21, 22, 23, 24, 25, 26, 27, 28, 29, 30, 31, 32, 33, 34, 35, 36, 37, 38, 39, 40, 41, 42, 43, 44, 45, 46, 47] (fun ⟨a1, acc, m, a2, c2⟩ => [(1, .int .i64 a1), (8, .slice a2 acc.length c2)]) (fun ⟨a1, acc, m, a2, c2⟩ w => (a1 ≤ s.length ∧ 0 ≤ a1 ∧ acc.length ≤ 512 ∧ rds s a1 acc = rdNums s a ∧ OA 3 encI 1 m a2 c2 acc) ∧ St c I (m ++ l) w) (fun ⟨a1, acc, m, a2, c2⟩ => 512 - acc.length) (a + 1, [], [], none, 0) ⟨rfl, rfl, trivial⟩ (fun w hw => ⟨⟨by omega, by omega, by simp, g0, OA.nil⟩, hw⟩) ?_
    rintro g0 ⟨a1, acc, m, a2, c2⟩
    dsimp only
    refine TC.pure fun ⟨ha1, ha0, hal, g, ho⟩ => ?_
    refine TC.seq ?_
    refine TC.seq ?_
    refine TC.quiet rfl ?_
    refine qv (yMove (v := .int .i64 _) rfl) rfl rfl ?_
    refine qv (yMove (v := str _) rfl) rfl rfl ?_
    refine qv (yStrLen ul9 rfl) rfl rfl ?_
    refine qcLt rfl rfl rfl rfl (fun h23 => ?_) (fun h23 => ?_)
    ·
      refine qv (yMove (v := .bool _) rfl) rfl rfl ?_
      refine qv (yMove (v := str _) rfl) (.inl ⟨_, _, rfl, rfl, rfl⟩) rfl ?_
      refine qv (yMove (v := .int .i64 _) rfl) (.inl ⟨_, _, rfl, rfl, rfl⟩) rfl ?_
      obtain ⟨v, hv⟩ := idx_some (s := s) (i := a1) (by omega) (by omega)
      refine qv (yStrIdx ul9 rfl rfl (by omega) hv) (.inl ⟨_, _, rfl, rfl, rfl⟩) rfl ?_
      refine qcNe rfl rfl (.inl ⟨_, _, rfl, rfl, rfl⟩) rfl (fun h28 => ?_) (fun h28 => ?_)
      ·
        have hn41 := some_ne (v := 41) hv h28
        refine qv (yPickT rfl rfl) rfl rfl ?_
        refine QL.nil ?_
        refine TQ.sq ?_
        refine TC.condT rfl ?_
        refine TC.skip (TQ.sq ?_)
        refine TC.block ?_
        refine TC.seq ?_
        refine TC.seq ?_
        refine TC.quiet rfl ?_
        refine qv (yMove (v := .slice _ _ _) rfl) rfl rfl ?_
        refine qv (ySlLen ul50 rfl) rfl rfl ?_
        refine qcEq rfl rfl rfl rfl (fun h32 => ?_) (fun h32 => ?_)
        ·
          refine QL.nil ?_
          refine TQ.sq ?_
          refine TC.condT rfl ?_
          refine TC.seq ?_
          refine TC.quiet rfl ?_
          refine qv (yAsgn (v := .slice _ _ _) rfl) rfl rfl ?_
          refine qv (yAsgn (v := .int .i64 _) rfl) rfl rfl ?_
          refine qv (yAsgn (v := .int .i64 _) rfl) rfl rfl ?_
          refine QL.nil ?_
          refine TQ.sq ?_
          refine TC.ret (TQ.sqR (TQ.blkR (TQ.lpLR (TQ.blkR (TQ.sqR ?_)))))
          refine TQ.post (v := .tuple ⟨[.slice _ _ _, .int .i64 _, .int .i64 _]⟩) rfl ?_
          rw [rds_many (by omega) hn41 (by omega)] at g
          exact fun w hw => ⟨[], none, 0, by rw [← g]; rfl, by rw [← g]; exact OA.nil, hw.dropL⟩
        ·
          refine QL.nil ?_
          refine TQ.sq ?_
          refine TC.condF rfl ?_
          refine TC.skip (TQ.sq ?_)
          refine TC.seq ?_
          refine TC.region ?_
          refine sv (yMove (v := str _) rfl) rfl rfl ?_
          refine sv (yMove (v := .int .i64 _) rfl) rfl rfl ?_
          refine sCall (RReadNumber_ok _ s a1 hs) rfl rfl (fun v36 w hw => ?_)
          obtain ⟨rfl, hw⟩ := hw
          refine TL.wl ?_ hw
          refine sv (yMove (v := .tuple _) rfl) rfl rfl ?_
          refine sv (yExt rfl rfl) rfl rfl ?_
          refine sv (yExt rfl rfl) rfl rfl ?_
          refine sv (yExt rfl rfl) rfl rfl ?_
          refine sv (yAsgn (v := .int .i64 _) rfl) rfl rfl ?_
          refine sv (yAsgn (v := .int .i64 _) rfl) rfl rfl ?_
          refine sv (yAsgn (v := .int .i64 _) rfl) rfl rfl ?_
          refine TL.nil ?_
          refine TQ.sq ?_
          refine TC.seq ?_
          refine TC.seq ?_
          refine TC.quiet rfl ?_
          refine qv (yMove (v := .int .i64 _) rfl) rfl rfl ?_
          refine qcNe rfl rfl rfl rfl (fun h41 => ?_) (fun h41 => ?_)
          ·
            refine QL.nil ?_
            refine TQ.sq ?_
            refine TC.condT rfl ?_
            refine TC.seq ?_
            refine TC.quiet rfl ?_
            refine qv (yMove (v := .int .i64 _) rfl) rfl rfl ?_
            refine qv (yAsgn (v := .slice _ _ _) rfl) rfl rfl ?_
            refine qv (yAsgn (v := .int .i64 _) rfl) rfl rfl ?_
            refine qv (yAsgn (v := .int .i64 _) rfl) rfl rfl ?_
            refine QL.nil ?_
            refine TQ.sq ?_
            refine TC.ret (TQ.sqR (TQ.blkR (TQ.lpLR (TQ.blkR (TQ.sqR ?_)))))
            refine TQ.post (v := .tuple ⟨[.slice _ _ _, .int .i64 _, .int .i64 _]⟩) rfl ?_
            rw [rds_err (by omega) hn41 (by omega) h41] at g
            exact fun w hw => ⟨[], none, 0, by rw [← g]; rfl, by rw [← g]; exact OA.nil, hw.dropL⟩
          ·
            refine QL.nil ?_
            refine TQ.sq ?_
            refine TC.condF rfl ?_
            refine TC.skip (TQ.sq ?_)
            refine TC.seq ?_
            refine TC.region ?_
            refine sv (yMove (v := .slice _ _ _) rfl) rfl rfl ?_
            refine sv (yMove (v := .int .i64 _) rfl) rfl rfl ?_
            refine sBuildSl (vs := [.int .i64 _]) ul50 ti3 rfl rfl rfl rfl (fun b1 => ?_)
            refine sAppA1 (enc := encI) ((rdNum s a1).1) ul50 ul50 ti3 rfl rfl (by assumption) rfl rfl (fun _ => rfl) (by omega) (by omega) rfl (fun m2 a3 c3 ho2 => ?_)
            refine sv (yAsgn (v := .slice _ _ _) rfl) rfl rfl ?_
            refine TL.nil ?_
            refine TQ.sq ?_
            refine TC.quiet rfl ?_
            refine qv (yMove (v := .int .i64 _) rfl) rfl rfl ?_
            refine qv (yAsgn (v := .int .i64 _) rfl) rfl rfl ?_
            refine QL.nil ?_
            refine TQ.blk ?_
            have hnx := rdNum_next (by omega) ha1
            refine TQ.lpL ((rdNum s a1).2.1, acc ++ [(rdNum s a1).1], m2, a3, c3) (by simp; omega) (by repeat (first | exact OffL.refl | refine OffL.updO rfl ?_ | refine OffL.upd rfl ?_ | refine OffL.updL rfl ?_ | refine OffL.mask rfl ?_)) ⟨rfl, rfl, trivial⟩ (fun w hw => ⟨⟨hnx.2, by omega, by simp; omega, (rds_step (by omega) hn41 (by omega) (by omega)).symm.trans g, ho2⟩, hw⟩)
      ·
        refine qv (yPickT rfl rfl) rfl rfl ?_
        refine QL.nil ?_
        refine TQ.sq ?_
        refine TC.condF rfl ?_
        refine TC.exit (TQ.sqX (TQ.lpLX (TQ.blkX (TQ.sq ?_))))
        refine TC.seq ?_
        refine TC.seq ?_
        refine TC.quiet rfl ?_
        refine qv (yMove (v := .int .i64 _) rfl) rfl rfl ?_
        refine qv (yMove (v := str _) rfl) rfl rfl ?_
        refine qv (yStrLen ul9 rfl) rfl rfl ?_
        refine qcGeF rfl rfl (by omega) rfl rfl ?_
        refine QL.nil ?_
        refine TQ.sq ?_
        refine TC.condF rfl ?_
        refine TC.skip (TQ.sq ?_)
        refine TC.seq ?_
        refine TC.quiet rfl ?_
        refine qv (yMove (v := .slice _ _ _) rfl) rfl rfl ?_
        refine qv (yMove (v := .int .i64 _) rfl) rfl rfl ?_
        refine qv (yAdd rfl rfl (by omega)) rfl rfl ?_
        refine qv (yAsgn (v := .slice _ _ _) rfl) rfl rfl ?_
        refine qv (yAsgn (v := .int .i64 _) rfl) rfl rfl ?_
        refine qv (yAsgn (v := .int .i64 _) rfl) rfl rfl ?_
        refine QL.nil ?_
        refine TQ.sq ?_
        refine TC.ret ?_
        refine TQ.post (v := .tuple ⟨[.slice _ _ _, .int .i64 _, .int .i64 _]⟩) rfl ?_
        rw [rds_done (by omega) (some_eq (v := 41) hv h28)] at g
        exact fun w hw => ⟨m, a2, c2, by rw [← g], by rw [← g]; exact ho, hw⟩
    ·
      refine qv (yMove (v := .bool _) rfl) rfl rfl ?_
      refine qk (.inl ⟨_, _, rfl, rfl, rfl⟩) rfl ?_
      refine qk (.inl ⟨_, _, rfl, rfl, rfl⟩) rfl ?_
      refine qk (.inl ⟨_, _, rfl, rfl, rfl⟩) rfl ?_
      refine qk (.inl ⟨_, _, rfl, rfl, rfl⟩) rfl ?_
      refine qv (yPickF rfl rfl) rfl rfl ?_
      refine QL.nil ?_
      refine TQ.sq ?_
      refine TC.condF rfl ?_
      refine TC.exit (TQ.sqX (TQ.lpLX (TQ.blkX (TQ.sq ?_))))
      refine TC.seq ?_
      refine TC.seq ?_
      refine TC.quiet rfl ?_
      refine qv (yMove (v := .int .i64 _) rfl) rfl rfl ?_
      refine qv (yMove (v := str _) rfl) rfl rfl ?_
      refine qv (yStrLen ul9 rfl) rfl rfl ?_
      refine qcGeT rfl rfl (by omega) rfl rfl ?_
      refine QL.nil ?_
      refine TQ.sq ?_
      refine TC.condT rfl ?_
      refine TC.seq ?_
      refine TC.quiet rfl ?_
      refine qv (yAsgn (v := .slice _ _ _) rfl) rfl rfl ?_
      refine qv (yAsgn (v := .int .i64 _) rfl) rfl rfl ?_
      refine qv (yAsgn (v := .int .i64 _) rfl) rfl rfl ?_
      refine QL.nil ?_
      refine TQ.sq ?_
      refine TC.ret (TQ.sqR ?_)
      refine TQ.post (v := .tuple ⟨[.slice _ _ _, .int .i64 _, .int .i64 _]⟩) rfl ?_
      rw [rds_end (by omega)] at g
      exact fun w hw => ⟨[], none, 0, by rw [← g]; rfl, by rw [← g]; exact OA.nil, hw.dropL⟩
theorem Ints_ok {S0 : World → Prop} (hD : ∀ w k, S0 w → S0 { w with drawn := k }) (a b : Option Addr) (c1 c2 : Nat) (xs ys : List Int) (hx : SA S0 encI 1 a xs) (hy : SA S0 encI 1 b ys) (hl : xs.length ≤ 1000000000000) : Ct Try.prog 16 [.slice a xs.length c1, .slice b ys.length c2] S0 fun v w => v = .bool (decide (xs = ys)) ∧ S0 w := by
  refine Ct.enter (n := 26) Try.func16 rfl rfl rfl rfl rfl rfl ?_
  refine TC.seq ?_
  refine TC.quiet rfl ?_
  refine qv (yAsgn (v := .bool _) rfl) rfl rfl ?_
  refine QL.nil ?_
  refine TQ.sq ?_
  refine TC.seq ?_
  refine TC.seq ?_
  refine TC.quiet rfl ?_
  refine qv (yMove (v := .slice _ _ _) rfl) rfl rfl ?_
  refine qv (ySlLen ul50 rfl) rfl rfl ?_
  refine qv (yMove (v := .slice _ _ _) rfl) rfl rfl ?_
  refine qv (ySlLen ul50 rfl) rfl rfl ?_
  refine qcNe rfl rfl rfl rfl (fun h10 => ?_) (fun h10 => ?_)
  ·
    refine QL.nil ?_
    refine TQ.sq ?_
    refine TC.condT rfl ?_
    refine TC.seq ?_
    refine TC.quiet rfl ?_
    refine qv (yAsgn (v := .bool _) rfl) rfl rfl ?_
    refine QL.nil ?_
    refine TQ.sq ?_
    refine TC.ret (TQ.sqR ?_)
    refine TQ.post (v := .bool _) rfl ?_
    exact fun w hw => ⟨by rw [decide_eq_false]; exact fun h => h10 (by rw [h]), hw⟩
  ·
    refine QL.nil ?_
    refine TQ.sq ?_
    refine TC.condF rfl ?_
    refine TC.skip (TQ.sq ?_)
    refine TC.seq ?_
    refine TC.seq ?_
    refine TC.quiet rfl ?_
    refine qv (yAsgn (v := .int .i64 _) rfl) rfl rfl ?_
    refine QL.nil ?_
    refine TQ.sq ?_
    refine TC.block ?_
    refine TC.loopL (ι := (Nat)) [4, 5, 11, 12, 13, 14, 15, 16, 17, 18, 19, 20, 21, 22, 23, 24, 25] (fun k => [(5, .int .i64 (k : Int))]) (fun k w => (k ≤ xs.length ∧ xs.take k = ys.take k) ∧ S0 w) (fun k => xs.length - k) 0 ⟨rfl, trivial⟩ (fun w hw => ⟨⟨by omega, rfl⟩, hw⟩) ?_
    rintro g0 k
    dsimp only
    refine TC.pure fun ⟨hk, he⟩ => ?_
    refine TC.seq ?_
    refine TC.seq ?_
    refine TC.quiet rfl ?_
    refine qv (yMove (v := .int .i64 _) rfl) rfl rfl ?_
    refine qv (yMove (v := .slice _ _ _) rfl) rfl rfl ?_
    refine qv (ySlLen ul50 rfl) rfl rfl ?_
    refine qcLt rfl rfl rfl rfl (fun h14 => ?_) (fun h14 => ?_)
    ·
      obtain ⟨u, hu⟩ := getSome (xs := xs) (k := k) (by omega)
      obtain ⟨v, hv⟩ := getSome (xs := ys) (k := k) (by omega)
      refine QL.nil ?_
      refine TQ.sq ?_
      refine TC.condT rfl ?_
      refine TC.skip (TQ.sq ?_)
      refine TC.seq ?_
      refine TC.block ?_
      refine TC.seq ?_
      refine TC.quietD hD mixed (by kernel_rfl) rfl ?_
      refine qv (yMove (v := .slice _ _ _) rfl) rfl rfl ?_
      refine qv (yMove (v := .int .i64 _) rfl) rfl rfl ?_
      refine qElA (v := .int .i64 _) ul50 ti3 rfl hx rfl (by omega) (by simpa using hu) (fun _ => rfl) (fun _ => rfl) rfl rfl (fun _ => rfl) rfl rfl (fun _ => ?_)
      refine qv (yMove (v := .slice _ _ _) rfl) rfl rfl ?_
      refine qv (yMove (v := .int .i64 _) rfl) rfl rfl ?_
      refine qElA (v := .int .i64 _) ul50 ti3 rfl hy rfl (by omega) (by simpa using hv) (fun _ => rfl) (fun _ => rfl) rfl rfl (fun _ => rfl) rfl rfl (fun _ => ?_)
      refine qcNe rfl rfl rfl rfl (fun h25 => ?_) (fun h25 => ?_)
      ·
        refine QL.nil ?_
        refine TQ.sq ?_
        refine TC.condT rfl ?_
        refine TC.seq ?_
        refine TC.quiet rfl ?_
        refine qv (yAsgn (v := .bool _) rfl) rfl rfl ?_
        refine QL.nil ?_
        refine TQ.sq ?_
        refine TC.ret (TQ.blkR (TQ.sqR (TQ.lpLR (TQ.blkR (TQ.sqR ?_)))))
        refine TQ.post (v := .bool _) rfl ?_
        exact fun w hw => ⟨by rw [decide_eq_false]; exact ne_of_get hu hv h25, hw⟩
      ·
        refine QL.nil ?_
        refine TQ.sq ?_
        refine TC.condF rfl ?_
        refine TC.skip (TQ.blk (TQ.sq ?_))
        refine TC.quiet rfl ?_
        refine qv (yMove (v := .int .i64 _) rfl) rfl rfl ?_
        refine qv (yAdd rfl rfl (by omega)) rfl rfl ?_
        refine qv (yAsgn (v := .int .i64 _) rfl) rfl rfl ?_
        refine QL.nil ?_
        refine TQ.lpL (k + 1) (by first | omega | (dsimp only; omega)) (by repeat (first | exact OffL.refl | refine OffL.updO rfl ?_ | refine OffL.upd rfl ?_ | refine OffL.updL rfl ?_ | refine OffL.mask rfl ?_)) ⟨rfl, trivial⟩ (fun w hw => ⟨⟨by omega, take_ext he hu hv (by omega)⟩, hw⟩)
    ·
      refine QL.nil ?_
      refine TQ.sq ?_
      refine TC.condF rfl ?_
      refine TC.exit (TQ.sqX (TQ.lpLX (TQ.blkX (TQ.sq ?_))))
      refine TC.seq ?_
      refine TC.quiet rfl ?_
      refine qv (yAsgn (v := .bool _) rfl) rfl rfl ?_
      refine QL.nil ?_
      refine TQ.sq ?_
      refine TC.ret ?_
      refine TQ.post (v := .bool _) rfl ?_
      obtain rfl : k = xs.length := by omega
      rw [List.take_length, show xs.length = ys.length from by omega, List.take_length] at he
      exact fun w hw => ⟨by rw [decide_eq_true he], hw⟩
end Go.Proofs.Ytfiambcocnceiaa
