import Derived.Test.YtfiambcocnceiaaTy
set_option linter.unusedVariables false
set_option maxRecDepth 100000
namespace Go.Proofs.Ytfiambcocnceiaa
open Go Go.E

def dg (n : Nat) : List UInt8 := if h : n < 10 then [UInt8.ofNat (48 + n)] else dg (n / 10) ++ [UInt8.ofNat (48 + n % 10)]
def numS (z : Int) : List UInt8 := if 0 ≤ z then dg z.toNat ++ [59] else 45 :: (dg (-z).toNat ++ [59])
theorem dg_small {n : Nat} (h : n < 10) : dg n = [UInt8.ofNat (48 + n)] := by rw [dg, dif_pos h]
theorem dg_big {n : Nat} (h : 10 ≤ n) : dg n = dg (n / 10) ++ [UInt8.ofNat (48 + n % 10)] := by rw [dg, dif_neg (by omega)]
theorem dg_len : ∀ n, n < 10 ^ 20 → (dg n).length ≤ 20 := by
  have key : ∀ k n, n < 10 ^ (k + 1) → (dg n).length ≤ k + 1 := by
    intro k
    induction k with
    | zero => intro n h; rw [dg_small (by simpa using h)]; simp
    | succ k ih =>
      intro n h
      by_cases h10 : n < 10
      · rw [dg_small h10]; simp
      · rw [dg_big (by omega), List.length_append]
        have := ih (n / 10) (by rw [Nat.pow_succ] at h; omega)
        simp; omega
  exact fun n h => key 19 n h
theorem dg_len64 {n : Nat} (h : n ≤ 18446744073709551615) : (dg n).length ≤ 20 := dg_len n (by omega)
theorem dg_pos (n : Nat) : 0 < (dg n).length := by
  rw [dg]; split
  · simp
  · simp
theorem numS_len {z : Int} (h0 : -9223372036854775808 ≤ z) (h1 : z ≤ 9223372036854775807) : (numS z).length ≤ 22 := by
  unfold numS; split
  · have := dg_len64 (n := z.toNat) (by omega); simp; omega
  · have := dg_len64 (n := (-z).toNat) (by omega); simp; omega
theorem u8_digit (z : Int) (h : 0 ≤ z ∧ z < 10) : IntKind.u8.wrap (48 + z) = ((UInt8.ofNat (48 + z.toNat)).toNat : Int) := by
  have h1 : (UInt8.ofNat (48 + z.toNat)).toNat = 48 + z.toNat := by simp; omega
  rw [h1]
  simp [IntKind.wrap, IntKind.bits, IntKind.signed]
  omega
theorem quo10 {z : Int} (h : z < 0) (h0 : -9223372036854775808 ≤ z) : IntKind.i64.wrap (z.tdiv 10) = -((-z) / 10) := by
  have : z.tdiv 10 = -((-z) / 10) := by
    rw [← Int.tdiv_eq_ediv_of_nonneg (by omega), Int.neg_tdiv, Int.neg_neg]
  rw [this]; exact i64in ⟨by omega, by omega⟩
theorem rem10 {z : Int} (h : z < 0) : z.tmod 10 = -((-z) % 10) := by
  rw [← Int.tmod_eq_emod_of_nonneg (by omega), Int.neg_tmod, Int.neg_neg]
theorem numS_neg {z : Int} (h : z < 0) (h2 : 10 ≤ -z) : numS z = 45 :: (dg ((-z) / 10).toNat ++ (dg ((-z) % 10).toNat ++ [59])) := by
  unfold numS
  rw [if_neg (by omega), dg_big (n := (-z).toNat) (by omega), dg_small (n := ((-z) % 10).toNat) (by omega), show (-z).toNat / 10 = ((-z) / 10).toNat from by omega, show (-z).toNat % 10 = ((-z) % 10).toNat from by omega, List.append_assoc]
theorem u64pos {z : Int} (h : 0 ≤ z) (h1 : z ≤ 9223372036854775807) : IntKind.u64.wrap z = z := u64in ⟨h, by omega⟩
theorem u64neg {z : Int} (h : z < 0) (h1 : -9223372036854775808 ≤ z) : IntKind.u64.wrap z = z + 18446744073709551616 := by
  simp [IntKind.wrap, IntKind.bits, IntKind.signed]; omega
theorem u64neg' {z : Int} (h : z < 0) (h1 : -9223372036854775808 ≤ z) : IntKind.u64.wrap (0 - (z + 18446744073709551616)) = -z := by
  simp [IntKind.wrap, IntKind.bits, IntKind.signed]; omega
theorem u64quo {z : Int} (h : 0 ≤ z) (h1 : z ≤ 18446744073709551615) : IntKind.u64.wrap (z.tdiv 10) = z / 10 := by
  rw [Int.tdiv_eq_ediv_of_nonneg h]; exact u64in ⟨by omega, by omega⟩
theorem u64rem {z : Int} (h : 0 ≤ z) : z.tmod 10 = z % 10 := Int.tmod_eq_emod_of_nonneg h

theorem Digits_ok0 {c : Cx} {I : Im} : ∀ (k : Nat) (l : Ow) (z : Int), 0 ≤ z → z ≤ 9223372036854775807 → z.toNat < k → Ct Try.prog 57 [.int .i64 z] (St c I l) fun v w => v = str (dg z.toNat) ∧ St c I l w := by
  intro k
  induction k with
  | zero => intro l z h0 h1 hk; omega
  | succ k ih =>
    intro l z h0 h1 hk
    refine Ct.enter (n := 20) Try.func57 rfl rfl rfl rfl rfl rfl ?_
    refine TC.seq ?_
    refine TC.quiet rfl ?_
    refine qv (yAsgn (v := str _) rfl) rfl rfl ?_
    refine QL.nil ?_
    refine TQ.sq ?_
    refine TC.seq ?_
    refine TC.seq ?_
    refine TC.quiet rfl ?_
    refine qv (yMove (v := .int .i64 _) rfl) rfl rfl ?_
    refine qcLt rfl rfl rfl rfl (fun h10 => ?_) (fun h10 => ?_)
    ·
      refine QL.nil ?_
      refine TQ.sq ?_
      refine TC.condT rfl ?_
      refine TC.seq ?_
      refine TC.region ?_
      refine sv (yMove (v := .int .i64 _) rfl) rfl rfl ?_
      refine sv (yAdd rfl rfl (by omega)) rfl rfl ?_
      refine sv (yConvI ul5 ul3 rfl (u8_digit _ (by omega))) rfl rfl ?_
      refine sBuildSl (vs := [.int .u8 _]) ul62 ti5 rfl rfl rfl rfl (fun b8 => ?_)
      refine sv (yToStr ul62 ul5 ul9 rfl (by first | exact slrB | exact RS.sl (by assumption) | exact OS.sl (by assumption) | exact OS.slr (by assumption) (by simp))) rfl rfl ?_
      refine sv (yAsgn (v := str _) rfl) rfl rfl ?_
      refine TL.nil ?_
      refine TQ.sq ?_
      refine TC.ret (TQ.sqR ?_)
      refine TQ.post (v := str _) rfl ?_
      exact fun w hw => ⟨by rw [dg_small (by omega)], hw.tl⟩
    ·
      refine QL.nil ?_
      refine TQ.sq ?_
      refine TC.condF rfl ?_
      refine TC.skip (TQ.sq ?_)
      refine TC.seq ?_
      refine TC.heldS 10 (.q 0 (.q 1 (.q 3 (.q 4 (.q 5 (.q 6 (.y 2 (.x 7 (.x 8 (.q 9 (.x 10 .done)))) 7 (.y 2 (.x 8 (.q 9 (.x 10 .done))) 8 (.x 2 (.q 9 (.x 10 .done))))))))))) (fun _ _ h => h.drawn _) mixed rfl (by kernel_rfl) (by kernel_rfl) ?_
      refine Go.E.hq rfl (yMove (v := .int .i64 _) rfl) rfl rfl Wk.w ?_
      refine Go.E.hq rfl (yQuo rfl rfl (by omega) (by omega) (by omega)) rfl rfl Wk.w ?_
      refine Go.E.hq rfl (yMove (v := .int .i64 _) rfl) rfl rfl Wk.w ?_
      refine Go.E.hq rfl (yRem rfl rfl (by omega) (by omega)) rfl rfl Wk.w ?_
      refine Go.E.hq rfl (yAdd rfl rfl (by omega)) rfl rfl Wk.w ?_
      refine Go.E.hq rfl (yConvI ul5 ul3 rfl (u8_digit _ (by omega))) rfl rfl Wk.w ?_
      refine Go.E.hy rfl rfl ?_ ?_
      ·
        refine sCall (ih _ _ (by omega) (by omega) (by omega)) rfl rfl (fun v12 w hw => ?_)
        obtain ⟨rfl, hw⟩ := hw
        refine TL.wl ?_ hw
        refine Go.E.hn (fun _ => by exact Wk.w) ?_
        refine Go.E.hx rfl ?_
        refine sBuildSl (vs := [.int .u8 _]) ul62 ti5 rfl rfl rfl rfl (fun b17 => ?_)
        refine Go.E.hn (fun _ => by exact Wk.w) ?_
        refine Go.E.hx rfl ?_
        refine sv (yToStr ul62 ul5 ul9 rfl (by first | exact slrB | exact RS.sl (by assumption) | exact OS.sl (by assumption) | exact OS.slr (by assumption) (by simp))) rfl rfl ?_
        refine Go.E.hn (fun _ => by exact Wk.w) ?_
        refine Go.E.hq rfl (yStrAdd rfl rfl (by have := dg_len64 (n := (z / 10).toNat) (by omega); simp; omega)) rfl rfl Wk.w ?_
        refine Go.E.hx rfl ?_
        refine sv (yAsgn (v := str _) rfl) rfl rfl ?_
        refine Go.E.hn (fun h => nomatch h) ?_
        refine TQ.sq ?_
        refine TC.ret ?_
        refine TQ.post (v := str _) rfl ?_
        exact fun w hw => ⟨by rw [dg_big (n := z.toNat) (by omega), show z.toNat / 10 = (z / 10).toNat from by omega, show z.toNat % 10 = (z % 10).toNat from by omega], hw.tl⟩
      ·
        refine sBuildSl (vs := [.int .u8 _]) ul62 ti5 rfl rfl rfl rfl (fun b17 => ?_)
        refine Go.E.hn (fun _ => by exact Wk.w) ?_
        refine Go.E.hy rfl rfl ?_ ?_
        ·
          refine sCall (ih _ _ (by omega) (by omega) (by omega)) rfl rfl (fun v12 w hw => ?_)
          obtain ⟨rfl, hw⟩ := hw
          refine TL.wl ?_ hw
          refine Go.E.hn (fun _ => by exact Wk.w) ?_
          refine Go.E.hx rfl ?_
          refine sv (yToStr ul62 ul5 ul9 rfl (by first | exact slrB | exact RS.sl (by assumption) | exact OS.sl (by assumption) | exact OS.slr (by assumption) (by simp))) rfl rfl ?_
          refine Go.E.hn (fun _ => by exact Wk.w) ?_
          refine Go.E.hq rfl (yStrAdd rfl rfl (by have := dg_len64 (n := (z / 10).toNat) (by omega); simp; omega)) rfl rfl Wk.w ?_
          refine Go.E.hx rfl ?_
          refine sv (yAsgn (v := str _) rfl) rfl rfl ?_
          refine Go.E.hn (fun h => nomatch h) ?_
          refine TQ.sq ?_
          refine TC.ret ?_
          refine TQ.post (v := str _) rfl ?_
          exact fun w hw => ⟨by rw [dg_big (n := z.toNat) (by omega), show z.toNat / 10 = (z / 10).toNat from by omega, show z.toNat % 10 = (z % 10).toNat from by omega], hw.tl⟩
        ·
          refine sv (yToStr ul62 ul5 ul9 rfl (by first | exact slrB | exact RS.sl (by assumption) | exact OS.sl (by assumption) | exact OS.slr (by assumption) (by simp))) rfl rfl ?_
          refine Go.E.hn (fun _ => by exact Wk.w) ?_
          refine Go.E.hx rfl ?_
          refine sCall (ih _ _ (by omega) (by omega) (by omega)) rfl rfl (fun v12 w hw => ?_)
          obtain ⟨rfl, hw⟩ := hw
          refine TL.wl ?_ hw
          refine Go.E.hn (fun _ => by exact Wk.w) ?_
          refine Go.E.hq rfl (yStrAdd rfl rfl (by have := dg_len64 (n := (z / 10).toNat) (by omega); simp; omega)) rfl rfl Wk.w ?_
          refine Go.E.hx rfl ?_
          refine sv (yAsgn (v := str _) rfl) rfl rfl ?_
          refine Go.E.hn (fun h => nomatch h) ?_
          refine TQ.sq ?_
          refine TC.ret ?_
          refine TQ.post (v := str _) rfl ?_
          exact fun w hw => ⟨by rw [dg_big (n := z.toNat) (by omega), show z.toNat / 10 = (z / 10).toNat from by omega, show z.toNat % 10 = (z % 10).toNat from by omega], hw.tl⟩
theorem Digits_ok {c : Cx} {I : Im} (l : Ow) (z : Int) (h0 : 0 ≤ z) (h1 : z ≤ 9223372036854775807) : Ct Try.prog 57 [.int .i64 z] (St c I l) fun v w => v = str (dg z.toNat) ∧ St c I l w := Digits_ok0 (z.toNat + 1) l z h0 h1 (by omega)
theorem RNumber_ok {c : Cx} {I : Im} (l : Ow) (z : Int) (hm : -9223372036854775808 ≤ z) (h1 : z ≤ 9223372036854775807) : Ct Try.prog 47 [.int .i64 z] (St c I l) fun v w => v = str (numS z) ∧ St c I l w := by
  refine Ct.enter (n := 27) Try.func47 rfl rfl rfl rfl rfl rfl ?_
  refine TC.seq ?_
  refine TC.quiet rfl ?_
  refine qv (yAsgn (v := str _) rfl) rfl rfl ?_
  refine QL.nil ?_
  refine TQ.sq ?_
  refine TC.seq ?_
  refine TC.seq ?_
  refine TC.quiet rfl ?_
  refine qv (yMove (v := .int .i64 _) rfl) rfl rfl ?_
  refine qcGe rfl rfl rfl rfl (fun h0 => ?_) (fun h0 => ?_)
  ·
    refine QL.nil ?_
    refine TQ.sq ?_
    refine TC.condT rfl ?_
    refine TC.seq ?_
    refine TC.region ?_
    refine sv (yMove (v := .int .i64 _) rfl) rfl rfl ?_
    refine sCall (Digits_ok _ _ h0 h1) rfl rfl (fun v6 w hw => ?_)
    obtain ⟨rfl, hw⟩ := hw
    refine TL.wl ?_ hw
    refine sv (yStrAdd rfl rfl (by have := dg_len64 (n := z.toNat) (by omega); simp; omega)) rfl rfl ?_
    refine sv (yAsgn (v := str _) rfl) rfl rfl ?_
    refine TL.nil ?_
    refine TQ.sq ?_
    refine TC.ret (TQ.sqR ?_)
    refine TQ.post (v := str _) rfl ?_
    exact fun w hw => ⟨by unfold numS; rw [if_pos h0], hw⟩
  ·
    refine QL.nil ?_
    refine TQ.sq ?_
    refine TC.condF rfl ?_
    refine TC.skip (TQ.sq ?_)
    refine TC.seq ?_
    refine TC.seq ?_
    refine TC.quiet rfl ?_
    refine qv (yMove (v := .int .i64 _) rfl) rfl rfl ?_
    refine qv (yQuoK (r := -((-z) / 10)) rfl rfl (by decide) (quo10 h0 hm)) rfl rfl ?_
    refine qcEq rfl rfl rfl rfl (fun h10 => ?_) (fun h10 => ?_)
    ·
      refine QL.nil ?_
      refine TQ.sq ?_
      refine TC.condT rfl ?_
      refine TC.seq ?_
      refine TC.region ?_
      refine sv (yMove (v := .int .i64 _) rfl) rfl rfl ?_
      refine sv (yNeg rfl (by omega)) rfl rfl ?_
      refine sCall (Digits_ok _ _ (by omega) (by omega)) rfl rfl (fun v13 w hw => ?_)
      obtain ⟨rfl, hw⟩ := hw
      refine TL.wl ?_ hw
      refine sv (yStrAdd rfl rfl (by have := dg_len64 (n := (-z).toNat) (by omega); simp; omega)) rfl rfl ?_
      refine sv (yStrAdd rfl rfl (by have := dg_len64 (n := (-z).toNat) (by omega); simp; omega)) rfl rfl ?_
      refine sv (yAsgn (v := str _) rfl) rfl rfl ?_
      refine TL.nil ?_
      refine TQ.sq ?_
      refine TC.ret (TQ.sqR ?_)
      refine TQ.post (v := str _) rfl ?_
      exact fun w hw => ⟨by unfold numS; rw [if_neg (by omega)]; simp, hw⟩
    ·
      refine QL.nil ?_
      refine TQ.sq ?_
      refine TC.condF rfl ?_
      refine TC.skip (TQ.sq ?_)
      refine TC.seq ?_
      refine TC.region ?_
      refine sv (yMove (v := .int .i64 _) rfl) rfl rfl ?_
      refine sv (yQuoK (r := -((-z) / 10)) rfl rfl (by decide) (quo10 h0 hm)) rfl rfl ?_
      refine sv (yNegK (r := (-z) / 10) rfl (by rw [show (0 : Int) - -(-z / 10) = -z / 10 from by omega]; exact i64in ⟨by omega, by omega⟩)) rfl rfl ?_
      refine sCall (Digits_ok _ _ (by omega) (by omega)) rfl rfl (fun v19 w hw => ?_)
      obtain ⟨rfl, hw⟩ := hw
      refine TL.wl ?_ hw
      refine sv (yStrAdd rfl rfl (by have := dg_len64 (n := (-z / 10).toNat) (by omega); simp; omega)) rfl rfl ?_
      refine sv (yMove (v := .int .i64 _) rfl) rfl rfl ?_
      refine sv (yRemK (r := -((-z) % 10)) rfl rfl (by decide) (rem10 h0)) rfl rfl ?_
      refine sv (yNegK (r := (-z) % 10) rfl (by rw [show (0 : Int) - -(-z % 10) = -z % 10 from by omega]; exact i64in ⟨by omega, by omega⟩)) rfl rfl ?_
      refine sCall (Digits_ok _ _ (by omega) (by omega)) rfl rfl (fun v24 w hw => ?_)
      obtain ⟨rfl, hw⟩ := hw
      refine TL.wl ?_ hw
      refine sv (yStrAdd rfl rfl (by have := dg_len64 (n := (-z / 10).toNat) (by omega); have := dg_len64 (n := (-z % 10).toNat) (by omega); simp; omega)) rfl rfl ?_
      refine sv (yStrAdd rfl rfl (by have := dg_len64 (n := (-z / 10).toNat) (by omega); have := dg_len64 (n := (-z % 10).toNat) (by omega); simp; omega)) rfl rfl ?_
      refine sv (yAsgn (v := str _) rfl) rfl rfl ?_
      refine TL.nil ?_
      refine TQ.sq ?_
      refine TC.ret ?_
      refine TQ.post (v := str _) rfl ?_
      exact fun w hw => ⟨by rw [numS_neg h0 (by omega)]; simp, hw⟩
theorem digits_ok0 {c : Cx} {I : Im} : ∀ (k : Nat) (z : Int) (m : Ow) (a : Option Addr) (cap : Nat) (bs : List UInt8) (l : Ow), OB 5 m a cap bs → 0 ≤ z → z ≤ 18446744073709551615 → z.toNat < k → bs.length ≤ 1000000000000 → Ct Try.prog 41 [.slice a bs.length cap, .int .u64 z] (St c I (m ++ l)) fun v w => ∃ m' a' cap', v = .slice a' (bs ++ dg z.toNat).length cap' ∧ OB 5 m' a' cap' (bs ++ dg z.toNat) ∧ St c I (m' ++ l) w := by
  intro k
  induction k with
  | zero => intro z m a cap bs l ho h0 h1 hk hb; omega
  | succ k ih =>
    intro z m a cap bs l ho h0 h1 hk hb
    refine Ct.enter (n := 18) Try.func41 rfl rfl rfl rfl rfl rfl ?_
    refine TC.seq ?_
    refine TC.quiet rfl ?_
    refine qv (yAsgn (v := .slice _ _ _) rfl) rfl rfl ?_
    refine QL.nil ?_
    refine TQ.sq ?_
    refine TC.seq ?_
    refine TC.seq ?_
    refine TC.quiet rfl ?_
    refine qv (yMove (v := .int .u64 _) rfl) rfl rfl ?_
    refine qcGe rfl rfl rfl rfl (fun h10 => ?_) (fun h10 => ?_)
    ·
      refine QL.nil ?_
      refine TQ.sq ?_
      refine TC.condT rfl ?_
      refine TC.region ?_
      refine sv (yMove (v := .slice _ _ _) rfl) rfl rfl ?_
      refine sv (yMove (v := .int .u64 _) rfl) rfl rfl ?_
      refine sv (yQuoK rfl rfl (by decide) (u64quo h0 h1)) rfl rfl ?_
      refine sCall (ih _ _ _ _ _ _ ho (by omega) (by omega) (by omega) (by omega)) rfl rfl (fun v10 w hw => ?_)
      obtain ⟨m1, a1, c1, rfl, ho, hw⟩ := hw
      refine TL.wl ?_ hw
      refine sv (yAsgn (v := .slice _ _ _) rfl) rfl rfl ?_
      refine TL.nil ?_
      refine TQ.sq ?_
      refine TC.seq ?_
      refine TC.region ?_
      refine sv (yMove (v := .slice _ _ _) rfl) rfl rfl ?_
      refine sv (yMove (v := .int .u64 _) rfl) rfl rfl ?_
      refine sv (yRemK rfl rfl (by decide) (u64rem h0)) rfl rfl ?_
      refine sv (yAddK rfl rfl (u64in (by omega))) rfl rfl ?_
      refine sv (yConvI ul5 ul75 rfl (u8_digit _ (by omega))) rfl rfl ?_
      refine sBuildSl (vs := [.int .u8 _]) ul62 ti5 rfl rfl rfl rfl (fun b16 => ?_)
      refine sAppB1 (UInt8.ofNat (48 + (z % 10).toNat)) ul62 ul62 ti5 rfl rfl (by assumption) rfl (by have := dg_len64 (n := (z / 10).toNat) (by omega); simp; omega) rfl (fun m2 a2 c2 ho2 => ?_)
      refine sv (yAsgn (v := .slice _ _ _) rfl) rfl rfl ?_
      refine TL.nil ?_
      refine TQ.sq ?_
      refine TC.ret ?_
      refine TQ.post (v := .slice _ _ _) rfl ?_
      have e1 : dg z.toNat = dg (z / 10).toNat ++ [UInt8.ofNat (48 + (z % 10).toNat)] := by rw [dg_big (n := z.toNat) (by omega), show z.toNat / 10 = (z / 10).toNat from by omega, show z.toNat % 10 = (z % 10).toNat from by omega]
      rw [e1, ← List.append_assoc]
      exact fun w hw => ⟨m2, a2, c2, rfl, ho2, hw⟩
    ·
      refine QL.nil ?_
      refine TQ.sq ?_
      refine TC.condF rfl ?_
      refine TC.skip (TQ.sq ?_)
      refine TC.seq ?_
      refine TC.region ?_
      refine sv (yMove (v := .slice _ _ _) rfl) rfl rfl ?_
      refine sv (yMove (v := .int .u64 _) rfl) rfl rfl ?_
      refine sv (yRemK rfl rfl (by decide) (u64rem h0)) rfl rfl ?_
      refine sv (yAddK rfl rfl (u64in (by omega))) rfl rfl ?_
      refine sv (yConvI ul5 ul75 rfl (u8_digit _ (by omega))) rfl rfl ?_
      refine sBuildSl (vs := [.int .u8 _]) ul62 ti5 rfl rfl rfl rfl (fun b16 => ?_)
      refine sAppB1 (UInt8.ofNat (48 + (z % 10).toNat)) ul62 ul62 ti5 rfl rfl (by assumption) rfl (by omega) rfl (fun m2 a2 c2 ho2 => ?_)
      refine sv (yAsgn (v := .slice _ _ _) rfl) rfl rfl ?_
      refine TL.nil ?_
      refine TQ.sq ?_
      refine TC.ret ?_
      refine TQ.post (v := .slice _ _ _) rfl ?_
      refine fun w hw => ⟨m2, a2, c2, ?_, ?_, hw⟩
      · rw [dg_small (n := z.toNat) (by omega)]; simp
      · rw [dg_small (n := z.toNat) (by omega)]; rw [show (z % 10).toNat = z.toNat from by omega] at ho2; exact ho2
theorem digits_ok {c : Cx} {I : Im} (z : Int) (h0 : 0 ≤ z) (h1 : z ≤ 18446744073709551615) (m : Ow) {a : Option Addr} {cap : Nat} {bs : List UInt8} (l : Ow) (ho : OB 5 m a cap bs) (hb : bs.length ≤ 1000000000000) : Ct Try.prog 41 [.slice a bs.length cap, .int .u64 z] (St c I (m ++ l)) fun v w => ∃ m' a' cap', v = .slice a' (bs ++ dg z.toNat).length cap' ∧ OB 5 m' a' cap' (bs ++ dg z.toNat) ∧ St c I (m' ++ l) w :=
  digits_ok0 (z.toNat + 1) z m a cap bs l ho h0 h1 (by omega) hb
theorem LNumber_ok {c : Cx} {I : Im} (l : Ow) (z : Int) (hm : -9223372036854775808 ≤ z) (hp : z ≤ 9223372036854775807) : Ct Try.prog 21 [.int .i64 z] (St c I l) fun v w => v = str (numS z) ∧ St c I l w := by
  refine Ct.enter (n := 19) Try.func21 rfl rfl rfl rfl rfl rfl ?_
  refine TC.seq ?_
  refine TC.quiet rfl ?_
  refine qv (yAsgn (v := str _) rfl) rfl rfl ?_
  refine QL.nil ?_
  refine TQ.sq ?_
  refine TC.seq ?_
  refine TC.seq ?_
  refine TC.quiet rfl ?_
  refine qv (yMove (v := .int .i64 _) rfl) rfl rfl ?_
  refine qcLt rfl rfl rfl rfl (fun h0 => ?_) (fun h0 => ?_)
  ·
    refine QL.nil ?_
    refine TQ.sq ?_
    refine TC.condT rfl ?_
    refine TC.seq ?_
    refine TC.region ?_
    refine sBuildSl (vs := [.int .u8 _]) ul62 ti5 rfl rfl rfl rfl (fun b5 => ?_)
    refine sv (yMove (v := .int .i64 _) rfl) rfl rfl ?_
    refine sv (yConvI ul75 ul3 rfl (u64neg h0 hm)) rfl rfl ?_
    refine sv (yNegK (r := -z) rfl (u64neg' h0 hm)) rfl rfl ?_
    refine sCall (digits_ok (-z) (by omega) (by omega) [_] (bs := [45]) _ (OB.made rfl (by decide)) (by decide)) rfl rfl (fun v9 w hw => ?_)
    obtain ⟨m1, a1, c1, rfl, ho, hw⟩ := hw
    refine TL.wl ?_ hw
    refine sBuildSl (vs := [.int .u8 _]) ul62 ti5 rfl rfl rfl rfl (fun b10 => ?_)
    refine sAppB1 (59) ul62 ul62 ti5 rfl rfl (by assumption) rfl (by have := dg_len64 (n := (-z).toNat) (by omega); simp; omega) rfl (fun m2 a2 c2 ho2 => ?_)
    refine sv (yToStr ul62 ul5 ul9 rfl ho2.sl) rfl rfl ?_
    refine sv (yAsgn (v := str _) rfl) rfl rfl ?_
    refine TL.nil ?_
    refine TQ.sq ?_
    refine TC.ret (TQ.sqR ?_)
    refine TQ.post (v := str _) rfl ?_
    exact fun w hw => ⟨by unfold numS; rw [if_neg (by omega)]; simp, hw.dropL⟩
  ·
    refine QL.nil ?_
    refine TQ.sq ?_
    refine TC.condF rfl ?_
    refine TC.skip (TQ.sq ?_)
    refine TC.seq ?_
    refine TC.region ?_
    refine sv (yMove (v := .int .i64 _) rfl) rfl rfl ?_
    refine sv (yConvI ul75 ul3 rfl (u64pos h0 hp)) rfl rfl ?_
    refine sCall (digits_ok z h0 (by omega) [] _ OB.nil (by decide)) rfl rfl (fun v15 w hw => ?_)
    obtain ⟨m1, a1, c1, rfl, ho, hw⟩ := hw
    refine TL.wl ?_ hw
    refine sBuildSl (vs := [.int .u8 _]) ul62 ti5 rfl rfl rfl rfl (fun b16 => ?_)
    refine sAppB1 (59) ul62 ul62 ti5 rfl rfl (by assumption) rfl (by have := dg_len64 (n := z.toNat) (by omega); simp; omega) rfl (fun m2 a2 c2 ho2 => ?_)
    refine sv (yToStr ul62 ul5 ul9 rfl ho2.sl) rfl rfl ?_
    refine sv (yAsgn (v := str _) rfl) rfl rfl ?_
    refine TL.nil ?_
    refine TQ.sq ?_
    refine TC.ret ?_
    refine TQ.post (v := str _) rfl ?_
    exact fun w hw => ⟨by unfold numS; rw [if_pos h0]; simp, hw.dropL⟩
end Go.Proofs.Ytfiambcocnceiaa
