import Derived.Test.YtfiambcocnceiaaPr9
set_option linter.unusedVariables false
set_option maxRecDepth 100000
namespace Go.Proofs.Ytfiambcocnceiaa
open Go Go.E

theorem two_of {α : Type} {xs : List α} {x y : α} (hx : xs[0]? = some x) (hy : xs[1]? = some y) : ∃ r, xs = x :: y :: r := by
  match xs, hx, hy with
  | a :: b :: r, hx, hy => exact ⟨r, by simp at hx hy; rw [hx, hy]⟩
theorem prR_go {ys : List SX} {x y : SX} {seen : Int} {d : List Hd} (hx : ys[0]? = some x) (hy : ys[1]? = some y) (h : y.n ≤ seen) : prR (ys.map absS) seen d = prR ((ys.drop 1).map absS) seen (x.hs.foldl (dieR ((ys.drop 1).map absS)) d) := by
  obtain ⟨r, rfl⟩ := two_of hx hy
  show prR (absS x :: absS y :: r.map absS) seen d = _
  conv => lhs; unfold prR
  rw [if_pos (show (absS y).1 ≤ seen from h)]; rfl
theorem prR_at {ys : List SX} {x y : SX} {seen : Int} {d : List Hd} (hx : ys[0]? = some x) (hy : ys[1]? = some y) (h : ¬ y.n ≤ seen) : prR (ys.map absS) seen d = (ys.map absS, d) := by
  obtain ⟨r, rfl⟩ := two_of hx hy
  show prR (absS x :: absS y :: r.map absS) seen d = _
  conv => lhs; unfold prR
  rw [if_neg (show ¬ (absS y).1 ≤ seen from h)]; rfl
theorem prR_one {ys : List SX} {seen : Int} {d : List Hd} (h : ys.length ≤ 1) : prR (ys.map absS) seen d = (ys.map absS, d) := by
  match ys, h with
  | [], _ => rfl
  | [x], _ => rfl
theorem anyN_A (xs : List SX) (n : Int) : anyN xs n = anyA (xs.map absS) n := by
  unfold anyN anyA; rw [List.any_map]; rfl
theorem dieR_y {ys : List SX} {d : List Hd} {u : Hd} (h : anyN ys u.1 = true) : dieR (ys.map absS) d u = d := by unfold dieR; rw [← anyN_A, h]; rfl
theorem dieR_n {ys : List SX} {d : List Hd} {u : Hd} (h : anyN ys u.1 = false) : dieR (ys.map absS) d u = putH u d := by unfold dieR; rw [← anyN_A, h]; rfl
theorem dieR_len (T : List (Int × List Hd)) (d : List Hd) (u : Hd) : (dieR T d u).length ≤ d.length + 1 := by
  unfold dieR; have := putH_len u d; split <;> omega
theorem foldDieR_len (T : List (Int × List Hd)) : ∀ (L d : List Hd), (L.foldl (dieR T) d).length ≤ d.length + L.length
  | [], d => by simp
  | x :: r, d => by have h1 := foldDieR_len T r (dieR T d x); have h2 := dieR_len T d x; simp only [List.foldl_cons, List.length_cons]; omega
theorem flatS_one {ys : List SX} {x : SX} (hx : ys[0]? = some x) : (flatS ys).length = x.hs.length + (flatS (ys.drop 1)).length := by
  match ys, hx with
  | a :: r, hx => simp at hx; subst hx; simp [flatS]
theorem take_last {α : Type} {xs : List α} {k : Nat} (hk : k ≤ 64) (h : xs.length ≤ k ∨ 64 ≤ k) : xs.take k = xs.take 64 ∧ xs.drop k = xs.drop 64 := by
  rcases h with h | h
  · rw [List.take_of_length_le h, List.drop_eq_nil_of_le h, List.take_of_length_le (by omega), List.drop_eq_nil_of_le (by omega)]; exact ⟨rfl, rfl⟩
  · rw [show k = 64 from by omega]; exact ⟨rfl, rfl⟩

theorem RPrune_ok {c : Cx} {I : Im} (l : Ow) (p : Nat) (a1 : Option Addr) (c1 : Nat) (xs : List SX) (a2 : Option Addr) (c2 : Nat) (dead : List Hd) (seen : Int) (hS : SL I a1 xs) (hc1 : xs.length ≤ c1) (hd : RA I encH 2 a2 dead) (hc2 : dead.length ≤ c2) (hdl : dead.length ≤ 1000) : Ct Try.prog 23 [.pointer (some ⟨p, 0, none⟩), .int .i64 seen] (St c I ((p, (bkO 29 a1 xs.length c1 a2 dead.length c2)) :: l)) fun v w => ∃ J a3 c3 ys a4 c4 mo ao co, Le I J ∧ v = .slice ao (((prR (xs.map absS) seen dead).2.take 64).map (·.1)).length co ∧ OA 3 encI 1 mo ao co (((prR (xs.map absS) seen dead).2.take 64).map (·.1)) ∧ SL J a3 ys ∧ ys.length ≤ c3 ∧ ys.map absS = (prR (xs.map absS) seen dead).1 ∧ RA J encH 2 a4 ((prR (xs.map absS) seen dead).2.drop 64) ∧ ((prR (xs.map absS) seen dead).2.drop 64).length ≤ c4 ∧ St c J (mo ++ (p, bkO 29 a3 ys.length c3 a4 ((prR (xs.map absS) seen dead).2.drop 64).length c4) :: l) w := by
  refine Ct.enter (n := 96) Try.func23 rfl rfl rfl rfl rfl rfl ?_
  refine TC.seq ?_
  refine TC.quiet rfl ?_
  refine qv (yAsgn (v := .slice _ _ _) rfl) rfl rfl ?_
  refine QL.nil ?_
  refine TQ.sq ?_
  refine TC.seq ?_
  refine TC.block ?_
  have hSn := hS.n
  have hfl := flatS_len (xs := xs) (fun y hy => (hS.e y hy).2.2)
  refine TC.loopL (ι := (Im) × (Option Addr) × (Nat) × (List SX) × (Option Addr) × (Nat) × (List Hd)) [5, 6, 8, 9, 10, 11, 12, 13, 14, 15, 16, 17, 18, 19, 20, 21, 22, 23, 24, 25, 26, 27, 28, 29, 30, 31, 32, 33, 34, 35, 36, 37, 38, 39, 40, 41, 42, 43, 44, 45, 46, 47, 48, 49, 50, 51, 52, 53, 54, 55, 56, 57, 58, 59, 60, 61, 62, 63, 64, 65] (fun ⟨J, a3, c3, ys, a4, c4, dd⟩ => []) (fun ⟨J, a3, c3, ys, a4, c4, dd⟩ w => (Le I J ∧ SL J a3 ys ∧ ys.length ≤ c3 ∧ RA J encH 2 a4 dd ∧ dd.length ≤ c4 ∧ dd.length + (flatS ys).length ≤ 1000000000 ∧ prR (ys.map absS) seen dd = prR (xs.map absS) seen dead) ∧ St c J ((p, (bkO 29 a3 ys.length c3 a4 dd.length c4)) :: l) w) (fun ⟨J, a3, c3, ys, a4, c4, dd⟩ => ys.length) (I, a1, c1, xs, a2, c2, dead) trivial (fun w hw => ⟨⟨Le.refl I, hS, hc1, hd, hc2, by omega, rfl⟩, hw⟩) ?_
  rintro g0 ⟨J, a3, c3, ys, a4, c4, dd⟩
  dsimp only
  refine TC.pure fun ⟨hJ, hS3, hc3, hr, hrc, hbd, hP⟩ => ?_
  refine TC.seq ?_
  refine TC.seq ?_
  refine TC.quiet rfl ?_
  refine qv (yMove (v := .pointer _) rfl) rfl rfl ?_
  refine qv (yNil rfl) rfl rfl ?_
  refine qv (yFA fld29_0 ti26 (by decide) rfl) rfl rfl ?_
  refine qv (yLd1 ti26 rfl (by first | exact RdC.rd | exact rdI (by assumption)) rfl) rfl rfl ?_
  refine qv (ySlLen ul26 rfl) rfl rfl ?_
  have hSn3 := hS3.n
  refine qcGt rfl rfl rfl rfl (fun h13 => ?_) (fun h13 => ?_)
  ·
    obtain ⟨x, hx0⟩ := getSome (xs := ys) (k := 0) (by omega)
    obtain ⟨y, hx1⟩ := getSome (xs := ys) (k := 1) (by omega)
    have hxe := hS3.e x (getMem hx0)
    have hfo := flatS_one hx0
    refine qv (yMove (v := .bool _) rfl) rfl rfl ?_
    refine qv (yMove (v := .pointer _) rfl) (.inl ⟨_, _, rfl, rfl, rfl⟩) rfl ?_
    refine qv (yNil rfl) (.inl ⟨_, _, rfl, rfl, rfl⟩) rfl ?_
    refine qv (yFA fld29_0 ti26 (by decide) rfl) (.inl ⟨_, _, rfl, rfl, rfl⟩) rfl ?_
    refine qv (yLd1 ti26 rfl (by first | exact RdC.rd | exact rdI (by assumption)) rfl) (.inl ⟨_, _, rfl, rfl, rfl⟩) rfl ?_
    refine qElF (v := .int .i64 _) ul26 ti66 fld66_0 ti3 (by decide) rfl (RA.sa hS3.r) rfl (by omega) (by omega) (flat_cell (enc := encS) (k := 2) (fun _ => rfl) (by simpa using hx1) (by decide) rfl) (.inl ⟨_, _, rfl, rfl, rfl⟩) (fun _ => (.inl ⟨_, _, rfl, rfl, rfl⟩)) (fun _ _ => (.inl ⟨_, _, rfl, rfl, rfl⟩)) rfl rfl rfl (fun _ _ => ?_)
    refine qv (yMove (v := .int .i64 _) rfl) (.inl ⟨_, _, rfl, rfl, rfl⟩) rfl ?_
    refine qcLe rfl rfl (.inl ⟨_, _, rfl, rfl, rfl⟩) rfl (fun h23 => ?_) (fun h23 => ?_)
    ·
      refine qv (yPickT rfl rfl) rfl rfl ?_
      refine QL.nil ?_
      refine TQ.sq ?_
      refine TC.condT rfl ?_
      refine TC.skip (TQ.sq ?_)
      refine TC.block ?_
      refine TC.seq ?_
      refine TC.quiet rfl ?_
      refine qv (yMove (v := .pointer _) rfl) rfl rfl ?_
      refine qv (yNil rfl) rfl rfl ?_
      refine qv (yFA fld29_0 ti26 (by decide) rfl) rfl rfl ?_
      refine qv (yLd1 ti26 rfl (by first | exact RdC.rd | exact rdI (by assumption)) rfl) rfl rfl ?_
      refine qElF (v := .slice _ _ _) ul26 ti66 fld66_1 ti27 (by decide) rfl (RA.sa hS3.r) rfl (by omega) (by omega) (flat_cell (enc := encS) (k := 2) (fun _ => rfl) (by simpa using hx0) (by decide) rfl) rfl (fun _ => rfl) (fun _ _ => rfl) rfl rfl rfl (fun _ _ => ?_)
      refine qv (yAsgn (v := .slice _ _ _) rfl) rfl rfl ?_
      refine QL.nil ?_
      refine TQ.sq ?_
      refine TC.seq ?_
      refine TC.region ?_
      refine sv (yMove (v := .pointer _) rfl) rfl rfl ?_
      refine sv (yMove (v := .pointer _) rfl) rfl rfl ?_
      refine sv (yNil rfl) rfl rfl ?_
      refine sv (yFA fld29_0 ti26 (by decide) rfl) rfl rfl ?_
      refine sv (yLd1 ti26 rfl (by first | exact RdC.rd | exact rdI (by assumption)) rfl) rfl rfl ?_
      refine sv (yCutLoA (i := 1) ys ul26 ti66 rfl rfl (by omega)) rfl rfl ?_
      refine sv (yNil rfl) rfl rfl ?_
      refine sv (yFA fld29_0 ti26 (by decide) rfl) rfl rfl ?_
      refine sStoreF (vs := [.slice _ _ _]) (cs' := [.slice _ _ _, .slice _ _ _]) ti26 rfl rfl rfl rfl rfl (.inl rfl) (Nat.le_of_ble_eq_true rfl) rfl rfl ?_
      refine TL.nil ?_
      refine TQ.sq ?_
      refine TC.seq ?_
      refine TC.quiet rfl ?_
      refine qv (yAsgn (v := .int .i64 _) rfl) rfl rfl ?_
      refine QL.nil ?_
      refine TQ.sq ?_
      refine TC.block ?_
      have hS40 : SL J (cutA a3 1 2 c3) (ys.drop 1) := ⟨RA.lo (enc := encS) (k := 2) (fun _ => rfl) hS3.r (by omega) hc3, fun z hz => hS3.e z (List.mem_of_mem_drop hz), by rw [List.length_drop]; omega⟩
      refine TC.loopL (ι := (Nat) × (Im) × (Option Addr) × (Nat) × (List Hd)) [6, 40, 41, 42, 43, 44, 45, 46, 47, 48, 49, 50, 51, 52, 53, 54, 55, 56, 57, 58, 59, 60, 61, 62, 63, 64, 65] (fun ⟨j, J2, a5, c5, dd2⟩ => [(6, .int .i64 (j : Int))]) (fun ⟨j, J2, a5, c5, dd2⟩ w => (j ≤ x.hs.length ∧ Le J J2 ∧ SL J2 (cutA a3 1 2 c3) (ys.drop 1) ∧ RA J2 encH 2 a5 dd2 ∧ dd2.length ≤ c5 ∧ dd2 = (x.hs.take j).foldl (dieR ((ys.drop 1).map absS)) dd) ∧ St c J2 ((p, (bkO 29 (cutA a3 1 2 c3) (ys.drop 1).length (c3 - 1) a5 dd2.length c5)) :: l) w) (fun ⟨j, J2, a5, c5, dd2⟩ => x.hs.length - j) (0, J, a4, c4, dd) ⟨rfl, trivial⟩ (fun w hw => ⟨⟨by omega, Le.refl J, hS40, hr, hrc, rfl⟩, hw⟩) ?_
      rintro g1 ⟨j, J2, a5, c5, dd2⟩
      dsimp only
      refine TC.pure fun ⟨hj, hJ2, hS4, hr2, hrc2, hj2⟩ => ?_
      refine TC.seq ?_
      refine TC.seq ?_
      refine TC.quiet rfl ?_
      refine qv (yMove (v := .int .i64 _) rfl) rfl rfl ?_
      refine qv (yMove (v := .slice _ _ _) rfl) rfl rfl ?_
      refine qv (ySlLen ul27 rfl) rfl rfl ?_
      refine qcLt rfl rfl rfl rfl (fun h43 => ?_) (fun h43 => ?_)
      ·
        obtain ⟨u, hu⟩ := getSome (xs := x.hs) (k := j) (by omega)
        have hl2 := foldDieR_len ((ys.drop 1).map absS) (x.hs.take j) dd
        rw [← hj2] at hl2
        have hl3 : (x.hs.take j).length ≤ j := by rw [List.length_take]; omega
        refine QL.nil ?_
        refine TQ.sq ?_
        refine TC.condT rfl ?_
        refine TC.skip (TQ.sq ?_)
        refine TC.seq ?_
        refine TC.block ?_
        refine TC.seq ?_
        refine TC.region ?_
        refine sv (yMove (v := .pointer _) rfl) rfl rfl ?_
        refine sv (yMove (v := .slice _ _ _) rfl) rfl rfl ?_
        refine sv (yMove (v := .int .i64 _) rfl) rfl rfl ?_
        refine sElF (v := .int .i64 _) ul27 ti49 fld49_0 ti3 (by decide) rfl (RA.sa (hxe.1.le hJ2)) rfl (by omega) (by omega) (flat_cell (enc := encH) (k := 2) (fun _ => rfl) (by simpa using hu) (by decide) rfl) rfl rfl rfl (fun _ _ => ?_)
        refine sCall (Has_ok _ p (cutA a3 1 2 c3) (c3 - 1) (ys.drop 1) a5 c5 dd2 u.1 hS4) rfl rfl (fun v52 w hw => ?_)
        obtain ⟨rfl, hw⟩ := hw
        refine TL.wl ?_ hw
        cases hany : anyN (ys.drop 1) u.1
        ·
          refine sv (yNotT rfl) rfl rfl ?_
          refine TL.nil ?_
          refine TQ.sq ?_
          refine TC.condT rfl ?_
          refine TC.heldS 10 (.q 0 (.q 1 (.q 2 (.q 3 (.q 4 (.q 5 (.q 6 (.q 7 (.q 8 (.x 9 (.x 10 (.x 11 (.x 12 .done))))))))))))) (fun _ _ h => h.drawn _) mixed rfl (by kernel_rfl) (by kernel_rfl) ?_
          refine Go.E.hq rfl (yMove (v := .pointer _) rfl) rfl rfl (by first | exact Wk.w | exact fun w hw => (hw.le (by assumption)).dr) ?_
          refine Go.E.hq rfl (yMove (v := .pointer _) rfl) rfl rfl (by first | exact Wk.w | exact fun w hw => (hw.le (by assumption)).dr) ?_
          refine Go.E.hq rfl (yNil rfl) rfl rfl (by first | exact Wk.w | exact fun w hw => (hw.le (by assumption)).dr) ?_
          refine Go.E.hq rfl (yFA fld29_1 ti27 (by decide) rfl) rfl rfl (by first | exact Wk.w | exact fun w hw => (hw.le (by assumption)).dr) ?_
          refine Go.E.hq rfl (yLd1 ti27 rfl (by first | exact RdC.rd | exact rdI (by assumption)) rfl) rfl rfl (by first | exact Wk.w | exact fun w hw => (hw.le (by assumption)).dr) ?_
          refine Go.E.hq rfl (yMove (v := .slice _ _ _) rfl) rfl rfl (by first | exact Wk.w | exact fun w hw => (hw.le (by assumption)).dr) ?_
          refine Go.E.hq rfl (yMove (v := .int .i64 _) rfl) rfl rfl (by first | exact Wk.w | exact fun w hw => (hw.le (by assumption)).dr) ?_
          refine hElA (ho1 := rfl) (ho2 := rfl) (v := .agg ⟨[.int .i64 _, .int .i64 _]⟩) ul27 ti49 rfl (RA.sa (hxe.1.le hJ2)) rfl (by omega) (by simpa using hu) (fun _ => rfl) (fun h => nomatch h) rfl rfl (fun _ => rfl) rfl rfl (by first | exact Wk.w | exact fun w hw => (hw.le (by assumption)).dr) (fun _ => ?_)
          refine Go.E.hx rfl ?_
          refine sCall (put_ok _ a5 c5 dd2 u hr2 hrc2 (by omega)) rfl rfl (fun v63 w hw => ?_)
          obtain ⟨J3, a6, c6, hJ3, rfl, hr3, hrc3, hw⟩ := hw
          refine TL.wl ?_ hw
          refine Go.E.hn (fun _ => by exact (by first | exact Wk.w | exact fun w hw => (hw.le (by assumption)).dr)) ?_
          refine Go.E.hx rfl ?_
          refine sv (yNil rfl) rfl rfl ?_
          refine Go.E.hn (fun h => nomatch h) ?_
          refine Go.E.hx rfl ?_
          refine sv (yFA fld29_1 ti27 (by decide) rfl) rfl rfl ?_
          refine Go.E.hn (fun h => nomatch h) ?_
          refine Go.E.hx rfl ?_
          refine sStoreF (vs := [.slice _ _ _]) (cs' := [.slice _ _ _, .slice _ _ _]) ti27 rfl rfl rfl rfl rfl (.inl rfl) (Nat.le_of_ble_eq_true rfl) rfl rfl ?_
          refine Go.E.hn (fun h => nomatch h) ?_
          refine TQ.blk (TQ.sq ?_)
          refine TC.quiet rfl ?_
          refine qv (yMove (v := .int .i64 _) rfl) rfl rfl ?_
          refine qv (yAdd rfl rfl (by omega)) rfl rfl ?_
          refine qv (yAsgn (v := .int .i64 _) rfl) rfl rfl ?_
          refine QL.nil ?_
          refine TQ.lpL (j + 1, J3, a6, c6, putH u dd2) (by first | omega | (dsimp only; omega)) (by repeat (first | exact OffL.refl | refine OffL.updO rfl ?_ | refine OffL.upd rfl ?_ | refine OffL.updL rfl ?_ | refine OffL.mask rfl ?_)) ⟨rfl, trivial⟩ (fun w hw => ⟨⟨by omega, hJ2.trans hJ3, hS4.le hJ3, hr3, hrc3, by dsimp only; rw [foldl_take _ hu, ← hj2, dieR_n hany]⟩, hw.dr⟩)
        ·
          refine sv (yNotF rfl) rfl rfl ?_
          refine TL.nil ?_
          refine TQ.sq ?_
          refine TC.condF rfl ?_
          refine TC.skip (TQ.blk (TQ.sq ?_))
          refine TC.quiet rfl ?_
          refine qv (yMove (v := .int .i64 _) rfl) rfl rfl ?_
          refine qv (yAdd rfl rfl (by omega)) rfl rfl ?_
          refine qv (yAsgn (v := .int .i64 _) rfl) rfl rfl ?_
          refine QL.nil ?_
          refine TQ.lpL (j + 1, J2, a5, c5, dd2) (by first | omega | (dsimp only; omega)) (by repeat (first | exact OffL.refl | refine OffL.updO rfl ?_ | refine OffL.upd rfl ?_ | refine OffL.updL rfl ?_ | refine OffL.mask rfl ?_)) ⟨rfl, trivial⟩ (fun w hw => ⟨⟨by omega, hJ2, hS4, hr2, hrc2, by dsimp only; rw [foldl_take _ hu, ← hj2, dieR_y hany]⟩, hw.dr⟩)
      ·
        refine QL.nil ?_
        refine TQ.sq ?_
        refine TC.condF rfl ?_
        refine TC.exit (TQ.sqX (TQ.lpLX (TQ.blkX (TQ.blk ?_))))
        refine TQ.lpL (J2, (cutA a3 1 2 c3), (c3 - 1), (ys.drop 1), a5, c5, dd2) (by dsimp only; rw [List.length_drop]; omega) (by repeat (first | exact OffL.refl | refine OffL.updO rfl ?_ | refine OffL.upd rfl ?_ | refine OffL.updL rfl ?_ | refine OffL.mask rfl ?_)) trivial (fun w hw => ⟨⟨hJ.trans hJ2, hS4, by dsimp only; rw [List.length_drop]; omega, hr2, hrc2, by dsimp only; rw [hj2, show x.hs.take j = x.hs from List.take_of_length_le (by omega)]; have := foldDieR_len ((ys.drop 1).map absS) x.hs dd; omega, by dsimp only; rw [hj2, show x.hs.take j = x.hs from List.take_of_length_le (by omega), ← prR_go hx0 hx1 h23]; exact hP⟩, hw.dr⟩)
    ·
      have hpr : prR (xs.map absS) seen dead = (ys.map absS, dd) := hP.symm.trans (prR_at hx0 hx1 (by omega))
      refine qv (yPickT rfl rfl) rfl rfl ?_
      refine QL.nil ?_
      refine TQ.sq ?_
      refine TC.condF rfl ?_
      refine TC.exit (TQ.sqX (TQ.lpLX (TQ.blkX (TQ.sq ?_))))
      refine TC.seq ?_
      refine TC.quiet rfl ?_
      refine qv (yAsgn (v := .slice _ _ _) rfl) rfl rfl ?_
      refine QL.nil ?_
      refine TQ.sq ?_
      refine TC.seq ?_
      refine TC.block ?_
      refine TC.loopL (ι := (Nat) × (Ow) × (Option Addr) × (Nat) × (Option Addr) × (Nat)) [7, 66, 67, 68, 69, 70, 71, 72, 73, 74, 75, 76, 77, 78, 79, 80, 81, 82, 83, 84, 85, 86, 87, 88, 89, 90, 91, 92, 93, 94] (fun ⟨k, m7, a7, c7, a8, c8⟩ => [(7, .slice a7 ((dd.map (·.1)).take k).length c7)]) (fun ⟨k, m7, a7, c7, a8, c8⟩ w => (k ≤ 64 ∧ k ≤ dd.length ∧ OA 3 encI 1 m7 a7 c7 ((dd.map (·.1)).take k) ∧ RA J encH 2 a8 (dd.drop k) ∧ (dd.drop k).length ≤ c8) ∧ St c J (m7 ++ (p, (bkO 29 a3 ys.length c3 a8 (dd.drop k).length c8)) :: l) w) (fun ⟨k, m7, a7, c7, a8, c8⟩ => dd.length - k) (0, [], none, 0, a4, c4) ⟨rfl, trivial⟩ (fun w hw => ⟨⟨by omega, by omega, OA.nil, hr, hrc⟩, hw⟩) ?_
      rintro g2 ⟨k, m7, a7, c7, a8, c8⟩
      dsimp only
      refine TC.pure fun ⟨hk64, hk, ho7, hr8, hc8⟩ => ?_
      refine TC.seq ?_
      refine TC.seq ?_
      refine TC.quiet rfl ?_
      refine qv (yMove (v := .pointer _) rfl) rfl rfl ?_
      refine qv (yNil rfl) rfl rfl ?_
      refine qv (yFA fld29_1 ti27 (by decide) rfl) rfl rfl ?_
      refine qv (yLd1 ti27 rfl (by first | exact RdC.rd | exact rdI (by assumption)) rfl) rfl rfl ?_
      refine qv (ySlLen ul27 rfl) rfl rfl ?_
      have hdk : (dd.drop k).length = dd.length - k := List.length_drop
      have htk : ((dd.map (·.1)).take k).length = k := by simp; omega
      refine qcGt rfl rfl rfl rfl (fun h71 => ?_) (fun h71 => ?_)
      ·
        obtain ⟨u, hu⟩ := getSome (xs := dd) (k := k) (by omega)
        have hu0 : (dd.drop k)[0]? = some u := by rw [List.getElem?_drop]; exact hu
        refine qv (yMove (v := .bool _) rfl) rfl rfl ?_
        refine qv (yMove (v := .slice _ _ _) rfl) (.inl ⟨_, _, rfl, rfl, rfl⟩) rfl ?_
        refine qv (ySlLen ul50 rfl) (.inl ⟨_, _, rfl, rfl, rfl⟩) rfl ?_
        refine qcLt rfl rfl (.inl ⟨_, _, rfl, rfl, rfl⟩) rfl (fun h75 => ?_) (fun h75 => ?_)
        ·
          refine qv (yPickT rfl rfl) rfl rfl ?_
          refine QL.nil ?_
          refine TQ.sq ?_
          refine TC.condT rfl ?_
          refine TC.skip (TQ.sq ?_)
          refine TC.block ?_
          refine TC.seq ?_
          refine TC.region ?_
          refine sv (yMove (v := .slice _ _ _) rfl) rfl rfl ?_
          refine sv (yMove (v := .pointer _) rfl) rfl rfl ?_
          refine sv (yNil rfl) rfl rfl ?_
          refine sv (yFA fld29_1 ti27 (by decide) rfl) rfl rfl ?_
          refine sv (yLd1 ti27 rfl (by first | exact RdC.rd | exact rdI (by assumption)) rfl) rfl rfl ?_
          refine sElF (v := .int .i64 _) ul27 ti49 fld49_0 ti3 (by decide) rfl (RA.sa hr8) rfl (by omega) (by omega) (flat_cell (enc := encH) (k := 2) (fun _ => rfl) (by simpa using hu0) (by decide) rfl) rfl rfl rfl (fun _ _ => ?_)
          refine sBuildSl (vs := [.int .i64 _]) ul50 ti3 rfl rfl rfl rfl (fun b85 => ?_)
          refine sAppA1F (enc := encI) (u.1) ul50 ul50 ti3 rfl rfl ho7 rfl rfl (fun _ => rfl) (by omega) (by omega) rfl (fun m8 a9 c9 ho8 => ?_)
          refine sv (yAsgn (v := .slice _ _ _) rfl) rfl rfl ?_
          refine TL.nil ?_
          refine TQ.sq ?_
          refine TC.region ?_
          refine sv (yMove (v := .pointer _) rfl) rfl rfl ?_
          refine sv (yMove (v := .pointer _) rfl) rfl rfl ?_
          refine sv (yNil rfl) rfl rfl ?_
          refine sv (yFA fld29_1 ti27 (by decide) rfl) rfl rfl ?_
          refine sv (yLd1 ti27 rfl (by first | exact RdC.rd | exact rdI (by assumption)) rfl) rfl rfl ?_
          refine sv (yCutLoA (i := 1) (dd.drop k) ul27 ti49 rfl rfl (by omega)) rfl rfl ?_
          refine sv (yNil rfl) rfl rfl ?_
          refine sv (yFA fld29_1 ti27 (by decide) rfl) rfl rfl ?_
          refine sStoreF (vs := [.slice _ _ _]) (cs' := [.slice _ _ _, .slice _ _ _]) ti27 rfl rfl rfl rfl rfl (.inl rfl) (Nat.le_of_ble_eq_true rfl) rfl rfl ?_
          refine TL.nil ?_
          refine TQ.blk ?_
          have e8 : (dd.drop k).drop 1 = dd.drop (k + 1) := by rw [List.drop_drop]
          have hr9 := RA.lo (enc := encH) (k := 2) (i := 1) (fun _ => rfl) hr8 (by omega) hc8
          rw [e8] at hr9 ⊢
          refine TQ.lpL (k + 1, m8, a9, c9, cutA a8 1 2 c8, c8 - 1) (by first | omega | (dsimp only; omega)) (by repeat (first | exact OffL.refl | refine OffL.updO rfl ?_ | refine OffL.upd rfl ?_ | refine OffL.updL rfl ?_ | refine OffL.mask rfl ?_)) ⟨(by rw [take_snoc (map_at Prod.fst hu)]; rfl), trivial⟩ (fun w hw => ⟨⟨by omega, by omega, by rw [take_snoc (map_at Prod.fst hu)]; exact ho8, hr9, by dsimp only; rw [List.length_drop]; omega⟩, hw.dr⟩)
        ·
          refine qv (yPickT rfl rfl) rfl rfl ?_
          refine QL.nil ?_
          refine TQ.sq ?_
          refine TC.condF rfl ?_
          refine TC.exit (TQ.sqX (TQ.lpLX (TQ.blkX (TQ.sq ?_))))
          refine TC.seq ?_
          refine TC.quiet rfl ?_
          refine qv (yMove (v := .slice _ _ _) rfl) rfl rfl ?_
          refine qv (yAsgn (v := .slice _ _ _) rfl) rfl rfl ?_
          refine QL.nil ?_
          refine TQ.sq ?_
          refine TC.ret ?_
          refine TQ.post (v := .slice _ _ _) rfl ?_
          have hT := take_last (xs := dd) hk64 (by omega)
          refine fun w hw => ⟨J, a3, c3, ys, a8, c8, m7, a7, c7, hJ, ?_, ?_, hS3, hc3, by rw [hpr], ?_, ?_, ?_⟩
          · rw [hpr, ← hT.1, List.map_take]
          · rw [hpr, ← hT.1, List.map_take]; exact ho7
          · rw [hpr, ← hT.2]; exact hr8
          · rw [hpr, ← hT.2]; exact hc8
          · rw [hpr, ← hT.2]; exact hw.dr
      ·
        refine qv (yMove (v := .bool _) rfl) rfl rfl ?_
        refine qk (.inl ⟨_, _, rfl, rfl, rfl⟩) rfl ?_
        refine qk (.inl ⟨_, _, rfl, rfl, rfl⟩) rfl ?_
        refine qk (.inl ⟨_, _, rfl, rfl, rfl⟩) rfl ?_
        refine qv (yPickF rfl rfl) rfl rfl ?_
        refine QL.nil ?_
        refine TQ.sq ?_
        refine TC.condF rfl ?_
        refine TC.exit (TQ.sqX (TQ.lpLX (TQ.blkX (TQ.sq ?_))))
        refine TC.seq ?_
        refine TC.quiet rfl ?_
        refine qv (yMove (v := .slice _ _ _) rfl) rfl rfl ?_
        refine qv (yAsgn (v := .slice _ _ _) rfl) rfl rfl ?_
        refine QL.nil ?_
        refine TQ.sq ?_
        refine TC.ret ?_
        refine TQ.post (v := .slice _ _ _) rfl ?_
        have hT := take_last (xs := dd) hk64 (by omega)
        refine fun w hw => ⟨J, a3, c3, ys, a8, c8, m7, a7, c7, hJ, ?_, ?_, hS3, hc3, by rw [hpr], ?_, ?_, ?_⟩
        · rw [hpr, ← hT.1, List.map_take]
        · rw [hpr, ← hT.1, List.map_take]; exact ho7
        · rw [hpr, ← hT.2]; exact hr8
        · rw [hpr, ← hT.2]; exact hc8
        · rw [hpr, ← hT.2]; exact hw.dr
  ·
    have hpr : prR (xs.map absS) seen dead = (ys.map absS, dd) := hP.symm.trans (prR_one (by omega))
    refine qv (yMove (v := .bool _) rfl) rfl rfl ?_
    refine qk (.inl ⟨_, _, rfl, rfl, rfl⟩) rfl ?_
    refine qk (.inl ⟨_, _, rfl, rfl, rfl⟩) rfl ?_
    refine qk (.inl ⟨_, _, rfl, rfl, rfl⟩) rfl ?_
    refine qk (.inl ⟨_, _, rfl, rfl, rfl⟩) rfl ?_
    refine qk (.inl ⟨_, _, rfl, rfl, rfl⟩) rfl ?_
    refine qk (.inl ⟨_, _, rfl, rfl, rfl⟩) rfl ?_
    refine qk (.inl ⟨_, _, rfl, rfl, rfl⟩) rfl ?_
    refine qk (.inl ⟨_, _, rfl, rfl, rfl⟩) rfl ?_
    refine qk (.inl ⟨_, _, rfl, rfl, rfl⟩) rfl ?_
    refine qv (yPickF rfl rfl) rfl rfl ?_
    refine QL.nil ?_
    refine TQ.sq ?_
    refine TC.condF rfl ?_
    refine TC.exit (TQ.sqX (TQ.lpLX (TQ.blkX (TQ.sq ?_))))
    refine TC.seq ?_
    refine TC.quiet rfl ?_
    refine qv (yAsgn (v := .slice _ _ _) rfl) rfl rfl ?_
    refine QL.nil ?_
    refine TQ.sq ?_
    refine TC.seq ?_
    refine TC.block ?_
    refine TC.loopL (ι := (Nat) × (Ow) × (Option Addr) × (Nat) × (Option Addr) × (Nat)) [7, 66, 67, 68, 69, 70, 71, 72, 73, 74, 75, 76, 77, 78, 79, 80, 81, 82, 83, 84, 85, 86, 87, 88, 89, 90, 91, 92, 93, 94] (fun ⟨k, m7, a7, c7, a8, c8⟩ => [(7, .slice a7 ((dd.map (·.1)).take k).length c7)]) (fun ⟨k, m7, a7, c7, a8, c8⟩ w => (k ≤ 64 ∧ k ≤ dd.length ∧ OA 3 encI 1 m7 a7 c7 ((dd.map (·.1)).take k) ∧ RA J encH 2 a8 (dd.drop k) ∧ (dd.drop k).length ≤ c8) ∧ St c J (m7 ++ (p, (bkO 29 a3 ys.length c3 a8 (dd.drop k).length c8)) :: l) w) (fun ⟨k, m7, a7, c7, a8, c8⟩ => dd.length - k) (0, [], none, 0, a4, c4) ⟨rfl, trivial⟩ (fun w hw => ⟨⟨by omega, by omega, OA.nil, hr, hrc⟩, hw⟩) ?_
    rintro g2 ⟨k, m7, a7, c7, a8, c8⟩
    dsimp only
    refine TC.pure fun ⟨hk64, hk, ho7, hr8, hc8⟩ => ?_
    refine TC.seq ?_
    refine TC.seq ?_
    refine TC.quiet rfl ?_
    refine qv (yMove (v := .pointer _) rfl) rfl rfl ?_
    refine qv (yNil rfl) rfl rfl ?_
    refine qv (yFA fld29_1 ti27 (by decide) rfl) rfl rfl ?_
    refine qv (yLd1 ti27 rfl (by first | exact RdC.rd | exact rdI (by assumption)) rfl) rfl rfl ?_
    refine qv (ySlLen ul27 rfl) rfl rfl ?_
    have hdk : (dd.drop k).length = dd.length - k := List.length_drop
    have htk : ((dd.map (·.1)).take k).length = k := by simp; omega
    refine qcGt rfl rfl rfl rfl (fun h71 => ?_) (fun h71 => ?_)
    ·
      obtain ⟨u, hu⟩ := getSome (xs := dd) (k := k) (by omega)
      have hu0 : (dd.drop k)[0]? = some u := by rw [List.getElem?_drop]; exact hu
      refine qv (yMove (v := .bool _) rfl) rfl rfl ?_
      refine qv (yMove (v := .slice _ _ _) rfl) (.inl ⟨_, _, rfl, rfl, rfl⟩) rfl ?_
      refine qv (ySlLen ul50 rfl) (.inl ⟨_, _, rfl, rfl, rfl⟩) rfl ?_
      refine qcLt rfl rfl (.inl ⟨_, _, rfl, rfl, rfl⟩) rfl (fun h75 => ?_) (fun h75 => ?_)
      ·
        refine qv (yPickT rfl rfl) rfl rfl ?_
        refine QL.nil ?_
        refine TQ.sq ?_
        refine TC.condT rfl ?_
        refine TC.skip (TQ.sq ?_)
        refine TC.block ?_
        refine TC.seq ?_
        refine TC.region ?_
        refine sv (yMove (v := .slice _ _ _) rfl) rfl rfl ?_
        refine sv (yMove (v := .pointer _) rfl) rfl rfl ?_
        refine sv (yNil rfl) rfl rfl ?_
        refine sv (yFA fld29_1 ti27 (by decide) rfl) rfl rfl ?_
        refine sv (yLd1 ti27 rfl (by first | exact RdC.rd | exact rdI (by assumption)) rfl) rfl rfl ?_
        refine sElF (v := .int .i64 _) ul27 ti49 fld49_0 ti3 (by decide) rfl (RA.sa hr8) rfl (by omega) (by omega) (flat_cell (enc := encH) (k := 2) (fun _ => rfl) (by simpa using hu0) (by decide) rfl) rfl rfl rfl (fun _ _ => ?_)
        refine sBuildSl (vs := [.int .i64 _]) ul50 ti3 rfl rfl rfl rfl (fun b85 => ?_)
        refine sAppA1F (enc := encI) (u.1) ul50 ul50 ti3 rfl rfl ho7 rfl rfl (fun _ => rfl) (by omega) (by omega) rfl (fun m8 a9 c9 ho8 => ?_)
        refine sv (yAsgn (v := .slice _ _ _) rfl) rfl rfl ?_
        refine TL.nil ?_
        refine TQ.sq ?_
        refine TC.region ?_
        refine sv (yMove (v := .pointer _) rfl) rfl rfl ?_
        refine sv (yMove (v := .pointer _) rfl) rfl rfl ?_
        refine sv (yNil rfl) rfl rfl ?_
        refine sv (yFA fld29_1 ti27 (by decide) rfl) rfl rfl ?_
        refine sv (yLd1 ti27 rfl (by first | exact RdC.rd | exact rdI (by assumption)) rfl) rfl rfl ?_
        refine sv (yCutLoA (i := 1) (dd.drop k) ul27 ti49 rfl rfl (by omega)) rfl rfl ?_
        refine sv (yNil rfl) rfl rfl ?_
        refine sv (yFA fld29_1 ti27 (by decide) rfl) rfl rfl ?_
        refine sStoreF (vs := [.slice _ _ _]) (cs' := [.slice _ _ _, .slice _ _ _]) ti27 rfl rfl rfl rfl rfl (.inl rfl) (Nat.le_of_ble_eq_true rfl) rfl rfl ?_
        refine TL.nil ?_
        refine TQ.blk ?_
        have e8 : (dd.drop k).drop 1 = dd.drop (k + 1) := by rw [List.drop_drop]
        have hr9 := RA.lo (enc := encH) (k := 2) (i := 1) (fun _ => rfl) hr8 (by omega) hc8
        rw [e8] at hr9 ⊢
        refine TQ.lpL (k + 1, m8, a9, c9, cutA a8 1 2 c8, c8 - 1) (by first | omega | (dsimp only; omega)) (by repeat (first | exact OffL.refl | refine OffL.updO rfl ?_ | refine OffL.upd rfl ?_ | refine OffL.updL rfl ?_ | refine OffL.mask rfl ?_)) ⟨(by rw [take_snoc (map_at Prod.fst hu)]; rfl), trivial⟩ (fun w hw => ⟨⟨by omega, by omega, by rw [take_snoc (map_at Prod.fst hu)]; exact ho8, hr9, by dsimp only; rw [List.length_drop]; omega⟩, hw.dr⟩)
      ·
        refine qv (yPickT rfl rfl) rfl rfl ?_
        refine QL.nil ?_
        refine TQ.sq ?_
        refine TC.condF rfl ?_
        refine TC.exit (TQ.sqX (TQ.lpLX (TQ.blkX (TQ.sq ?_))))
        refine TC.seq ?_
        refine TC.quiet rfl ?_
        refine qv (yMove (v := .slice _ _ _) rfl) rfl rfl ?_
        refine qv (yAsgn (v := .slice _ _ _) rfl) rfl rfl ?_
        refine QL.nil ?_
        refine TQ.sq ?_
        refine TC.ret ?_
        refine TQ.post (v := .slice _ _ _) rfl ?_
        have hT := take_last (xs := dd) hk64 (by omega)
        refine fun w hw => ⟨J, a3, c3, ys, a8, c8, m7, a7, c7, hJ, ?_, ?_, hS3, hc3, by rw [hpr], ?_, ?_, ?_⟩
        · rw [hpr, ← hT.1, List.map_take]
        · rw [hpr, ← hT.1, List.map_take]; exact ho7
        · rw [hpr, ← hT.2]; exact hr8
        · rw [hpr, ← hT.2]; exact hc8
        · rw [hpr, ← hT.2]; exact hw.dr
    ·
      refine qv (yMove (v := .bool _) rfl) rfl rfl ?_
      refine qk (.inl ⟨_, _, rfl, rfl, rfl⟩) rfl ?_
      refine qk (.inl ⟨_, _, rfl, rfl, rfl⟩) rfl ?_
      refine qk (.inl ⟨_, _, rfl, rfl, rfl⟩) rfl ?_
      refine qv (yPickF rfl rfl) rfl rfl ?_
      refine QL.nil ?_
      refine TQ.sq ?_
      refine TC.condF rfl ?_
      refine TC.exit (TQ.sqX (TQ.lpLX (TQ.blkX (TQ.sq ?_))))
      refine TC.seq ?_
      refine TC.quiet rfl ?_
      refine qv (yMove (v := .slice _ _ _) rfl) rfl rfl ?_
      refine qv (yAsgn (v := .slice _ _ _) rfl) rfl rfl ?_
      refine QL.nil ?_
      refine TQ.sq ?_
      refine TC.ret ?_
      refine TQ.post (v := .slice _ _ _) rfl ?_
      have hT := take_last (xs := dd) hk64 (by omega)
      refine fun w hw => ⟨J, a3, c3, ys, a8, c8, m7, a7, c7, hJ, ?_, ?_, hS3, hc3, by rw [hpr], ?_, ?_, ?_⟩
      · rw [hpr, ← hT.1, List.map_take]
      · rw [hpr, ← hT.1, List.map_take]; exact ho7
      · rw [hpr, ← hT.2]; exact hr8
      · rw [hpr, ← hT.2]; exact hc8
      · rw [hpr, ← hT.2]; exact hw.dr
end Go.Proofs.Ytfiambcocnceiaa
