import Derived.Test.YtfiambcocnceiaaPr8
import Derived.Test.YtfiambcocnceiaaPrQ
set_option linter.unusedVariables false
set_option maxRecDepth 100000
namespace Go.Proofs.Ytfiambcocnceiaa
open Go Go.E

def IsFk (S : List (Int × List Hd)) (seen : Int) (k f : Nat) : Prop := (f = 0 ∨ ∃ x, S[f]? = some x ∧ x.1 ≤ seen) ∧ ∀ j x, j < k → S[j]? = some x → x.1 ≤ seen → j ≤ f
theorem IsFk.le {S : List (Int × List Hd)} {seen : Int} {k f : Nat} (h : IsFk S seen k f) : f ≤ S.length := by
  rcases h.1 with h1 | ⟨x, h1, _⟩
  · omega
  · have := (List.getElem?_eq_some_iff.1 h1).1; omega
theorem IsFk.yes {S : List (Int × List Hd)} {seen : Int} {k f : Nat} {x : Int × List Hd} (h : IsFk S seen k f) (hx : S[k]? = some x) (hl : x.1 ≤ seen) : IsFk S seen (k + 1) k :=
  ⟨.inr ⟨x, hx, hl⟩, fun j y hj hy hyl => by omega⟩
theorem IsFk.no {S : List (Int × List Hd)} {seen : Int} {k f : Nat} {x : Int × List Hd} (h : IsFk S seen k f) (hx : S[k]? = some x) (hl : ¬ x.1 ≤ seen) : IsFk S seen (k + 1) f :=
  ⟨h.1, fun j y hj hy hyl => by
    by_cases e : j = k
    · subst e; rw [hx] at hy; cases hy; exact absurd hyl hl
    · exact h.2 j y (by omega) hy hyl⟩
theorem IsFk.all {S : List (Int × List Hd)} {seen : Int} {f : Nat} (h : IsFk S seen S.length f) : IsF S seen f :=
  ⟨h.1, fun j x hj hl => h.2 j x (List.getElem?_eq_some_iff.1 hj).1 hj hl⟩
theorem dieE_y {dm : List (Int × Int)} {dead : List Hd} {u : Hd} (h : gz dm u.1 = 0) : dieE (dm, dead) u = (szF dm u, dead ++ [u]) := by unfold dieE; rw [if_pos h]
theorem dieE_n {dm : List (Int × Int)} {dead : List Hd} {u : Hd} (h : gz dm u.1 ≠ 0) : dieE (dm, dead) u = (dm, dead) := by unfold dieE; rw [if_neg h]
theorem dieE_len (q : List (Int × Int) × List Hd) (u : Hd) : (dieE q u).2.length ≤ q.2.length + 1 := by unfold dieE; split <;> simp
theorem foldDie_len : ∀ (L : List Hd) (q : List (Int × Int) × List Hd), (L.foldl dieE q).2.length ≤ q.2.length + L.length
  | [], q => by simp
  | x :: r, q => by have h1 := foldDie_len r (dieE q x); have h2 := dieE_len q x; simp only [List.foldl_cons, List.length_cons]; omega
theorem foldDie_ok : ∀ (L : List Hd) (q : List (Int × Int) × List Hd), (∀ x, x ∈ L → okH x = true) → (∀ x, x ∈ q.2 → okH x = true) → ∀ x, x ∈ (L.foldl dieE q).2 → okH x = true
  | [], q, _, h => h
  | y :: r, q, ho, h => by
    rw [List.foldl_cons]
    refine foldDie_ok r _ (fun x hx => ho x (by simp [hx])) fun x hx => ?_
    unfold dieE at hx; split at hx
    · rcases List.mem_append.1 hx with hx | hx
      · exact h x hx
      · rw [List.mem_singleton.1 hx]; exact ho y (by simp)
    · exact h x hx
theorem flat_take {xs : List SX} {i : Nat} {x : SX} (h : xs[i]? = some x) : flatA ((xs.map absS).take (i + 1)) = flatA ((xs.map absS).take i) ++ x.hs := by
  rw [take_snoc (map_at absS h)]; unfold flatA; rw [List.flatMap_append]; simp [absS]
theorem flatS_B (xs : List SX) : flatA (xs.map absS) = flatS xs := flatS_A xs
theorem OKS_of {xs : List SX} {dead : List Hd} (h : BI (xs.map absS) dead) : OKS xs := fun x hx g hg => h.fok (List.mem_flatMap.2 ⟨absS x, List.mem_map_of_mem hx, hg⟩)
theorem min_take {α : Type} (ys : List α) : ys.take (min ys.length 64) = ys.take 64 ∧ ys.drop (min ys.length 64) = ys.drop 64 := by
  rcases Nat.le_total ys.length 64 with h | h
  · rw [Nat.min_eq_left h, List.take_length, List.drop_length, List.take_of_length_le h, List.drop_eq_nil_of_le h]; exact ⟨rfl, rfl⟩
  · rw [Nat.min_eq_right h]; exact ⟨rfl, rfl⟩

theorem yMinN {P : Program} {S : World → Prop} {e : Env} {d : Option Tmp} {ty : TypeId} {ps : String} {af : Array Edge} {g : Option (Nat × Bool)} {ts : Array TypeId} {x y : Operand} {k : IntKind} {a b : Nat} (hx : ev e x = .int k (a : Int)) (hy : ev e y = .int k (b : Int)) : Yv P S e ⟨d, .call ⟨.builtin .min, [x, y].toArray, ts⟩, ty, ps, af, g⟩ (.int k ((min a b : Nat) : Int)) := by
  have := yMin (P := P) (S := S) (d := d) (ty := ty) (ps := ps) (af := af) (g := g) (ts := ts) hx hy
  rw [show ((min a b : Nat) : Int) = min (a : Int) b from by omega]; exact this
theorem Die_ok {c : Cx} {I : Im} (l : Ow) (p bm bp mb : Nat) (a1 : Option Addr) (n1 c1 : Nat) (a2 : Option Addr) (c2 : Nat) (dead : List Hd) (m : Ow) (o : Obj) (dm : List (Int × Int)) (u : Hd) (hu : okH u = true) (ho : OA 49 encH 2 m a2 c2 dead) (hm : MI o dm) (hl : dead.length ≤ 1000000000) : Ct Try.prog 35 [.agg ⟨encH u⟩, .pointer (some ⟨bm, 0, none⟩), .pointer (some ⟨bp, 0, none⟩)] (St c I (m ++ (mb, o) :: (p, (bkO 46 a1 n1 c1 a2 dead.length c2)) :: (bm, .cells ⟨[.map (some mb)]⟩ 70 (0, 0)) :: (bp, .cells ⟨[.pointer (some ⟨p, 0, none⟩)]⟩ 23 (0, 0)) :: l)) fun v w => v = .tuple #[] ∧ ∃ m' o' a3 c3, OA 49 encH 2 m' a3 c3 (dieE (dm, dead) u).2 ∧ MI o' (dieE (dm, dead) u).1 ∧ St c I (m' ++ (mb, o') :: (p, (bkO 46 a1 n1 c1 a3 (dieE (dm, dead) u).2.length c3)) :: (bm, .cells ⟨[.map (some mb)]⟩ 70 (0, 0)) :: (bp, .cells ⟨[.pointer (some ⟨p, 0, none⟩)]⟩ 23 (0, 0)) :: l) w := by
  refine Ct.enter (n := 25) Try.func35 rfl rfl rfl rfl rfl rfl ?_
  refine TC.seq ?_
  refine TC.region ?_
  have hou := okH_i hu
  refine sBox (vs := [.int .i64 _, .int .i64 _]) rfl rfl rfl (fun b3 => ?_)
  refine TL.nil ?_
  refine TQ.sq ?_
  refine TC.seq ?_
  refine TC.quiet rfl ?_
  refine qv (yLd1 ti70 rfl (by first | exact RdC.rd | exact rdI (by assumption)) rfl) rfl rfl ?_
  refine qv (yFA fld49_0 ti3 (by decide) rfl) rfl rfl ?_
  refine qv (yLd1 ti3 rfl (by first | exact RdC.rd | exact rdI (by assumption)) rfl) rfl rfl ?_
  refine qv (yLook (ve := (fun z : Int => .int .i64 z)) u.1 ul70 ti3 ke3 rfl rfl hm RdM.rd lookI) rfl rfl ?_
  refine qcEq rfl rfl rfl rfl (fun h8 => ?_) (fun h8 => ?_)
  ·
    refine QL.nil ?_
    refine TQ.sq ?_
    refine TC.condT rfl ?_
    refine TC.seq ?_
    refine TC.region ?_
    refine sv (yLd1 ti70 rfl (by first | exact RdC.rd | exact rdI (by assumption)) rfl) rfl rfl ?_
    refine sv (yFA fld49_0 ti3 (by decide) rfl) rfl rfl ?_
    refine sv (yLd1 ti3 rfl (by first | exact RdC.rd | exact rdI (by assumption)) rfl) rfl rfl ?_
    refine sv (yFA fld49_1 ti3 (by decide) rfl) rfl rfl ?_
    refine sv (yLd1 ti3 rfl (by first | exact RdC.rd | exact rdI (by assumption)) rfl) rfl rfl ?_
    refine sv (yAdd rfl rfl (by omega)) rfl rfl ?_
    refine sMapUpdF (ve := (fun z : Int => .int .i64 z)) u.1 (u.2 + 1) ul70 ke3 rfl rfl rfl hm rfl (fun o2 hm2 => ?_)
    refine TL.nil ?_
    refine TQ.sq ?_
    refine TC.held (St c I ((mb, o2) :: (b3, .cells ⟨[.int .i64 u.1, .int .i64 u.2]⟩ 49 (0, 0)) :: (p, (bkO 46 a1 n1 c1 a2 dead.length c2)) :: (bm, .cells ⟨[.map (some mb)]⟩ 70 (0, 0)) :: (bp, .cells ⟨[.pointer (some ⟨p, 0, none⟩)]⟩ 23 (0, 0)) :: l)) 8 (.q 0 (.q 1 (.q 2 (.q 3 (.q 4 (.q 5 (.x 6 (.x 7 (.x 8 (.x 9 (.x 10 .done))))))))))) (fun _ _ h => h.drawn _) mixed rfl (by kernel_rfl) (by kernel_rfl) ?_
    refine Go.E.hq rfl (yLd1 ti23 rfl (by first | exact RdC.rd | exact rdI (by assumption)) rfl) rfl rfl (by first | exact Wk.w | exact fun w hw => (hw.le (by assumption)).dr) ?_
    refine Go.E.hq rfl (yLd1 ti23 rfl (by first | exact RdC.rd | exact rdI (by assumption)) rfl) rfl rfl (by first | exact Wk.w | exact fun w hw => (hw.le (by assumption)).dr) ?_
    refine Go.E.hq rfl (yNil rfl) rfl rfl (by first | exact Wk.w | exact fun w hw => (hw.le (by assumption)).dr) ?_
    refine Go.E.hq rfl (yFA fld46_1 ti27 (by decide) rfl) rfl rfl (by first | exact Wk.w | exact fun w hw => (hw.le (by assumption)).dr) ?_
    refine Go.E.hq rfl (yLd1 ti27 rfl (by first | exact RdC.rd | exact rdI (by assumption)) rfl) rfl rfl (by first | exact Wk.w | exact fun w hw => (hw.le (by assumption)).dr) ?_
    refine Go.E.hq rfl (yLdS (vs := [.int .i64 _, .int .i64 _]) ti49 rfl (by first | exact RdC.rd | exact rdI (by assumption)) rfl rfl) rfl rfl (by first | exact Wk.w | exact fun w hw => (hw.le (by assumption)).dr) ?_
    refine Go.E.hx rfl ?_
    refine sBuildSl (vs := [.int .i64 _, .int .i64 _]) ul27 ti49 rfl rfl rfl rfl (fun b21 => ?_)
    refine Go.E.hn (fun _ => by exact (by first | exact Wk.w | exact fun w hw => (hw.le (by assumption)).dr)) ?_
    refine Go.E.hx rfl ?_
    refine sAppA1F (enc := encH) (u) ul27 ul27 ti49 rfl rfl ho rfl rfl (fun _ => rfl) (by omega) (by omega) rfl (fun m4 a4 c4 o4 => ?_)
    refine Go.E.hn (fun _ => by exact (by first | exact Wk.w | exact fun w hw => (hw.le (by assumption)).dr)) ?_
    refine Go.E.hx rfl ?_
    refine sv (yNil rfl) rfl rfl ?_
    refine Go.E.hn (fun h => nomatch h) ?_
    refine Go.E.hx rfl ?_
    refine sv (yFA fld46_1 ti27 (by decide) rfl) rfl rfl ?_
    refine Go.E.hn (fun h => nomatch h) ?_
    refine Go.E.hx rfl ?_
    refine sStoreF (vs := [.slice _ _ _]) (cs' := [.slice _ _ _, .slice _ _ _]) ti27 rfl rfl rfl rfl rfl (.inl rfl) (Nat.le_of_ble_eq_true rfl) rfl rfl ?_
    refine Go.E.hn (fun h => nomatch h) ?_
    refine TQ.postN (v := .tuple ⟨[]⟩) rfl ?_
    have e := dieE_y (dm := dm) (dead := dead) (u := u) (by simpa [gz] using h8)
    exact fun w hw => ⟨rfl, m4, o2, a4, c4, by rw [e]; exact o4, by rw [e]; exact hm2, by rw [e]; exact hw.dr⟩
  ·
    refine QL.nil ?_
    refine TQ.sq ?_
    refine TC.condF rfl ?_
    refine TC.skip ?_
    refine TQ.postN (v := .tuple ⟨[]⟩) rfl ?_
    have e := dieE_n (dm := dm) (dead := dead) (u := u) (by simpa [gz] using h8)
    exact fun w hw => ⟨rfl, m, o, a2, c2, by rw [e]; exact ho, by rw [e]; exact hm, by rw [e]; exact hw.dr⟩
theorem LPrune_ok {c : Cx} {I : Im} (l : Ow) (p : Nat) (a1 : Option Addr) (c1 : Nat) (xs : List SX) (md : Ow) (a2 : Option Addr) (c2 : Nat) (dead : List Hd) (seen : Int) (hS : SL I a1 xs) (hc1 : xs.length ≤ c1) (hd : OA 49 encH 2 md a2 c2 dead) (hB : BI (xs.map absS) dead) : Ct Try.prog 14 [.pointer (some ⟨p, 0, none⟩), .int .i64 seen] (St c I (md ++ (p, (bkO 46 a1 xs.length c1 a2 dead.length c2)) :: l)) fun v w => ∃ J a3 c3 ys m4 a4 c4 mo ao co, Le I J ∧ v = .slice ao (((prR (xs.map absS) seen dead).2.take 64).map (·.1)).length co ∧ OA 3 encI 1 mo ao co (((prR (xs.map absS) seen dead).2.take 64).map (·.1)) ∧ SL J a3 ys ∧ ys.length ≤ c3 ∧ ys.map absS = (prR (xs.map absS) seen dead).1 ∧ OA 49 encH 2 m4 a4 c4 ((prR (xs.map absS) seen dead).2.drop 64) ∧ St c J (mo ++ (m4 ++ (p, bkO 46 a3 ys.length c3 a4 ((prR (xs.map absS) seen dead).2.drop 64).length c4) :: l)) w := by
  refine Ct.enter (n := 116) Try.func14 rfl rfl rfl rfl rfl rfl ?_
  refine TC.seq ?_
  refine TC.region ?_
  have hSn := hS.n
  have hdl := hB.lend
  have hok := OKS_of hB
  refine sBox (vs := [.pointer _]) rfl rfl rfl (fun b2 => ?_)
  refine sv (yAsgn (v := .slice _ _ _) rfl) rfl rfl ?_
  refine TL.nil ?_
  refine TQ.sq ?_
  refine TC.seq ?_
  refine TC.seq ?_
  refine TC.quiet rfl ?_
  refine qv (yLd1 ti23 rfl (by first | exact RdC.rd | exact rdI (by assumption)) rfl) rfl rfl ?_
  refine qv (yPNil ul23 rfl rfl) rfl rfl ?_
  refine QL.nil ?_
  refine TQ.sq ?_
  refine TC.condF rfl ?_
  refine TC.skip (TQ.sq ?_)
  refine TC.seq ?_
  refine TC.quiet rfl ?_
  refine qv (yAsgn (v := .int .i64 _) rfl) rfl rfl ?_
  refine QL.nil ?_
  refine TQ.sq ?_
  refine TC.seq ?_
  refine TC.seq ?_
  refine TC.quiet rfl ?_
  refine qv (yLd1 ti23 rfl (by first | exact RdC.rd | exact rdI (by assumption)) rfl) rfl rfl ?_
  refine qv (yNil rfl) rfl rfl ?_
  refine qv (yFA fld46_0 ti44 (by decide) rfl) rfl rfl ?_
  refine qv (yLd1 ti44 rfl (by first | exact RdC.rd | exact rdI (by assumption)) rfl) rfl rfl ?_
  refine qv (ySlLen ul44 rfl) rfl rfl ?_
  refine qv (yMove (v := .int .i64 _) rfl) rfl rfl ?_
  refine QL.nil ?_
  refine TQ.sq ?_
  refine TC.block ?_
  refine TC.loopL (ι := (Nat) × (Nat)) [5, 6, 7, 26, 27, 28, 29, 30, 31, 32, 33, 34, 35, 36] (fun ⟨k, f⟩ => [(26, .int .i64 (k : Int)), (5, .int .i64 (f : Int))]) (fun ⟨k, f⟩ w => (k ≤ xs.length ∧ IsFk (xs.map absS) seen k f) ∧ St c I ((b2, .cells ⟨[.pointer (some ⟨p, 0, none⟩)]⟩ 23 (0, 0)) :: (md ++ (p, (bkO 46 a1 xs.length c1 a2 dead.length c2)) :: l)) w) (fun ⟨k, f⟩ => xs.length - k) (0, 0) ⟨rfl, rfl, trivial⟩ (fun w hw => ⟨⟨by omega, .inl rfl, fun j x hj => absurd hj (by omega)⟩, hw⟩) ?_
  rintro g0 ⟨k, f⟩
  dsimp only
  refine TC.pure fun ⟨hk, hf⟩ => ?_
  refine TC.seq ?_
  refine TC.quiet rfl ?_
  refine qcLt rfl rfl rfl rfl (fun h27 => ?_) (fun h27 => ?_)
  ·
    obtain ⟨x, hxk⟩ := getSome (xs := xs) (k := k) (by omega)
    refine QL.nil ?_
    refine TQ.sq ?_
    refine TC.seq ?_
    refine TC.condT rfl ?_
    refine TC.skip (TQ.sq ?_)
    refine TC.seq ?_
    refine TC.block ?_
    refine TC.seq ?_
    refine TC.region ?_
    refine sv (yMove (v := .int .i64 _) rfl) rfl rfl ?_
    refine sElA (v := .agg ⟨[.int .i64 _, .slice _ _ _]⟩) ul44 ti59 rfl (RA.sa hS.r) rfl (by omega) (by simpa using hxk) (fun _ => rfl) (fun h => nomatch h) rfl rfl rfl (fun _ => ?_)
    refine sAlloc ti59 rfl rfl (fun b7 => ?_)
    refine sv (yAsgn (v := .int .i64 _) rfl) rfl rfl ?_
    refine sStoreF (vs := [.int .i64 _, .slice _ _ _]) (cs' := [.int .i64 _, .slice _ _ _]) ti59 rfl rfl rfl rfl rfl (.inl rfl) (Nat.le_of_ble_eq_true rfl) rfl rfl ?_
    refine TL.nil ?_
    refine TQ.sq ?_
    refine TC.seq ?_
    refine TC.quiet rfl ?_
    refine qv (yFA fld59_0 ti3 (by decide) rfl) rfl rfl ?_
    refine qv (yLd1 ti3 rfl (by first | exact RdC.rd | exact rdI (by assumption)) rfl) rfl rfl ?_
    refine qv (yMove (v := .int .i64 _) rfl) rfl rfl ?_
    refine qcLe rfl rfl rfl rfl (fun h34 => ?_) (fun h34 => ?_)
    ·
      refine QL.nil ?_
      refine TQ.sq ?_
      refine TC.condT rfl ?_
      refine TC.quiet rfl ?_
      refine qv (yMove (v := .int .i64 _) rfl) rfl rfl ?_
      refine qv (yAsgn (v := .int .i64 _) rfl) rfl rfl ?_
      refine QL.nil ?_
      refine TQ.blk (TQ.sq ?_)
      refine TC.quiet rfl ?_
      refine qv (yAdd rfl rfl (by omega)) rfl rfl ?_
      refine qv (yMove (v := .int .i64 _) rfl) rfl rfl ?_
      refine QL.nil ?_
      refine TQ.lpL (k + 1, k) (by first | omega | (dsimp only; omega)) (by repeat (first | exact OffL.refl | refine OffL.updO rfl ?_ | refine OffL.upd rfl ?_ | refine OffL.updL rfl ?_ | refine OffL.mask rfl ?_)) ⟨rfl, rfl, trivial⟩ (fun w hw => ⟨⟨by omega, hf.yes (map_at absS hxk) h34⟩, hw.dr⟩)
    ·
      refine QL.nil ?_
      refine TQ.sq ?_
      refine TC.condF rfl ?_
      refine TC.skip (TQ.blk (TQ.sq ?_))
      refine TC.quiet rfl ?_
      refine qv (yAdd rfl rfl (by omega)) rfl rfl ?_
      refine qv (yMove (v := .int .i64 _) rfl) rfl rfl ?_
      refine QL.nil ?_
      refine TQ.lpL (k + 1, f) (by first | omega | (dsimp only; omega)) (by repeat (first | exact OffL.refl | refine OffL.updO rfl ?_ | refine OffL.upd rfl ?_ | refine OffL.updL rfl ?_ | refine OffL.mask rfl ?_)) ⟨rfl, rfl, trivial⟩ (fun w hw => ⟨⟨by omega, hf.no (map_at absS hxk) (by show ¬ x.n ≤ seen; omega)⟩, hw.dr⟩)
  ·
    obtain rfl : k = xs.length := by omega
    have hfl : f ≤ xs.length := by have := hf.le; simpa using this
    have hF : IsF (xs.map absS) seen f := IsFk.all (by simpa using hf)
    refine QL.nil ?_
    refine TQ.sq ?_
    refine TC.seq ?_
    refine TC.condF rfl ?_
    refine TC.exit (TQ.sqX (TQ.lpLX (TQ.blkX (TQ.sq ?_))))
    refine TC.seq ?_
    refine TC.quiet rfl ?_
    refine qv (yLd1 ti23 rfl (by first | exact RdC.rd | exact rdI (by assumption)) rfl) rfl rfl ?_
    refine qv (yNil rfl) rfl rfl ?_
    refine qv (yFA fld46_0 ti44 (by decide) rfl) rfl rfl ?_
    refine qv (yLd1 ti44 rfl (by first | exact RdC.rd | exact rdI (by assumption)) rfl) rfl rfl ?_
    refine qv (yMove (v := .int .i64 _) rfl) rfl rfl ?_
    refine qv (yMove (v := .int .i64 _) rfl) rfl rfl ?_
    refine qv (yCutHiMA xs ul44 ti59 rfl rfl rfl (by omega) (by omega) (by omega)) rfl rfl ?_
    refine qv (yAsgn (v := .slice _ _ _) rfl) rfl rfl ?_
    refine QL.nil ?_
    refine TQ.sq ?_
    refine TC.seq ?_
    refine TC.held (St c I ((b2, .cells ⟨[.pointer (some ⟨p, 0, none⟩)]⟩ 23 (0, 0)) :: (md ++ (p, (bkO 46 a1 xs.length c1 a2 dead.length c2)) :: l))) 9 (.q 0 (.q 2 (.q 3 (.q 4 (.q 5 (.q 6 (.q 7 (.x 1 (.x 8 (.x 9 (.x 10 (.x 11 .done)))))))))))) (fun _ _ h => h.drawn _) mixed rfl (by kernel_rfl) (by kernel_rfl) ?_
    refine Go.E.hq rfl (yLd1 ti23 rfl (by first | exact RdC.rd | exact rdI (by assumption)) rfl) rfl rfl (by first | exact Wk.w | exact fun w hw => (hw.le (by assumption)).dr) ?_
    refine Go.E.hq rfl (yLd1 ti23 rfl (by first | exact RdC.rd | exact rdI (by assumption)) rfl) rfl rfl (by first | exact Wk.w | exact fun w hw => (hw.le (by assumption)).dr) ?_
    refine Go.E.hq rfl (yNil rfl) rfl rfl (by first | exact Wk.w | exact fun w hw => (hw.le (by assumption)).dr) ?_
    refine Go.E.hq rfl (yFA fld46_0 ti44 (by decide) rfl) rfl rfl (by first | exact Wk.w | exact fun w hw => (hw.le (by assumption)).dr) ?_
    refine Go.E.hq rfl (yLd1 ti44 rfl (by first | exact RdC.rd | exact rdI (by assumption)) rfl) rfl rfl (by first | exact Wk.w | exact fun w hw => (hw.le (by assumption)).dr) ?_
    refine Go.E.hq rfl (yMove (v := .int .i64 _) rfl) rfl rfl (by first | exact Wk.w | exact fun w hw => (hw.le (by assumption)).dr) ?_
    refine Go.E.hq rfl (yCutLoA xs ul44 ti59 rfl rfl (by omega)) rfl rfl (by first | exact Wk.w | exact fun w hw => (hw.le (by assumption)).dr) ?_
    refine Go.E.hx rfl ?_
    refine sBuildSl (vs := []) ul44 ti59 rfl rfl rfl rfl (fun b45 => ?_)
    refine Go.E.hn (fun _ => by exact (by first | exact Wk.w | exact fun w hw => (hw.le (by assumption)).dr)) ?_
    refine Go.E.hx rfl ?_
    refine sAppAF (ys := xs.drop f) (xs := ([] : List SX)) (enc := encS) ul44 ul44 ti59 rfl rfl (OA.made (cs := []) rfl (fun _ => rfl) (by decide)) (RA.sa (RA.lo (enc := encS) (k := 2) (fun _ => rfl) hS.r hfl hc1)) (fun _ => rfl) (by simp; omega) (by simp; omega) rfl (fun mS aS cS oS => ?_)
    refine Go.E.hn (fun _ => by exact (by first | exact Wk.w | exact fun w hw => (hw.le (by assumption)).dr)) ?_
    refine Go.E.hx rfl ?_
    refine sv (yNil rfl) rfl rfl ?_
    refine Go.E.hn (fun h => nomatch h) ?_
    refine Go.E.hx rfl ?_
    refine sv (yFA fld46_0 ti44 (by decide) rfl) rfl rfl ?_
    refine Go.E.hn (fun h => nomatch h) ?_
    refine Go.E.hx rfl ?_
    refine sStoreF (vs := [.slice _ _ _]) (cs' := [.slice _ _ _, .slice _ _ _]) ti44 rfl rfl rfl rfl rfl (.inl rfl) (Nat.le_of_ble_eq_true rfl) rfl rfl ?_
    refine Go.E.hn (fun h => nomatch h) ?_
    refine TQ.sq ?_
    refine TC.seq ?_
    refine TC.region ?_
    refine fun w hw => ?_
    simp only [List.nil_append] at hw oS
    have hw2 : St c I (mS ++ ((b2, .cells ⟨[.pointer (some ⟨p, 0, none⟩)]⟩ 23 (0, 0)) :: (md ++ (p, (bkO 46 aS (xs.drop f).length cS a2 dead.length c2)) :: l))) w := hw.dr
    obtain ⟨J, hJ, hrS, hw⟩ := oS.freeze hw2
    have hrS := hrS
    refine TL.wl ?_ hw
    have hdn : (xs.drop f).length ≤ 1000 := by rw [List.length_drop]; omega
    have hS2 : SL J aS (xs.drop f) := ⟨hrS, fun x hx => ⟨(hS.e x (List.mem_of_mem_drop hx)).1.le hJ, (hS.e x (List.mem_of_mem_drop hx)).2⟩, hdn⟩
    have hok2 : OKS (xs.drop f) := fun x hx => hok x (List.mem_of_mem_drop hx)
    refine sv (yLd1 ti23 rfl (by first | exact RdC.rd | exact rdI (by assumption)) rfl) rfl rfl ?_
    refine sCallG [[(p, (bkO 46 aS (xs.drop f).length cS a2 dead.length c2))]] (sizes_ok _ p aS cS (xs.drop f) a2 c2 dead hS2 hok2) rfl rfl (fun v56 w hw => ?_)
    obtain ⟨mb, o0, rfl, hm0, hw⟩ := hw
    try simp only [catL, List.append_eq, List.nil_append] at hw
    rw [List.map_drop] at hm0
    have hw3 : St c J ((mb, o0) :: (p, (bkO 46 aS (xs.drop f).length cS a2 dead.length c2)) :: (b2, .cells ⟨[.pointer (some ⟨p, 0, none⟩)]⟩ 23 (0, 0)) :: (md ++ l)) w := hw
    refine TL.wl ?_ hw3
    refine sAlloc ti70 rfl rfl (fun b9 => ?_)
    refine sStoreF (vs := [.map _]) (cs' := [.map _]) ti70 rfl rfl rfl rfl rfl (.inl rfl) (Nat.le_of_ble_eq_true rfl) rfl rfl ?_
    refine TL.nil ?_
    refine TQ.sq ?_
    refine TC.seq ?_
    refine TC.quiet rfl ?_
    refine qv yFunc rfl rfl ?_
    refine qv (yAsgn (v := .func _ _ _) rfl) rfl rfl ?_
    refine QL.nil ?_
    refine TQ.sq ?_
    refine TC.seq ?_
    refine TC.seq ?_
    refine TC.quiet rfl ?_
    refine qv (yMove (v := .slice _ _ _) rfl) rfl rfl ?_
    refine qv (ySlLen ul44 rfl) rfl rfl ?_
    refine qv (yMove (v := .int .i64 _) rfl) rfl rfl ?_
    refine QL.nil ?_
    refine TQ.sq ?_
    refine TC.block ?_
    have hrT : RA J encS 2 a1 (xs.take f) := RA.hi (enc := encS) (k := 2) (fun _ => rfl) (hS.r.le hJ) hfl
    have hTn : (xs.take f).length ≤ 1000 := by rw [List.length_take]; omega
    refine TC.loopL (ι := (Nat) × (Ow) × (Obj) × (Option Addr) × (Nat) × (List (Int × Int) × List Hd)) [12, 14, 60, 61, 62, 63, 64, 65, 66, 67, 68, 69, 70, 71, 72, 73, 74, 75] (fun ⟨i, m3, o3, a3, c3, q3⟩ => [(60, .int .i64 (i : Int))]) (fun ⟨i, m3, o3, a3, c3, q3⟩ w => (i ≤ (xs.take f).length ∧ OA 49 encH 2 m3 a3 c3 q3.2 ∧ MI o3 q3.1 ∧ q3 = (flatA (((xs.take f).map absS).take i)).foldl dieE (sizesP ((xs.map absS).drop f), dead)) ∧ St c J (m3 ++ (mb, o3) :: (p, (bkO 46 aS (xs.drop f).length cS a3 q3.2.length c3)) :: (b9, .cells ⟨[.map (some mb)]⟩ 70 (0, 0)) :: (b2, .cells ⟨[.pointer (some ⟨p, 0, none⟩)]⟩ 23 (0, 0)) :: l) w) (fun ⟨i, m3, o3, a3, c3, q3⟩ => (xs.take f).length - i) (0, md, o0, a2, c2, (sizesP ((xs.map absS).drop f), dead)) ⟨rfl, trivial⟩ (fun w hw => ⟨⟨by omega, hd, hm0, rfl⟩, hw.dr⟩) ?_
    rintro g1 ⟨i, m3, o3, a3, c3, q3⟩
    dsimp only
    refine TC.pure fun ⟨hi, ho, hm, hq⟩ => ?_
    refine TC.seq ?_
    refine TC.quiet rfl ?_
    refine qcLt rfl rfl rfl rfl (fun h61 => ?_) (fun h61 => ?_)
    ·
      obtain ⟨x, hxi⟩ := getSome (xs := xs.take f) (k := i) (by omega)
      have hxe := hS.e x (List.mem_of_mem_take (getMem hxi))
      have hxo := hok x (List.mem_of_mem_take (getMem hxi))
      have hfl1 := foldDie_len (flatA (((xs.take f).map absS).take i)) (sizesP ((xs.map absS).drop f), dead)
      rw [← hq] at hfl1
      have hfl2 := flatS_len (xs := (xs.take f).take i) (fun y hy => (hS.e y (List.mem_of_mem_take (List.mem_of_mem_take hy))).2.2)
      rw [← flatS_B, List.map_take] at hfl2
      have hfl3 : ((xs.take f).take i).length ≤ i := by rw [List.length_take]; omega
      refine QL.nil ?_
      refine TQ.sq ?_
      refine TC.seq ?_
      refine TC.condT rfl ?_
      refine TC.skip (TQ.sq ?_)
      refine TC.seq ?_
      refine TC.block ?_
      refine TC.seq ?_
      refine TC.region ?_
      refine sElA (v := .agg ⟨[.int .i64 _, .slice _ _ _]⟩) ul44 ti59 rfl (RA.sa hrT) rfl (by omega) (by simpa using hxi) (fun _ => rfl) (fun h => nomatch h) rfl rfl rfl (fun _ => ?_)
      refine sAlloc ti59 rfl rfl (fun b12 => ?_)
      refine sStoreF (vs := [.int .i64 _, .slice _ _ _]) (cs' := [.int .i64 _, .slice _ _ _]) ti59 rfl rfl rfl rfl rfl (.inl rfl) (Nat.le_of_ble_eq_true rfl) rfl rfl ?_
      refine TL.nil ?_
      refine TQ.sq ?_
      refine TC.seq ?_
      refine TC.quiet rfl ?_
      refine qv (yFA fld59_1 ti27 (by decide) rfl) rfl rfl ?_
      refine qv (yLd1 ti27 rfl (by first | exact RdC.rd | exact rdI (by assumption)) rfl) rfl rfl ?_
      refine qv (ySlLen ul27 rfl) rfl rfl ?_
      refine qv (yMove (v := .int .i64 _) rfl) rfl rfl ?_
      refine QL.nil ?_
      refine TQ.sq ?_
      refine TC.block ?_
      refine TC.loopL (ι := (Nat) × (Ow) × (Obj) × (Option Addr) × (Nat) × (List (Int × Int) × List Hd)) [14, 67, 68, 69, 70, 71, 72, 73, 74] (fun ⟨j, m4, o4, a4, c4, q4⟩ => [(67, .int .i64 (j : Int))]) (fun ⟨j, m4, o4, a4, c4, q4⟩ w => (j ≤ x.hs.length ∧ OA 49 encH 2 m4 a4 c4 q4.2 ∧ MI o4 q4.1 ∧ q4 = (x.hs.take j).foldl dieE q3) ∧ St c J (m4 ++ (mb, o4) :: (p, (bkO 46 aS (xs.drop f).length cS a4 q4.2.length c4)) :: (b9, .cells ⟨[.map (some mb)]⟩ 70 (0, 0)) :: (b2, .cells ⟨[.pointer (some ⟨p, 0, none⟩)]⟩ 23 (0, 0)) :: l) w) (fun ⟨j, m4, o4, a4, c4, q4⟩ => x.hs.length - j) (0, m3, o3, a3, c3, q3) ⟨rfl, trivial⟩ (fun w hw => ⟨⟨by omega, ho, hm, rfl⟩, hw.dr⟩) ?_
      rintro g2 ⟨j, m4, o4, a4, c4, q4⟩
      dsimp only
      refine TC.pure fun ⟨hj, ho4, hm4, hq4⟩ => ?_
      refine TC.seq ?_
      refine TC.quiet rfl ?_
      refine qcLt rfl rfl rfl rfl (fun h68 => ?_) (fun h68 => ?_)
      ·
        obtain ⟨u, hu⟩ := getSome (xs := x.hs) (k := j) (by omega)
        have hfl4 := foldDie_len (x.hs.take j) q3
        rw [← hq4] at hfl4
        have hfl5 : (x.hs.take j).length ≤ j := by rw [List.length_take]; omega
        simp only [] at hfl1
        refine QL.nil ?_
        refine TQ.sq ?_
        refine TC.seq ?_
        refine TC.condT rfl ?_
        refine TC.skip (TQ.sq ?_)
        refine TC.seq ?_
        refine TC.block ?_
        refine TC.seq ?_
        refine TC.region ?_
        refine sElA (v := .agg ⟨[.int .i64 _, .int .i64 _]⟩) ul27 ti49 rfl (RA.sa (hxe.1.le hJ)) rfl (by omega) (by simpa using hu) (fun _ => rfl) (fun h => nomatch h) rfl rfl rfl (fun _ => ?_)
        refine sAlloc ti49 rfl rfl (fun b14 => ?_)
        refine sStoreF (vs := [.int .i64 _, .int .i64 _]) (cs' := [.int .i64 _, .int .i64 _]) ti49 rfl rfl rfl rfl rfl (.inl rfl) (Nat.le_of_ble_eq_true rfl) rfl rfl ?_
        refine TL.nil ?_
        refine TQ.sq ?_
        refine TC.region ?_
        refine sv (yMove (v := .func _ _ _) rfl) rfl rfl ?_
        refine sv (yLdS (vs := [.int .i64 _, .int .i64 _]) ti49 rfl (by first | exact RdC.rd | exact rdI (by assumption)) rfl rfl) rfl rfl ?_
        refine sCallVG [m4, [(mb, o4)], [(p, (bkO 46 aS (xs.drop f).length cS a4 q4.2.length c4))], [(b9, .cells ⟨[.map (some mb)]⟩ 70 (0, 0))], [(b2, .cells ⟨[.pointer (some ⟨p, 0, none⟩)]⟩ 23 (0, 0))]] rfl (Die_ok _ p b9 b2 mb aS (xs.drop f).length cS a4 c4 q4.2 m4 o4 q4.1 u (hxo u (getMem hu)) ho4 hm4 (by omega)) rfl rfl (fun v73 w hw => ?_)
        obtain ⟨rfl, m5, o5, a5, c5, ho5, hm5, hw⟩ := hw
        try simp only [catL, List.append_eq, List.nil_append] at hw
        refine TL.wl ?_ hw
        refine TL.nil ?_
        refine TQ.blk (TQ.sq ?_)
        refine TC.quiet rfl ?_
        refine qv (yAdd rfl rfl (by omega)) rfl rfl ?_
        refine qv (yMove (v := .int .i64 _) rfl) rfl rfl ?_
        refine QL.nil ?_
        refine TQ.lpL (j + 1, m5, o5, a5, c5, dieE q4 u) (by first | omega | (dsimp only; omega)) (by repeat (first | exact OffL.refl | refine OffL.updO rfl ?_ | refine OffL.upd rfl ?_ | refine OffL.updL rfl ?_ | refine OffL.mask rfl ?_)) ⟨rfl, trivial⟩ (fun w hw => ⟨⟨by dsimp only; omega, ho5, hm5, by dsimp only; rw [foldl_take dieE hu, ← hq4]⟩, hw.dr⟩)
      ·
        refine QL.nil ?_
        refine TQ.sq ?_
        refine TC.seq ?_
        refine TC.condF rfl ?_
        refine TC.exit (TQ.sqX (TQ.lpLX (TQ.blkX (TQ.blk (TQ.sq ?_)))))
        refine TC.quiet rfl ?_
        refine qv (yAdd rfl rfl (by omega)) rfl rfl ?_
        refine qv (yMove (v := .int .i64 _) rfl) rfl rfl ?_
        refine QL.nil ?_
        refine TQ.lpL (i + 1, m4, o4, a4, c4, q4) (by first | omega | (dsimp only; omega)) (by repeat (first | exact OffL.refl | refine OffL.updO rfl ?_ | refine OffL.upd rfl ?_ | refine OffL.updL rfl ?_ | refine OffL.mask rfl ?_)) ⟨rfl, trivial⟩ (fun w hw => ⟨⟨by dsimp only; omega, ho4, hm4, by dsimp only; rw [flat_take hxi, List.foldl_append, ← hq, hq4]; obtain rfl : j = x.hs.length := by {omega}; rw [List.take_length]⟩, hw.dr⟩)
    ·
      obtain rfl : i = (xs.take f).length := by omega
      have hq2 : q3 = (flatA ((xs.map absS).take f)).foldl dieE (sizesP ((xs.map absS).drop f), dead) := by rw [hq, List.take_of_length_le (by simp), List.map_take]
      have hqo : ∀ u, u ∈ q3.2 → okH u = true := by rw [hq2]; exact foldDie_ok _ _ (fun u hu => hB.fok (flatA_take hu)) hB.dok
      have hfl1 := foldDie_len (flatA ((xs.map absS).take f)) (sizesP ((xs.map absS).drop f), dead)
      rw [← hq2] at hfl1
      have hfl2 := flatS_len (xs := xs.take f) (fun y hy => (hS.e y (List.mem_of_mem_take hy)).2.2)
      rw [← flatS_B, List.map_take] at hfl2
      simp only [] at hfl1
      refine QL.nil ?_
      refine TQ.sq ?_
      refine TC.seq ?_
      refine TC.condF rfl ?_
      refine TC.exit (TQ.sqX (TQ.lpLX (TQ.blkX (TQ.sq ?_))))
      refine TC.seq ?_
      refine TC.region ?_
      refine sv (yLd1 ti23 rfl (by first | exact RdC.rd | exact rdI (by assumption)) rfl) rfl rfl ?_
      refine sv (yNil rfl) rfl rfl ?_
      refine sv (yFA fld46_1 ti27 (by decide) rfl) rfl rfl ?_
      refine sv (yLd1 ti27 rfl (by first | exact RdC.rd | exact rdI (by assumption)) rfl) rfl rfl ?_
      refine sCall (Sort_ok _ m3 ho hqo (by omega)) rfl rfl (fun v80 w hw => ?_)
      obtain ⟨rfl, m6, ys, hp, hsl, hyl, oy, hw⟩ := hw
      rw [← hyl] at hw
      rw [hq2] at hp
      have hpr := prune_same hB hF hp hsl
      have hmt := min_take ys
      refine TL.wl ?_ hw
      refine TL.nil ?_
      refine TQ.sq ?_
      refine TC.seq ?_
      refine TC.quiet rfl ?_
      refine qv (yLd1 ti23 rfl (by first | exact RdC.rd | exact rdI (by assumption)) rfl) rfl rfl ?_
      refine qv (yNil rfl) rfl rfl ?_
      refine qv (yFA fld46_1 ti27 (by decide) rfl) rfl rfl ?_
      refine qv (yLd1 ti27 rfl (by first | exact RdC.rd | exact rdI (by assumption)) rfl) rfl rfl ?_
      refine qv (ySlLen ul27 rfl) rfl rfl ?_
      refine qv (yMinN rfl rfl ) rfl rfl ?_
      refine qv (yAsgn (v := .int .i64 _) rfl) rfl rfl ?_
      refine QL.nil ?_
      refine TQ.sq ?_
      refine TC.seq ?_
      refine TC.quiet rfl ?_
      refine qv (yAsgn (v := .slice _ _ _) rfl) rfl rfl ?_
      refine QL.nil ?_
      refine TQ.sq ?_
      refine TC.seq ?_
      refine TC.seq ?_
      refine TC.quiet rfl ?_
      refine qv (yLd1 ti23 rfl (by first | exact RdC.rd | exact rdI (by assumption)) rfl) rfl rfl ?_
      refine qv (yNil rfl) rfl rfl ?_
      refine qv (yFA fld46_1 ti27 (by decide) rfl) rfl rfl ?_
      refine qv (yLd1 ti27 rfl (by first | exact RdC.rd | exact rdI (by assumption)) rfl) rfl rfl ?_
      refine qv (yMove (v := .int .i64 _) rfl) rfl rfl ?_
      refine qv (yCutHiA ys ul27 ti49 rfl rfl (Nat.min_le_left _ _) oy.le) rfl rfl ?_
      refine qv (ySlLen ul27 rfl) rfl rfl ?_
      refine qv (yMove (v := .int .i64 _) rfl) rfl rfl ?_
      refine QL.nil ?_
      refine TQ.sq ?_
      refine TC.block ?_
      have hYn : (ys.take (min ys.length 64)).length ≤ 64 := by rw [List.length_take]; omega
      refine TC.loopL (ι := (Nat) × (Ow) × (Option Addr) × (Nat)) [16, 18, 94, 95, 96, 97, 98, 99, 100, 101, 102, 103] (fun ⟨k, m7, a7, c7⟩ => [(94, .int .i64 (k : Int)), (16, .slice a7 (((ys.take (min ys.length 64)).map (·.1)).take k).length c7)]) (fun ⟨k, m7, a7, c7⟩ w => (k ≤ (ys.take (min ys.length 64)).length ∧ OA 3 encI 1 m7 a7 c7 (((ys.take (min ys.length 64)).map (·.1)).take k)) ∧ St c J (m7 ++ (m6 ++ (mb, o3) :: (p, (bkO 46 aS (xs.drop f).length cS a3 ys.length c3)) :: (b9, .cells ⟨[.map (some mb)]⟩ 70 (0, 0)) :: (b2, .cells ⟨[.pointer (some ⟨p, 0, none⟩)]⟩ 23 (0, 0)) :: l)) w) (fun ⟨k, m7, a7, c7⟩ => (ys.take (min ys.length 64)).length - k) (0, [], none, 0) ⟨rfl, rfl, trivial⟩ (fun w hw => ⟨⟨by omega, OA.nil⟩, hw⟩) ?_
      rintro g3 ⟨k, m7, a7, c7⟩
      dsimp only
      refine TC.pure fun ⟨hk, ho7⟩ => ?_
      refine TC.seq ?_
      refine TC.quiet rfl ?_
      refine qcLt rfl rfl rfl rfl (fun h95 => ?_) (fun h95 => ?_)
      ·
        obtain ⟨u, hu⟩ := getSome (xs := ys.take (min ys.length 64)) (k := k) (by omega)
        have htl : (((ys.take (min ys.length 64)).map (·.1)).take k).length ≤ k := by simp; omega
        refine QL.nil ?_
        refine TQ.sq ?_
        refine TC.seq ?_
        refine TC.condT rfl ?_
        refine TC.skip (TQ.sq ?_)
        refine TC.seq ?_
        refine TC.block ?_
        refine TC.seq ?_
        refine TC.region ?_
        refine sElA (v := .agg ⟨[.int .i64 _, .int .i64 _]⟩) ul27 ti49 rfl (SA.hi (enc := encH) (k := 2) (fun _ => rfl) (OA.fm oy) (Nat.min_le_left _ _)) rfl (by omega) (by simpa using hu) (fun _ => rfl) (fun h => nomatch h) rfl rfl rfl (fun _ => ?_)
        refine sAlloc ti49 rfl rfl (fun b18 => ?_)
        refine sStoreF (vs := [.int .i64 _, .int .i64 _]) (cs' := [.int .i64 _, .int .i64 _]) ti49 rfl rfl rfl rfl rfl (.inl rfl) (Nat.le_of_ble_eq_true rfl) rfl rfl ?_
        refine TL.nil ?_
        refine TQ.sq ?_
        refine TC.region ?_
        refine sv (yMove (v := .slice _ _ _) rfl) rfl rfl ?_
        refine sv (yFA fld49_0 ti3 (by decide) rfl) rfl rfl ?_
        refine sv (yLd1 ti3 rfl (by first | exact RdC.rd | exact rdI (by assumption)) rfl) rfl rfl ?_
        refine sBuildSl (vs := [.int .i64 _]) ul50 ti3 rfl rfl rfl rfl (fun b101 => ?_)
        refine sAppA1F (enc := encI) (u.1) ul50 ul50 ti3 rfl rfl ho7 rfl rfl (fun _ => rfl) (by omega) (by omega) rfl (fun m8 a8 c8 ho8 => ?_)
        refine sv (yAsgn (v := .slice _ _ _) rfl) rfl rfl ?_
        refine TL.nil ?_
        refine TQ.blk (TQ.sq ?_)
        refine TC.quiet rfl ?_
        refine qv (yAdd rfl rfl (by omega)) rfl rfl ?_
        refine qv (yMove (v := .int .i64 _) rfl) rfl rfl ?_
        refine QL.nil ?_
        refine TQ.lpL (k + 1, m8, a8, c8) (by first | omega | (dsimp only; omega)) (by repeat (first | exact OffL.refl | refine OffL.updO rfl ?_ | refine OffL.upd rfl ?_ | refine OffL.updL rfl ?_ | refine OffL.mask rfl ?_)) ⟨rfl, (by rw [take_snoc (map_at Prod.fst hu)]; rfl), trivial⟩ (fun w hw => ⟨⟨by omega, by rw [take_snoc (map_at Prod.fst hu)]; exact ho8⟩, hw.dr⟩)
      ·
        obtain rfl : k = (ys.take (min ys.length 64)).length := by omega
        have e7 : ((ys.take (min ys.length 64)).map (·.1)).take (ys.take (min ys.length 64)).length = (ys.take 64).map (·.1) := by rw [List.take_of_length_le (by simp), hmt.1]
        refine QL.nil ?_
        refine TQ.sq ?_
        refine TC.seq ?_
        refine TC.condF rfl ?_
        refine TC.exit (TQ.sqX (TQ.lpLX (TQ.blkX (TQ.sq ?_))))
        refine TC.seq ?_
        refine TC.held (St c J (m7 ++ (m6 ++ (mb, o3) :: (p, (bkO 46 aS (xs.drop f).length cS a3 ys.length c3)) :: (b9, .cells ⟨[.map (some mb)]⟩ 70 (0, 0)) :: (b2, .cells ⟨[.pointer (some ⟨p, 0, none⟩)]⟩ 23 (0, 0)) :: l))) 9 (.q 0 (.q 2 (.q 3 (.q 4 (.q 5 (.q 6 (.q 7 (.x 1 (.x 8 (.x 9 (.x 10 (.x 11 .done)))))))))))) (fun _ _ h => h.drawn _) mixed rfl (by kernel_rfl) (by kernel_rfl) ?_
        refine Go.E.hq rfl (yLd1 ti23 rfl (by first | exact RdC.rd | exact rdI (by assumption)) rfl) rfl rfl (by first | exact Wk.w | exact fun w hw => (hw.le (by assumption)).dr) ?_
        refine Go.E.hq rfl (yLd1 ti23 rfl (by first | exact RdC.rd | exact rdI (by assumption)) rfl) rfl rfl (by first | exact Wk.w | exact fun w hw => (hw.le (by assumption)).dr) ?_
        refine Go.E.hq rfl (yNil rfl) rfl rfl (by first | exact Wk.w | exact fun w hw => (hw.le (by assumption)).dr) ?_
        refine Go.E.hq rfl (yFA fld46_1 ti27 (by decide) rfl) rfl rfl (by first | exact Wk.w | exact fun w hw => (hw.le (by assumption)).dr) ?_
        refine Go.E.hq rfl (yLd1 ti27 rfl (by first | exact RdC.rd | exact rdI (by assumption)) rfl) rfl rfl (by first | exact Wk.w | exact fun w hw => (hw.le (by assumption)).dr) ?_
        refine Go.E.hq rfl (yMove (v := .int .i64 _) rfl) rfl rfl (by first | exact Wk.w | exact fun w hw => (hw.le (by assumption)).dr) ?_
        refine Go.E.hq rfl (yCutLoA ys ul27 ti49 rfl rfl (Nat.min_le_left _ _)) rfl rfl (by first | exact Wk.w | exact fun w hw => (hw.le (by assumption)).dr) ?_
        refine Go.E.hx rfl ?_
        refine sBuildSl (vs := []) ul27 ti49 rfl rfl rfl rfl (fun b105 => ?_)
        refine Go.E.hn (fun _ => by exact (by first | exact Wk.w | exact fun w hw => (hw.le (by assumption)).dr)) ?_
        refine Go.E.hx rfl ?_
        refine sAppAF (ys := ys.drop (min ys.length 64)) (xs := ([] : List Hd)) (enc := encH) ul27 ul27 ti49 rfl rfl (OA.made (cs := []) rfl (fun _ => rfl) (by decide)) (SA.lo (enc := encH) (k := 2) (fun _ => rfl) (OA.fm oy) (Nat.min_le_left _ _) oy.le) (fun _ => rfl) (by simp; omega) (by simp; omega) rfl (fun m9 a9 c9 o9 => ?_)
        refine Go.E.hn (fun _ => by exact (by first | exact Wk.w | exact fun w hw => (hw.le (by assumption)).dr)) ?_
        refine Go.E.hx rfl ?_
        refine sv (yNil rfl) rfl rfl ?_
        refine Go.E.hn (fun h => nomatch h) ?_
        refine Go.E.hx rfl ?_
        refine sv (yFA fld46_1 ti27 (by decide) rfl) rfl rfl ?_
        refine Go.E.hn (fun h => nomatch h) ?_
        refine Go.E.hx rfl ?_
        refine sStoreF (vs := [.slice _ _ _]) (cs' := [.slice _ _ _, .slice _ _ _]) ti27 rfl rfl rfl rfl rfl (.inl rfl) (Nat.le_of_ble_eq_true rfl) rfl rfl ?_
        refine Go.E.hn (fun h => nomatch h) ?_
        refine TQ.sq ?_
        refine TC.seq ?_
        refine TC.quiet rfl ?_
        refine qv (yMove (v := .slice _ _ _) rfl) rfl rfl ?_
        refine qv (yAsgn (v := .slice _ _ _) rfl) rfl rfl ?_
        refine QL.nil ?_
        refine TQ.sq ?_
        refine TC.ret ?_
        refine TQ.post (v := .slice _ _ _) rfl ?_
        rw [e7] at ho7 ⊢
        have o9 : OA 49 encH 2 m9 a9 c9 (ys.drop 64) := by have h := o9; rw [List.nil_append, hmt.2] at h; exact h
        refine fun w hw => ⟨J, aS, cS, xs.drop f, m9, a9, c9, m7, a7, c7, hJ, by rw [hpr], by rw [hpr]; exact ho7, hS2, by have := oS.le; simpa using this, by rw [hpr, List.map_drop], by rw [hpr]; exact o9, ?_⟩
        rw [hpr]
        simp only [List.nil_append, hmt.2] at hw
        exact hw.dr
end Go.Proofs.Ytfiambcocnceiaa
