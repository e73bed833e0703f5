import Derived.Test.YtfiambcocnceiaaPr4
set_option linter.unusedVariables false
set_option maxRecDepth 100000
namespace Go.Proofs.Ytfiambcocnceiaa
open Go Go.E

abbrev kvI (z : Int) : Value := .int .i64 z
abbrev MI (o : Obj) (d : List (Int × Int)) : Prop := MD (fun z : Int => .int .i64 z) (fun z : Int => .int .i64 z) o d
def gz (d : List (Int × Int)) (k : Int) : Int := (dget d k).getD 0
abbrev szF (d : List (Int × Int)) (h : Hd) : List (Int × Int) := dput d h.1 (h.2 + 1)
def sizesP (xs : List (Int × List Hd)) : List (Int × Int) := (xs.flatMap (·.2)).foldl szF []
theorem sizesP_take {xs : List SX} {i : Nat} {x : SX} (h : xs[i]? = some x) : sizesP ((xs.map absS).take (i + 1)) = x.hs.foldl szF (sizesP ((xs.map absS).take i)) := by
  unfold sizesP
  rw [List.take_add_one, map_at absS h]; simp [absS]
abbrev dmF (d : List (Int × Int)) (h : Hd) : List (Int × Int) := dput d h.1 1
def deadM (dead : List Hd) : List (Int × Int) := dead.foldl dmF []
def fit1 (D M : List (Int × Int)) (h : Hd) : Bool := !((decide (0 < gz D h.1) && decide (gz D h.1 ≠ h.2 + 1)) || decide (0 < gz M h.1))
def fitsB (D M : List (Int × Int)) (hs : List Hd) : Bool := hs.all (fit1 D M)
theorem fitsB_at {D M : List (Int × Int)} {hs : List Hd} {k : Nat} {u : Hd} (h : hs[k]? = some u) : fitsB D M (hs.drop k) = (fit1 D M u && fitsB D M (hs.drop (k + 1))) := by rw [drop_at h]; rfl
theorem fit1_a {D M : List (Int × Int)} {u : Hd} (h : 0 < gz D u.1) (h2 : gz D u.1 ≠ u.2 + 1) : fit1 D M u = false := by unfold fit1; simp [h, h2]
theorem fit1_b {D M : List (Int × Int)} {u : Hd} (h : 0 < gz M u.1) : fit1 D M u = false := by unfold fit1; simp [h]
theorem fit1_c {D M : List (Int × Int)} {u : Hd} (h : ¬ 0 < gz D u.1 ∨ gz D u.1 = u.2 + 1) (h2 : ¬ 0 < gz M u.1) : fit1 D M u = true := by
  unfold fit1; rcases h with h | h <;> simp [h, h2]
def newN (D : List (Int × Int)) (hs : List Hd) : Nat := (hs.filter fun h => decide (gz D h.1 = 0)).length
theorem newN_take {D : List (Int × Int)} {hs : List Hd} {k : Nat} {u : Hd} (h : hs[k]? = some u) : newN D (hs.take (k + 1)) = newN D (hs.take k) + if gz D u.1 = 0 then 1 else 0 := by
  unfold newN
  rw [take_snoc h, List.filter_append, List.length_append]
  congr 1
  by_cases hg : gz D u.1 = 0 <;> simp [List.filter, hg]
theorem newN_le {D : List (Int × Int)} {hs : List Hd} : newN D hs ≤ hs.length := List.length_filter_le _ _
def manyP (S : List (Int × List Hd)) (dead hs : List Hd) : Nat := (sizesP S).length + dead.length + newN (sizesP S) hs
theorem dput_len {κ γ : Type} [DecidableEq κ] (d : List (κ × γ)) (a : κ) (v : γ) : (dput d a v).length ≤ d.length + 1 := by
  induction d with
  | nil => simp [dput]
  | cons p r ih => unfold dput; split <;> simp only [List.length_cons] <;> omega
theorem foldsz_len (hs : List Hd) : ∀ d, (hs.foldl szF d).length ≤ d.length + hs.length := by
  induction hs with
  | nil => intro d; simp
  | cons h r ih => intro d; have h1 := ih (szF d h); have h2 := dput_len d h.1 (h.2 + 1); simp only [List.foldl_cons, List.length_cons]; simp only [szF] at h1 ⊢; omega
theorem sizesP_len {S : List (Int × List Hd)} (h : ∀ x ∈ S, x.2.length ≤ 1000) : (sizesP S).length ≤ S.length * 1000 := by
  have h1 := foldsz_len (S.flatMap (·.2)) []
  have h2 : (S.flatMap (·.2)).length ≤ S.length * 1000 := by
    clear h1
    induction S with
    | nil => simp
    | cons x r ih =>
      have h3 := h x (by simp)
      have h4 := ih (fun y hy => h y (by simp [hy]))
      simp only [List.flatMap_cons, List.length_append, List.length_cons]; omega
  simp only [List.length_nil] at h1
  unfold sizesP; omega
def lastN (S : List (Int × List Hd)) : Int := ((S.getLast?).map (·.1)).getD 0
theorem lastN_at {xs : List SX} {x : SX} (h : xs[xs.length - 1]? = some x) : lastN (xs.map absS) = x.n := by
  unfold lastN
  rw [List.getLast?_map, List.getLast?_eq_getElem?, h]; rfl
def addE (S : List (Int × List Hd)) (dead : List Hd) (n : Int) (hs : List Hd) : Int :=
  if n < 1 ∨ 512 < n ∨ n ≤ lastN S then 2 else if plainB hs = false then 2 else if fitsB (sizesP S) (deadM dead) hs = false then 2 else if 256 < manyP S dead hs then 11 else 0
abbrev OKS (xs : List SX) : Prop := ∀ x ∈ xs, ∀ h ∈ x.hs, okH h = true
theorem okH_i {h : Hd} (e : okH h = true) : 0 ≤ h.1 ∧ h.1 ≤ 1099511627776 ∧ 0 ≤ h.2 ∧ h.2 ≤ 4096 := by unfold okH at e; simpa using e
theorem plainB_ok {hs : List Hd} (h : plainB hs = true) : ∀ x ∈ hs, okH x = true := by
  have key : ∀ (hs : List Hd) (p : Int), plainG p hs = true → ∀ x ∈ hs, okH x = true := by
    intro hs
    induction hs with
    | nil => intro p h x hx; cases hx
    | cons u r ih =>
      intro p h x hx
      unfold plainG at h
      simp only [Bool.and_eq_true] at h
      rcases List.mem_cons.1 hx with rfl | hx
      · exact h.2.1
      · exact ih _ h.2.2 x hx
  exact key hs (-1) h

theorem sizes_ok {c : Cx} {I : Im} (l : Ow) (p : Nat) (a1 : Option Addr) (c1 : Nat) (xs : List SX) (a2 : Option Addr) (c2 : Nat) (dead : List Hd) (hS : SL I a1 xs) (hok : OKS xs) : Ct Try.prog 34 [.pointer (some ⟨p, 0, none⟩)] (St c I ((p, (bkO 46 a1 xs.length c1 a2 dead.length c2)) :: l)) fun v w => ∃ b o, v = .map (some b) ∧ MI o (sizesP (xs.map absS)) ∧ St c I ((b, o) :: (p, (bkO 46 a1 xs.length c1 a2 dead.length c2)) :: l) w := by
  refine Ct.enter (n := 34) Try.func34 rfl rfl rfl rfl rfl rfl ?_
  refine TC.seq ?_
  refine TC.quiet rfl ?_
  refine qv (yAsgn (v := .map _) rfl) rfl rfl ?_
  refine QL.nil ?_
  refine TQ.sq ?_
  refine TC.seq ?_
  refine TC.region ?_
  have hSn := hS.n
  refine sMakeMap rfl (fun b8 => ?_)
  refine sv (yAsgn (v := .map _) rfl) rfl rfl ?_
  refine TL.nil ?_
  refine TQ.sq ?_
  refine TC.seq ?_
  refine TC.seq ?_
  refine TC.quiet rfl ?_
  refine qv (yMove (v := .pointer _) rfl) rfl rfl ?_
  refine qv (yNil rfl) rfl rfl ?_
  refine qv (yFA fld46_0 ti44 (by decide) rfl) rfl rfl ?_
  refine qv (yLd1 ti44 rfl (by first | exact RdC.rd | exact rdI (by assumption)) rfl) rfl rfl ?_
  refine qv (ySlLen ul44 rfl) rfl rfl ?_
  refine qv (yMove (v := .int .i64 _) rfl) rfl rfl ?_
  refine QL.nil ?_
  refine TQ.sq ?_
  refine TC.block ?_
  refine TC.loopL (ι := (Nat) × (Obj)) [5, 7, 14, 15, 16, 17, 18, 19, 20, 21, 22, 23, 24, 25, 26, 27, 28, 29, 30, 31, 32] (fun ⟨k, o⟩ => [(14, .int .i64 (k : Int))]) (fun ⟨k, o⟩ w => (k ≤ xs.length ∧ MI o (sizesP ((xs.map absS).take k))) ∧ St c I ((b8, o) :: (p, (bkO 46 a1 xs.length c1 a2 dead.length c2)) :: l) w) (fun ⟨k, o⟩ => xs.length - k) (0, _) ⟨rfl, trivial⟩ (fun w hw => ⟨⟨by omega, MD.nil⟩, hw⟩) ?_
  rintro g0 ⟨k, o⟩
  dsimp only
  refine TC.pure fun ⟨hk, hm⟩ => ?_
  refine TC.seq ?_
  refine TC.quiet rfl ?_
  refine qcLt rfl rfl rfl rfl (fun h15 => ?_) (fun h15 => ?_)
  ·
    obtain ⟨x, hxk⟩ := getSome (xs := xs) (k := k) (by omega)
    have hxe := hS.e x (getMem hxk)
    refine QL.nil ?_
    refine TQ.sq ?_
    refine TC.seq ?_
    refine TC.condT rfl ?_
    refine TC.skip (TQ.sq ?_)
    refine TC.seq ?_
    refine TC.block ?_
    refine TC.seq ?_
    refine TC.region ?_
    refine sElA (v := .agg ⟨[.int .i64 _, .slice _ _ _]⟩) ul44 ti59 rfl (RA.sa hS.r) rfl (by omega) (by simpa using hxk) (fun _ => rfl) (fun h => nomatch h) rfl rfl rfl (fun _ => ?_)
    refine sAlloc ti59 rfl rfl (fun b5 => ?_)
    refine sStoreF (vs := [.int .i64 _, .slice _ _ _]) (cs' := [.int .i64 _, .slice _ _ _]) ti59 rfl rfl rfl rfl rfl (.inl rfl) (Nat.le_of_ble_eq_true rfl) rfl rfl ?_
    refine TL.nil ?_
    refine TQ.sq ?_
    refine TC.seq ?_
    refine TC.quiet rfl ?_
    refine qv (yFA fld59_1 ti27 (by decide) rfl) rfl rfl ?_
    refine qv (yLd1 ti27 rfl (by first | exact RdC.rd | exact rdI (by assumption)) rfl) rfl rfl ?_
    refine qv (ySlLen ul27 rfl) rfl rfl ?_
    refine qv (yMove (v := .int .i64 _) rfl) rfl rfl ?_
    refine QL.nil ?_
    refine TQ.sq ?_
    refine TC.block ?_
    refine TC.loopL (ι := (Nat) × (Obj)) [7, 21, 22, 23, 24, 25, 26, 27, 28, 29, 30, 31] (fun ⟨j, o2⟩ => [(21, .int .i64 (j : Int))]) (fun ⟨j, o2⟩ w => (j ≤ x.hs.length ∧ MI o2 ((x.hs.take j).foldl szF (sizesP ((xs.map absS).take k)))) ∧ St c I ((b8, o2) :: (p, (bkO 46 a1 xs.length c1 a2 dead.length c2)) :: l) w) (fun ⟨j, o2⟩ => x.hs.length - j) (0, o) ⟨rfl, trivial⟩ (fun w hw => ⟨⟨by omega, hm⟩, hw.dr⟩) ?_
    rintro g1 ⟨j, o2⟩
    dsimp only
    refine TC.pure fun ⟨hj, hm2⟩ => ?_
    refine TC.seq ?_
    refine TC.quiet rfl ?_
    refine qcLt rfl rfl rfl rfl (fun h22 => ?_) (fun h22 => ?_)
    ·
      obtain ⟨u, hu⟩ := getSome (xs := x.hs) (k := j) (by omega)
      have hou := okH_i (hok x (getMem hxk) u (getMem hu))
      refine QL.nil ?_
      refine TQ.sq ?_
      refine TC.seq ?_
      refine TC.condT rfl ?_
      refine TC.skip (TQ.sq ?_)
      refine TC.seq ?_
      refine TC.block ?_
      refine TC.seq ?_
      refine TC.region ?_
      refine sElA (v := .agg ⟨[.int .i64 _, .int .i64 _]⟩) ul27 ti49 rfl (RA.sa hxe.1) rfl (by omega) (by simpa using hu) (fun _ => rfl) (fun h => nomatch h) rfl rfl rfl (fun _ => ?_)
      refine sAlloc ti49 rfl rfl (fun b7 => ?_)
      refine sStoreF (vs := [.int .i64 _, .int .i64 _]) (cs' := [.int .i64 _, .int .i64 _]) ti49 rfl rfl rfl rfl rfl (.inl rfl) (Nat.le_of_ble_eq_true rfl) rfl rfl ?_
      refine TL.nil ?_
      refine TQ.sq ?_
      refine TC.region ?_
      refine sv (yMove (v := .map _) rfl) rfl rfl ?_
      refine sv (yFA fld49_0 ti3 (by decide) rfl) rfl rfl ?_
      refine sv (yLd1 ti3 rfl (by first | exact RdC.rd | exact rdI (by assumption)) rfl) rfl rfl ?_
      refine sv (yFA fld49_1 ti3 (by decide) rfl) rfl rfl ?_
      refine sv (yLd1 ti3 rfl (by first | exact RdC.rd | exact rdI (by assumption)) rfl) rfl rfl ?_
      refine sv (yAdd rfl rfl (by omega)) rfl rfl ?_
      refine sMapUpdF (ve := (fun z : Int => .int .i64 z)) u.1 (u.2 + 1) ul70 ke3 rfl rfl rfl hm2 rfl (fun o3 hm3 => ?_)
      refine TL.nil ?_
      refine TQ.blk (TQ.sq ?_)
      refine TC.quiet rfl ?_
      refine qv (yAdd rfl rfl (by omega)) rfl rfl ?_
      refine qv (yMove (v := .int .i64 _) rfl) rfl rfl ?_
      refine QL.nil ?_
      refine TQ.lpL (j + 1, o3) (by first | omega | (dsimp only; omega)) (by repeat (first | exact OffL.refl | refine OffL.updO rfl ?_ | refine OffL.upd rfl ?_ | refine OffL.updL rfl ?_ | refine OffL.mask rfl ?_)) ⟨rfl, trivial⟩ (fun w hw => ⟨⟨by omega, by rw [foldl_take szF hu]; exact hm3⟩, hw.dr⟩)
    ·
      refine QL.nil ?_
      refine TQ.sq ?_
      refine TC.seq ?_
      refine TC.condF rfl ?_
      refine TC.exit (TQ.sqX (TQ.lpLX (TQ.blkX (TQ.blk (TQ.sq ?_)))))
      refine TC.quiet rfl ?_
      refine qv (yAdd rfl rfl (by omega)) rfl rfl ?_
      refine qv (yMove (v := .int .i64 _) rfl) rfl rfl ?_
      refine QL.nil ?_
      refine TQ.lpL (k + 1, o2) (by first | omega | (dsimp only; omega)) (by repeat (first | exact OffL.refl | refine OffL.updO rfl ?_ | refine OffL.upd rfl ?_ | refine OffL.updL rfl ?_ | refine OffL.mask rfl ?_)) ⟨rfl, trivial⟩ (fun w hw => ⟨⟨by omega, by rw [sizesP_take hxk]; obtain rfl : j = x.hs.length := by {omega}; rw [List.take_length] at hm2; exact hm2⟩, hw.dr⟩)
  ·
    refine QL.nil ?_
    refine TQ.sq ?_
    refine TC.seq ?_
    refine TC.condF rfl ?_
    refine TC.exit (TQ.sqX (TQ.lpLX (TQ.blkX (TQ.sq ?_))))
    refine TC.seq ?_
    refine TC.quiet rfl ?_
    refine qv (yMove (v := .map _) rfl) rfl rfl ?_
    refine qv (yAsgn (v := .map _) rfl) rfl rfl ?_
    refine QL.nil ?_
    refine TQ.sq ?_
    refine TC.ret ?_
    refine TQ.post (v := .map _) rfl ?_
    obtain rfl : k = xs.length := by omega
    rw [show (xs.map absS).take xs.length = xs.map absS from List.take_of_length_le (by simp)] at hm
    exact fun w hw => ⟨b8, o, rfl, hm, hw⟩
theorem fits_ok {c : Cx} {I : Im} (l : Ow) (p : Nat) (a1 : Option Addr) (c1 : Nat) (xs : List SX) (a2 : Option Addr) (c2 : Nat) (dead : List Hd) (a : Option Addr) (cap : Nat) (hs : List Hd) (hS : SL I a1 xs) (hok : OKS xs) (hd : SA (St c I l) encH 2 a2 dead) (hdl : dead.length ≤ 1000) (hh : SA (St c I l) encH 2 a hs) (hhl : hs.length ≤ 1000) (hoh : ∀ h ∈ hs, okH h = true) : Ct Try.prog 32 [.pointer (some ⟨p, 0, none⟩), .slice a hs.length cap] (St c I ((p, (bkO 46 a1 xs.length c1 a2 dead.length c2)) :: l)) fun v w => v = .bool (fitsB (sizesP (xs.map absS)) (deadM dead) hs) ∧ St c I ((p, (bkO 46 a1 xs.length c1 a2 dead.length c2)) :: l) w := by
  refine Ct.enter (n := 55) Try.func32 rfl rfl rfl rfl rfl rfl ?_
  refine TC.seq ?_
  refine TC.quiet rfl ?_
  refine qv (yAsgn (v := .bool _) rfl) rfl rfl ?_
  refine QL.nil ?_
  refine TQ.sq ?_
  refine TC.seq ?_
  refine TC.region ?_
  refine sv (yMove (v := .pointer _) rfl) rfl rfl ?_
  refine sCall (sizes_ok l p a1 c1 xs a2 c2 dead hS hok) rfl rfl (fun v13 w hw => ?_)
  obtain ⟨bS, oS, rfl, hmS, hw⟩ := hw
  refine TL.wl ?_ hw
  refine sv (yAsgn (v := .map _) rfl) rfl rfl ?_
  refine TL.nil ?_
  refine TQ.sq ?_
  refine TC.seq ?_
  refine TC.region ?_
  refine sMakeMap rfl (fun b14 => ?_)
  refine sv (yAsgn (v := .map _) rfl) rfl rfl ?_
  refine TL.nil ?_
  refine TQ.sq ?_
  refine TC.seq ?_
  refine TC.seq ?_
  refine TC.quiet rfl ?_
  refine qv (yMove (v := .pointer _) rfl) rfl rfl ?_
  refine qv (yNil rfl) rfl rfl ?_
  refine qv (yFA fld46_1 ti27 (by decide) rfl) rfl rfl ?_
  refine qv (yLd1 ti27 rfl (by first | exact RdC.rd | exact rdI (by assumption)) rfl) rfl rfl ?_
  refine qv (ySlLen ul27 rfl) rfl rfl ?_
  refine qv (yMove (v := .int .i64 _) rfl) rfl rfl ?_
  refine QL.nil ?_
  refine TQ.sq ?_
  refine TC.block ?_
  refine TC.loopL (ι := (Nat) × (Obj)) [8, 20, 21, 22, 23, 24, 25, 26, 27] (fun ⟨k, o⟩ => [(20, .int .i64 (k : Int))]) (fun ⟨k, o⟩ w => (k ≤ dead.length ∧ MI o ((dead.take k).foldl dmF [])) ∧ St c I ((b14, o) :: (bS, oS) :: (p, (bkO 46 a1 xs.length c1 a2 dead.length c2)) :: l) w) (fun ⟨k, o⟩ => dead.length - k) (0, _) ⟨rfl, trivial⟩ (fun w hw => ⟨⟨by omega, MD.nil⟩, hw⟩) ?_
  rintro g0 ⟨k, o⟩
  dsimp only
  refine TC.pure fun ⟨hk, hm⟩ => ?_
  refine TC.seq ?_
  refine TC.quiet rfl ?_
  refine qcLt rfl rfl rfl rfl (fun h21 => ?_) (fun h21 => ?_)
  ·
    obtain ⟨v, hv⟩ := getSome (xs := dead) (k := k) (by omega)
    refine QL.nil ?_
    refine TQ.sq ?_
    refine TC.seq ?_
    refine TC.condT rfl ?_
    refine TC.skip (TQ.sq ?_)
    refine TC.seq ?_
    refine TC.block ?_
    refine TC.seq ?_
    refine TC.region ?_
    refine sElA (v := .agg ⟨[.int .i64 _, .int .i64 _]⟩) ul27 ti49 rfl (hd.mono Wk.w) rfl (by omega) (by simpa using hv) (fun _ => rfl) (fun h => nomatch h) rfl rfl rfl (fun _ => ?_)
    refine sAlloc ti49 rfl rfl (fun b8 => ?_)
    refine sStoreF (vs := [.int .i64 _, .int .i64 _]) (cs' := [.int .i64 _, .int .i64 _]) ti49 rfl rfl rfl rfl rfl (.inl rfl) (Nat.le_of_ble_eq_true rfl) rfl rfl ?_
    refine TL.nil ?_
    refine TQ.sq ?_
    refine TC.region ?_
    refine sv (yMove (v := .map _) rfl) rfl rfl ?_
    refine sv (yFA fld49_0 ti3 (by decide) rfl) rfl rfl ?_
    refine sv (yLd1 ti3 rfl (by first | exact RdC.rd | exact rdI (by assumption)) rfl) rfl rfl ?_
    refine sMapUpdF (ve := (fun z : Int => .int .i64 z)) v.1 1 ul70 ke3 rfl rfl rfl hm rfl (fun o2 hm2 => ?_)
    refine TL.nil ?_
    refine TQ.blk (TQ.sq ?_)
    refine TC.quiet rfl ?_
    refine qv (yAdd rfl rfl (by omega)) rfl rfl ?_
    refine qv (yMove (v := .int .i64 _) rfl) rfl rfl ?_
    refine QL.nil ?_
    refine TQ.lpL (k + 1, o2) (by first | omega | (dsimp only; omega)) (by repeat (first | exact OffL.refl | refine OffL.updO rfl ?_ | refine OffL.upd rfl ?_ | refine OffL.updL rfl ?_ | refine OffL.mask rfl ?_)) ⟨rfl, trivial⟩ (fun w hw => ⟨⟨by omega, by rw [foldl_take dmF hv]; exact hm2⟩, hw.dr⟩)
  ·
    refine QL.nil ?_
    refine TQ.sq ?_
    refine TC.seq ?_
    refine TC.condF rfl ?_
    refine TC.exit (TQ.sqX (TQ.lpLX (TQ.blkX (TQ.sq ?_))))
    refine TC.seq ?_
    refine TC.seq ?_
    refine TC.quiet rfl ?_
    obtain rfl : k = dead.length := by omega
    rw [List.take_length] at hm
    refine qv (yMove (v := .slice _ _ _) rfl) rfl rfl ?_
    refine qv (ySlLen ul27 rfl) rfl rfl ?_
    refine qv (yMove (v := .int .i64 _) rfl) rfl rfl ?_
    refine QL.nil ?_
    refine TQ.sq ?_
    refine TC.block ?_
    refine TC.loopL (ι := (Nat)) [4, 10, 11, 30, 31, 32, 33, 34, 35, 36, 37, 38, 39, 40, 41, 42, 43, 44, 45, 46, 47, 48, 49, 50, 51, 52, 53, 54] (fun k => [(30, .int .i64 (k : Int))]) (fun k w => (k ≤ hs.length ∧ fitsB (sizesP (xs.map absS)) (deadM dead) (hs.drop k) = fitsB (sizesP (xs.map absS)) (deadM dead) hs) ∧ St c I ((b14, o) :: (bS, oS) :: (p, (bkO 46 a1 xs.length c1 a2 dead.length c2)) :: l) w) (fun k => hs.length - k) 0 ⟨rfl, trivial⟩ (fun w hw => ⟨⟨by omega, rfl⟩, hw⟩) ?_
    rintro g1 k
    dsimp only
    refine TC.pure fun ⟨hk, he⟩ => ?_
    refine TC.seq ?_
    refine TC.quiet rfl ?_
    refine qcLt rfl rfl rfl rfl (fun h31 => ?_) (fun h31 => ?_)
    ·
      obtain ⟨u, hu⟩ := getSome (xs := hs) (k := k) (by omega)
      have hou := okH_i (hoh u (getMem hu))
      refine QL.nil ?_
      refine TQ.sq ?_
      refine TC.seq ?_
      refine TC.condT rfl ?_
      refine TC.skip (TQ.sq ?_)
      refine TC.seq ?_
      refine TC.block ?_
      refine TC.seq ?_
      refine TC.region ?_
      refine sElA (v := .agg ⟨[.int .i64 _, .int .i64 _]⟩) ul27 ti49 rfl (hh.mono Wk.w) rfl (by omega) (by simpa using hu) (fun _ => rfl) (fun h => nomatch h) rfl rfl rfl (fun _ => ?_)
      refine sAlloc ti49 rfl rfl (fun b10 => ?_)
      refine sStoreF (vs := [.int .i64 _, .int .i64 _]) (cs' := [.int .i64 _, .int .i64 _]) ti49 rfl rfl rfl rfl rfl (.inl rfl) (Nat.le_of_ble_eq_true rfl) rfl rfl ?_
      refine TL.nil ?_
      refine TQ.sq ?_
      refine TC.seq ?_
      refine TC.quiet rfl ?_
      refine qv (yMove (v := .map _) rfl) rfl rfl ?_
      refine qv (yFA fld49_0 ti3 (by decide) rfl) rfl rfl ?_
      refine qv (yLd1 ti3 rfl (by first | exact RdC.rd | exact rdI (by assumption)) rfl) rfl rfl ?_
      refine qv (yLook (ve := (fun z : Int => .int .i64 z)) u.1 ul70 ti3 ke3 rfl rfl hmS RdM.rd lookI) rfl rfl ?_
      refine qv (yAsgn (v := .int .i64 _) rfl) rfl rfl ?_
      refine QL.nil ?_
      refine TQ.sq ?_
      refine TC.seq ?_
      refine TC.quiet rfl ?_
      refine qv (yMove (v := .int .i64 _) rfl) rfl rfl ?_
      refine qcGt rfl rfl rfl rfl (fun h39 => ?_) (fun h39 => ?_)
      ·
        refine qv (yMove (v := .bool _) rfl) rfl rfl ?_
        refine qv (yMove (v := .int .i64 _) rfl) (.inl ⟨_, _, rfl, rfl, rfl⟩) rfl ?_
        refine qv (yFA fld49_1 ti3 (by decide) rfl) (.inl ⟨_, _, rfl, rfl, rfl⟩) rfl ?_
        refine qv (yLd1 ti3 rfl (by first | exact RdC.rd | exact rdI (by assumption)) rfl) (.inl ⟨_, _, rfl, rfl, rfl⟩) rfl ?_
        refine qv (yAdd rfl rfl (by omega)) (.inl ⟨_, _, rfl, rfl, rfl⟩) rfl ?_
        refine qcNe rfl rfl (.inl ⟨_, _, rfl, rfl, rfl⟩) rfl (fun h45 => ?_) (fun h45 => ?_)
        ·
          refine qv (yPickT rfl rfl) rfl rfl ?_
          refine qv (yMove (v := .bool _) rfl) rfl rfl ?_
          refine qk (.inl ⟨_, _, rfl, rfl, rfl⟩) rfl ?_
          refine qk (.inl ⟨_, _, rfl, rfl, rfl⟩) rfl ?_
          refine qk (.inl ⟨_, _, rfl, rfl, rfl⟩) rfl ?_
          refine qk (.inl ⟨_, _, rfl, rfl, rfl⟩) rfl ?_
          refine qk (.inl ⟨_, _, rfl, rfl, rfl⟩) rfl ?_
          refine qv (yPickT rfl rfl) rfl rfl ?_
          refine QL.nil ?_
          refine TQ.sq ?_
          refine TC.condT rfl ?_
          refine TC.seq ?_
          refine TC.quiet rfl ?_
          refine qv (yAsgn (v := .bool _) rfl) rfl rfl ?_
          refine QL.nil ?_
          refine TQ.sq ?_
          refine TC.ret (TQ.blkR (TQ.sqR (TQ.lpLR (TQ.blkR (TQ.sqR ?_)))))
          refine TQ.post (v := .bool _) rfl ?_
          have e : fitsB (sizesP (xs.map absS)) (deadM dead) hs = false := by rw [← he, fitsB_at hu, fit1_a (by simpa [gz, deadM] using h39) (by simpa [gz, deadM] using h45)]; rfl
          exact fun w hw => ⟨by rw [e], hw.dr⟩
        ·
          refine qv (yPickT rfl rfl) rfl rfl ?_
          refine qv (yMove (v := .bool _) rfl) rfl rfl ?_
          refine qv (yMove (v := .map _) rfl) (.inl ⟨_, _, rfl, rfl, rfl⟩) rfl ?_
          refine qv (yFA fld49_0 ti3 (by decide) rfl) (.inl ⟨_, _, rfl, rfl, rfl⟩) rfl ?_
          refine qv (yLd1 ti3 rfl (by first | exact RdC.rd | exact rdI (by assumption)) rfl) (.inl ⟨_, _, rfl, rfl, rfl⟩) rfl ?_
          refine qv (yLook (ve := (fun z : Int => .int .i64 z)) u.1 ul70 ti3 ke3 rfl rfl hm RdM.rd lookI) (.inl ⟨_, _, rfl, rfl, rfl⟩) rfl ?_
          refine qcGt rfl rfl (.inl ⟨_, _, rfl, rfl, rfl⟩) rfl (fun h52 => ?_) (fun h52 => ?_)
          ·
            refine qv (yPickF rfl rfl) rfl rfl ?_
            refine QL.nil ?_
            refine TQ.sq ?_
            refine TC.condT rfl ?_
            refine TC.seq ?_
            refine TC.quiet rfl ?_
            refine qv (yAsgn (v := .bool _) rfl) rfl rfl ?_
            refine QL.nil ?_
            refine TQ.sq ?_
            refine TC.ret (TQ.blkR (TQ.sqR (TQ.lpLR (TQ.blkR (TQ.sqR ?_)))))
            refine TQ.post (v := .bool _) rfl ?_
            have e : fitsB (sizesP (xs.map absS)) (deadM dead) hs = false := by rw [← he, fitsB_at hu, fit1_b (by simpa [gz, deadM] using h52)]; rfl
            exact fun w hw => ⟨by rw [e], hw.dr⟩
          ·
            refine qv (yPickF rfl rfl) rfl rfl ?_
            refine QL.nil ?_
            refine TQ.sq ?_
            refine TC.condF rfl ?_
            refine TC.skip (TQ.blk (TQ.sq ?_))
            refine TC.quiet rfl ?_
            refine qv (yAdd rfl rfl (by omega)) rfl rfl ?_
            refine qv (yMove (v := .int .i64 _) rfl) rfl rfl ?_
            refine QL.nil ?_
            refine TQ.lpL (k + 1) (by first | omega | (dsimp only; omega)) (by repeat (first | exact OffL.refl | refine OffL.updO rfl ?_ | refine OffL.upd rfl ?_ | refine OffL.updL rfl ?_ | refine OffL.mask rfl ?_)) ⟨rfl, trivial⟩ (fun w hw => ⟨⟨by omega, (by rw [fitsB_at hu, fit1_c (.inr (by simpa [gz, deadM] using h45)) (by simpa [gz, deadM] using h52)] at he; exact he)⟩, hw.dr⟩)
      ·
        refine qv (yMove (v := .bool _) rfl) rfl rfl ?_
        refine qk (.inl ⟨_, _, rfl, rfl, rfl⟩) rfl ?_
        refine qk (.inl ⟨_, _, rfl, rfl, rfl⟩) rfl ?_
        refine qk (.inl ⟨_, _, rfl, rfl, rfl⟩) rfl ?_
        refine qk (.inl ⟨_, _, rfl, rfl, rfl⟩) rfl ?_
        refine qk (.inl ⟨_, _, rfl, rfl, rfl⟩) rfl ?_
        refine qv (yPickF rfl rfl) rfl rfl ?_
        refine qv (yMove (v := .bool _) rfl) rfl rfl ?_
        refine qv (yMove (v := .map _) rfl) (.inl ⟨_, _, rfl, rfl, rfl⟩) rfl ?_
        refine qv (yFA fld49_0 ti3 (by decide) rfl) (.inl ⟨_, _, rfl, rfl, rfl⟩) rfl ?_
        refine qv (yLd1 ti3 rfl (by first | exact RdC.rd | exact rdI (by assumption)) rfl) (.inl ⟨_, _, rfl, rfl, rfl⟩) rfl ?_
        refine qv (yLook (ve := (fun z : Int => .int .i64 z)) u.1 ul70 ti3 ke3 rfl rfl hm RdM.rd lookI) (.inl ⟨_, _, rfl, rfl, rfl⟩) rfl ?_
        refine qcGt rfl rfl (.inl ⟨_, _, rfl, rfl, rfl⟩) rfl (fun h52 => ?_) (fun h52 => ?_)
        ·
          refine qv (yPickF rfl rfl) rfl rfl ?_
          refine QL.nil ?_
          refine TQ.sq ?_
          refine TC.condT rfl ?_
          refine TC.seq ?_
          refine TC.quiet rfl ?_
          refine qv (yAsgn (v := .bool _) rfl) rfl rfl ?_
          refine QL.nil ?_
          refine TQ.sq ?_
          refine TC.ret (TQ.blkR (TQ.sqR (TQ.lpLR (TQ.blkR (TQ.sqR ?_)))))
          refine TQ.post (v := .bool _) rfl ?_
          have e : fitsB (sizesP (xs.map absS)) (deadM dead) hs = false := by rw [← he, fitsB_at hu, fit1_b (by simpa [gz, deadM] using h52)]; rfl
          exact fun w hw => ⟨by rw [e], hw.dr⟩
        ·
          refine qv (yPickF rfl rfl) rfl rfl ?_
          refine QL.nil ?_
          refine TQ.sq ?_
          refine TC.condF rfl ?_
          refine TC.skip (TQ.blk (TQ.sq ?_))
          refine TC.quiet rfl ?_
          refine qv (yAdd rfl rfl (by omega)) rfl rfl ?_
          refine qv (yMove (v := .int .i64 _) rfl) rfl rfl ?_
          refine QL.nil ?_
          refine TQ.lpL (k + 1) (by first | omega | (dsimp only; omega)) (by repeat (first | exact OffL.refl | refine OffL.updO rfl ?_ | refine OffL.upd rfl ?_ | refine OffL.updL rfl ?_ | refine OffL.mask rfl ?_)) ⟨rfl, trivial⟩ (fun w hw => ⟨⟨by omega, (by rw [fitsB_at hu, fit1_c (.inl (by simpa [gz, deadM] using h39)) (by simpa [gz, deadM] using h52)] at he; exact he)⟩, hw.dr⟩)
    ·
      refine QL.nil ?_
      refine TQ.sq ?_
      refine TC.seq ?_
      refine TC.condF rfl ?_
      refine TC.exit (TQ.sqX (TQ.lpLX (TQ.blkX (TQ.sq ?_))))
      refine TC.seq ?_
      refine TC.quiet rfl ?_
      refine qv (yAsgn (v := .bool _) rfl) rfl rfl ?_
      refine QL.nil ?_
      refine TQ.sq ?_
      refine TC.ret ?_
      refine TQ.post (v := .bool _) rfl ?_
      have e : fitsB (sizesP (xs.map absS)) (deadM dead) hs = true := by rw [← he, List.drop_eq_nil_of_le (by omega)]; rfl
      exact fun w hw => ⟨by rw [e], hw.dr⟩
theorem many_ok {c : Cx} {I : Im} (l : Ow) (p : Nat) (a1 : Option Addr) (c1 : Nat) (xs : List SX) (a2 : Option Addr) (c2 : Nat) (dead : List Hd) (a : Option Addr) (cap : Nat) (hs : List Hd) (hS : SL I a1 xs) (hok : OKS xs) (hdl : dead.length ≤ 1000) (hh : SA (St c I l) encH 2 a hs) (hhl : hs.length ≤ 1000) : Ct Try.prog 33 [.pointer (some ⟨p, 0, none⟩), .slice a hs.length cap] (St c I ((p, (bkO 46 a1 xs.length c1 a2 dead.length c2)) :: l)) fun v w => v = .int .i64 (manyP (xs.map absS) dead hs) ∧ St c I ((p, (bkO 46 a1 xs.length c1 a2 dead.length c2)) :: l) w := by
  refine Ct.enter (n := 34) Try.func33 rfl rfl rfl rfl rfl rfl ?_
  refine TC.seq ?_
  refine TC.quiet rfl ?_
  refine qv (yAsgn (v := .int .i64 _) rfl) rfl rfl ?_
  refine QL.nil ?_
  refine TQ.sq ?_
  refine TC.seq ?_
  refine TC.region ?_
  refine sv (yMove (v := .pointer _) rfl) rfl rfl ?_
  refine sCall (sizes_ok l p a1 c1 xs a2 c2 dead hS hok) rfl rfl (fun v10 w hw => ?_)
  obtain ⟨bS, oS, rfl, hmS, hw⟩ := hw
  refine TL.wl ?_ hw
  refine sv (yAsgn (v := .map _) rfl) rfl rfl ?_
  refine TL.nil ?_
  refine TQ.sq ?_
  refine TC.seq ?_
  refine TC.quietD (fun _ _ h => h.drawn _) mixed (by kernel_rfl) rfl ?_
  refine qv (yMove (v := .map _) rfl) rfl rfl ?_
  refine qv (yMapLen (kv := fun z : Int => .int .i64 z) ul70 rfl (by assumption) RdM.rd) rfl rfl ?_
  refine qv (yMove (v := .pointer _) rfl) rfl rfl ?_
  refine qv (yNil rfl) rfl rfl ?_
  refine qv (yFA fld46_1 ti27 (by decide) rfl) rfl rfl ?_
  refine qv (yLd1 ti27 rfl (by first | exact RdC.rd | exact rdI (by assumption)) rfl) rfl rfl ?_
  refine qv (ySlLen ul27 rfl) rfl rfl ?_
  have hsl := sizesP_len (S := xs.map absS) (fun x hx => by obtain ⟨y, hy, rfl⟩ := List.mem_map.1 hx; exact (hS.e y hy).2.2)
  have hSn := hS.n
  simp only [List.length_map] at hsl
  refine qv (yAdd rfl rfl (by omega)) rfl rfl ?_
  refine qv (yAsgn (v := .int .i64 _) rfl) rfl rfl ?_
  refine QL.nil ?_
  refine TQ.sq ?_
  refine TC.seq ?_
  refine TC.seq ?_
  refine TC.quiet rfl ?_
  refine qv (yMove (v := .slice _ _ _) rfl) rfl rfl ?_
  refine qv (ySlLen ul27 rfl) rfl rfl ?_
  refine qv (yMove (v := .int .i64 _) rfl) rfl rfl ?_
  refine QL.nil ?_
  refine TQ.sq ?_
  refine TC.block ?_
  refine TC.loopL (ι := (Nat) × (Nat)) [6, 8, 21, 22, 23, 24, 25, 26, 27, 28, 29, 30, 31, 32] (fun ⟨k, n⟩ => [(21, .int .i64 (k : Int)), (6, .int .i64 (n : Int))]) (fun ⟨k, n⟩ w => (k ≤ hs.length ∧ n = manyP (xs.map absS) dead (hs.take k)) ∧ St c I ((bS, oS) :: (p, (bkO 46 a1 xs.length c1 a2 dead.length c2)) :: l) w) (fun ⟨k, n⟩ => hs.length - k) (0, (sizesP (xs.map absS)).length + dead.length) ⟨rfl, rfl, trivial⟩ (fun w hw => ⟨⟨by omega, rfl⟩, hw⟩) ?_
  rintro g0 ⟨k, n⟩
  dsimp only
  refine TC.pure fun ⟨hk, he⟩ => ?_
  refine TC.seq ?_
  refine TC.quiet rfl ?_
  refine qcLt rfl rfl rfl rfl (fun h22 => ?_) (fun h22 => ?_)
  ·
    obtain ⟨u, hu⟩ := getSome (xs := hs) (k := k) (by omega)
    have hnl := newN_le (D := sizesP (xs.map absS)) (hs := hs.take k)
    have htl : (hs.take k).length ≤ k := by simp; omega
    refine QL.nil ?_
    refine TQ.sq ?_
    refine TC.seq ?_
    refine TC.condT rfl ?_
    refine TC.skip (TQ.sq ?_)
    refine TC.seq ?_
    refine TC.block ?_
    refine TC.seq ?_
    refine TC.region ?_
    refine sElA (v := .agg ⟨[.int .i64 _, .int .i64 _]⟩) ul27 ti49 rfl (hh.mono Wk.w) rfl (by omega) (by simpa using hu) (fun _ => rfl) (fun h => nomatch h) rfl rfl rfl (fun _ => ?_)
    refine sAlloc ti49 rfl rfl (fun b8 => ?_)
    refine sStoreF (vs := [.int .i64 _, .int .i64 _]) (cs' := [.int .i64 _, .int .i64 _]) ti49 rfl rfl rfl rfl rfl (.inl rfl) (Nat.le_of_ble_eq_true rfl) rfl rfl ?_
    refine TL.nil ?_
    refine TQ.sq ?_
    refine TC.seq ?_
    refine TC.quiet rfl ?_
    refine qv (yMove (v := .map _) rfl) rfl rfl ?_
    refine qv (yFA fld49_0 ti3 (by decide) rfl) rfl rfl ?_
    refine qv (yLd1 ti3 rfl (by first | exact RdC.rd | exact rdI (by assumption)) rfl) rfl rfl ?_
    refine qv (yLook (ve := (fun z : Int => .int .i64 z)) u.1 ul70 ti3 ke3 rfl rfl hmS RdM.rd lookI) rfl rfl ?_
    refine qcEq rfl rfl rfl rfl (fun h29 => ?_) (fun h29 => ?_)
    ·
      refine QL.nil ?_
      refine TQ.sq ?_
      refine TC.condT rfl ?_
      refine TC.quiet rfl ?_
      refine qv (yMove (v := .int .i64 _) rfl) rfl rfl ?_
      refine qv (yAdd rfl rfl (by unfold manyP at he; omega)) rfl rfl ?_
      refine qv (yAsgn (v := .int .i64 _) rfl) rfl rfl ?_
      refine QL.nil ?_
      refine TQ.blk (TQ.sq ?_)
      refine TC.quiet rfl ?_
      refine qv (yAdd rfl rfl (by omega)) rfl rfl ?_
      refine qv (yMove (v := .int .i64 _) rfl) rfl rfl ?_
      refine QL.nil ?_
      refine TQ.lpL (k + 1, n + 1) (by first | omega | (dsimp only; omega)) (by repeat (first | exact OffL.refl | refine OffL.updO rfl ?_ | refine OffL.upd rfl ?_ | refine OffL.updL rfl ?_ | refine OffL.mask rfl ?_)) ⟨rfl, rfl, trivial⟩ (fun w hw => ⟨⟨by omega, by unfold manyP at he ⊢; rw [newN_take hu, if_pos (by simpa [gz, deadM] using h29)]; omega⟩, hw.dr⟩)
    ·
      refine QL.nil ?_
      refine TQ.sq ?_
      refine TC.condF rfl ?_
      refine TC.skip (TQ.blk (TQ.sq ?_))
      refine TC.quiet rfl ?_
      refine qv (yAdd rfl rfl (by omega)) rfl rfl ?_
      refine qv (yMove (v := .int .i64 _) rfl) rfl rfl ?_
      refine QL.nil ?_
      refine TQ.lpL (k + 1, n) (by first | omega | (dsimp only; omega)) (by repeat (first | exact OffL.refl | refine OffL.updO rfl ?_ | refine OffL.upd rfl ?_ | refine OffL.updL rfl ?_ | refine OffL.mask rfl ?_)) ⟨rfl, rfl, trivial⟩ (fun w hw => ⟨⟨by omega, by unfold manyP at he ⊢; rw [newN_take hu, if_neg (by simpa [gz, deadM] using h29)]; omega⟩, hw.dr⟩)
  ·
    refine QL.nil ?_
    refine TQ.sq ?_
    refine TC.seq ?_
    refine TC.condF rfl ?_
    refine TC.exit (TQ.sqX (TQ.lpLX (TQ.blkX (TQ.sq ?_))))
    refine TC.seq ?_
    refine TC.quiet rfl ?_
    refine qv (yMove (v := .int .i64 _) rfl) rfl rfl ?_
    refine qv (yAsgn (v := .int .i64 _) rfl) rfl rfl ?_
    refine QL.nil ?_
    refine TQ.sq ?_
    refine TC.ret ?_
    refine TQ.post (v := .int .i64 _) rfl ?_
    obtain rfl : k = hs.length := by omega
    rw [List.take_length] at he
    subst he
    exact fun w hw => ⟨rfl, hw.dr⟩
end Go.Proofs.Ytfiambcocnceiaa
