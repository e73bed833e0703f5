import Derived.Test.YtfiambcocnceiaaPr7
import Derived.Test.YtfiambcocnceiaaE17
set_option linter.unusedVariables false
set_option maxRecDepth 100000
namespace Go.Proofs.Ytfiambcocnceiaa
open Go Go.E Go.Proofs Go.Shelf Go.Sort Go.RowKit Go.Lib
def sortRen : Go.Shelf.Ren := ⟨fun | 6 => 36 | 15 => 53 | 14 => 52 | 28 => 67 | 29 => 68 | 20 => 59 | 21 => 60 | 22 => 61 | 23 => 62 | 24 => 63 | 25 => 64 | 26 => 65 | 27 => 66 | 46 => 69 | 47 => 70 | 48 => 71 | 49 => 72 | 50 => 73 | 57 => 74 | n => n, fun | 22 => 27 | 24 => 49 | 25 => 74 | 3 => 3 | 39 => 92 | 0 => 0 | 53 => 105 | 55 => 75 | 4 => 4 | 46 => 99 | 45 => 98 | 50 => 86 | 5 => 5 | 9 => 9 | 66 => 107 | 70 => 111 | 76 => 113 | 77 => 52 | n => n, fun | n => n⟩
theorem sortLays : SlLaysF0.n6 Try.prog sortRen where
  mixed := by kernel_rfl
  f6 := ⟨ "slices.SortFunc[[]affidavit/api.Held,affidavit/api.Held]", by decide, Try.func36.trans (congrArg some (by kernel_rfl))⟩
  f14 := ⟨ "slices.pdqsortCmpFunc[affidavit/api.Held]", by decide, Try.func52.trans (congrArg some (by kernel_rfl))⟩
  f15 := Try.func53.trans (congrArg some (by kernel_rfl))
  f20 := ⟨ "slices.insertionSortCmpFunc[affidavit/api.Held]", by decide, Try.func59.trans (congrArg some (by kernel_rfl))⟩
  f21 := ⟨ "slices.heapSortCmpFunc[affidavit/api.Held]", by decide, Try.func60.trans (congrArg some (by kernel_rfl))⟩
  f22 := ⟨ "slices.breakPatternsCmpFunc[affidavit/api.Held]", by decide, Try.func61.trans (congrArg some (by kernel_rfl))⟩
  f23 := ⟨ "slices.choosePivotCmpFunc[affidavit/api.Held]", by decide, Try.func62.trans (congrArg some (by kernel_rfl))⟩
  f24 := ⟨ "slices.reverseRangeCmpFunc[affidavit/api.Held]", by decide, Try.func63.trans (congrArg some (by kernel_rfl))⟩
  f25 := ⟨ "slices.partialInsertionSortCmpFunc[affidavit/api.Held]", by decide, Try.func64.trans (congrArg some (by kernel_rfl))⟩
  f26 := ⟨ "slices.partitionEqualCmpFunc[affidavit/api.Held]", by decide, Try.func65.trans (congrArg some (by kernel_rfl))⟩
  f27 := ⟨ "slices.partitionCmpFunc[affidavit/api.Held]", by decide, Try.func66.trans (congrArg some (by kernel_rfl))⟩
  f28 := Try.func67.trans (congrArg some (by kernel_rfl))
  f29 := Try.func68.trans (congrArg some (by kernel_rfl))
  f46 := ⟨ "slices.siftDownCmpFunc[affidavit/api.Held]", by decide, Try.func69.trans (congrArg some (by kernel_rfl))⟩
  f47 := Try.func70.trans (congrArg some (by kernel_rfl))
  f48 := Try.func71.trans (congrArg some (by kernel_rfl))
  f49 := ⟨ "slices.medianAdjacentCmpFunc[affidavit/api.Held]", by decide, Try.func72.trans (congrArg some (by kernel_rfl))⟩
  f50 := ⟨ "slices.medianCmpFunc[affidavit/api.Held]", by decide, Try.func73.trans (congrArg some (by kernel_rfl))⟩
  f57 := ⟨ "slices.order2CmpFunc[affidavit/api.Held]", by decide, Try.func74.trans (congrArg some (by kernel_rfl))⟩
  t0 := Try.underlying0
  a0 := Try.isAgg0
  z0 := Try.sizeOf0
  v0 := Try.zeroValue0
  t3 := Try.underlying3
  a3 := Try.isAgg3
  z3 := Try.sizeOf3
  v3 := Try.zeroValue3
  t4 := Try.underlying4
  a4 := Try.isAgg4
  z4 := Try.sizeOf4
  v4 := Try.zeroValue4
  t5 := Try.underlying5
  a5 := Try.isAgg5
  z5 := Try.sizeOf5
  v5 := Try.zeroValue5
  t9 := Try.underlying9
  a9 := Try.isAgg9
  z9 := Try.sizeOf9
  v9 := Try.zeroValue9
  t22 := Try.underlying27
  a22 := Try.isAgg27
  z22 := Try.sizeOf27
  v22 := Try.zeroValue27
  t25 := Try.underlying74
  a25 := Try.isAgg74
  z25 := Try.sizeOf74
  v25 := Try.zeroValue74
  t39 := Try.underlying92
  a39 := Try.isAgg92
  z39 := Try.sizeOf92
  v39 := Try.zeroValue92
  t45 := Try.underlying98
  a45 := Try.isAgg98
  z45 := Try.sizeOf98
  v45 := Try.zeroValue98
  t46 := Try.underlying99
  a46 := Try.isAgg99
  z46 := Try.sizeOf99
  v46 := Try.zeroValue99
  t50 := Try.underlying86
  a50 := Try.isAgg86
  z50 := Try.sizeOf86
  v50 := Try.zeroValue86
  t53 := Try.underlying105
  a53 := Try.isAgg105
  z53 := Try.sizeOf105
  v53 := Try.zeroValue105
  t55 := Try.underlying75
  a55 := Try.isAgg75
  z55 := Try.sizeOf75
  v55 := Try.zeroValue75
  t66 := Try.underlying107
  a66 := Try.isAgg107
  z66 := Try.sizeOf107
  v66 := Try.zeroValue107
  t70 := Try.underlying111
  a70 := Try.isAgg111
  z70 := Try.sizeOf111
  v70 := Try.zeroValue111
  t76 := Try.underlying113
  a76 := Try.isAgg113
  z76 := Try.sizeOf113
  v76 := Try.zeroValue113
  t77 := Try.underlying52
  a77 := Try.isAgg52
  z77 := Try.sizeOf52
  v77 := Try.zeroValue52

abbrev HdO := { h : Hd // okH h = true }
instance : Inhabited HdO := ⟨⟨(0, 0), by decide⟩⟩
def encO (x : HdO) : List Value := encH x.1
def cfO (x y : HdO) : Int := x.1.1 - y.1.1
theorem ltO (x y : HdO) : ltOf cfO x y = decide (x.1.1 < y.1.1) := by
  unfold ltOf cfO
  by_cases h : x.1.1 < y.1.1
  · rw [decide_eq_true h, decide_eq_true (by omega)]
  · rw [decide_eq_false h, decide_eq_false (by omega)]
theorem swoO : SWO (ltOf cfO) where
  irrefl x := by rw [ltO]; simp
  trans x y z h1 h2 := by rw [ltO] at *; simp at *; omega
  ntrans x y z h1 h2 := by rw [ltO] at *; simp at *; omega
set_option maxHeartbeats 1000000 in
theorem rising_ok (x y : HdO) (W : World) : Calls Try.prog 37 #[.agg #[.int .i64 x.1.1, .int .i64 x.1.2], .agg #[.int .i64 y.1.1, .int .i64 y.1.2]] W fun e w' => e = .returned (.int .i64 (cfO x y)) ∧ ∃ q os', w' = grow (W.drewN q) os' := by
  have hx := okH_i x.2
  have hy := okH_i y.2
  have hw : IntKind.i64.wrap (x.1.1 - y.1.1) = x.1.1 - y.1.1 := i64in ⟨by omega, by omega⟩
  go_enter Try.func37, Try.ntmps37
  go_wp2
  go_ret
  exact ⟨rfl, 0, _, by rw [alloc_eq_grow, alloc_eq_grow, grow_grow]; rfl⟩
theorem Sort_ok {c : Cx} {I : Im} (l m : Ow) {a : Option Addr} {cap : Nat} {xs : List Hd} (ho : OA 49 encH 2 m a cap xs) (hok : ∀ x ∈ xs, okH x = true) (hn : xs.length ≤ 1000000000000) :
    Ct Try.prog 36 [.slice a xs.length cap, .func (.func 37) #[] #[]] (St c I (m ++ l)) fun v w => v = .tuple #[] ∧ ∃ m' ys, ys.Perm xs ∧ ys.Pairwise (fun x y => x.1 ≤ y.1) ∧ ys.length = xs.length ∧ OA 49 encH 2 m' a cap ys ∧ St c I (m' ++ l) w := by
  let zs : List HdO := xs.attach.map fun x => ⟨x.1, hok x.1 x.2⟩
  have hz : zs.map (·.1) = xs := by show List.map _ (List.map _ xs.attach) = xs; rw [List.map_map]; exact List.attach_map_subtype_val xs
  have hzl : zs.length = xs.length := by simp [zs]
  have hf : ∀ ys : List HdO, ys.flatMap encO = (ys.map (·.1)).flatMap encH := fun ys => by
    induction ys with
    | nil => rfl
    | cons y r ih => simp only [List.flatMap_cons, List.map_cons, ih]; rfl
  have ho2 : OA 49 encO 2 m a cap zs := by unfold OA at ho ⊢; rw [hf, hz, hzl]; exact ho
  have h := sort_ok sortLays Try.isAgg49 Try.sizeOf49 (enc := encO) (fun _ => rfl) (fun x v hv => by simp [encO, encH] at hv; rcases hv with rfl | rfl <;> rfl) cfO swoO 37 (enters_of Try.func37 (by kernel_rfl) rfl) (fun x y W => rising_ok x y W) (c := c) (I := I) l m ho2 (by omega)
  rw [hzl] at h
  refine Ct.imp h fun v w ⟨hv, m', ys, hp, hs, hl, hoy, hw⟩ => ⟨hv, m', ys.map (·.1), ?_, ?_, by simpa using hl, ?_, hw⟩
  · have := hp.map (·.1); rwa [hz] at this
  · rw [List.pairwise_map]
    exact hs.imp fun {x y} hxy => by unfold cfO at hxy; omega
  · unfold OA at hoy ⊢; rw [← hf, List.length_map]; exact hoy
end Go.Proofs.Ytfiambcocnceiaa
