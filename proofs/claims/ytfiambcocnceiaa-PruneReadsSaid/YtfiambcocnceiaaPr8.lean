import Derived.Test.YtfiambcocnceiaaPrS
import Derived.Test.YtfiambcocnceiaaPrP
set_option linter.unusedVariables false
set_option maxRecDepth 100000
namespace Go.Proofs.Ytfiambcocnceiaa
open Go Go.E

theorem LHeld_ok {c : Cx} {I : Im} (l : Ow) (p : Nat) (a1 : Option Addr) (c1 : Nat) (xs : List SX) (a2 : Option Addr) (c2 : Nat) (dead : List Hd) (hS : SL I a1 xs) (hok : OKS xs) (hd : SA (St c I l) encH 2 a2 dead) (hdl : dead.length ≤ 1000) (hdo : ∀ h ∈ dead, okH h = true) (hcon : Con (dead ++ flatS xs)) (hds : SS dead) : Ct Try.prog 27 [.pointer (some ⟨p, 0, none⟩)] (St c I ((p, (bkO 46 a1 xs.length c1 a2 dead.length c2)) :: l)) fun v w => ∃ m a' cap', v = .slice a' (heldA (xs.map absS) dead).length cap' ∧ OA 49 encH 2 m a' cap' (heldA (xs.map absS) dead) ∧ St c I (m ++ (p, (bkO 46 a1 xs.length c1 a2 dead.length c2)) :: l) w := by
  refine Ct.enter (n := 32) Try.func27 rfl rfl rfl rfl rfl rfl ?_
  refine TC.seq ?_
  refine TC.quiet rfl ?_
  refine qv (yAsgn (v := .slice _ _ _) rfl) rfl rfl ?_
  refine QL.nil ?_
  refine TQ.sq ?_
  refine TC.seq ?_
  refine TC.seq ?_
  refine TC.quiet rfl ?_
  refine qv (yMove (v := .pointer _) rfl) rfl rfl ?_
  refine qv (yPNil ul23 rfl rfl) rfl rfl ?_
  refine QL.nil ?_
  refine TQ.sq ?_
  refine TC.condF rfl ?_
  refine TC.skip (TQ.sq ?_)
  refine TC.seq ?_
  refine TC.region ?_
  refine sBuildSl (vs := []) ul27 ti49 rfl rfl rfl rfl (fun b8 => ?_)
  refine sv (yMove (v := .pointer _) rfl) rfl rfl ?_
  refine sv (yNil rfl) rfl rfl ?_
  refine sv (yFA fld46_1 ti27 (by decide) rfl) rfl rfl ?_
  refine sv (yLd1 ti27 rfl (by first | exact RdC.rd | exact rdI (by assumption)) rfl) rfl rfl ?_
  refine sAppAF (ys := dead) (xs := ([] : List Hd)) (enc := encH) ul27 ul27 ti49 rfl rfl (OA.made (cs := []) rfl (fun _ => rfl) (by decide)) (hd.mono Wk.w) (fun _ => rfl) (by first | omega | (simp; done) | (simp; omega)) (by first | omega | (simp; done) | (simp; omega)) rfl (fun m0 a0 c0 o0 => ?_)
  refine sv (yAsgn (v := .slice _ _ _) rfl) rfl rfl ?_
  refine TL.nil ?_
  refine TQ.sq ?_
  refine TC.seq ?_
  refine TC.seq ?_
  refine TC.quiet rfl ?_
  refine qv (yMove (v := .pointer _) rfl) rfl rfl ?_
  refine qv (yNil rfl) rfl rfl ?_
  refine qv (yFA fld46_0 ti44 (by decide) rfl) rfl rfl ?_
  refine qv (yLd1 ti44 rfl (by first | exact RdC.rd | exact rdI (by assumption)) rfl) rfl rfl ?_
  refine qv (ySlLen ul44 rfl) rfl rfl ?_
  refine qv (yMove (v := .int .i64 _) rfl) rfl rfl ?_
  refine QL.nil ?_
  refine TQ.sq ?_
  refine TC.block ?_
  have hSn := hS.n
  refine TC.loopL (ι := (Nat) × (Ow) × (Option Addr) × (Nat) × (List Hd)) [3, 5, 19, 20, 21, 22, 23, 24, 25, 26, 27] (fun ⟨k, m, a3, c3, cur⟩ => [(19, .int .i64 (k : Int)), (3, .slice a3 cur.length c3)]) (fun ⟨k, m, a3, c3, cur⟩ w => (k ≤ xs.length ∧ OA 49 encH 2 m a3 c3 cur ∧ cur = dead ++ flatS (xs.take k)) ∧ St c I (m ++ (p, (bkO 46 a1 xs.length c1 a2 dead.length c2)) :: l) w) (fun ⟨k, m, a3, c3, cur⟩ => xs.length - k) (0, m0, a0, c0, [] ++ dead) ⟨rfl, rfl, trivial⟩ (fun w hw => ⟨⟨by omega, o0, by simp [flatS]⟩, hw⟩) ?_
  rintro g0 ⟨k, m, a3, c3, cur⟩
  dsimp only
  refine TC.pure fun ⟨hk, ho, he⟩ => ?_
  refine TC.seq ?_
  refine TC.quiet rfl ?_
  refine qcLt rfl rfl rfl rfl (fun h20 => ?_) (fun h20 => ?_)
  ·
    obtain ⟨x, hxk⟩ := getSome (xs := xs) (k := k) (by omega)
    have hxe := hS.e x (getMem hxk)
    have hfl := flatS_len (xs := xs.take k) (fun y hy => (hS.e y (List.mem_of_mem_take hy)).2.2)
    have htl : (xs.take k).length ≤ k := by simp; omega
    have hcl : cur.length = dead.length + (flatS (xs.take k)).length := by rw [he, List.length_append]
    refine QL.nil ?_
    refine TQ.sq ?_
    refine TC.seq ?_
    refine TC.condT rfl ?_
    refine TC.skip (TQ.sq ?_)
    refine TC.seq ?_
    refine TC.block ?_
    refine TC.seq ?_
    refine TC.region ?_
    refine sElA (v := .agg ⟨[.int .i64 _, .slice _ _ _]⟩) ul44 ti59 rfl (RA.sa hS.r) rfl (by omega) (by simpa using hxk) (fun _ => rfl) (fun h => nomatch h) rfl rfl rfl (fun _ => ?_)
    refine sAlloc ti59 rfl rfl (fun b5 => ?_)
    refine sStoreF (vs := [.int .i64 _, .slice _ _ _]) (cs' := [.int .i64 _, .slice _ _ _]) ti59 rfl rfl rfl rfl rfl (.inl rfl) (Nat.le_of_ble_eq_true rfl) rfl rfl ?_
    refine TL.nil ?_
    refine TQ.sq ?_
    refine TC.region ?_
    refine sv (yMove (v := .slice _ _ _) rfl) rfl rfl ?_
    refine sv (yFA fld59_1 ti27 (by decide) rfl) rfl rfl ?_
    refine sv (yLd1 ti27 rfl (by first | exact RdC.rd | exact rdI (by assumption)) rfl) rfl rfl ?_
    refine sAppAF (ys := x.hs) (xs := cur) (enc := encH) ul27 ul27 ti49 rfl rfl ho (RA.sa hxe.1) (fun _ => rfl) (by omega) (by omega) rfl (fun m4 a4 c4 ho4 => ?_)
    refine sv (yAsgn (v := .slice _ _ _) rfl) rfl rfl ?_
    refine TL.nil ?_
    refine TQ.blk (TQ.sq ?_)
    refine TC.quiet rfl ?_
    refine qv (yAdd rfl rfl (by omega)) rfl rfl ?_
    refine qv (yMove (v := .int .i64 _) rfl) rfl rfl ?_
    refine QL.nil ?_
    refine TQ.lpL (k + 1, m4, a4, c4, cur ++ x.hs) (by first | omega | (dsimp only; omega)) (by repeat (first | exact OffL.refl | refine OffL.updO rfl ?_ | refine OffL.upd rfl ?_ | refine OffL.updL rfl ?_ | refine OffL.mask rfl ?_)) ⟨rfl, rfl, trivial⟩ (fun w hw => ⟨⟨by omega, ho4, by dsimp only; rw [flatS_take hxk, he, List.append_assoc]⟩, hw.dr⟩)
  ·
    refine QL.nil ?_
    refine TQ.sq ?_
    refine TC.seq ?_
    refine TC.condF rfl ?_
    refine TC.exit (TQ.sqX (TQ.lpLX (TQ.blkX (TQ.sq ?_))))
    refine TC.seq ?_
    refine TC.region ?_
    refine sv (yMove (v := .slice _ _ _) rfl) rfl rfl ?_
    obtain rfl : k = xs.length := by omega
    rw [List.take_length] at he
    have hfl := flatS_len (xs := xs) (fun y hy => (hS.e y hy).2.2)
    have hcl : cur.length = dead.length + (flatS xs).length := by rw [he, List.length_append]
    have hco : ∀ u ∈ cur, okH u = true := fun u hu => by
      rw [he] at hu
      rcases List.mem_append.1 hu with hu | hu
      · exact hdo u hu
      · exact flatS_ok hok u hu
    refine sCall (Sort_ok _ m ho hco (by omega)) rfl rfl (fun v29 w hw => ?_)
    obtain ⟨rfl, m5, ys, hp, hsl, hyl, oy, hw⟩ := hw
    rw [← hyl]
    refine TL.wl ?_ hw
    refine TL.nil ?_
    refine TQ.sq ?_
    refine TC.seq ?_
    refine TC.region ?_
    refine sv (yMove (v := .slice _ _ _) rfl) rfl rfl ?_
    refine sCall (Compact_ok _ m5 a3 c3 ys oy (by omega)) rfl rfl (fun v31 w hw => ?_)
    obtain ⟨m6, rfl, oc, hw⟩ := hw
    refine TL.wl ?_ hw
    refine sv (yAsgn (v := .slice _ _ _) rfl) rfl rfl ?_
    refine TL.nil ?_
    refine TQ.sq ?_
    refine TC.ret ?_
    refine TQ.post (v := .slice _ _ _) rfl ?_
    have e : ded none ys = heldA (xs.map absS) dead := held_eq (by rw [flatS_A, ← he]; exact hp) hsl (by rw [flatS_A]; exact hcon) hds
    exact fun w hw => ⟨m6, a3, c3, by rw [e], by rw [← e]; exact oc, hw⟩
theorem LUsed_ok {c : Cx} {I : Im} (l : Ow) (p : Nat) (a1 : Option Addr) (c1 : Nat) (xs : List SX) (a2 : Option Addr) (c2 : Nat) (dead : List Hd) (hS : SL I a1 xs) (hok : OKS xs) (hd : SA (St c I l) encH 2 a2 dead) (hdl : dead.length ≤ 1000) (hdo : ∀ h ∈ dead, okH h = true) (hcon : Con (dead ++ flatS xs)) (hds : SS dead) : Ct Try.prog 15 [.pointer (some ⟨p, 0, none⟩)] (St c I ((p, (bkO 46 a1 xs.length c1 a2 dead.length c2)) :: l)) fun v w => v = .tuple ⟨[.int .i64 (heldA (xs.map absS) dead).length, .int .i64 ((heldA (xs.map absS) dead).map (·.2)).sum]⟩ ∧ St c I ((p, (bkO 46 a1 xs.length c1 a2 dead.length c2)) :: l) w := by
  refine Ct.enter (n := 24) Try.func15 rfl rfl rfl rfl rfl rfl ?_
  refine TC.seq ?_
  refine TC.quiet rfl ?_
  refine qv (yAsgn (v := .int .i64 _) rfl) rfl rfl ?_
  refine qv (yAsgn (v := .int .i64 _) rfl) rfl rfl ?_
  refine QL.nil ?_
  refine TQ.sq ?_
  refine TC.seq ?_
  refine TC.region ?_
  refine sv (yMove (v := .pointer _) rfl) rfl rfl ?_
  have hSn := hS.n
  have hhl := heldP_len (xs := xs) (fun y hy => (hS.e y hy).2.2) dead
  rw [heldP_A] at hhl
  have hmem := fun x => foldput_mem (x := x) _ _ hcon
  have hho : ∀ u ∈ heldA (xs.map absS) dead, okH u = true := fun u hu => by
    unfold heldA at hu; rw [flatS_A, hmem] at hu
    rcases hu with hu | hu
    · exact hdo u hu
    · exact flatS_ok hok u hu
  refine sCall (LHeld_ok l p a1 c1 xs a2 c2 dead hS hok hd hdl hdo hcon hds) rfl rfl (fun v9 w hw => ?_)
  obtain ⟨m, a3, c3, rfl, ho, hw⟩ := hw
  refine TL.wl ?_ hw
  refine sv (yAsgn (v := .slice _ _ _) rfl) rfl rfl ?_
  refine TL.nil ?_
  refine TQ.sq ?_
  refine TC.seq ?_
  refine TC.quiet rfl ?_
  refine qv (yAsgn (v := .int .i64 _) rfl) rfl rfl ?_
  refine QL.nil ?_
  refine TQ.sq ?_
  refine TC.seq ?_
  refine TC.seq ?_
  refine TC.quiet rfl ?_
  refine qv (yMove (v := .slice _ _ _) rfl) rfl rfl ?_
  refine qv (ySlLen ul27 rfl) rfl rfl ?_
  refine qv (yMove (v := .int .i64 _) rfl) rfl rfl ?_
  refine QL.nil ?_
  refine TQ.sq ?_
  refine TC.block ?_
  refine TC.loopL (ι := (Nat)) [5, 7, 12, 13, 14, 15, 16, 17, 18, 19, 20] (fun k => [(12, .int .i64 (k : Int)), (5, .int .i64 (((heldA (xs.map absS) dead).take k).map (·.2)).sum)]) (fun k w => (k ≤ (heldA (xs.map absS) dead).length) ∧ St c I (m ++ (p, (bkO 46 a1 xs.length c1 a2 dead.length c2)) :: l) w) (fun k => (heldA (xs.map absS) dead).length - k) 0 ⟨rfl, rfl, trivial⟩ (fun w hw => ⟨by omega, hw⟩) ?_
  rintro g0 k
  dsimp only
  refine TC.pure fun hk => ?_
  refine TC.seq ?_
  refine TC.quiet rfl ?_
  refine qcLt rfl rfl rfl rfl (fun h13 => ?_) (fun h13 => ?_)
  ·
    obtain ⟨u, hu⟩ := getSome (xs := heldA (xs.map absS) dead) (k := k) (by omega)
    have hou := okH_i (hho u (getMem hu))
    have hsb := sum_bound (hs := (heldA (xs.map absS) dead).take k) (fun x hx => hho x (List.mem_of_mem_take hx))
    have htl : ((heldA (xs.map absS) dead).take k).length ≤ k := by simp; omega
    refine QL.nil ?_
    refine TQ.sq ?_
    refine TC.seq ?_
    refine TC.condT rfl ?_
    refine TC.skip (TQ.sq ?_)
    refine TC.seq ?_
    refine TC.block ?_
    refine TC.seq ?_
    refine TC.region ?_
    refine sElA (v := .agg ⟨[.int .i64 _, .int .i64 _]⟩) ul27 ti49 rfl (OA.fm ho) rfl (by omega) (by simpa using hu) (fun _ => rfl) (fun h => nomatch h) rfl rfl rfl (fun _ => ?_)
    refine sAlloc ti49 rfl rfl (fun b7 => ?_)
    refine sStoreF (vs := [.int .i64 _, .int .i64 _]) (cs' := [.int .i64 _, .int .i64 _]) ti49 rfl rfl rfl rfl rfl (.inl rfl) (Nat.le_of_ble_eq_true rfl) rfl rfl ?_
    refine TL.nil ?_
    refine TQ.sq ?_
    refine TC.quiet rfl ?_
    refine qv (yMove (v := .int .i64 _) rfl) rfl rfl ?_
    refine qv (yFA fld49_1 ti3 (by decide) rfl) rfl rfl ?_
    refine qv (yLd1 ti3 rfl (by first | exact RdC.rd | exact rdI (by assumption)) rfl) rfl rfl ?_
    refine qv (yAdd rfl rfl (by omega)) rfl rfl ?_
    refine qv (yAsgn (v := .int .i64 _) rfl) rfl rfl ?_
    refine QL.nil ?_
    refine TQ.blk (TQ.sq ?_)
    refine TC.quiet rfl ?_
    refine qv (yAdd rfl rfl (by omega)) rfl rfl ?_
    refine qv (yMove (v := .int .i64 _) rfl) rfl rfl ?_
    refine QL.nil ?_
    refine TQ.lpL (k + 1) (by first | omega | (dsimp only; omega)) (by repeat (first | exact OffL.refl | refine OffL.updO rfl ?_ | refine OffL.upd rfl ?_ | refine OffL.updL rfl ?_ | refine OffL.mask rfl ?_)) ⟨rfl, (by rw [sumTake hu]; rfl), trivial⟩ (fun w hw => ⟨by omega, hw.dr⟩)
  ·
    refine QL.nil ?_
    refine TQ.sq ?_
    refine TC.seq ?_
    refine TC.condF rfl ?_
    refine TC.exit (TQ.sqX (TQ.lpLX (TQ.blkX (TQ.sq ?_))))
    refine TC.seq ?_
    refine TC.quiet rfl ?_
    refine qv (yMove (v := .slice _ _ _) rfl) rfl rfl ?_
    refine qv (ySlLen ul27 rfl) rfl rfl ?_
    refine qv (yMove (v := .int .i64 _) rfl) rfl rfl ?_
    refine qv (yAsgn (v := .int .i64 _) rfl) rfl rfl ?_
    refine qv (yAsgn (v := .int .i64 _) rfl) rfl rfl ?_
    refine QL.nil ?_
    refine TQ.sq ?_
    refine TC.ret ?_
    refine TQ.post (v := .tuple ⟨[.int .i64 _, .int .i64 _]⟩) rfl ?_
    have e : (heldA (xs.map absS) dead).take k = heldA (xs.map absS) dead := List.take_of_length_le (by omega)
    exact fun w hw => ⟨by rw [e], hw.dr⟩
end Go.Proofs.Ytfiambcocnceiaa
