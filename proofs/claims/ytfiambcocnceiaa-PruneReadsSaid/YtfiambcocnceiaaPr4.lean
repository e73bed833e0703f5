import Derived.Test.YtfiambcocnceiaaPr3
set_option linter.unusedVariables false
set_option maxRecDepth 100000
namespace Go.Proofs.Ytfiambcocnceiaa
open Go Go.E

theorem States_ok {c : Cx} {I : Im} (l : Ow) (p : Nat) (a1 : Option Addr) (c1 : Nat) (xs : List SX) (a2 : Option Addr) (c2 : Nat) (dead : List Hd) (hS : SL I a1 xs) : Ct Try.prog 17 [.pointer (some ⟨p, 0, none⟩)] (St c I ((p, (bkO 46 a1 xs.length c1 a2 dead.length c2)) :: l)) fun v w => ∃ m a' cap', v = .slice a' (xs.map (·.n)).length cap' ∧ OA 3 encI 1 m a' cap' (xs.map (·.n)) ∧ St c I (m ++ (p, (bkO 46 a1 xs.length c1 a2 dead.length c2)) :: l) w := by
  refine Ct.enter (n := 25) Try.func17 rfl rfl rfl rfl rfl rfl ?_
  refine TC.seq ?_
  refine TC.quiet rfl ?_
  refine qv (yAsgn (v := .slice _ _ _) rfl) rfl rfl ?_
  refine QL.nil ?_
  refine TQ.sq ?_
  refine TC.seq ?_
  refine TC.quiet rfl ?_
  refine qv (yAsgn (v := .slice _ _ _) rfl) rfl rfl ?_
  refine QL.nil ?_
  refine TQ.sq ?_
  refine TC.seq ?_
  refine TC.seq ?_
  refine TC.quiet rfl ?_
  refine qv (yMove (v := .pointer _) rfl) rfl rfl ?_
  refine qv (yPNil ul23 rfl rfl) rfl rfl ?_
  refine QL.nil ?_
  refine TQ.sq ?_
  refine TC.condF rfl ?_
  refine TC.skip (TQ.sq ?_)
  refine TC.seq ?_
  refine TC.seq ?_
  refine TC.quiet rfl ?_
  refine qv (yMove (v := .pointer _) rfl) rfl rfl ?_
  refine qv (yNil rfl) rfl rfl ?_
  refine qv (yFA fld46_0 ti44 (by decide) rfl) rfl rfl ?_
  refine qv (yLd1 ti44 rfl (by first | exact RdC.rd | exact rdI (by assumption)) rfl) rfl rfl ?_
  refine qv (ySlLen ul44 rfl) rfl rfl ?_
  refine qv (yMove (v := .int .i64 _) rfl) rfl rfl ?_
  refine QL.nil ?_
  refine TQ.sq ?_
  refine TC.block ?_
  have hSn := hS.n
  refine TC.loopL (ι := (Nat) × (Ow) × (Option Addr) × (Nat)) [3, 5, 14, 15, 16, 17, 18, 19, 20, 21, 22, 23] (fun ⟨k, m, a3, c3⟩ => [(14, .int .i64 (k : Int)), (3, .slice a3 ((xs.map (·.n)).take k).length c3)]) (fun ⟨k, m, a3, c3⟩ w => (k ≤ xs.length ∧ OA 3 encI 1 m a3 c3 ((xs.map (·.n)).take k)) ∧ St c I (m ++ (p, (bkO 46 a1 xs.length c1 a2 dead.length c2)) :: l) w) (fun ⟨k, m, a3, c3⟩ => xs.length - k) (0, [], none, 0) ⟨rfl, rfl, trivial⟩ (fun w hw => ⟨⟨by omega, OA.nil⟩, hw⟩) ?_
  rintro g0 ⟨k, m, a3, c3⟩
  dsimp only
  refine TC.pure fun ⟨hk, ho⟩ => ?_
  refine TC.seq ?_
  refine TC.quiet rfl ?_
  refine qcLt rfl rfl rfl rfl (fun h15 => ?_) (fun h15 => ?_)
  ·
    obtain ⟨x, hxk⟩ := getSome (xs := xs) (k := k) (by omega)
    have hxe := hS.e x (getMem hxk)
    have htl : ((xs.map (·.n)).take k).length ≤ k := by simp; omega
    refine QL.nil ?_
    refine TQ.sq ?_
    refine TC.seq ?_
    refine TC.condT rfl ?_
    refine TC.skip (TQ.sq ?_)
    refine TC.seq ?_
    refine TC.block ?_
    refine TC.seq ?_
    refine TC.region ?_
    refine sElA (v := .agg ⟨[.int .i64 _, .slice _ _ _]⟩) ul44 ti59 rfl (RA.sa hS.r) rfl (by omega) (by simpa using hxk) (fun _ => rfl) (fun h => nomatch h) rfl rfl rfl (fun _ => ?_)
    refine sAlloc ti59 rfl rfl (fun b5 => ?_)
    refine sStoreF (vs := [.int .i64 _, .slice _ _ _]) (cs' := [.int .i64 _, .slice _ _ _]) ti59 rfl rfl rfl rfl rfl (.inl rfl) (Nat.le_of_ble_eq_true rfl) rfl rfl ?_
    refine TL.nil ?_
    refine TQ.sq ?_
    refine TC.region ?_
    refine sv (yMove (v := .slice _ _ _) rfl) rfl rfl ?_
    refine sv (yFA fld59_0 ti3 (by decide) rfl) rfl rfl ?_
    refine sv (yLd1 ti3 rfl (by first | exact RdC.rd | exact rdI (by assumption)) rfl) rfl rfl ?_
    refine sBuildSl (vs := [.int .i64 _]) ul50 ti3 rfl rfl rfl rfl (fun b6 => ?_)
    refine sAppA1F (enc := encI) (x.n) ul50 ul50 ti3 rfl rfl ho rfl rfl (fun _ => rfl) (by omega) (by omega) rfl (fun m4 a4 c4 ho4 => ?_)
    refine sv (yAsgn (v := .slice _ _ _) rfl) rfl rfl ?_
    refine TL.nil ?_
    refine TQ.blk (TQ.sq ?_)
    refine TC.quiet rfl ?_
    refine qv (yAdd rfl rfl (by omega)) rfl rfl ?_
    refine qv (yMove (v := .int .i64 _) rfl) rfl rfl ?_
    refine QL.nil ?_
    refine TQ.lpL (k + 1, m4, a4, c4) (by first | omega | (dsimp only; omega)) (by repeat (first | exact OffL.refl | refine OffL.updO rfl ?_ | refine OffL.upd rfl ?_ | refine OffL.updL rfl ?_ | refine OffL.mask rfl ?_)) ⟨rfl, (by rw [take_snoc (map_at SX.n hxk)]; rfl), trivial⟩ (fun w hw => ⟨⟨by omega, by rw [take_snoc (map_at SX.n hxk)]; exact ho4⟩, hw.dr⟩)
  ·
    refine QL.nil ?_
    refine TQ.sq ?_
    refine TC.seq ?_
    refine TC.condF rfl ?_
    refine TC.exit (TQ.sqX (TQ.lpLX (TQ.blkX (TQ.sq ?_))))
    refine TC.seq ?_
    refine TC.quiet rfl ?_
    refine qv (yMove (v := .slice _ _ _) rfl) rfl rfl ?_
    refine qv (yAsgn (v := .slice _ _ _) rfl) rfl rfl ?_
    refine QL.nil ?_
    refine TQ.sq ?_
    refine TC.ret ?_
    refine TQ.post (v := .slice _ _ _) rfl ?_
    obtain rfl : k = xs.length := by omega
    have e : (xs.map (·.n)).take xs.length = xs.map (·.n) := List.take_of_length_le (by simp)
    rw [e] at ho
    exact fun w hw => ⟨m, a3, c3, by rw [e], ho, hw.dr⟩
theorem Llists_ok {c : Cx} {I : Im} (l : Ow) (a : Option Addr) (cap : Nat) (hs : List Hd) (hs0 : SA (St c I l) encH 2 a hs) (hwf : ∀ h ∈ hs, WH h) (hl : hs.length ≤ 512) : Ct Try.prog 22 [.slice a hs.length cap] (St c I l) fun v w => v = str (listsB hs) ∧ St c I l w := by
  refine Ct.enter (n := 41) Try.func22 rfl rfl rfl rfl rfl rfl ?_
  refine TC.seq ?_
  refine TC.quiet rfl ?_
  refine qv (yAsgn (v := str _) rfl) rfl rfl ?_
  refine QL.nil ?_
  refine TQ.sq ?_
  refine TC.seq ?_
  refine TC.quiet rfl ?_
  refine qv (yAsgn (v := .slice _ _ _) rfl) rfl rfl ?_
  refine qv (yAsgn (v := .slice _ _ _) rfl) rfl rfl ?_
  refine QL.nil ?_
  refine TQ.sq ?_
  refine TC.seq ?_
  refine TC.seq ?_
  refine TC.quiet rfl ?_
  refine qv (yMove (v := .slice _ _ _) rfl) rfl rfl ?_
  refine qv (ySlLen ul27 rfl) rfl rfl ?_
  refine qv (yMove (v := .int .i64 _) rfl) rfl rfl ?_
  refine QL.nil ?_
  refine TQ.sq ?_
  refine TC.block ?_
  refine TC.loopL (ι := (Nat) × (Ow) × (Option Addr) × (Nat) × (Ow) × (Option Addr) × (Nat)) [3, 4, 6, 13, 14, 15, 16, 17, 18, 19, 20, 21, 22, 23, 24, 25, 26, 27] (fun ⟨k, m, a3, c3, m2, a4, c4⟩ => [(13, .int .i64 (k : Int)), (3, .slice a3 ((hs.map (·.1)).take k).length c3), (4, .slice a4 ((hs.map (·.2)).take k).length c4)]) (fun ⟨k, m, a3, c3, m2, a4, c4⟩ w => (k ≤ hs.length ∧ OA 3 encI 1 m a3 c3 ((hs.map (·.1)).take k) ∧ OA 3 encI 1 m2 a4 c4 ((hs.map (·.2)).take k)) ∧ St c I (m ++ (m2 ++ l)) w) (fun ⟨k, m, a3, c3, m2, a4, c4⟩ => hs.length - k) (0, [], none, 0, [], none, 0) ⟨rfl, rfl, rfl, trivial⟩ (fun w hw => ⟨⟨by omega, OA.nil, OA.nil⟩, hw⟩) ?_
  rintro g0 ⟨k, m, a3, c3, m2, a4, c4⟩
  dsimp only
  refine TC.pure fun ⟨hk, ho, hp⟩ => ?_
  refine TC.seq ?_
  refine TC.quiet rfl ?_
  refine qcLt rfl rfl rfl rfl (fun h14 => ?_) (fun h14 => ?_)
  ·
    obtain ⟨u, hu⟩ := getSome (xs := hs) (k := k) (by omega)
    have ht1 : ((hs.map (·.1)).take k).length ≤ k := by simp; omega
    have ht2 : ((hs.map (·.2)).take k).length ≤ k := by simp; omega
    refine QL.nil ?_
    refine TQ.sq ?_
    refine TC.seq ?_
    refine TC.condT rfl ?_
    refine TC.skip (TQ.sq ?_)
    refine TC.seq ?_
    refine TC.block ?_
    refine TC.seq ?_
    refine TC.region ?_
    refine sElA (v := .agg ⟨[.int .i64 _, .int .i64 _]⟩) ul27 ti49 rfl (hs0.mono Wk.w) rfl (by omega) (by simpa using hu) (fun _ => rfl) (fun h => nomatch h) rfl rfl rfl (fun _ => ?_)
    refine sAlloc ti49 rfl rfl (fun b6 => ?_)
    refine sStoreF (vs := [.int .i64 _, .int .i64 _]) (cs' := [.int .i64 _, .int .i64 _]) ti49 rfl rfl rfl rfl rfl (.inl rfl) (Nat.le_of_ble_eq_true rfl) rfl rfl ?_
    refine TL.nil ?_
    refine TQ.sq ?_
    refine TC.seq ?_
    refine TC.region ?_
    refine sv (yMove (v := .slice _ _ _) rfl) rfl rfl ?_
    refine sv (yFA fld49_0 ti3 (by decide) rfl) rfl rfl ?_
    refine sv (yLd1 ti3 rfl (by first | exact RdC.rd | exact rdI (by assumption)) rfl) rfl rfl ?_
    refine sBuildSl (vs := [.int .i64 _]) ul50 ti3 rfl rfl rfl rfl (fun b7 => ?_)
    refine sAppA1F (enc := encI) (u.1) ul50 ul50 ti3 rfl rfl ho rfl rfl (fun _ => rfl) (by omega) (by omega) rfl (fun m5 a5 c5 ho5 => ?_)
    refine sv (yAsgn (v := .slice _ _ _) rfl) rfl rfl ?_
    refine TL.nil ?_
    refine TQ.sq ?_
    refine TC.region ?_
    refine sv (yMove (v := .slice _ _ _) rfl) rfl rfl ?_
    refine sv (yFA fld49_1 ti3 (by decide) rfl) rfl rfl ?_
    refine sv (yLd1 ti3 rfl (by first | exact RdC.rd | exact rdI (by assumption)) rfl) rfl rfl ?_
    refine sBuildSl (vs := [.int .i64 _]) ul50 ti3 rfl rfl rfl rfl (fun b8 => ?_)
    refine sAppA1F (enc := encI) (u.2) ul50 ul50 ti3 rfl rfl hp rfl rfl (fun _ => rfl) (by omega) (by omega) rfl (fun m6 a6 c6 ho6 => ?_)
    refine sv (yAsgn (v := .slice _ _ _) rfl) rfl rfl ?_
    refine TL.nil ?_
    refine TQ.blk (TQ.sq ?_)
    refine TC.quiet rfl ?_
    refine qv (yAdd rfl rfl (by omega)) rfl rfl ?_
    refine qv (yMove (v := .int .i64 _) rfl) rfl rfl ?_
    refine QL.nil ?_
    refine TQ.lpL (k + 1, m5, a5, c5, m6, a6, c6) (by first | omega | (dsimp only; omega)) (by repeat (first | exact OffL.refl | refine OffL.updO rfl ?_ | refine OffL.upd rfl ?_ | refine OffL.updL rfl ?_ | refine OffL.mask rfl ?_)) ⟨rfl, (by rw [take_snoc (map_at (·.1) hu)]; rfl), (by rw [take_snoc (map_at (·.2) hu)]; rfl), trivial⟩ (fun w hw => ⟨⟨by omega, by rw [take_snoc (map_at (·.1) hu)]; exact ho5, by rw [take_snoc (map_at (·.2) hu)]; exact ho6⟩, hw.dr⟩)
  ·
    refine QL.nil ?_
    refine TQ.sq ?_
    refine TC.seq ?_
    refine TC.condF rfl ?_
    refine TC.exit (TQ.sqX (TQ.lpLX (TQ.blkX (TQ.sq ?_))))
    refine TC.seq ?_
    refine TC.region ?_
    refine sv (yMove (v := .slice _ _ _) rfl) rfl rfl ?_
    obtain rfl : k = hs.length := by omega
    have htm : ∀ f : Hd → Int, (hs.map f).take hs.length = hs.map f := fun f => List.take_of_length_le (by simp)
    rw [htm] at ho hp
    simp only [htm]
    refine sCall (Numbers_ok _ a3 c3 (hs.map (·.1)) (OA.fm ho) (fun x hx => by obtain ⟨y, hy, rfl⟩ := List.mem_map.1 hx; exact (hwf y hy).1) (by simpa using hl)) rfl rfl (fun v30 w hw => ?_)
    obtain ⟨rfl, hw⟩ := hw
    refine TL.wl ?_ hw
    refine sv (yMove (v := .tuple _) rfl) rfl rfl ?_
    refine sv (yExt rfl rfl) rfl rfl ?_
    refine sv (yExt rfl rfl) rfl rfl ?_
    refine sv (yAsgn (v := str _) rfl) rfl rfl ?_
    refine sv (yAsgn (v := .int .i64 _) rfl) rfl rfl ?_
    refine TL.nil ?_
    refine TQ.sq ?_
    refine TC.seq ?_
    refine TC.region ?_
    refine sv (yMove (v := .slice _ _ _) rfl) rfl rfl ?_
    refine sCall (Numbers_ok _ a4 c4 (hs.map (·.2)) (OA.fm hp) (fun x hx => by obtain ⟨y, hy, rfl⟩ := List.mem_map.1 hx; exact (hwf y hy).2) (by simpa using hl)) rfl rfl (fun v35 w hw => ?_)
    obtain ⟨rfl, hw⟩ := hw
    refine TL.wl ?_ hw
    refine sv (yMove (v := .tuple _) rfl) rfl rfl ?_
    refine sv (yExt rfl rfl) rfl rfl ?_
    refine sv (yExt rfl rfl) rfl rfl ?_
    refine sv (yAsgn (v := str _) rfl) rfl rfl ?_
    refine sv (yAsgn (v := .int .i64 _) rfl) rfl rfl ?_
    refine TL.nil ?_
    refine TQ.sq ?_
    refine TC.seq ?_
    refine TC.quiet rfl ?_
    refine qv (yMove (v := str _) rfl) rfl rfl ?_
    refine qv (yMove (v := str _) rfl) rfl rfl ?_
    have hb1 := numsB_len (xs := hs.map (·.1)) (fun x hx => by obtain ⟨y, hy, rfl⟩ := List.mem_map.1 hx; exact (hwf y hy).1)
    have hb2 := numsB_len (xs := hs.map (·.2)) (fun x hx => by obtain ⟨y, hy, rfl⟩ := List.mem_map.1 hx; exact (hwf y hy).2)
    simp only [List.length_map] at hb1 hb2
    refine qv (yStrAdd rfl rfl (by omega)) rfl rfl ?_
    refine qv (yAsgn (v := str _) rfl) rfl rfl ?_
    refine QL.nil ?_
    refine TQ.sq ?_
    refine TC.ret ?_
    refine TQ.post (v := str _) rfl ?_
    exact fun w hw => ⟨by unfold listsB; rfl, hw.dr⟩
theorem LBytes_ok {c : Cx} {I : Im} (l : Ow) (p : Nat) (a1 : Option Addr) (c1 : Nat) (xs : List SX) (a2 : Option Addr) (c2 : Nat) (dead : List Hd) (hS : SL I a1 xs) (hd : SA (St c I l) encH 2 a2 dead) (hdl : dead.length ≤ 512) (hwf : ∀ x ∈ xs.map absS, WS x ∧ x.2.length ≤ 512) (hwd : ∀ h ∈ dead, WH h) : Ct Try.prog 9 [.pointer (some ⟨p, 0, none⟩)] (St c I ((p, (bkO 46 a1 xs.length c1 a2 dead.length c2)) :: l)) fun v w => v = str (bytesB (xs.map absS) dead) ∧ St c I ((p, (bkO 46 a1 xs.length c1 a2 dead.length c2)) :: l) w := by
  refine Ct.enter (n := 42) Try.func9 rfl rfl rfl rfl rfl rfl ?_
  refine TC.seq ?_
  refine TC.quiet rfl ?_
  refine qv (yAsgn (v := str _) rfl) rfl rfl ?_
  refine QL.nil ?_
  refine TQ.sq ?_
  refine TC.seq ?_
  refine TC.seq ?_
  refine TC.quiet rfl ?_
  refine qv (yMove (v := .pointer _) rfl) rfl rfl ?_
  refine qv (yPNil ul23 rfl rfl) rfl rfl ?_
  refine QL.nil ?_
  refine TQ.sq ?_
  refine TC.condF rfl ?_
  refine TC.skip (TQ.sq ?_)
  refine TC.seq ?_
  refine TC.region ?_
  refine sv (yMove (v := .pointer _) rfl) rfl rfl ?_
  refine sv (yNil rfl) rfl rfl ?_
  refine sv (yFA fld46_0 ti44 (by decide) rfl) rfl rfl ?_
  refine sv (yLd1 ti44 rfl (by first | exact RdC.rd | exact rdI (by assumption)) rfl) rfl rfl ?_
  refine sv (ySlLen ul44 rfl) rfl rfl ?_
  have hSn := hS.n
  have hb0 := numS_len (z := (xs.length : Int)) (by omega) (by omega)
  refine sCall (LNumber_ok _ (xs.length : Int) (by omega) (by omega)) rfl rfl (fun v13 w hw => ?_)
  obtain ⟨rfl, hw⟩ := hw
  refine TL.wl ?_ hw
  refine sToBytes ul9 ul62 ul5 rfl (by omega) rfl (fun m1 a3 c3 o1 => ?_)
  refine sv (yAsgn (v := .slice _ _ _) rfl) rfl rfl ?_
  refine TL.nil ?_
  refine TQ.sq ?_
  refine TC.seq ?_
  refine TC.seq ?_
  refine TC.quiet rfl ?_
  refine qv (yMove (v := .pointer _) rfl) rfl rfl ?_
  refine qv (yNil rfl) rfl rfl ?_
  refine qv (yFA fld46_0 ti44 (by decide) rfl) rfl rfl ?_
  refine qv (yLd1 ti44 rfl (by first | exact RdC.rd | exact rdI (by assumption)) rfl) rfl rfl ?_
  refine qv (ySlLen ul44 rfl) rfl rfl ?_
  refine qv (yMove (v := .int .i64 _) rfl) rfl rfl ?_
  refine QL.nil ?_
  refine TQ.sq ?_
  refine TC.block ?_
  refine TC.loopL (ι := (Nat) × (List UInt8) × (Ow) × (Option Addr) × (Nat)) [3, 5, 20, 21, 22, 23, 24, 25, 26, 27, 28, 29, 30, 31, 32, 33] (fun ⟨k, bs, m, a4, c4⟩ => [(20, .int .i64 (k : Int)), (3, .slice a4 bs.length c4)]) (fun ⟨k, bs, m, a4, c4⟩ w => (k ≤ xs.length ∧ OB 5 m a4 c4 bs ∧ bs = numS (xs.map absS).length ++ bytesS ((xs.map absS).take k)) ∧ St c I (m ++ (p, (bkO 46 a1 xs.length c1 a2 dead.length c2)) :: l) w) (fun ⟨k, bs, m, a4, c4⟩ => xs.length - k) (0, numS xs.length, m1, a3, c3) ⟨rfl, rfl, trivial⟩ (fun w hw => ⟨⟨by omega, o1, by simp [bytesS]⟩, hw⟩) ?_
  rintro g0 ⟨k, bs, m, a4, c4⟩
  dsimp only
  refine TC.pure fun ⟨hk, ho, hbs⟩ => ?_
  refine TC.seq ?_
  refine TC.quiet rfl ?_
  refine qcLt rfl rfl rfl rfl (fun h21 => ?_) (fun h21 => ?_)
  ·
    obtain ⟨x, hxk⟩ := getSome (xs := xs) (k := k) (by omega)
    have hxe := hS.e x (getMem hxk)
    have hbl := congrArg List.length hbs
    rw [List.length_append] at hbl
    have hws := hwf (absS x) (List.mem_map_of_mem (getMem hxk))
    have hb1 := bytesS_len (xs := (xs.map absS).take k) (fun y hy => (hwf y (List.mem_of_mem_take hy)).1)
    have hb0 := numS_len (z := ((xs.map absS).length : Int)) (by simp <;> omega) (by simp <;> omega)
    have hb2 := numS_len hws.1.1.1 hws.1.1.2
    have hb3 := listsB_len hws.1.2.1
    have htl : ((xs.map absS).take k).length = k := by simp; omega
    have hb4 := hws.2
    simp only [absS] at hb2 hb3 hb4
    refine QL.nil ?_
    refine TQ.sq ?_
    refine TC.seq ?_
    refine TC.condT rfl ?_
    refine TC.skip (TQ.sq ?_)
    refine TC.seq ?_
    refine TC.block ?_
    refine TC.seq ?_
    refine TC.region ?_
    refine sElA (v := .agg ⟨[.int .i64 _, .slice _ _ _]⟩) ul44 ti59 rfl (RA.sa hS.r) rfl (by omega) (by simpa using hxk) (fun _ => rfl) (fun h => nomatch h) rfl rfl rfl (fun _ => ?_)
    refine sAlloc ti59 rfl rfl (fun b5 => ?_)
    refine sStoreF (vs := [.int .i64 _, .slice _ _ _]) (cs' := [.int .i64 _, .slice _ _ _]) ti59 rfl rfl rfl rfl rfl (.inl rfl) (Nat.le_of_ble_eq_true rfl) rfl rfl ?_
    refine TL.nil ?_
    refine TQ.sq ?_
    refine TC.held (St c I ((b5, .cells ⟨[.int .i64 x.n, .slice x.a x.hs.length x.cap]⟩ 59 (0, 0)) :: (p, (bkO 46 a1 xs.length c1 a2 dead.length c2)) :: l)) 9 (.q 0 (.q 1 (.q 2 (.q 5 (.q 6 (.x 3 (.x 4 (.x 7 (.x 8 (.x 9 .done)))))))))) (fun _ _ h => h.drawn _) mixed rfl (by kernel_rfl) (by kernel_rfl) ?_
    refine Go.E.hq rfl (yMove (v := .slice _ _ _) rfl) rfl rfl (by first | exact Wk.w | exact fun w hw => (hw.le (by assumption)).dr) ?_
    refine Go.E.hq rfl (yFA fld59_0 ti3 (by decide) rfl) rfl rfl (by first | exact Wk.w | exact fun w hw => (hw.le (by assumption)).dr) ?_
    refine Go.E.hq rfl (yLd1 ti3 rfl (by first | exact RdC.rd | exact rdI (by assumption)) rfl) rfl rfl (by first | exact Wk.w | exact fun w hw => (hw.le (by assumption)).dr) ?_
    refine Go.E.hq rfl (yFA fld59_1 ti27 (by decide) rfl) rfl rfl (by first | exact Wk.w | exact fun w hw => (hw.le (by assumption)).dr) ?_
    refine Go.E.hq rfl (yLd1 ti27 rfl (by first | exact RdC.rd | exact rdI (by assumption)) rfl) rfl rfl (by first | exact Wk.w | exact fun w hw => (hw.le (by assumption)).dr) ?_
    refine Go.E.hx rfl ?_
    refine sCall (LNumber_ok _ x.n hws.1.1.1 hws.1.1.2) rfl rfl (fun v27 w hw => ?_)
    obtain ⟨rfl, hw⟩ := hw
    refine TL.wl ?_ hw
    refine Go.E.hn (fun _ => by exact (by first | exact Wk.w | exact fun w hw => (hw.le (by assumption)).dr)) ?_
    refine Go.E.hx rfl ?_
    refine sAppBF ul62 ti5 rfl rfl ho (Src.of_str ul9) (by omega) rfl (fun m5 a5 c5 o5 => ?_)
    refine Go.E.hn (fun _ => by exact (by first | exact Wk.w | exact fun w hw => (hw.le (by assumption)).dr)) ?_
    refine Go.E.hx rfl ?_
    refine sCall (Llists_ok _ x.a x.cap x.hs (RA.sa hxe.1) hws.1.2.1 hws.2) rfl rfl (fun v31 w hw => ?_)
    obtain ⟨rfl, hw⟩ := hw
    refine TL.wl ?_ hw
    refine Go.E.hn (fun _ => by exact (by first | exact Wk.w | exact fun w hw => (hw.le (by assumption)).dr)) ?_
    refine Go.E.hx rfl ?_
    refine sAppBF ul62 ti5 rfl rfl o5 (Src.of_str ul9) (by simp only [List.length_append]; omega) rfl (fun m6 a6 c6 o6 => ?_)
    refine Go.E.hn (fun _ => by exact (by first | exact Wk.w | exact fun w hw => (hw.le (by assumption)).dr)) ?_
    refine Go.E.hx rfl ?_
    refine sv (yAsgn (v := .slice _ _ _) rfl) rfl rfl ?_
    refine Go.E.hn (fun h => nomatch h) ?_
    refine TQ.blk (TQ.sq ?_)
    refine TC.quiet rfl ?_
    refine qv (yAdd rfl rfl (by omega)) rfl rfl ?_
    refine qv (yMove (v := .int .i64 _) rfl) rfl rfl ?_
    refine QL.nil ?_
    refine TQ.lpL (k + 1, bs ++ numS x.n ++ listsB x.hs, m6, a6, c6) (by first | omega | (dsimp only; omega)) (by repeat (first | exact OffL.refl | refine OffL.updO rfl ?_ | refine OffL.upd rfl ?_ | refine OffL.updL rfl ?_ | refine OffL.mask rfl ?_)) ⟨rfl, rfl, trivial⟩ (fun w hw => ⟨⟨by omega, o6, by rw [bytesS_take hxk, hbs]; simp only [List.append_assoc]⟩, hw.dr⟩)
  ·
    refine QL.nil ?_
    refine TQ.sq ?_
    refine TC.seq ?_
    refine TC.condF rfl ?_
    refine TC.exit (TQ.sqX (TQ.lpLX (TQ.blkX (TQ.sq ?_))))
    refine TC.seq ?_
    refine TC.region ?_
    refine sv (yMove (v := .slice _ _ _) rfl) rfl rfl ?_
    refine sv (yMove (v := .pointer _) rfl) rfl rfl ?_
    refine sv (yNil rfl) rfl rfl ?_
    refine sv (yFA fld46_1 ti27 (by decide) rfl) rfl rfl ?_
    refine sv (yLd1 ti27 rfl (by first | exact RdC.rd | exact rdI (by assumption)) rfl) rfl rfl ?_
    refine sCall (Llists_ok _ a2 c2 dead (hd.mono Wk.w) hwd hdl) rfl rfl (fun v39 w hw => ?_)
    obtain ⟨rfl, hw⟩ := hw
    refine TL.wl ?_ hw
    obtain rfl : k = xs.length := by omega
    rw [show (xs.map absS).take xs.length = xs.map absS from List.take_of_length_le (by simp)] at hbs
    have hbl := congrArg List.length hbs
    rw [List.length_append] at hbl
    have hb1 := bytesS_len (fun y hy => (hwf y hy).1)
    have hb0 := numS_len (z := ((xs.map absS).length : Int)) (by simp <;> omega) (by simp <;> omega)
    have hb3 := listsB_len hwd
    simp only [List.length_map] at hb1 hb0 hbl
    refine sAppBF ul62 ti5 rfl rfl ho (Src.of_str ul9) (by omega) rfl (fun m7 a7 c7 o7 => ?_)
    refine sv (yToStr ul62 ul5 ul9 rfl o7.sl) rfl rfl ?_
    refine sv (yAsgn (v := str _) rfl) rfl rfl ?_
    refine TL.nil ?_
    refine TQ.sq ?_
    refine TC.ret ?_
    refine TQ.post (v := str _) rfl ?_
    exact fun w hw => ⟨by unfold bytesB; rw [hbs], hw.dr⟩
end Go.Proofs.Ytfiambcocnceiaa
