import Derived.Test.YtfiambcocnceiaaPrA
set_option linter.unusedVariables false
set_option maxRecDepth 100000
namespace Go.Proofs.Ytfiambcocnceiaa
open Go Go.E

structure AX where
  kind : Int
  n : Int
  a : Option Addr
  cap : Nat
  hs : List Hd
def encA (x : AX) : List Value := [.int .i64 x.kind, .int .i64 x.n, .slice x.a x.hs.length x.cap]
theorem BI.addI {S : SS2} {dead : List Hd} (hB : BI S dead) (n : Int) (hs : List Hd) : BI (if addR S dead n hs = 0 then S ++ [(n, hs)] else S) dead := by
  split
  · exact hB.add (by assumption)
  · exact hB
theorem BI.hok {S : SS2} {dead : List Hd} (hB : BI S dead) {u : Hd} (hu : u ∈ heldA S dead) : okH u = true := by
  rcases (held_mem hB.con).1 hu with h | h
  · exact hB.dok u h
  · exact hB.fok h
abbrev W1 : List Hd := [(0, 3), (1, 4)]
abbrev W2 : List Hd := [(0, 3), (5, 6)]
theorem aw1 : addR [] [] 1 W1 = 0 := by decide
theorem aw2 : addR [(1, W1)] [] 2 W2 = 0 := by decide
abbrev WS2 : SS2 := [(1, W1), (2, W2)]
theorem awB1 : BI [(1, W1)] [] := BI.nil.add aw1
theorem awB2 : BI WS2 [] := awB1.add aw2
theorem aw3 : prR WS2 1 [] = (WS2, []) := by decide
theorem aw4 : prR WS2 2 [] = ([(2, W2)], [(1, 4)]) := by decide
theorem aw5 : (heldA WS2 []).length = 3 ∧ sumB WS2 [] = 13 := by decide
theorem aw6 : outP WS2 [] 1 = [] := by unfold outP; rw [aw3]; rfl
theorem aw7 : outP WS2 [] 2 = [1] := by unfold outP; rw [aw4]; rfl
theorem awB3 : BI [(2, W2)] [] := by have := awB2.prune 2 64; rw [aw4] at this; exact this

section
variable {c : Cx} {I : Im}
theorem few_ok (l : Ow) (a : Option Addr) (cap : Nat) (hs : List Hd) : Ct Try.prog 7 [.slice a hs.length cap] (St c I l) fun v w => v = .bool (decide ((hs.length : Int) ≤ 300)) ∧ St c I l w := by
  refine Ct.enter (n := 6) Try.func7 rfl rfl rfl rfl rfl rfl ?_
  refine TC.seq ?_
  refine TC.quiet rfl ?_
  refine qv (yAsgn (v := .bool _) rfl) rfl rfl ?_
  refine QL.nil ?_
  refine TQ.sq ?_
  refine TC.seq ?_
  refine TC.quiet rfl ?_
  refine qv (yMove (v := .slice _ _ _) rfl) rfl rfl ?_
  refine qv (ySlLen ul27 rfl) rfl rfl ?_
  refine qcLe rfl rfl rfl rfl (fun h5 => ?_) (fun h5 => ?_)
  ·
    refine qv (yAsgn (v := .bool _) rfl) rfl rfl ?_
    refine QL.nil ?_
    refine TQ.sq ?_
    refine TC.ret ?_
    refine TQ.post (v := .bool _) rfl ?_
    exact fun w hw => ⟨by rw [decide_eq_true h5], hw⟩
  ·
    refine qv (yAsgn (v := .bool _) rfl) rfl rfl ?_
    refine QL.nil ?_
    refine TQ.sq ?_
    refine TC.ret ?_
    refine TQ.post (v := .bool _) rfl ?_
    exact fun w hw => ⟨by rw [decide_eq_false (by omega)], hw⟩
theorem do_ok (l : Ow) (pb px : Nat) (z n : Int) (ah : Option Addr) (ch : Nat) (hs : List Hd) {S : SS2} {dead : List Hd} {md : Ow} {ob ox : Obj} (hL : LBk I S dead md ob) (hR : RBk I S dead ox) (hB : BI S dead) (hh : RA I encH 2 ah hs) (hhl : hs.length ≤ 1000) :
    Ct Try.prog 10 [.pointer (some ⟨pb, 0, none⟩), .pointer (some ⟨px, 0, none⟩), .agg ⟨[.int .i64 z, .int .i64 n, .slice ah hs.length ch]⟩] (St c I (md ++ (pb, ob) :: (px, ox) :: l)) fun v w => v = .bool true ∧ ∃ J S' dead' md' ob' ox', Le I J ∧ LBk J S' dead' md' ob' ∧ RBk J S' dead' ox' ∧ BI S' dead' ∧ St c J (md' ++ (pb, ob') :: (px, ox') :: l) w := by
  have hR0 := hR
  obtain ⟨b1, e1, ys, b2, e2, hox, hS2, he1, hd2, he2, hys⟩ := hR0
  subst hox
  have hSn := hS2.n
  refine Ct.enter (n := 58) Try.func10 rfl rfl rfl rfl rfl rfl ?_
  refine TC.seq ?_
  refine TC.region ?_
  refine sBox (vs := [.int .i64 _, .int .i64 _, .slice _ _ _]) rfl rfl rfl (fun b5 => ?_)
  refine sv (yAsgn (v := .bool _) rfl) rfl rfl ?_
  refine TL.nil ?_
  refine TQ.sq ?_
  refine TC.seq ?_
  refine TC.seq ?_
  refine TC.quiet rfl ?_
  refine qv (yFA fld33_0 ti3 (by decide) rfl) rfl rfl ?_
  refine qv (yLd1 ti3 rfl (by first | exact RdC.rd | exact rdI (by assumption)) rfl) rfl rfl ?_
  refine QL.nil ?_
  refine TQ.sq ?_
  refine TC.block ?_
  refine TC.seq ?_
  refine TC.seq ?_
  refine TC.quiet rfl ?_
  refine qcEq rfl rfl rfl rfl (fun h10 => ?_) (fun h10 => ?_)
  ·
    refine qv (yAsgn (v := .bool _) rfl) rfl rfl ?_
    refine QL.nil ?_
    refine TQ.sq ?_
    refine TC.condT rfl ?_
    refine TC.skip (TQ.sq ?_)
    refine TC.condT rfl ?_
    refine TC.seq ?_
    refine TC.held (St c I ((b5, .cells ⟨[.int .i64 z, .int .i64 n, .slice ah hs.length ch]⟩ 33 (0, 0)) :: l)) 9 (.q 0 (.q 1 (.q 2 (.q 4 (.q 5 (.q 6 (.x 3 (.x 7 (.x 8 (.x 9 .done)))))))))) (fun _ _ h => h.drawn _) mixed rfl (by kernel_rfl) (by kernel_rfl) ?_
    refine Go.E.hq rfl (yMove (v := .pointer _) rfl) rfl rfl (by first | exact Wk.w | exact fun w hw => (hw.le (by assumption)).dr) ?_
    refine Go.E.hq rfl (yFA fld33_1 ti3 (by decide) rfl) rfl rfl (by first | exact Wk.w | exact fun w hw => (hw.le (by assumption)).dr) ?_
    refine Go.E.hq rfl (yLd1 ti3 rfl (by first | exact RdC.rd | exact rdI (by assumption)) rfl) rfl rfl (by first | exact Wk.w | exact fun w hw => (hw.le (by assumption)).dr) ?_
    refine Go.E.hq rfl (yMove (v := .pointer _) rfl) rfl rfl (by first | exact Wk.w | exact fun w hw => (hw.le (by assumption)).dr) ?_
    refine Go.E.hq rfl (yFA fld33_1 ti3 (by decide) rfl) rfl rfl (by first | exact Wk.w | exact fun w hw => (hw.le (by assumption)).dr) ?_
    refine Go.E.hq rfl (yLd1 ti3 rfl (by first | exact RdC.rd | exact rdI (by assumption)) rfl) rfl rfl (by first | exact Wk.w | exact fun w hw => (hw.le (by assumption)).dr) ?_
    refine Go.E.hx rfl ?_
    refine sCallG [md, [(pb, ob)]] (PruneL _ pb n hL hB) rfl rfl (fun v15 w hw => ?_)
    obtain ⟨J, ob2, md2, mo, ao, co, hJ, rfl, oo, hL2, hw⟩ := hw
    try simp only [catL, List.append_eq, List.nil_append] at hw
    refine TL.wl ?_ hw
    refine Go.E.hn (fun _ => by exact (by first | exact Wk.w | exact fun w hw => (hw.le (by assumption)).dr)) ?_
    refine Go.E.hx rfl ?_
    refine sCallG [[(px, (bkO 29 b1 (List.length ys) e1 b2 dead.length e2))]] (PruneR _ px n (hR.le hJ) hB) rfl rfl (fun v19 w hw => ?_)
    obtain ⟨J2, ox2, mo2, ao2, co2, hJ2, rfl, oo2, hR2, hw⟩ := hw
    try simp only [catL, List.append_eq, List.nil_append] at hw
    have hJ3 := hJ.trans hJ2
    refine TL.wl ?_ hw
    refine Go.E.hn (fun _ => by exact (by first | exact Wk.w | exact fun w hw => (hw.le (by assumption)).dr)) ?_
    refine Go.E.hx rfl ?_
    refine sCall (IntsT (fun _ _ h => h.drawn _) ao ao2 co co2 (outP S dead n) (OA.fm oo) (OA.fm oo2) (by have := outP_len S dead n; omega)) rfl rfl (fun v20 w hw => ?_)
    obtain ⟨rfl, hw⟩ := hw
    refine TL.wl ?_ hw
    refine Go.E.hn (fun _ => by exact (by first | exact Wk.w | exact fun w hw => (hw.le (by assumption)).dr)) ?_
    refine Go.E.hx rfl ?_
    refine sv (yAsgn (v := .bool _) rfl) rfl rfl ?_
    refine Go.E.hn (fun h => nomatch h) ?_
    refine TQ.sq ?_
    refine TC.ret (TQ.blkR (TQ.sqR ?_))
    refine TQ.post (v := .bool _) rfl ?_
    exact fun w hw => ⟨rfl, J2, _, _, md2, ob2, ox2, hJ3, hL2.le hJ2, hR2, hB.prune n 64, hw.dr⟩
  ·
    refine qv (yAsgn (v := .bool _) rfl) rfl rfl ?_
    refine QL.nil ?_
    refine TQ.sq ?_
    refine TC.condF rfl ?_
    refine TC.quiet rfl ?_
    refine qcEq rfl rfl rfl rfl (fun h11 => ?_) (fun h11 => ?_)
    ·
      refine qv (yAsgn (v := .bool _) rfl) rfl rfl ?_
      refine QL.nil ?_
      refine TQ.sq ?_
      refine TC.condT rfl ?_
      refine TC.seq ?_
      refine TC.held (St c I ((b5, .cells ⟨[.int .i64 z, .int .i64 n, .slice ah hs.length ch]⟩ 33 (0, 0)) :: l)) 9 (.q 0 (.q 1 (.q 2 (.q 4 (.q 5 (.q 6 (.x 3 (.x 7 (.x 8 (.x 9 .done)))))))))) (fun _ _ h => h.drawn _) mixed rfl (by kernel_rfl) (by kernel_rfl) ?_
      refine Go.E.hq rfl (yMove (v := .pointer _) rfl) rfl rfl (by first | exact Wk.w | exact fun w hw => (hw.le (by assumption)).dr) ?_
      refine Go.E.hq rfl (yFA fld33_1 ti3 (by decide) rfl) rfl rfl (by first | exact Wk.w | exact fun w hw => (hw.le (by assumption)).dr) ?_
      refine Go.E.hq rfl (yLd1 ti3 rfl (by first | exact RdC.rd | exact rdI (by assumption)) rfl) rfl rfl (by first | exact Wk.w | exact fun w hw => (hw.le (by assumption)).dr) ?_
      refine Go.E.hq rfl (yMove (v := .pointer _) rfl) rfl rfl (by first | exact Wk.w | exact fun w hw => (hw.le (by assumption)).dr) ?_
      refine Go.E.hq rfl (yFA fld33_1 ti3 (by decide) rfl) rfl rfl (by first | exact Wk.w | exact fun w hw => (hw.le (by assumption)).dr) ?_
      refine Go.E.hq rfl (yLd1 ti3 rfl (by first | exact RdC.rd | exact rdI (by assumption)) rfl) rfl rfl (by first | exact Wk.w | exact fun w hw => (hw.le (by assumption)).dr) ?_
      refine Go.E.hx rfl ?_
      refine sCallG [md, [(pb, ob)]] (PruneL _ pb n hL hB) rfl rfl (fun v15 w hw => ?_)
      obtain ⟨J, ob2, md2, mo, ao, co, hJ, rfl, oo, hL2, hw⟩ := hw
      try simp only [catL, List.append_eq, List.nil_append] at hw
      refine TL.wl ?_ hw
      refine Go.E.hn (fun _ => by exact (by first | exact Wk.w | exact fun w hw => (hw.le (by assumption)).dr)) ?_
      refine Go.E.hx rfl ?_
      refine sCallG [[(px, (bkO 29 b1 (List.length ys) e1 b2 dead.length e2))]] (PruneR _ px n (hR.le hJ) hB) rfl rfl (fun v19 w hw => ?_)
      obtain ⟨J2, ox2, mo2, ao2, co2, hJ2, rfl, oo2, hR2, hw⟩ := hw
      try simp only [catL, List.append_eq, List.nil_append] at hw
      have hJ3 := hJ.trans hJ2
      refine TL.wl ?_ hw
      refine Go.E.hn (fun _ => by exact (by first | exact Wk.w | exact fun w hw => (hw.le (by assumption)).dr)) ?_
      refine Go.E.hx rfl ?_
      refine sCall (IntsT (fun _ _ h => h.drawn _) ao ao2 co co2 (outP S dead n) (OA.fm oo) (OA.fm oo2) (by have := outP_len S dead n; omega)) rfl rfl (fun v20 w hw => ?_)
      obtain ⟨rfl, hw⟩ := hw
      refine TL.wl ?_ hw
      refine Go.E.hn (fun _ => by exact (by first | exact Wk.w | exact fun w hw => (hw.le (by assumption)).dr)) ?_
      refine Go.E.hx rfl ?_
      refine sv (yAsgn (v := .bool _) rfl) rfl rfl ?_
      refine Go.E.hn (fun h => nomatch h) ?_
      refine TQ.sq ?_
      refine TC.ret (TQ.blkR (TQ.sqR ?_))
      refine TQ.post (v := .bool _) rfl ?_
      exact fun w hw => ⟨rfl, J2, _, _, md2, ob2, ox2, hJ3, hL2.le hJ2, hR2, hB.prune n 64, hw.dr⟩
    ·
      refine qv (yAsgn (v := .bool _) rfl) rfl rfl ?_
      refine QL.nil ?_
      refine TQ.sq ?_
      refine TC.condF rfl ?_
      refine TC.seq ?_
      refine TC.quiet rfl ?_
      refine qcEq rfl rfl rfl rfl (fun h22 => ?_) (fun h22 => ?_)
      ·
        refine qv (yAsgn (v := .bool _) rfl) rfl rfl ?_
        refine QL.nil ?_
        refine TQ.sq ?_
        refine TC.condT rfl ?_
        refine TC.seq ?_
        refine TC.region ?_
        refine sv (yFA fld33_1 ti3 (by decide) rfl) rfl rfl ?_
        refine sStoreF (vs := [.int .i64 _]) (cs' := [.int .i64 _, .int .i64 _, .slice _ _ _]) ti3 rfl rfl rfl rfl rfl (.inl rfl) (Nat.le_of_ble_eq_true rfl) rfl rfl ?_
        refine TL.nil ?_
        refine TQ.sq ?_
        refine TC.seq ?_
        refine TC.quiet rfl ?_
        refine qv (yMove (v := .pointer _) rfl) rfl rfl ?_
        refine qv (yNil rfl) rfl rfl ?_
        refine qv (yFA fld29_0 ti26 (by decide) rfl) rfl rfl ?_
        refine qv (yLd1 ti26 rfl (by first | exact RdC.rd | exact rdI (by assumption)) rfl) rfl rfl ?_
        refine qv (ySlLen ul26 rfl) rfl rfl ?_
        refine qcGt rfl rfl rfl rfl (fun h29 => ?_) (fun h29 => ?_)
        ·
          obtain ⟨y, hyk⟩ := getSome (xs := ys) (k := ys.length - 1) (by omega)
          have hyi : ys[((ys.length : Int) - 1).toNat]? = some y := by rw [show ((ys.length : Int) - 1).toNat = ys.length - 1 from by omega]; exact hyk
          have hyr := hB.rng (absS y) (by rw [← hys]; exact List.mem_map_of_mem (getMem hyk))
          have hyr2 : 1 ≤ y.n ∧ y.n ≤ 512 := hyr
          refine QL.nil ?_
          refine TQ.sq ?_
          refine TC.condT rfl ?_
          refine TC.heldS 14 (.q 0 (.q 1 (.q 2 (.q 3 (.q 4 (.q 5 (.q 6 (.q 7 (.q 8 (.q 9 (.q 10 (.q 11 (.q 12 (.q 13 (.x 14 (.x 15 .done)))))))))))))))) (fun _ _ h => h.drawn _) mixed rfl (by kernel_rfl) (by kernel_rfl) ?_
          refine Go.E.hq rfl (yMove (v := .pointer _) rfl) rfl rfl (by first | exact Wk.w | exact fun w hw => (hw.le (by assumption)).dr) ?_
          refine Go.E.hq rfl (yNil rfl) rfl rfl (by first | exact Wk.w | exact fun w hw => (hw.le (by assumption)).dr) ?_
          refine Go.E.hq rfl (yFA fld29_0 ti26 (by decide) rfl) rfl rfl (by first | exact Wk.w | exact fun w hw => (hw.le (by assumption)).dr) ?_
          refine Go.E.hq rfl (yLd1 ti26 rfl (by first | exact RdC.rd | exact rdI (by assumption)) rfl) rfl rfl (by first | exact Wk.w | exact fun w hw => (hw.le (by assumption)).dr) ?_
          refine Go.E.hq rfl (yMove (v := .pointer _) rfl) rfl rfl (by first | exact Wk.w | exact fun w hw => (hw.le (by assumption)).dr) ?_
          refine Go.E.hq rfl (yNil rfl) rfl rfl (by first | exact Wk.w | exact fun w hw => (hw.le (by assumption)).dr) ?_
          refine Go.E.hq rfl (yFA fld29_0 ti26 (by decide) rfl) rfl rfl (by first | exact Wk.w | exact fun w hw => (hw.le (by assumption)).dr) ?_
          refine Go.E.hq rfl (yLd1 ti26 rfl (by first | exact RdC.rd | exact rdI (by assumption)) rfl) rfl rfl (by first | exact Wk.w | exact fun w hw => (hw.le (by assumption)).dr) ?_
          refine Go.E.hq rfl (ySlLen ul26 rfl) rfl rfl (by first | exact Wk.w | exact fun w hw => (hw.le (by assumption)).dr) ?_
          refine Go.E.hq rfl (ySub rfl rfl (by omega)) rfl rfl (by first | exact Wk.w | exact fun w hw => (hw.le (by assumption)).dr) ?_
          refine hElF rfl rfl rfl (v := .int .i64 _) ul26 ti66 fld66_0 ti3 (by decide) rfl (RA.sa hS2.r) rfl (by omega) (by omega) (flat_cell (enc := encS) (k := 2) (fun _ => rfl) (by simpa using hyi) (by decide) rfl) rfl (fun _ => rfl) (fun _ _ => rfl) rfl rfl rfl (by first | exact Wk.w | exact fun w hw => (hw.le (by assumption)).dr) (fun _ _ => ?_)
          refine Go.E.hq rfl (yAdd rfl rfl (by omega)) rfl rfl (by first | exact Wk.w | exact fun w hw => (hw.le (by assumption)).dr) ?_
          refine Go.E.hx rfl ?_
          refine sv (yFA fld33_1 ti3 (by decide) rfl) rfl rfl ?_
          refine Go.E.hn (fun h => nomatch h) ?_
          refine Go.E.hx rfl ?_
          refine sStoreF (vs := [.int .i64 _]) (cs' := [.int .i64 _, .int .i64 _, .slice _ _ _]) ti3 rfl rfl rfl rfl rfl (.inl rfl) (Nat.le_of_ble_eq_true rfl) rfl rfl ?_
          refine Go.E.hn (fun h => nomatch h) ?_
          refine TQ.blk (TQ.sq ?_)
          refine TC.seq ?_
          refine TC.held (St c I ((b5, .cells ⟨[.int .i64 z, .int .i64 (y.n + 1), .slice ah hs.length ch]⟩ 33 (0, 0)) :: l)) 13 (.q 0 (.q 1 (.q 2 (.q 3 (.q 4 (.q 6 (.q 7 (.q 8 (.q 9 (.q 10 (.x 5 (.x 11 (.q 12 (.x 13 .done)))))))))))))) (fun _ _ h => h.drawn _) mixed rfl (by kernel_rfl) (by kernel_rfl) ?_
          refine Go.E.hq rfl (yMove (v := .pointer _) rfl) rfl rfl (by first | exact Wk.w | exact fun w hw => (hw.le (by assumption)).dr) ?_
          refine Go.E.hq rfl (yFA fld33_1 ti3 (by decide) rfl) rfl rfl (by first | exact Wk.w | exact fun w hw => (hw.le (by assumption)).dr) ?_
          refine Go.E.hq rfl (yLd1 ti3 rfl (by first | exact RdC.rd | exact rdI (by assumption)) rfl) rfl rfl (by first | exact Wk.w | exact fun w hw => (hw.le (by assumption)).dr) ?_
          refine Go.E.hq rfl (yFA fld33_2 ti27 (by decide) rfl) rfl rfl (by first | exact Wk.w | exact fun w hw => (hw.le (by assumption)).dr) ?_
          refine Go.E.hq rfl (yLd1 ti27 rfl (by first | exact RdC.rd | exact rdI (by assumption)) rfl) rfl rfl (by first | exact Wk.w | exact fun w hw => (hw.le (by assumption)).dr) ?_
          refine Go.E.hq rfl (yMove (v := .pointer _) rfl) rfl rfl (by first | exact Wk.w | exact fun w hw => (hw.le (by assumption)).dr) ?_
          refine Go.E.hq rfl (yFA fld33_1 ti3 (by decide) rfl) rfl rfl (by first | exact Wk.w | exact fun w hw => (hw.le (by assumption)).dr) ?_
          refine Go.E.hq rfl (yLd1 ti3 rfl (by first | exact RdC.rd | exact rdI (by assumption)) rfl) rfl rfl (by first | exact Wk.w | exact fun w hw => (hw.le (by assumption)).dr) ?_
          refine Go.E.hq rfl (yFA fld33_2 ti27 (by decide) rfl) rfl rfl (by first | exact Wk.w | exact fun w hw => (hw.le (by assumption)).dr) ?_
          refine Go.E.hq rfl (yLd1 ti27 rfl (by first | exact RdC.rd | exact rdI (by assumption)) rfl) rfl rfl (by first | exact Wk.w | exact fun w hw => (hw.le (by assumption)).dr) ?_
          refine Go.E.hx rfl ?_
          refine sCallG [md, [(pb, ob)]] (AddL _ pb _ ah ch hs hL hB (RA.sa hh) (by omega)) rfl rfl (fun v50 w hw => ?_)
          obtain ⟨J, ob2, hJ, rfl, hL2, hw⟩ := hw
          try simp only [catL, List.append_eq, List.nil_append] at hw
          refine TL.wl ?_ hw
          refine Go.E.hn (fun _ => by exact (by first | exact Wk.w | exact fun w hw => (hw.le (by assumption)).dr)) ?_
          refine Go.E.hx rfl ?_
          refine sCallG [[(px, (bkO 29 b1 (List.length ys) e1 b2 dead.length e2))]] (AddR _ px _ ah ch hs (hR.le hJ) hB (hh.le hJ) (by omega)) rfl rfl (fun v56 w hw => ?_)
          obtain ⟨J2, ox2, hJ2, rfl, hR2, hw⟩ := hw
          try simp only [catL, List.append_eq, List.nil_append] at hw
          have hJ3 := hJ.trans hJ2
          refine TL.wl ?_ hw
          refine Go.E.hn (fun _ => by exact (by first | exact Wk.w | exact fun w hw => (hw.le (by assumption)).dr)) ?_
          refine Go.E.hq rfl (yEqT rfl rfl rfl) rfl rfl (by first | exact Wk.w | exact fun w hw => (hw.le (by assumption)).dr) ?_
          refine Go.E.hx rfl ?_
          refine sv (yAsgn (v := .bool _) rfl) rfl rfl ?_
          refine Go.E.hn (fun h => nomatch h) ?_
          refine TQ.sq ?_
          refine TC.ret ?_
          refine TQ.post (v := .bool _) rfl ?_
          exact fun w hw => ⟨rfl, J2, _, dead, md, ob2, ox2, hJ3, hL2.le hJ2, hR2, hB.addI _ hs, hw.dr⟩
        ·
          refine QL.nil ?_
          refine TQ.sq ?_
          refine TC.condF rfl ?_
          refine TC.skip (TQ.blk (TQ.sq ?_))
          refine TC.seq ?_
          refine TC.held (St c I ((b5, .cells ⟨[.int .i64 z, .int .i64 1, .slice ah hs.length ch]⟩ 33 (0, 0)) :: l)) 13 (.q 0 (.q 1 (.q 2 (.q 3 (.q 4 (.q 6 (.q 7 (.q 8 (.q 9 (.q 10 (.x 5 (.x 11 (.q 12 (.x 13 .done)))))))))))))) (fun _ _ h => h.drawn _) mixed rfl (by kernel_rfl) (by kernel_rfl) ?_
          refine Go.E.hq rfl (yMove (v := .pointer _) rfl) rfl rfl (by first | exact Wk.w | exact fun w hw => (hw.le (by assumption)).dr) ?_
          refine Go.E.hq rfl (yFA fld33_1 ti3 (by decide) rfl) rfl rfl (by first | exact Wk.w | exact fun w hw => (hw.le (by assumption)).dr) ?_
          refine Go.E.hq rfl (yLd1 ti3 rfl (by first | exact RdC.rd | exact rdI (by assumption)) rfl) rfl rfl (by first | exact Wk.w | exact fun w hw => (hw.le (by assumption)).dr) ?_
          refine Go.E.hq rfl (yFA fld33_2 ti27 (by decide) rfl) rfl rfl (by first | exact Wk.w | exact fun w hw => (hw.le (by assumption)).dr) ?_
          refine Go.E.hq rfl (yLd1 ti27 rfl (by first | exact RdC.rd | exact rdI (by assumption)) rfl) rfl rfl (by first | exact Wk.w | exact fun w hw => (hw.le (by assumption)).dr) ?_
          refine Go.E.hq rfl (yMove (v := .pointer _) rfl) rfl rfl (by first | exact Wk.w | exact fun w hw => (hw.le (by assumption)).dr) ?_
          refine Go.E.hq rfl (yFA fld33_1 ti3 (by decide) rfl) rfl rfl (by first | exact Wk.w | exact fun w hw => (hw.le (by assumption)).dr) ?_
          refine Go.E.hq rfl (yLd1 ti3 rfl (by first | exact RdC.rd | exact rdI (by assumption)) rfl) rfl rfl (by first | exact Wk.w | exact fun w hw => (hw.le (by assumption)).dr) ?_
          refine Go.E.hq rfl (yFA fld33_2 ti27 (by decide) rfl) rfl rfl (by first | exact Wk.w | exact fun w hw => (hw.le (by assumption)).dr) ?_
          refine Go.E.hq rfl (yLd1 ti27 rfl (by first | exact RdC.rd | exact rdI (by assumption)) rfl) rfl rfl (by first | exact Wk.w | exact fun w hw => (hw.le (by assumption)).dr) ?_
          refine Go.E.hx rfl ?_
          refine sCallG [md, [(pb, ob)]] (AddL _ pb _ ah ch hs hL hB (RA.sa hh) (by omega)) rfl rfl (fun v50 w hw => ?_)
          obtain ⟨J, ob2, hJ, rfl, hL2, hw⟩ := hw
          try simp only [catL, List.append_eq, List.nil_append] at hw
          refine TL.wl ?_ hw
          refine Go.E.hn (fun _ => by exact (by first | exact Wk.w | exact fun w hw => (hw.le (by assumption)).dr)) ?_
          refine Go.E.hx rfl ?_
          refine sCallG [[(px, (bkO 29 b1 (List.length ys) e1 b2 dead.length e2))]] (AddR _ px _ ah ch hs (hR.le hJ) hB (hh.le hJ) (by omega)) rfl rfl (fun v56 w hw => ?_)
          obtain ⟨J2, ox2, hJ2, rfl, hR2, hw⟩ := hw
          try simp only [catL, List.append_eq, List.nil_append] at hw
          have hJ3 := hJ.trans hJ2
          refine TL.wl ?_ hw
          refine Go.E.hn (fun _ => by exact (by first | exact Wk.w | exact fun w hw => (hw.le (by assumption)).dr)) ?_
          refine Go.E.hq rfl (yEqT rfl rfl rfl) rfl rfl (by first | exact Wk.w | exact fun w hw => (hw.le (by assumption)).dr) ?_
          refine Go.E.hx rfl ?_
          refine sv (yAsgn (v := .bool _) rfl) rfl rfl ?_
          refine Go.E.hn (fun h => nomatch h) ?_
          refine TQ.sq ?_
          refine TC.ret ?_
          refine TQ.post (v := .bool _) rfl ?_
          exact fun w hw => ⟨rfl, J2, _, dead, md, ob2, ox2, hJ3, hL2.le hJ2, hR2, hB.addI _ hs, hw.dr⟩
      ·
        refine qv (yAsgn (v := .bool _) rfl) rfl rfl ?_
        refine QL.nil ?_
        refine TQ.sq ?_
        refine TC.condF rfl ?_
        refine TC.skip (TQ.blk (TQ.sq ?_))
        refine TC.seq ?_
        refine TC.held (St c I ((b5, .cells ⟨[.int .i64 z, .int .i64 n, .slice ah hs.length ch]⟩ 33 (0, 0)) :: l)) 13 (.q 0 (.q 1 (.q 2 (.q 3 (.q 4 (.q 6 (.q 7 (.q 8 (.q 9 (.q 10 (.x 5 (.x 11 (.q 12 (.x 13 .done)))))))))))))) (fun _ _ h => h.drawn _) mixed rfl (by kernel_rfl) (by kernel_rfl) ?_
        refine Go.E.hq rfl (yMove (v := .pointer _) rfl) rfl rfl (by first | exact Wk.w | exact fun w hw => (hw.le (by assumption)).dr) ?_
        refine Go.E.hq rfl (yFA fld33_1 ti3 (by decide) rfl) rfl rfl (by first | exact Wk.w | exact fun w hw => (hw.le (by assumption)).dr) ?_
        refine Go.E.hq rfl (yLd1 ti3 rfl (by first | exact RdC.rd | exact rdI (by assumption)) rfl) rfl rfl (by first | exact Wk.w | exact fun w hw => (hw.le (by assumption)).dr) ?_
        refine Go.E.hq rfl (yFA fld33_2 ti27 (by decide) rfl) rfl rfl (by first | exact Wk.w | exact fun w hw => (hw.le (by assumption)).dr) ?_
        refine Go.E.hq rfl (yLd1 ti27 rfl (by first | exact RdC.rd | exact rdI (by assumption)) rfl) rfl rfl (by first | exact Wk.w | exact fun w hw => (hw.le (by assumption)).dr) ?_
        refine Go.E.hq rfl (yMove (v := .pointer _) rfl) rfl rfl (by first | exact Wk.w | exact fun w hw => (hw.le (by assumption)).dr) ?_
        refine Go.E.hq rfl (yFA fld33_1 ti3 (by decide) rfl) rfl rfl (by first | exact Wk.w | exact fun w hw => (hw.le (by assumption)).dr) ?_
        refine Go.E.hq rfl (yLd1 ti3 rfl (by first | exact RdC.rd | exact rdI (by assumption)) rfl) rfl rfl (by first | exact Wk.w | exact fun w hw => (hw.le (by assumption)).dr) ?_
        refine Go.E.hq rfl (yFA fld33_2 ti27 (by decide) rfl) rfl rfl (by first | exact Wk.w | exact fun w hw => (hw.le (by assumption)).dr) ?_
        refine Go.E.hq rfl (yLd1 ti27 rfl (by first | exact RdC.rd | exact rdI (by assumption)) rfl) rfl rfl (by first | exact Wk.w | exact fun w hw => (hw.le (by assumption)).dr) ?_
        refine Go.E.hx rfl ?_
        refine sCallG [md, [(pb, ob)]] (AddL _ pb _ ah ch hs hL hB (RA.sa hh) (by omega)) rfl rfl (fun v50 w hw => ?_)
        obtain ⟨J, ob2, hJ, rfl, hL2, hw⟩ := hw
        try simp only [catL, List.append_eq, List.nil_append] at hw
        refine TL.wl ?_ hw
        refine Go.E.hn (fun _ => by exact (by first | exact Wk.w | exact fun w hw => (hw.le (by assumption)).dr)) ?_
        refine Go.E.hx rfl ?_
        refine sCallG [[(px, (bkO 29 b1 (List.length ys) e1 b2 dead.length e2))]] (AddR _ px _ ah ch hs (hR.le hJ) hB (hh.le hJ) (by omega)) rfl rfl (fun v56 w hw => ?_)
        obtain ⟨J2, ox2, hJ2, rfl, hR2, hw⟩ := hw
        try simp only [catL, List.append_eq, List.nil_append] at hw
        have hJ3 := hJ.trans hJ2
        refine TL.wl ?_ hw
        refine Go.E.hn (fun _ => by exact (by first | exact Wk.w | exact fun w hw => (hw.le (by assumption)).dr)) ?_
        refine Go.E.hq rfl (yEqT rfl rfl rfl) rfl rfl (by first | exact Wk.w | exact fun w hw => (hw.le (by assumption)).dr) ?_
        refine Go.E.hx rfl ?_
        refine sv (yAsgn (v := .bool _) rfl) rfl rfl ?_
        refine Go.E.hn (fun h => nomatch h) ?_
        refine TQ.sq ?_
        refine TC.ret ?_
        refine TQ.post (v := .bool _) rfl ?_
        exact fun w hw => ⟨rfl, J2, _, dead, md, ob2, ox2, hJ3, hL2.le hJ2, hR2, hB.addI _ hs, hw.dr⟩
theorem same_ok (l : Ow) (pb px : Nat) {S : SS2} {dead : List Hd} {md : Ow} {ob ox : Obj} (hL : LBk I S dead md ob) (hR : RBk I S dead ox) (hB : BI S dead) :
    Ct Try.prog 11 [.pointer (some ⟨pb, 0, none⟩), .pointer (some ⟨px, 0, none⟩)] (St c I (md ++ (pb, ob) :: (px, ox) :: l)) fun v w => v = .bool true ∧ ∃ J, Le I J ∧ St c J (md ++ (pb, ob) :: (px, ox) :: l) w := by
  have hR0 := hR
  obtain ⟨b1, e1, ys, b2, e2, hox, hS2, he1, hd2, he2, hys⟩ := hR0
  subst hox
  have hSn := hS2.n
  refine Ct.enter (n := 80) Try.func11 rfl rfl rfl rfl rfl rfl ?_
  refine TC.seq ?_
  refine TC.quiet rfl ?_
  refine qv (yAsgn (v := .bool _) rfl) rfl rfl ?_
  refine QL.nil ?_
  refine TQ.sq ?_
  refine TC.seq ?_
  refine TC.region ?_
  refine sv (yMove (v := .pointer _) rfl) rfl rfl ?_
  refine sCallG [[(px, (bkO 29 b1 (List.length ys) e1 b2 dead.length e2))]] (HeldR _ px hR hB) rfl rfl (fun v13 w hw => ?_)
  obtain ⟨J, a5, c5, hJ, rfl, hr5, hw⟩ := hw
  try simp only [catL, List.append_eq, List.nil_append] at hw
  refine TL.wl ?_ hw
  refine sv (yAsgn (v := .slice _ _ _) rfl) rfl rfl ?_
  refine TL.nil ?_
  refine TQ.sq ?_
  refine TC.seq ?_
  refine TC.quiet rfl ?_
  refine qv (yAsgn (v := .slice _ _ _) rfl) rfl rfl ?_
  refine QL.nil ?_
  refine TQ.sq ?_
  refine TC.seq ?_
  refine TC.quiet rfl ?_
  refine qv (yAsgn (v := .int .i64 _) rfl) rfl rfl ?_
  refine QL.nil ?_
  refine TQ.sq ?_
  refine TC.seq ?_
  refine TC.seq ?_
  refine TC.quiet rfl ?_
  refine qv (yAsgn (v := .int .i64 _) rfl) rfl rfl ?_
  refine QL.nil ?_
  refine TQ.sq ?_
  refine TC.block ?_
  refine TC.loopL (ι := (Nat) × (Ow) × (Option Addr) × (Nat)) [6, 8, 14, 15, 16, 17, 18, 19, 20, 21, 22, 23, 24, 25, 26, 27, 28, 29, 30, 31, 32, 33] (fun ⟨k, m, a6, c6⟩ => [(8, .int .i64 (k : Int)), (6, .slice a6 ((ys.map (·.n)).take k).length c6)]) (fun ⟨k, m, a6, c6⟩ w => (k ≤ ys.length ∧ OA 3 encI 1 m a6 c6 ((ys.map (·.n)).take k)) ∧ St c J (m ++ (md ++ (pb, ob) :: (px, (bkO 29 b1 (List.length ys) e1 b2 dead.length e2)) :: l)) w) (fun ⟨k, m, a6, c6⟩ => ys.length - k) (0, [], none, 0) ⟨rfl, rfl, trivial⟩ (fun w hw => ⟨⟨by omega, OA.nil⟩, hw.dr⟩) ?_
  rintro g0 ⟨k, m, a6, c6⟩
  dsimp only
  refine TC.pure fun ⟨hk, ho⟩ => ?_
  refine TC.seq ?_
  refine TC.seq ?_
  refine TC.quiet rfl ?_
  refine qv (yMove (v := .int .i64 _) rfl) rfl rfl ?_
  refine qv (yMove (v := .pointer _) rfl) rfl rfl ?_
  refine qv (yNil rfl) rfl rfl ?_
  refine qv (yFA fld29_0 ti26 (by decide) rfl) rfl rfl ?_
  refine qv (yLd1 ti26 rfl (by first | exact RdC.rd | exact rdI (by assumption)) rfl) rfl rfl ?_
  refine qv (ySlLen ul26 rfl) rfl rfl ?_
  refine qcLt rfl rfl rfl rfl (fun h20 => ?_) (fun h20 => ?_)
  ·
    obtain ⟨y, hy⟩ := getSome (xs := ys) (k := k) (by omega)
    have htl : ((ys.map (·.n)).take k).length ≤ k := by simp; omega
    refine QL.nil ?_
    refine TQ.sq ?_
    refine TC.condT rfl ?_
    refine TC.skip (TQ.sq ?_)
    refine TC.seq ?_
    refine TC.block ?_
    refine TC.region ?_
    refine sv (yMove (v := .slice _ _ _) rfl) rfl rfl ?_
    refine sv (yMove (v := .pointer _) rfl) rfl rfl ?_
    refine sv (yNil rfl) rfl rfl ?_
    refine sv (yFA fld29_0 ti26 (by decide) rfl) rfl rfl ?_
    refine sv (yLd1 ti26 rfl (by first | exact RdC.rd | exact rdI (by assumption)) rfl) rfl rfl ?_
    refine sv (yMove (v := .int .i64 _) rfl) rfl rfl ?_
    refine sElF (v := .int .i64 _) ul26 ti66 fld66_0 ti3 (by decide) rfl (RA.sa (hS2.r.le hJ)) rfl (by omega) (by omega) (flat_cell (enc := encS) (k := 2) (fun _ => rfl) (by simpa using hy) (by decide) rfl) rfl rfl rfl (fun _ _ => ?_)
    refine sBuildSl (vs := [.int .i64 _]) ul50 ti3 rfl rfl rfl rfl (fun b32 => ?_)
    refine sAppA1F (enc := encI) (y.n) ul50 ul50 ti3 rfl rfl ho rfl rfl (fun _ => rfl) (by omega) (by omega) rfl (fun m2 a7 c7 ho2 => ?_)
    refine sv (yAsgn (v := .slice _ _ _) rfl) rfl rfl ?_
    refine TL.nil ?_
    refine TQ.blk (TQ.sq ?_)
    refine TC.quiet rfl ?_
    refine qv (yMove (v := .int .i64 _) rfl) rfl rfl ?_
    refine qv (yAdd rfl rfl (by omega)) rfl rfl ?_
    refine qv (yAsgn (v := .int .i64 _) rfl) rfl rfl ?_
    refine QL.nil ?_
    refine TQ.lpL (k + 1, m2, a7, c7) (by first | omega | (dsimp only; omega)) (by repeat (first | exact OffL.refl | refine OffL.updO rfl ?_ | refine OffL.upd rfl ?_ | refine OffL.updL rfl ?_ | refine OffL.mask rfl ?_)) ⟨rfl, (by rw [take_snoc (map_at SX.n hy)]; rfl), trivial⟩ (fun w hw => ⟨⟨by omega, by rw [take_snoc (map_at SX.n hy)]; exact ho2⟩, hw.dr⟩)
  ·
    obtain rfl : k = ys.length := by omega
    have hyn : (ys.map (·.n)).take ys.length = S.map (·.1) := by rw [List.take_of_length_le (by simp), ← hys, List.map_map]; rfl
    rw [hyn] at ho
    rw [hyn]
    have hHl := hB.few
    refine QL.nil ?_
    refine TQ.sq ?_
    refine TC.condF rfl ?_
    refine TC.exit (TQ.sqX (TQ.lpLX (TQ.blkX (TQ.sq ?_))))
    refine TC.seq ?_
    refine TC.seq ?_
    refine TC.quiet rfl ?_
    refine qv (yAsgn (v := .int .i64 _) rfl) rfl rfl ?_
    refine QL.nil ?_
    refine TQ.sq ?_
    refine TC.block ?_
    refine TC.loopL (ι := (Nat)) [7, 9, 34, 35, 36, 37, 38, 39, 40, 41, 42, 43, 44, 45, 46] (fun k => [(9, .int .i64 (k : Int)), (7, .int .i64 (((heldA S dead).take k).map (·.2)).sum)]) (fun k w => (k ≤ (heldA S dead).length) ∧ St c J (m ++ (md ++ (pb, ob) :: (px, (bkO 29 b1 (List.length ys) e1 b2 dead.length e2)) :: l)) w) (fun k => (heldA S dead).length - k) 0 ⟨rfl, rfl, trivial⟩ (fun w hw => ⟨by omega, hw⟩) ?_
    rintro g1 k
    dsimp only
    refine TC.pure fun hk2 => ?_
    refine TC.seq ?_
    refine TC.seq ?_
    refine TC.quiet rfl ?_
    refine qv (yMove (v := .int .i64 _) rfl) rfl rfl ?_
    refine qv (yMove (v := .slice _ _ _) rfl) rfl rfl ?_
    refine qv (ySlLen ul27 rfl) rfl rfl ?_
    refine qcLt rfl rfl rfl rfl (fun h37 => ?_) (fun h37 => ?_)
    ·
      obtain ⟨u, hu⟩ := getSome (xs := (heldA S dead)) (k := k) (by omega)
      have hou := okH_i (hB.hok (getMem hu))
      have hsb := sum_bound (hs := (heldA S dead).take k) (fun x hx => hB.hok (List.mem_of_mem_take hx))
      have htl : ((heldA S dead).take k).length ≤ k := by simp; omega
      refine QL.nil ?_
      refine TQ.sq ?_
      refine TC.condT rfl ?_
      refine TC.skip (TQ.sq ?_)
      refine TC.seq ?_
      refine TC.block ?_
      refine TC.quiet rfl ?_
      refine qv (yMove (v := .int .i64 _) rfl) rfl rfl ?_
      refine qv (yMove (v := .slice _ _ _) rfl) rfl rfl ?_
      refine qv (yMove (v := .int .i64 _) rfl) rfl rfl ?_
      refine qElF (v := .int .i64 _) ul27 ti49 fld49_1 ti3 (by decide) rfl (RA.sa hr5) rfl (by omega) (by omega) (flat_cell (enc := encH) (k := 2) (fun _ => rfl) (by simpa using hu) (by decide) rfl) rfl (fun _ => rfl) (fun _ _ => rfl) rfl rfl rfl (fun _ _ => ?_)
      refine qv (yAdd rfl rfl (by omega)) rfl rfl ?_
      refine qv (yAsgn (v := .int .i64 _) rfl) rfl rfl ?_
      refine QL.nil ?_
      refine TQ.blk (TQ.sq ?_)
      refine TC.quiet rfl ?_
      refine qv (yMove (v := .int .i64 _) rfl) rfl rfl ?_
      refine qv (yAdd rfl rfl (by omega)) rfl rfl ?_
      refine qv (yAsgn (v := .int .i64 _) rfl) rfl rfl ?_
      refine QL.nil ?_
      refine TQ.lpL (k + 1) (by first | omega | (dsimp only; omega)) (by repeat (first | exact OffL.refl | refine OffL.updO rfl ?_ | refine OffL.upd rfl ?_ | refine OffL.updL rfl ?_ | refine OffL.mask rfl ?_)) ⟨rfl, (by rw [sumTake hu]; rfl), trivial⟩ (fun w hw => ⟨by omega, hw.dr⟩)
    ·
      obtain rfl : k = (heldA S dead).length := by omega
      rw [List.take_length]
      refine QL.nil ?_
      refine TQ.sq ?_
      refine TC.condF rfl ?_
      refine TC.exit (TQ.sqX (TQ.lpLX (TQ.blkX (TQ.sq ?_))))
      refine TC.seq ?_
      refine TC.region ?_
      refine sv (yMove (v := .pointer _) rfl) rfl rfl ?_
      refine sCallG [md, [(pb, ob)]] (UsedL _ pb (hL.le hJ) hB) rfl rfl (fun v49 w hw => ?_)
      obtain ⟨rfl, hw⟩ := hw
      try simp only [catL, List.append_eq, List.nil_append] at hw
      refine TL.wl ?_ hw
      refine sv (yMove (v := .tuple _) rfl) rfl rfl ?_
      refine sv (yExt rfl rfl) rfl rfl ?_
      refine sv (yExt rfl rfl) rfl rfl ?_
      refine sv (yAsgn (v := .int .i64 _) rfl) rfl rfl ?_
      refine sv (yAsgn (v := .int .i64 _) rfl) rfl rfl ?_
      refine TL.nil ?_
      refine TQ.sq ?_
      refine TC.seq ?_
      refine TC.region ?_
      refine sv (yMove (v := .pointer _) rfl) rfl rfl ?_
      refine sCallG [md, [(pb, ob)]] (HeldL _ pb (hL.le hJ) hB) rfl rfl (fun v53 w hw => ?_)
      obtain ⟨m7, a7, c7, rfl, o7, hw⟩ := hw
      try simp only [catL, List.append_eq, List.nil_append] at hw
      refine TL.wl ?_ hw
      refine sv (yMove (v := .slice _ _ _) rfl) rfl rfl ?_
      refine sCall (SameT (fun _ _ h => h.drawn _) a7 a5 c7 c5 (heldA S dead) (OA.fm o7) (RA.sa hr5) (by omega)) rfl rfl (fun v55 w hw => ?_)
      obtain ⟨rfl, hw⟩ := hw
      refine TL.wl ?_ hw
      refine sv (yMove (v := .bool _) rfl) rfl rfl ?_
      refine sg (yMove (v := .int .i64 _) rfl) rfl (.inl ⟨_, _, rfl, rfl, rfl⟩) rfl ?_
      refine sg (yMove (v := .slice _ _ _) rfl) rfl (.inl ⟨_, _, rfl, rfl, rfl⟩) rfl ?_
      refine sg (ySlLen ul27 rfl) rfl (.inl ⟨_, _, rfl, rfl, rfl⟩) rfl ?_
      refine sgcEqT rfl rfl rfl rfl (.inl ⟨_, _, rfl, rfl, rfl⟩) rfl ?_
      refine sv (yPickT rfl rfl) rfl rfl ?_
      refine sv (yMove (v := .bool _) rfl) rfl rfl ?_
      refine sg (yMove (v := .int .i64 _) rfl) rfl (.inl ⟨_, _, rfl, rfl, rfl⟩) rfl ?_
      refine sg (yMove (v := .int .i64 _) rfl) rfl (.inl ⟨_, _, rfl, rfl, rfl⟩) rfl ?_
      refine sgcEqT rfl rfl rfl rfl (.inl ⟨_, _, rfl, rfl, rfl⟩) rfl ?_
      refine sv (yPickT rfl rfl) rfl rfl ?_
      refine sv (yMove (v := .bool _) rfl) rfl rfl ?_
      refine sg (yMove (v := .pointer _) rfl) rfl (.inl ⟨_, _, rfl, rfl, rfl⟩) rfl ?_
      refine TL.ung rfl (.inl ⟨_, _, rfl, rfl, rfl⟩) ?_
      refine sCallG [md, [(pb, ob)]] (StatesL _ pb (hL.le hJ)) rfl rfl (fun v69 w hw => ?_)
      obtain ⟨m8, a8, c8, rfl, o8, hw⟩ := hw
      try simp only [catL, List.append_eq, List.nil_append] at hw
      refine TL.wl ?_ hw
      refine sg (yMove (v := .slice _ _ _) rfl) rfl (.inl ⟨_, _, rfl, rfl, rfl⟩) rfl ?_
      refine TL.ung rfl (.inl ⟨_, _, rfl, rfl, rfl⟩) ?_
      refine sCall (IntsT (fun _ _ h => h.drawn _) a8 a6 c8 c6 (S.map (·.1)) (OA.fm o8) (OA.fm ho) (by have := hB.len; simp; omega)) rfl rfl (fun v71 w hw => ?_)
      obtain ⟨rfl, hw⟩ := hw
      refine TL.wl ?_ hw
      refine sv (yPickT rfl rfl) rfl rfl ?_
      refine sv (yMove (v := .bool _) rfl) rfl rfl ?_
      refine sg (yMove (v := .pointer _) rfl) rfl (.inl ⟨_, _, rfl, rfl, rfl⟩) rfl ?_
      refine TL.ung rfl (.inl ⟨_, _, rfl, rfl, rfl⟩) ?_
      refine sCallG [md, [(pb, ob)]] (BytesL _ pb (hL.le hJ) hB) rfl rfl (fun v75 w hw => ?_)
      obtain ⟨rfl, hw⟩ := hw
      try simp only [catL, List.append_eq, List.nil_append] at hw
      refine TL.wl ?_ hw
      refine sg (yMove (v := .pointer _) rfl) rfl (.inl ⟨_, _, rfl, rfl, rfl⟩) rfl ?_
      refine TL.ung rfl (.inl ⟨_, _, rfl, rfl, rfl⟩) ?_
      refine sCallG [[(px, (bkO 29 b1 (List.length ys) e1 b2 dead.length e2))]] (BytesR _ px (hR.le hJ) hB) rfl rfl (fun v77 w hw => ?_)
      obtain ⟨rfl, hw⟩ := hw
      try simp only [catL, List.append_eq, List.nil_append] at hw
      refine TL.wl ?_ hw
      refine sgcSEqT rfl rfl rfl rfl (.inl ⟨_, _, rfl, rfl, rfl⟩) rfl ?_
      refine sv (yPickT rfl rfl) rfl rfl ?_
      refine sv (yAsgn (v := .bool _) rfl) rfl rfl ?_
      refine TL.nil ?_
      refine TQ.sq ?_
      refine TC.ret ?_
      refine TQ.post (v := .bool _) rfl ?_
      exact fun w hw => ⟨rfl, J, hJ, hw.dr⟩
theorem awake_ok (l : Ow) : Ct Try.prog 6 [] (St c I l) fun v w => v = .bool true ∧ ∃ J, Le I J ∧ St c J l w := by
  refine Ct.enter (n := 56) Try.func6 rfl rfl rfl rfl rfl rfl ?_
  refine TC.seq ?_
  refine TC.quiet rfl ?_
  refine qv (yAsgn (v := .bool _) rfl) rfl rfl ?_
  refine QL.nil ?_
  refine TQ.sq ?_
  refine TC.seq ?_
  refine TC.region ?_
  refine sCall (New_ok l) rfl rfl (fun v6 w hw => ?_)
  obtain ⟨p, rfl, hw⟩ := hw
  refine TL.wl ?_ hw
  refine sv (yAsgn (v := .pointer _) rfl) rfl rfl ?_
  refine TL.nil ?_
  refine TQ.sq ?_
  refine TC.seq ?_
  refine TC.seq ?_
  refine TC.region ?_
  refine sv (yMove (v := .pointer _) rfl) rfl rfl ?_
  refine sv (yPNil ul23 rfl rfl) rfl rfl ?_
  refine sv (yMove (v := .bool _) rfl) rfl rfl ?_
  refine sg (yMove (v := .pointer _) rfl) rfl (.inl ⟨_, _, rfl, rfl, rfl⟩) rfl ?_
  refine sg (yBuild (vs := [.int .i64 _, .int .i64 _]) ti49 pl49 rfl) rfl (.inl ⟨_, _, rfl, rfl, rfl⟩) rfl ?_
  refine sg (yBuild (vs := [.int .i64 _, .int .i64 _]) ti49 pl49 rfl) rfl (.inl ⟨_, _, rfl, rfl, rfl⟩) rfl ?_
  refine TL.ung rfl (.inl ⟨_, _, rfl, rfl, rfl⟩) ?_
  refine sBuildSl (vs := [.int .i64 _, .int .i64 _, .int .i64 _, .int .i64 _]) ul27 ti49 rfl rfl rfl rfl (fun b13 => ?_)
  refine TL.ung rfl (.inl ⟨_, _, rfl, rfl, rfl⟩) ?_
  refine sCallG [[], [(p, (bkO 46 none 0 0 none 0 0))]] (AddL _ p 1 (some ⟨b13, 0, none⟩) 2 W1 LBk.new BI.nil (slr0 (n := 2) (k := 2) rfl) (by decide)) rfl rfl (fun v14 w hw => ?_)
  obtain ⟨J, ob2, hJ, hv, hL2, hw⟩ := hw
  try simp only [catL, List.append_eq, List.nil_append] at hw
  rw [aw1] at hv hL2
  rw [if_pos rfl] at hL2
  subst hv
  refine TL.wl ?_ hw
  refine sgcNeF rfl rfl (by omega) rfl (.inl ⟨_, _, rfl, rfl, rfl⟩) rfl ?_
  refine sv (yPickF rfl rfl) rfl rfl ?_
  refine sv (yMove (v := .bool _) rfl) rfl rfl ?_
  refine sg (yMove (v := .pointer _) rfl) rfl (.inl ⟨_, _, rfl, rfl, rfl⟩) rfl ?_
  refine sg (yBuild (vs := [.int .i64 _, .int .i64 _]) ti49 pl49 rfl) rfl (.inl ⟨_, _, rfl, rfl, rfl⟩) rfl ?_
  refine sg (yBuild (vs := [.int .i64 _, .int .i64 _]) ti49 pl49 rfl) rfl (.inl ⟨_, _, rfl, rfl, rfl⟩) rfl ?_
  refine TL.ung rfl (.inl ⟨_, _, rfl, rfl, rfl⟩) ?_
  refine sBuildSl (vs := [.int .i64 _, .int .i64 _, .int .i64 _, .int .i64 _]) ul27 ti49 rfl rfl rfl rfl (fun b21 => ?_)
  refine TL.ung rfl (.inl ⟨_, _, rfl, rfl, rfl⟩) ?_
  refine sCallG [[], [(p, ob2)]] (AddL _ p 2 (some ⟨b21, 0, none⟩) 2 W2 (S := [(1, W1)]) hL2 awB1 (slr0 (n := 2) (k := 2) rfl) (by decide)) rfl rfl (fun v22 w hw => ?_)
  obtain ⟨J2, ob3, hJ2, hv, hL3, hw⟩ := hw
  try simp only [catL, List.append_eq, List.nil_append] at hw
  rw [aw2] at hv hL3
  rw [if_pos rfl] at hL3
  subst hv
  refine TL.wl ?_ hw
  refine sgcNeF rfl rfl (by omega) rfl (.inl ⟨_, _, rfl, rfl, rfl⟩) rfl ?_
  refine sv (yPickF rfl rfl) rfl rfl ?_
  refine TL.nil ?_
  refine TQ.sq ?_
  refine TC.condF rfl ?_
  refine TC.skip (TQ.sq ?_)
  refine TC.seq ?_
  refine TC.region ?_
  refine sv (yMove (v := .pointer _) rfl) rfl rfl ?_
  refine sCallG [[], [(p, ob3)]] (PruneL _ p 1 (S := WS2) hL3 awB2) rfl rfl (fun v26 w hw => ?_)
  obtain ⟨J3, ob4, md4, mo, ao, co, hJ3, hv, oo, hL4, hw⟩ := hw
  try simp only [catL, List.append_eq, List.nil_append] at hw
  rw [aw6] at hv oo
  rw [aw3] at hL4
  subst hv
  refine TL.wl ?_ hw
  refine sv (yAsgn (v := .slice _ _ _) rfl) rfl rfl ?_
  refine TL.nil ?_
  refine TQ.sq ?_
  refine TC.seq ?_
  refine TC.region ?_
  refine sv (yMove (v := .pointer _) rfl) rfl rfl ?_
  refine sCallG [md4, [(p, ob4)]] (UsedL _ p (S := WS2) (dead := []) hL4 awB2) rfl rfl (fun v29 w hw => ?_)
  obtain ⟨hv, hw⟩ := hw
  try simp only [catL, List.append_eq, List.nil_append] at hw
  rw [aw5.1, aw5.2] at hv
  subst hv
  refine TL.wl ?_ hw
  refine sv (yMove (v := .tuple _) rfl) rfl rfl ?_
  refine sv (yExt rfl rfl) rfl rfl ?_
  refine sv (yExt rfl rfl) rfl rfl ?_
  refine sv (yAsgn (v := .int .i64 _) rfl) rfl rfl ?_
  refine sv (yAsgn (v := .int .i64 _) rfl) rfl rfl ?_
  refine TL.nil ?_
  refine TQ.sq ?_
  refine TC.seq ?_
  refine TC.region ?_
  refine sv (yMove (v := .pointer _) rfl) rfl rfl ?_
  refine sCallG [md4, [(p, ob4)]] (PruneL _ p 2 (S := WS2) (dead := []) hL4 awB2) rfl rfl (fun v33 w hw => ?_)
  obtain ⟨J5, ob5, md5, mo5, ao5, co5, hJ5, hv, oo5, hL5, hw⟩ := hw
  try simp only [catL, List.append_eq, List.nil_append] at hw
  rw [aw7] at hv oo5
  rw [aw4] at hL5
  subst hv
  refine TL.wl ?_ hw
  refine sv (yAsgn (v := .slice _ _ _) rfl) rfl rfl ?_
  refine TL.nil ?_
  refine TQ.sq ?_
  refine TC.seq ?_
  refine TC.region ?_
  refine sv (yMove (v := .slice _ _ _) rfl) rfl rfl ?_
  refine sv (ySlLen ul50 rfl) rfl rfl ?_
  refine scEqT rfl rfl rfl rfl rfl ?_
  refine sv (yMove (v := .bool _) rfl) rfl rfl ?_
  refine sg (yMove (v := .int .i64 _) rfl) rfl (.inl ⟨_, _, rfl, rfl, rfl⟩) rfl ?_
  refine sgcEqT rfl rfl rfl rfl (.inl ⟨_, _, rfl, rfl, rfl⟩) rfl ?_
  refine sv (yPickT rfl rfl) rfl rfl ?_
  refine sv (yMove (v := .bool _) rfl) rfl rfl ?_
  refine sg (yMove (v := .int .i64 _) rfl) rfl (.inl ⟨_, _, rfl, rfl, rfl⟩) rfl ?_
  refine sgcEqT rfl rfl rfl rfl (.inl ⟨_, _, rfl, rfl, rfl⟩) rfl ?_
  refine sv (yPickT rfl rfl) rfl rfl ?_
  refine sv (yMove (v := .bool _) rfl) rfl rfl ?_
  refine sg (yMove (v := .slice _ _ _) rfl) rfl (.inl ⟨_, _, rfl, rfl, rfl⟩) rfl ?_
  refine TL.ung rfl (.inl ⟨_, _, rfl, rfl, rfl⟩) ?_
  refine sBuildSl (vs := [.int .i64 _]) ul50 ti3 rfl rfl rfl rfl (fun b47 => ?_)
  refine TL.ung rfl (.inl ⟨_, _, rfl, rfl, rfl⟩) ?_
  refine sCall (IntsT (fun _ _ h => h.drawn _) ao5 (some ⟨b47, 0, none⟩) co5 1 [1] (OA.fm oo5) (slr0 (n := 1) (k := 1) rfl) (by decide)) rfl rfl (fun v48 w hw => ?_)
  obtain ⟨rfl, hw⟩ := hw
  refine TL.wl ?_ hw
  refine sv (yPickT rfl rfl) rfl rfl ?_
  refine sv (yMove (v := .bool _) rfl) rfl rfl ?_
  refine sg (yMove (v := .pointer _) rfl) rfl (.inl ⟨_, _, rfl, rfl, rfl⟩) rfl ?_
  refine TL.ung rfl (.inl ⟨_, _, rfl, rfl, rfl⟩) ?_
  refine sCallG [md5, [(p, ob5)]] (StatesL _ p (S := [(2, W2)]) (dead := []) hL5) rfl rfl (fun v52 w hw => ?_)
  obtain ⟨m8, a8, c8, rfl, o8, hw⟩ := hw
  try simp only [catL, List.append_eq, List.nil_append] at hw
  refine TL.wl ?_ hw
  refine TL.ung rfl (.inl ⟨_, _, rfl, rfl, rfl⟩) ?_
  refine sBuildSl (vs := [.int .i64 _]) ul50 ti3 rfl rfl rfl rfl (fun b53 => ?_)
  refine TL.ung rfl (.inl ⟨_, _, rfl, rfl, rfl⟩) ?_
  refine sCall (IntsT (fun _ _ h => h.drawn _) a8 (some ⟨b53, 0, none⟩) c8 1 [2] (OA.fm o8) (slr0 (n := 1) (k := 1) rfl) (by decide)) rfl rfl (fun v54 w hw => ?_)
  obtain ⟨rfl, hw⟩ := hw
  refine TL.wl ?_ hw
  refine sv (yPickT rfl rfl) rfl rfl ?_
  refine sv (yAsgn (v := .bool _) rfl) rfl rfl ?_
  refine TL.nil ?_
  refine TQ.sq ?_
  refine TC.ret ?_
  refine TQ.post (v := .bool _) rfl ?_
  exact fun w hw => ⟨rfl, J5, hJ.trans (hJ2.trans (hJ3.trans hJ5)), hw.dr⟩
theorem ReadLno (l : Ow) (s : List UInt8) (hs : s.length ≤ 1000000000000) (h0 : (readS s).1 ≠ 0) : Ct Try.prog 8 [str s] (St c I l) fun v w => ∃ J, Le I J ∧ v = .tuple ⟨[.pointer none, .int .i64 (readS s).1]⟩ ∧ St c J l w :=
  Ct.imp (ReadL l s hs) fun v w ⟨J, hJ, h⟩ => h.elim (fun ⟨_, hv, hw⟩ => ⟨J, hJ, hv, hw⟩) fun ⟨h1, _⟩ => absurd h1 h0
theorem ReadRno (l : Ow) (s : List UInt8) (hs : s.length ≤ 1000000000000) (h0 : (readS s).1 ≠ 0) : Ct Try.prog 12 [str s] (St c I l) fun v w => ∃ J, Le I J ∧ v = .tuple ⟨[.pointer none, .int .i64 (readS s).1]⟩ ∧ St c J l w :=
  Ct.imp (ReadR l s hs) fun v w ⟨J, hJ, h⟩ => h.elim (fun ⟨_, hv, hw⟩ => ⟨J, hJ, hv, hw⟩) fun ⟨h1, _⟩ => absurd h1 h0
theorem ReadLok (l : Ow) (s : List UInt8) (hs : s.length ≤ 1000000000000) (h0 : (readS s).1 = 0) : Ct Try.prog 8 [str s] (St c I l) fun v w => ∃ J p md ob, Le I J ∧ v = .tuple ⟨[.pointer (some ⟨p, 0, none⟩), .int .i64 0]⟩ ∧ LBk J (readS s).2.1 (readS s).2.2 md ob ∧ St c J (md ++ (p, ob) :: l) w :=
  Ct.imp (ReadL l s hs) fun v w ⟨J, hJ, h⟩ => h.elim (fun ⟨h1, _⟩ => absurd h0 h1) fun ⟨_, p, md, ob, hv, hL, hw⟩ => ⟨J, p, md, ob, hJ, hv, hL, hw⟩
theorem ReadRok (l : Ow) (s : List UInt8) (hs : s.length ≤ 1000000000000) (h0 : (readS s).1 = 0) : Ct Try.prog 12 [str s] (St c I l) fun v w => ∃ J p ox, Le I J ∧ v = .tuple ⟨[.pointer (some ⟨p, 0, none⟩), .int .i64 0]⟩ ∧ RBk J (readS s).2.1 (readS s).2.2 ox ∧ St c J ((p, ox) :: l) w :=
  Ct.imp (ReadR l s hs) fun v w ⟨J, hJ, h⟩ => h.elim (fun ⟨h1, _⟩ => absurd h0 h1) fun ⟨_, p, ox, hv, hR, hw⟩ => ⟨J, p, ox, hJ, hv, hR, hw⟩
theorem PruneReads_ok (l : Ow) (s : List UInt8) : Ct Try.prog 4 [str s] (St c I l) fun v w => v = .bool true ∧ ∃ J, Le I J ∧ St c J l w := by
  by_cases h9 : (6000 : Int) < s.length
  ·
    refine Ct.enter (n := 48) Try.func4 rfl rfl rfl rfl rfl rfl ?_
    refine TC.seq ?_
    refine TC.quiet rfl ?_
    refine qv (yAsgn (v := .bool _) rfl) rfl rfl ?_
    refine QL.nil ?_
    refine TQ.sq ?_
    refine TC.seq ?_
    refine TC.seq ?_
    refine TC.quiet rfl ?_
    refine qv (yMove (v := str _) rfl) rfl rfl ?_
    refine qv (yStrLen ul9 rfl) rfl rfl ?_
    refine qcGtT rfl rfl (by omega) rfl rfl ?_
    refine QL.nil ?_
    refine TQ.sq ?_
    refine TC.condT rfl ?_
    refine TC.seq ?_
    refine TC.region ?_
    refine sCall (awake_ok _) rfl rfl (fun v10 w hw => ?_)
    obtain ⟨rfl, J, hJ, hw⟩ := hw
    refine TL.wl ?_ hw
    refine sv (yAsgn (v := .bool _) rfl) rfl rfl ?_
    refine TL.nil ?_
    refine TQ.sq ?_
    refine TC.ret (TQ.sqR ?_)
    refine TQ.post (v := .bool _) rfl ?_
    exact fun w hw => ⟨rfl, J, hJ, hw.dr⟩
  have hs : s.length ≤ 1000000000000 := by omega
  by_cases h0 : (readS s).1 = 0
  · have hB := readS_BI h0
    refine Ct.enter (n := 48) Try.func4 rfl rfl rfl rfl rfl rfl ?_
    refine TC.seq ?_
    refine TC.quiet rfl ?_
    refine qv (yAsgn (v := .bool _) rfl) rfl rfl ?_
    refine QL.nil ?_
    refine TQ.sq ?_
    refine TC.seq ?_
    refine TC.seq ?_
    refine TC.quiet rfl ?_
    refine qv (yMove (v := str _) rfl) rfl rfl ?_
    refine qv (yStrLen ul9 rfl) rfl rfl ?_
    refine qcGtF rfl rfl (by omega) rfl rfl ?_
    refine QL.nil ?_
    refine TQ.sq ?_
    refine TC.condF rfl ?_
    refine TC.skip (TQ.sq ?_)
    refine TC.seq ?_
    refine TC.region ?_
    refine sv (yMove (v := str _) rfl) rfl rfl ?_
    refine sCall (ReadLok _ s hs h0) rfl rfl (fun v13 w hw => ?_)
    obtain ⟨J, p, md, ob, hJ, rfl, hL, hw⟩ := hw
    refine TL.wl ?_ hw
    refine sv (yMove (v := .tuple _) rfl) rfl rfl ?_
    refine sv (yExt rfl rfl) rfl rfl ?_
    refine sv (yExt rfl rfl) rfl rfl ?_
    refine sv (yAsgn (v := .pointer _) rfl) rfl rfl ?_
    refine sv (yAsgn (v := .int .i64 _) rfl) rfl rfl ?_
    refine TL.nil ?_
    refine TQ.sq ?_
    refine TC.seq ?_
    refine TC.region ?_
    refine sv (yMove (v := str _) rfl) rfl rfl ?_
    refine sCall (ReadRok _ s hs h0) rfl rfl (fun v18 w hw => ?_)
    obtain ⟨J2, px, ox, hJ2, rfl, hR, hw⟩ := hw
    refine TL.wl ?_ hw
    refine sv (yMove (v := .tuple _) rfl) rfl rfl ?_
    refine sv (yExt rfl rfl) rfl rfl ?_
    refine sv (yExt rfl rfl) rfl rfl ?_
    refine sv (yAsgn (v := .pointer _) rfl) rfl rfl ?_
    refine sv (yAsgn (v := .int .i64 _) rfl) rfl rfl ?_
    refine TL.nil ?_
    refine TQ.sq ?_
    refine TC.seq ?_
    refine TC.seq ?_
    refine TC.region ?_
    refine sv (yMove (v := .int .i64 _) rfl) rfl rfl ?_
    refine sv (yMove (v := .int .i64 _) rfl) rfl rfl ?_
    refine scNeF rfl rfl (by omega) rfl rfl ?_
    refine sv (yMove (v := .bool _) rfl) rfl rfl ?_
    refine sg (yMove (v := .pointer _) rfl) rfl (.inl ⟨_, _, rfl, rfl, rfl⟩) rfl ?_
    refine sg (yPNil ul23 rfl rfl) rfl (.inl ⟨_, _, rfl, rfl, rfl⟩) rfl ?_
    refine sg (yMove (v := .pointer _) rfl) rfl (.inl ⟨_, _, rfl, rfl, rfl⟩) rfl ?_
    refine sg (yPNil ul25 rfl rfl) rfl (.inl ⟨_, _, rfl, rfl, rfl⟩) rfl ?_
    refine sg (yBoolNe ul4 rfl rfl) rfl (.inl ⟨_, _, rfl, rfl, rfl⟩) rfl ?_
    refine sv (yPickF rfl rfl) rfl rfl ?_
    refine sv (yMove (v := .bool _) rfl) rfl rfl ?_
    refine TL.ung rfl (.inl ⟨_, _, rfl, rfl, rfl⟩) ?_
    refine sCall (awake_ok _) rfl rfl (fun v32 w hw => ?_)
    obtain ⟨rfl, J3, hJ3, hw⟩ := hw
    refine TL.wl ?_ hw
    refine sg (yNotF rfl) rfl (.inl ⟨_, _, rfl, rfl, rfl⟩) rfl ?_
    refine sv (yPickF rfl rfl) rfl rfl ?_
    refine TL.nil ?_
    refine TQ.sq ?_
    refine TC.condF rfl ?_
    refine TC.skip (TQ.sq ?_)
    refine TC.seq ?_
    refine TC.region ?_
    refine sv (yMove (v := .pointer _) rfl) rfl rfl ?_
    refine sv (yPNil ul25 rfl rfl) rfl rfl ?_
    refine sv (yMove (v := .bool _) rfl) rfl rfl ?_
    refine sg (yMove (v := .pointer _) rfl) rfl (.inl ⟨_, _, rfl, rfl, rfl⟩) rfl ?_
    refine TL.ung rfl (.inl ⟨_, _, rfl, rfl, rfl⟩) ?_
    refine sCallG [md, [(p, ob)]] (BytesL _ p (hL.le (hJ2.trans hJ3)) hB) rfl rfl (fun v39 w hw => ?_)
    obtain ⟨rfl, hw⟩ := hw
    try simp only [catL, List.append_eq, List.nil_append] at hw
    refine TL.wl ?_ hw
    refine sg (yMove (v := str _) rfl) rfl (.inl ⟨_, _, rfl, rfl, rfl⟩) rfl ?_
    refine sgcSEqT rfl rfl (bytes_read h0) rfl (.inl ⟨_, _, rfl, rfl, rfl⟩) rfl ?_
    refine sg (yMove (v := .bool _) rfl) rfl (.inl ⟨_, _, rfl, rfl, rfl⟩) rfl ?_
    refine sg (yMove (v := .pointer _) rfl) rfl (.inl ⟨_, _, rfl, rfl, rfl⟩) rfl ?_
    refine sg (yMove (v := .pointer _) rfl) rfl (.inl ⟨_, _, rfl, rfl, rfl⟩) rfl ?_
    refine TL.ung rfl (.inl ⟨_, _, rfl, rfl, rfl⟩) ?_
    refine sCallG [md, [(p, ob)], [(px, ox)]] (same_ok _ p px (hL.le (hJ2.trans hJ3)) (hR.le hJ3) hB) rfl rfl (fun v45 w hw => ?_)
    obtain ⟨rfl, J4, hJ4, hw⟩ := hw
    try simp only [catL, List.append_eq, List.nil_append] at hw
    refine TL.wl ?_ hw
    refine sg (yPickT rfl rfl) rfl (.inl ⟨_, _, rfl, rfl, rfl⟩) rfl ?_
    refine sv (yPickF rfl rfl) rfl rfl ?_
    refine sv (yAsgn (v := .bool _) rfl) rfl rfl ?_
    refine TL.nil ?_
    refine TQ.sq ?_
    refine TC.ret ?_
    refine TQ.post (v := .bool _) rfl ?_
    exact fun w hw => ⟨rfl, J4, hJ.trans (hJ2.trans (hJ3.trans hJ4)), hw.dr⟩
  ·
    refine Ct.enter (n := 48) Try.func4 rfl rfl rfl rfl rfl rfl ?_
    refine TC.seq ?_
    refine TC.quiet rfl ?_
    refine qv (yAsgn (v := .bool _) rfl) rfl rfl ?_
    refine QL.nil ?_
    refine TQ.sq ?_
    refine TC.seq ?_
    refine TC.seq ?_
    refine TC.quiet rfl ?_
    refine qv (yMove (v := str _) rfl) rfl rfl ?_
    refine qv (yStrLen ul9 rfl) rfl rfl ?_
    refine qcGtF rfl rfl (by omega) rfl rfl ?_
    refine QL.nil ?_
    refine TQ.sq ?_
    refine TC.condF rfl ?_
    refine TC.skip (TQ.sq ?_)
    refine TC.seq ?_
    refine TC.region ?_
    refine sv (yMove (v := str _) rfl) rfl rfl ?_
    refine sCall (ReadLno _ s hs h0) rfl rfl (fun v13 w hw => ?_)
    obtain ⟨J, hJ, rfl, hw⟩ := hw
    refine TL.wl ?_ hw
    refine sv (yMove (v := .tuple _) rfl) rfl rfl ?_
    refine sv (yExt rfl rfl) rfl rfl ?_
    refine sv (yExt rfl rfl) rfl rfl ?_
    refine sv (yAsgn (v := .pointer _) rfl) rfl rfl ?_
    refine sv (yAsgn (v := .int .i64 _) rfl) rfl rfl ?_
    refine TL.nil ?_
    refine TQ.sq ?_
    refine TC.seq ?_
    refine TC.region ?_
    refine sv (yMove (v := str _) rfl) rfl rfl ?_
    refine sCall (ReadRno _ s hs h0) rfl rfl (fun v18 w hw => ?_)
    obtain ⟨J2, hJ2, rfl, hw⟩ := hw
    refine TL.wl ?_ hw
    refine sv (yMove (v := .tuple _) rfl) rfl rfl ?_
    refine sv (yExt rfl rfl) rfl rfl ?_
    refine sv (yExt rfl rfl) rfl rfl ?_
    refine sv (yAsgn (v := .pointer _) rfl) rfl rfl ?_
    refine sv (yAsgn (v := .int .i64 _) rfl) rfl rfl ?_
    refine TL.nil ?_
    refine TQ.sq ?_
    refine TC.seq ?_
    refine TC.seq ?_
    refine TC.region ?_
    refine sv (yMove (v := .int .i64 _) rfl) rfl rfl ?_
    refine sv (yMove (v := .int .i64 _) rfl) rfl rfl ?_
    refine scNeF rfl rfl (by omega) rfl rfl ?_
    refine sv (yMove (v := .bool _) rfl) rfl rfl ?_
    refine sg (yMove (v := .pointer _) rfl) rfl (.inl ⟨_, _, rfl, rfl, rfl⟩) rfl ?_
    refine sg (yPNil0 ul23 rfl rfl) rfl (.inl ⟨_, _, rfl, rfl, rfl⟩) rfl ?_
    refine sg (yMove (v := .pointer _) rfl) rfl (.inl ⟨_, _, rfl, rfl, rfl⟩) rfl ?_
    refine sg (yPNil0 ul25 rfl rfl) rfl (.inl ⟨_, _, rfl, rfl, rfl⟩) rfl ?_
    refine sg (yBoolNe ul4 rfl rfl) rfl (.inl ⟨_, _, rfl, rfl, rfl⟩) rfl ?_
    refine sv (yPickF rfl rfl) rfl rfl ?_
    refine sv (yMove (v := .bool _) rfl) rfl rfl ?_
    refine TL.ung rfl (.inl ⟨_, _, rfl, rfl, rfl⟩) ?_
    refine sCall (awake_ok _) rfl rfl (fun v32 w hw => ?_)
    obtain ⟨rfl, J3, hJ3, hw⟩ := hw
    refine TL.wl ?_ hw
    refine sg (yNotF rfl) rfl (.inl ⟨_, _, rfl, rfl, rfl⟩) rfl ?_
    refine sv (yPickF rfl rfl) rfl rfl ?_
    refine TL.nil ?_
    refine TQ.sq ?_
    refine TC.condF rfl ?_
    refine TC.skip (TQ.sq ?_)
    refine TC.seq ?_
    refine TC.region ?_
    refine sv (yMove (v := .pointer _) rfl) rfl rfl ?_
    refine sv (yPNil0 ul25 rfl rfl) rfl rfl ?_
    refine sv (yMove (v := .bool _) rfl) rfl rfl ?_
    refine sk rfl (.inl ⟨_, _, rfl, rfl, rfl⟩) rfl ?_
    refine sk rfl (.inl ⟨_, _, rfl, rfl, rfl⟩) rfl ?_
    refine sk rfl (.inl ⟨_, _, rfl, rfl, rfl⟩) rfl ?_
    refine sk rfl (.inl ⟨_, _, rfl, rfl, rfl⟩) rfl ?_
    refine sk rfl (.inl ⟨_, _, rfl, rfl, rfl⟩) rfl ?_
    refine sk rfl (.inr ⟨rfl, _, rfl, rfl⟩) rfl ?_
    refine sk rfl (.inr ⟨rfl, _, rfl, rfl⟩) rfl ?_
    refine sk rfl (.inr ⟨rfl, _, rfl, rfl⟩) rfl ?_
    refine sk rfl (.inl ⟨_, _, rfl, rfl, rfl⟩) rfl ?_
    refine sv (yPickT rfl rfl) rfl rfl ?_
    refine sv (yAsgn (v := .bool _) rfl) rfl rfl ?_
    refine TL.nil ?_
    refine TQ.sq ?_
    refine TC.ret ?_
    refine TQ.post (v := .bool _) rfl ?_
    exact fun w hw => ⟨rfl, J3, hJ.trans (hJ2.trans hJ3), hw.dr⟩
theorem PruneDoes_ok (l : Ow) (aa : Option Addr) (ca : Nat) (acts : List AX) (ha : RA I encA 3 aa acts) (he : ∀ x, x ∈ acts → RA I encH 2 x.a x.hs) (hal : acts.length ≤ 9223372036854775807) : Ct Try.prog 3 [.slice aa acts.length ca] (St c I l) fun v w => v = .bool true ∧ ∃ J, Le I J ∧ St c J l w := by
  refine Ct.enter (n := 65) Try.func3 rfl rfl rfl rfl rfl rfl ?_
  refine TC.seq ?_
  refine TC.quiet rfl ?_
  refine qv (yAsgn (v := .bool _) rfl) rfl rfl ?_
  refine QL.nil ?_
  refine TQ.sq ?_
  refine TC.seq ?_
  refine TC.region ?_
  refine sCall (New_ok l) rfl rfl (fun v8 w hw => ?_)
  obtain ⟨pb0, rfl, hw⟩ := hw
  refine TL.wl ?_ hw
  refine sv (yBuild (vs := [.slice _ _ _, .slice _ _ _]) ti29 pl29 rfl) rfl rfl ?_
  refine sBox (vs := [.slice _ _ _, .slice _ _ _]) rfl rfl rfl (fun px => ?_)
  refine sv (yAsgn (v := .pointer _) rfl) rfl rfl ?_
  refine sv (yAsgn (v := .pointer _) rfl) rfl rfl ?_
  refine TL.nil ?_
  refine TQ.sq ?_
  refine TC.seq ?_
  refine TC.seq ?_
  refine TC.region ?_
  refine sv (yMove (v := .pointer _) rfl) rfl rfl ?_
  refine sv (yPNil ul23 rfl rfl) rfl rfl ?_
  refine sv (yMove (v := .bool _) rfl) rfl rfl ?_
  refine TL.ung rfl (.inl ⟨_, _, rfl, rfl, rfl⟩) ?_
  refine sCall (awake_ok _) rfl rfl (fun v14 w hw => ?_)
  obtain ⟨rfl, J0, hJ0, hw⟩ := hw
  refine TL.wl ?_ hw
  refine sg (yNotF rfl) rfl (.inl ⟨_, _, rfl, rfl, rfl⟩) rfl ?_
  refine sv (yPickF rfl rfl) rfl rfl ?_
  refine TL.nil ?_
  refine TQ.sq ?_
  refine TC.condF rfl ?_
  refine TC.skip (TQ.sq ?_)
  refine TC.seq ?_
  refine TC.seq ?_
  refine TC.quiet rfl ?_
  refine qv (yAsgn (v := .int .i64 _) rfl) rfl rfl ?_
  refine QL.nil ?_
  refine TQ.sq ?_
  refine TC.block ?_
  refine TC.loopL (ι := (Nat) × (Im) × (SS2) × (List Hd) × (Ow) × (Obj) × (Obj) × (Nat)) [2, 3, 5, 6, 7, 17, 18, 19, 20, 21, 22, 23, 24, 25, 26, 27, 28, 29, 30, 31, 32, 33, 34, 35, 36, 37, 38, 39, 40, 41, 42, 43, 44, 45, 46, 47, 48, 49, 50, 51, 52, 53, 54, 55, 56, 57, 58, 59, 60, 61, 62, 63, 64] (fun ⟨i, J, S, dead, md, ob, ox, pb⟩ => [(5, .int .i64 (i : Int)), (3, .pointer (some ⟨pb, 0, none⟩))]) (fun ⟨i, J, S, dead, md, ob, ox, pb⟩ w => (i ≤ acts.length ∧ Le I J ∧ LBk J S dead md ob ∧ RBk J S dead ox ∧ BI S dead) ∧ St c J (md ++ (pb, ob) :: (px, ox) :: l) w) (fun ⟨i, J, S, dead, md, ob, ox, pb⟩ => acts.length - i) (0, J0, [], [], [], (bkO 46 none 0 0 none 0 0), (bkO 29 none 0 0 none 0 0), pb0) ⟨rfl, rfl, trivial⟩ (fun w hw => ⟨⟨by omega, hJ0, LBk.new, RBk.new, BI.nil⟩, hw.dr⟩) ?_
  rintro g0 ⟨i, J, S, dead, md, ob, ox, pb⟩
  dsimp only
  refine TC.pure fun ⟨hi, hJ, hL, hR, hB⟩ => ?_
  refine TC.seq ?_
  refine TC.seq ?_
  refine TC.quiet rfl ?_
  refine qv (yMove (v := .int .i64 _) rfl) rfl rfl ?_
  refine qv (yMove (v := .slice _ _ _) rfl) rfl rfl ?_
  refine qv (ySlLen ul22 rfl) rfl rfl ?_
  refine qcLt rfl rfl rfl rfl (fun h20 => ?_) (fun h20 => ?_)
  ·
    obtain ⟨x, hx⟩ := getSome (xs := acts) (k := i) (by omega)
    have hxe := he x (getMem hx)
    refine qv (yMove (v := .bool _) rfl) rfl rfl ?_
    refine qv (yMove (v := .int .i64 _) rfl) (.inl ⟨_, _, rfl, rfl, rfl⟩) rfl ?_
    refine qcLt rfl rfl (.inl ⟨_, _, rfl, rfl, rfl⟩) rfl (fun h23 => ?_) (fun h23 => ?_)
    ·
      refine qv (yPickT rfl rfl) rfl rfl ?_
      refine QL.nil ?_
      refine TQ.sq ?_
      refine TC.condT rfl ?_
      refine TC.skip (TQ.sq ?_)
      refine TC.seq ?_
      refine TC.block ?_
      refine TC.seq ?_
      refine TC.seq ?_
      refine TC.region ?_
      refine sv (yMove (v := .slice _ _ _) rfl) rfl rfl ?_
      refine sv (yMove (v := .int .i64 _) rfl) rfl rfl ?_
      refine sElF (v := .slice _ _ _) ul22 ti33 fld33_2 ti27 (by decide) rfl (RA.sa (ha.le hJ)) rfl (by omega) (by omega) (flat_cell (enc := encA) (k := 3) (fun _ => rfl) (by simpa using hx) (by decide) rfl) rfl rfl rfl (fun _ _ => ?_)
      refine sCall (few_ok _ x.a x.cap x.hs) rfl rfl (fun v32 w hw => ?_)
      obtain ⟨rfl, hw⟩ := hw
      refine TL.wl ?_ hw
      cases hf : decide ((x.hs.length : Int) ≤ 300)
      ·
        refine sv (yNotT rfl) rfl rfl ?_
        refine TL.nil ?_
        refine TQ.sq ?_
        refine TC.condT rfl ?_
        refine TC.exit (TQ.sqX (TQ.blkX (TQ.sq ?_)))
        refine TC.quiet rfl ?_
        refine qv (yMove (v := .int .i64 _) rfl) rfl rfl ?_
        refine qv (yAdd rfl rfl (by omega)) rfl rfl ?_
        refine qv (yAsgn (v := .int .i64 _) rfl) rfl rfl ?_
        refine QL.nil ?_
        refine TQ.lpL (i + 1, J, S, dead, md, ob, ox, pb) (by first | omega | (dsimp only; omega)) (by repeat (first | exact OffL.refl | refine OffL.updO rfl ?_ | refine OffL.upd rfl ?_ | refine OffL.updL rfl ?_ | refine OffL.mask rfl ?_)) ⟨rfl, rfl, trivial⟩ (fun w hw => ⟨⟨by dsimp only; omega, hJ, hL, hR, hB⟩, hw.dr⟩)
      ·
        refine sv (yNotF rfl) rfl rfl ?_
        refine TL.nil ?_
        refine TQ.sq ?_
        refine TC.condF rfl ?_
        refine TC.skip (TQ.sq ?_)
        refine TC.seq ?_
        refine TC.seq ?_
        refine TC.quiet rfl ?_
        refine qv (yMove (v := .slice _ _ _) rfl) rfl rfl ?_
        refine qv (yMove (v := .int .i64 _) rfl) rfl rfl ?_
        refine qElF (v := .int .i64 _) ul22 ti33 fld33_0 ti3 (by decide) rfl (RA.sa (ha.le hJ)) rfl (by omega) (by omega) (flat_cell (enc := encA) (k := 3) (fun _ => rfl) (by simpa using hx) (by decide) rfl) rfl (fun _ => rfl) (fun _ _ => rfl) rfl rfl rfl (fun _ _ => ?_)
        refine qcEq rfl rfl rfl rfl (fun h39 => ?_) (fun h39 => ?_)
        ·
          refine QL.nil ?_
          refine TQ.sq ?_
          refine TC.condT rfl ?_
          refine TC.seq ?_
          refine TC.region ?_
          refine sv (yMove (v := .pointer _) rfl) rfl rfl ?_
          refine sCallG [md, [(pb, ob)]] (BytesL _ pb hL hB) rfl rfl (fun v42 w hw => ?_)
          obtain ⟨rfl, hw⟩ := hw
          try simp only [catL, List.append_eq, List.nil_append] at hw
          refine TL.wl ?_ hw
          refine sCall (ReadLB _ hB) rfl rfl (fun v43 w hw => ?_)
          obtain ⟨J2, p2, md2, ob2, hJ2, rfl, hL2, hw⟩ := hw
          refine TL.wl ?_ hw
          refine sv (yMove (v := .tuple _) rfl) rfl rfl ?_
          refine sv (yExt rfl rfl) rfl rfl ?_
          refine sv (yExt rfl rfl) rfl rfl ?_
          refine sv (yAsgn (v := .pointer _) rfl) rfl rfl ?_
          refine sv (yAsgn (v := .int .i64 _) rfl) rfl rfl ?_
          refine TL.nil ?_
          refine TQ.sq ?_
          refine TC.seq ?_
          refine TC.seq ?_
          refine TC.quiet rfl ?_
          refine qv (yMove (v := .int .i64 _) rfl) rfl rfl ?_
          refine qcNeF rfl rfl (by omega) rfl rfl ?_
          refine qv (yMove (v := .bool _) rfl) rfl rfl ?_
          refine qv (yMove (v := .pointer _) rfl) (.inl ⟨_, _, rfl, rfl, rfl⟩) rfl ?_
          refine qv (yPNil ul23 rfl rfl) (.inl ⟨_, _, rfl, rfl, rfl⟩) rfl ?_
          refine qv (yPickF rfl rfl) rfl rfl ?_
          refine QL.nil ?_
          refine TQ.sq ?_
          refine TC.condF rfl ?_
          refine TC.skip (TQ.sq ?_)
          refine TC.quiet rfl ?_
          refine qv (yMove (v := .pointer _) rfl) rfl rfl ?_
          refine qv (yAsgn (v := .pointer _) rfl) rfl rfl ?_
          refine QL.nil ?_
          refine TQ.sq ?_
          refine TC.seq ?_
          refine TC.region ?_
          refine sv (yMove (v := .pointer _) rfl) rfl rfl ?_
          refine sv (yMove (v := .pointer _) rfl) rfl rfl ?_
          refine sCallG [md2, [(p2, ob2)], [(px, ox)]] (same_ok _ p2 px hL2 (hR.le hJ2) hB) rfl rfl (fun v63 w hw => ?_)
          obtain ⟨rfl, J3, hJ3, hw⟩ := hw
          try simp only [catL, List.append_eq, List.nil_append] at hw
          refine TL.wl ?_ hw
          refine sv (yNotF rfl) rfl rfl ?_
          refine TL.nil ?_
          refine TQ.sq ?_
          refine TC.condF rfl ?_
          refine TC.skip (TQ.blk (TQ.sq ?_))
          refine TC.quiet rfl ?_
          refine qv (yMove (v := .int .i64 _) rfl) rfl rfl ?_
          refine qv (yAdd rfl rfl (by omega)) rfl rfl ?_
          refine qv (yAsgn (v := .int .i64 _) rfl) rfl rfl ?_
          refine QL.nil ?_
          refine TQ.lpL (i + 1, J3, S, dead, md2, ob2, ox, p2) (by first | omega | (dsimp only; omega)) (by repeat (first | exact OffL.refl | refine OffL.updO rfl ?_ | refine OffL.upd rfl ?_ | refine OffL.updL rfl ?_ | refine OffL.mask rfl ?_)) ⟨rfl, rfl, trivial⟩ (fun w hw => ⟨⟨by dsimp only; omega, hJ.trans (hJ2.trans hJ3), hL2.le hJ3, hR.le (hJ2.trans hJ3), hB⟩, hw.dr⟩)
        ·
          refine QL.nil ?_
          refine TQ.sq ?_
          refine TC.condF rfl ?_
          refine TC.seq ?_
          refine TC.region ?_
          refine sv (yMove (v := .pointer _) rfl) rfl rfl ?_
          refine sv (yMove (v := .pointer _) rfl) rfl rfl ?_
          refine sv (yMove (v := .slice _ _ _) rfl) rfl rfl ?_
          refine sv (yMove (v := .int .i64 _) rfl) rfl rfl ?_
          refine sElA (v := .agg ⟨[.int .i64 _, .int .i64 _, .slice _ _ _]⟩) ul22 ti33 rfl (RA.sa (ha.le hJ)) rfl (by omega) (by simpa using hx) (fun _ => rfl) (fun h => nomatch h) rfl rfl rfl (fun _ => ?_)
          refine sCall (do_ok _ pb px x.kind x.n x.a x.cap x.hs hL hR hB (hxe.le hJ) (by have := of_decide_eq_true hf; omega)) rfl rfl (fun v59 w hw => ?_)
          obtain ⟨rfl, J2, S2, dead2, md2, ob2, ox2, hJ2, hL2, hR2, hB2, hw⟩ := hw
          refine TL.wl ?_ hw
          refine sv (yNotF rfl) rfl rfl ?_
          refine TL.nil ?_
          refine TQ.sq ?_
          refine TC.condF rfl ?_
          refine TC.skip (TQ.sq ?_)
          refine TC.seq ?_
          refine TC.region ?_
          refine sv (yMove (v := .pointer _) rfl) rfl rfl ?_
          refine sv (yMove (v := .pointer _) rfl) rfl rfl ?_
          refine sCall (same_ok _ pb px hL2 hR2 hB2) rfl rfl (fun v63 w hw => ?_)
          obtain ⟨rfl, J3, hJ3, hw⟩ := hw
          refine TL.wl ?_ hw
          refine sv (yNotF rfl) rfl rfl ?_
          refine TL.nil ?_
          refine TQ.sq ?_
          refine TC.condF rfl ?_
          refine TC.skip (TQ.blk (TQ.sq ?_))
          refine TC.quiet rfl ?_
          refine qv (yMove (v := .int .i64 _) rfl) rfl rfl ?_
          refine qv (yAdd rfl rfl (by omega)) rfl rfl ?_
          refine qv (yAsgn (v := .int .i64 _) rfl) rfl rfl ?_
          refine QL.nil ?_
          refine TQ.lpL (i + 1, J3, S2, dead2, md2, ob2, ox2, pb) (by first | omega | (dsimp only; omega)) (by repeat (first | exact OffL.refl | refine OffL.updO rfl ?_ | refine OffL.upd rfl ?_ | refine OffL.updL rfl ?_ | refine OffL.mask rfl ?_)) ⟨rfl, rfl, trivial⟩ (fun w hw => ⟨⟨by dsimp only; omega, hJ.trans (hJ2.trans hJ3), hL2.le hJ3, hR2.le hJ3, hB2⟩, hw.dr⟩)
    ·
      refine qv (yPickT rfl rfl) rfl rfl ?_
      refine QL.nil ?_
      refine TQ.sq ?_
      refine TC.condF rfl ?_
      refine TC.exit (TQ.sqX (TQ.lpLX (TQ.blkX (TQ.sq ?_))))
      refine TC.seq ?_
      refine TC.quiet rfl ?_
      refine qv (yAsgn (v := .bool _) rfl) rfl rfl ?_
      refine QL.nil ?_
      refine TQ.sq ?_
      refine TC.ret ?_
      refine TQ.post (v := .bool _) rfl ?_
      exact fun w hw => ⟨rfl, J, hJ, hw.dr⟩
  ·
    refine qv (yMove (v := .bool _) rfl) rfl rfl ?_
    refine qk (.inl ⟨_, _, rfl, rfl, rfl⟩) rfl ?_
    refine qk (.inl ⟨_, _, rfl, rfl, rfl⟩) rfl ?_
    refine qv (yPickF rfl rfl) rfl rfl ?_
    refine QL.nil ?_
    refine TQ.sq ?_
    refine TC.condF rfl ?_
    refine TC.exit (TQ.sqX (TQ.lpLX (TQ.blkX (TQ.sq ?_))))
    refine TC.seq ?_
    refine TC.quiet rfl ?_
    refine qv (yAsgn (v := .bool _) rfl) rfl rfl ?_
    refine QL.nil ?_
    refine TQ.sq ?_
    refine TC.ret ?_
    refine TQ.post (v := .bool _) rfl ?_
    exact fun w hw => ⟨rfl, J, hJ, hw.dr⟩
end
end Go.Proofs.Ytfiambcocnceiaa
