import Derived.Test.YtfiambcocnceiaaPrT
set_option linter.unusedVariables false
set_option maxRecDepth 100000
namespace Go.Proofs.Ytfiambcocnceiaa
open Go Go.E

def LBk (I : Im) (S : SS2) (dead : List Hd) (md : Ow) (ob : Obj) : Prop := ∃ a1 c1 xs a2 c2, ob = bkO 46 a1 (List.length xs) c1 a2 dead.length c2 ∧ SL I a1 xs ∧ xs.length ≤ c1 ∧ OA 49 encH 2 md a2 c2 dead ∧ xs.map absS = S
def RBk (I : Im) (S : SS2) (dead : List Hd) (ox : Obj) : Prop := ∃ a1 c1 xs a2 c2, ox = bkO 29 a1 (List.length xs) c1 a2 dead.length c2 ∧ SL I a1 xs ∧ xs.length ≤ c1 ∧ RA I encH 2 a2 dead ∧ dead.length ≤ c2 ∧ xs.map absS = S
theorem LBk.le {I J : Im} {S : SS2} {dead : List Hd} {md : Ow} {ob : Obj} (h : LBk I S dead md ob) (hJ : Le I J) : LBk J S dead md ob :=
  let ⟨a1, c1, xs, a2, c2, e, h1, h2, h3, h4⟩ := h; ⟨a1, c1, xs, a2, c2, e, h1.le hJ, h2, h3, h4⟩
theorem RBk.le {I J : Im} {S : SS2} {dead : List Hd} {ox : Obj} (h : RBk I S dead ox) (hJ : Le I J) : RBk J S dead ox :=
  let ⟨a1, c1, xs, a2, c2, e, h1, h2, h3, h4, h5⟩ := h; ⟨a1, c1, xs, a2, c2, e, h1.le hJ, h2, h3.le hJ, h4, h5⟩
theorem SL.nil {I : Im} : SL I none [] := ⟨RA.nil _, fun x hx => absurd hx (by simp), by simp⟩
theorem LBk.new {I : Im} : LBk I [] [] [] (bkO 46 none 0 0 none 0 0) := ⟨none, 0, [], none, 0, rfl, SL.nil, by simp, OA.nil, rfl⟩
theorem RBk.new {I : Im} : RBk I [] [] (bkO 29 none 0 0 none 0 0) := ⟨none, 0, [], none, 0, rfl, SL.nil, by simp, RA.nil _, by simp, rfl⟩
section
variable {c : Cx} {I : Im} {S : SS2} {dead : List Hd} {md : Ow} {ob ox : Obj} (l : Ow) (p : Nat)
theorem AddL (n : Int) (a : Option Addr) (cap : Nat) (hs : List Hd) (hL : LBk I S dead md ob) (hB : BI S dead) (hh : SA (St c I l) encH 2 a hs) (hhl : hs.length ≤ 1000) :
    Ct Try.prog 13 [.pointer (some ⟨p, 0, none⟩), .int .i64 n, .slice a hs.length cap] (St c I (md ++ (p, ob) :: l)) fun v w => ∃ J ob', Le I J ∧ v = .int .i64 (addR S dead n hs) ∧ LBk J (if addR S dead n hs = 0 then S ++ [(n, hs)] else S) dead md ob' ∧ St c J (md ++ (p, ob') :: l) w := by
  obtain ⟨a1, c1, xs, a2, c2, rfl, hS, hc1, hd, rfl⟩ := hL
  have hl := hB.len
  simp only [List.length_map] at hl
  refine Ct.mono (LAdd_ok (md ++ l) p a1 c1 xs a2 c2 dead n a cap hs hS hc1 (by omega) (OKS_of hB) (OA.fm hd) (by have := hB.lend; omega) (hh.mono Wk.w) hhl) (fun w hw => hw.mid') fun v w ⟨J, a3, c3, ys, hJ, hv, hS3, hc3, hys, hw⟩ => ?_
  rw [add_same hB] at hv hys
  exact ⟨J, _, hJ, hv, ⟨a3, c3, ys, a2, c2, rfl, hS3, hc3, hd, hys⟩, hw.mid⟩
theorem AddR (n : Int) (a : Option Addr) (cap : Nat) (hs : List Hd) (hR : RBk I S dead ox) (hB : BI S dead) (hh : RA I encH 2 a hs) (hhl : hs.length ≤ 1000) :
    Ct Try.prog 24 [.pointer (some ⟨p, 0, none⟩), .int .i64 n, .slice a hs.length cap] (St c I ((p, ox) :: l)) fun v w => ∃ J ox', Le I J ∧ v = .int .i64 (addR S dead n hs) ∧ RBk J (if addR S dead n hs = 0 then S ++ [(n, hs)] else S) dead ox' ∧ St c J ((p, ox') :: l) w := by
  obtain ⟨a1, c1, xs, a2, c2, rfl, hS, hc1, hd, hc2, rfl⟩ := hR
  have hl := hB.len
  simp only [List.length_map] at hl
  exact Ct.imp (RAdd_ok l p a1 c1 xs a2 c2 dead n a cap hs hS hc1 (by omega) hd hc2 (by have := hB.lend; omega) hh hhl) fun v w ⟨J, a3, c3, ys, hJ, hv, hS3, hc3, hys, hw⟩ => ⟨J, _, hJ, hv, ⟨a3, c3, ys, a2, c2, rfl, hS3, hc3, hd.le hJ, hc2, hys⟩, hw⟩
def outP (S : SS2) (dead : List Hd) (n : Int) : List Int := ((prR S n dead).2.take 64).map (·.1)
theorem outP_len (S : SS2) (dead : List Hd) (n : Int) : (outP S dead n).length ≤ 64 := by unfold outP; rw [List.length_map, List.length_take]; omega
theorem PruneL (n : Int) (hL : LBk I S dead md ob) (hB : BI S dead) :
    Ct Try.prog 14 [.pointer (some ⟨p, 0, none⟩), .int .i64 n] (St c I (md ++ (p, ob) :: l)) fun v w => ∃ J ob' md' mo ao co, Le I J ∧ v = .slice ao (outP S dead n).length co ∧ OA 3 encI 1 mo ao co (outP S dead n) ∧ LBk J (prR S n dead).1 ((prR S n dead).2.drop 64) md' ob' ∧ St c J (mo ++ (md' ++ (p, ob') :: l)) w := by
  obtain ⟨a1, c1, xs, a2, c2, rfl, hS, hc1, hd, rfl⟩ := hL
  exact Ct.imp (LPrune_ok l p a1 c1 xs md a2 c2 dead n hS hc1 hd hB) fun v w ⟨J, a3, c3, ys, m4, a4, c4, mo, ao, co, hJ, hv, ho, hS3, hc3, hys, ho4, hw⟩ => ⟨J, _, m4, mo, ao, co, hJ, hv, ho, ⟨a3, c3, ys, a4, c4, rfl, hS3, hc3, ho4, hys⟩, hw⟩
theorem PruneR (n : Int) (hR : RBk I S dead ox) (hB : BI S dead) :
    Ct Try.prog 23 [.pointer (some ⟨p, 0, none⟩), .int .i64 n] (St c I ((p, ox) :: l)) fun v w => ∃ J ox' mo ao co, Le I J ∧ v = .slice ao (outP S dead n).length co ∧ OA 3 encI 1 mo ao co (outP S dead n) ∧ RBk J (prR S n dead).1 ((prR S n dead).2.drop 64) ox' ∧ St c J (mo ++ (p, ox') :: l) w := by
  obtain ⟨a1, c1, xs, a2, c2, rfl, hS, hc1, hd, hc2, rfl⟩ := hR
  exact Ct.imp (RPrune_ok l p a1 c1 xs a2 c2 dead n hS hc1 hd hc2 (by have := hB.lend; omega)) fun v w ⟨J, a3, c3, ys, a4, c4, mo, ao, co, hJ, hv, ho, hS3, hc3, hys, hr4, hc4, hw⟩ => ⟨J, _, mo, ao, co, hJ, hv, ho, ⟨a3, c3, ys, a4, c4, rfl, hS3, hc3, hr4, hc4, hys⟩, hw⟩
theorem BI.conS {xs : List SX} (hB : BI (xs.map absS) dead) : Con (dead ++ flatS xs) := by rw [← flatS_B]; exact hB.con
theorem HeldL (hL : LBk I S dead md ob) (hB : BI S dead) :
    Ct Try.prog 27 [.pointer (some ⟨p, 0, none⟩)] (St c I (md ++ (p, ob) :: l)) fun v w => ∃ m a cap, v = .slice a (heldA S dead).length cap ∧ OA 49 encH 2 m a cap (heldA S dead) ∧ St c I (m ++ (md ++ (p, ob) :: l)) w := by
  obtain ⟨a1, c1, xs, a2, c2, rfl, hS, hc1, hd, rfl⟩ := hL
  exact Ct.mono (LHeld_ok (md ++ l) p a1 c1 xs a2 c2 dead hS (OKS_of hB) (OA.fm hd) (by have := hB.lend; omega) hB.dok hB.conS hB.ds) (fun w hw => hw.mid') fun v w ⟨m, a, cap, hv, ho, hw⟩ => ⟨m, a, cap, hv, ho, hw.dr⟩
def sumB (S : SS2) (dead : List Hd) : Int := ((heldA S dead).map (·.2)).sum
theorem UsedL (hL : LBk I S dead md ob) (hB : BI S dead) :
    Ct Try.prog 15 [.pointer (some ⟨p, 0, none⟩)] (St c I (md ++ (p, ob) :: l)) fun v w => v = .tuple ⟨[.int .i64 (heldA S dead).length, .int .i64 (sumB S dead)]⟩ ∧ St c I (md ++ (p, ob) :: l) w := by
  obtain ⟨a1, c1, xs, a2, c2, rfl, hS, hc1, hd, rfl⟩ := hL
  exact Ct.mono (LUsed_ok (md ++ l) p a1 c1 xs a2 c2 dead hS (OKS_of hB) (OA.fm hd) (by have := hB.lend; omega) hB.dok hB.conS hB.ds) (fun w hw => hw.mid') fun v w ⟨hv, hw⟩ => ⟨hv, hw.mid⟩
theorem StatesL (hL : LBk I S dead md ob) :
    Ct Try.prog 17 [.pointer (some ⟨p, 0, none⟩)] (St c I (md ++ (p, ob) :: l)) fun v w => ∃ m a cap, v = .slice a (S.map (·.1)).length cap ∧ OA 3 encI 1 m a cap (S.map (·.1)) ∧ St c I (m ++ (md ++ (p, ob) :: l)) w := by
  obtain ⟨a1, c1, xs, a2, c2, rfl, hS, hc1, hd, rfl⟩ := hL
  have e : (xs.map absS).map (·.1) = xs.map (·.n) := by rw [List.map_map]; rfl
  rw [e]
  exact Ct.mono (States_ok (md ++ l) p a1 c1 xs a2 c2 dead hS) (fun w hw => hw.mid') fun v w ⟨m, a, cap, hv, ho, hw⟩ => ⟨m, a, cap, hv, ho, hw.dr⟩
theorem BytesL (hL : LBk I S dead md ob) (hB : BI S dead) :
    Ct Try.prog 9 [.pointer (some ⟨p, 0, none⟩)] (St c I (md ++ (p, ob) :: l)) fun v w => v = str (bytesB S dead) ∧ St c I (md ++ (p, ob) :: l) w := by
  obtain ⟨a1, c1, xs, a2, c2, rfl, hS, hc1, hd, rfl⟩ := hL
  exact Ct.mono (LBytes_ok (md ++ l) p a1 c1 xs a2 c2 dead hS (OA.fm hd) (by have := hB.lend; omega) hB.wf.1 hB.wf.2) (fun w hw => hw.mid') fun v w ⟨hv, hw⟩ => ⟨hv, hw.mid⟩
theorem BytesR (hR : RBk I S dead ox) (hB : BI S dead) :
    Ct Try.prog 28 [.pointer (some ⟨p, 0, none⟩)] (St c I ((p, ox) :: l)) fun v w => v = str (bytesB S dead) ∧ St c I ((p, ox) :: l) w := by
  obtain ⟨a1, c1, xs, a2, c2, rfl, hS, hc1, hd, hc2, rfl⟩ := hR
  exact RBytes_ok l p a1 c1 xs a2 c2 dead hS hd (by have := hB.lend; omega) (fun x hx => (hB.wf.1 x hx).1) hB.wf.2
theorem bytesB_len (hB : BI S dead) : (bytesB S dead).length ≤ 1000000000 := by
  have h1 := bytesS_len (fun x hx => (hB.wf.1 x hx).1)
  have h2 := listsB_len hB.wf.2
  have h3 := numS_len (z := (S.length : Int)) (by omega) (by have := hB.len; omega)
  have h4 := hB.len
  have h5 := hB.lend
  unfold bytesB
  rw [List.length_append, List.length_append]; omega
theorem HeldR (hR : RBk I S dead ox) (hB : BI S dead) :
    Ct Try.prog 25 [.pointer (some ⟨p, 0, none⟩)] (St c I ((p, ox) :: l)) fun v w => ∃ J a cap, Le I J ∧ v = .slice a (heldA S dead).length cap ∧ RA J encH 2 a (heldA S dead) ∧ St c J ((p, ox) :: l) w := by
  obtain ⟨a1, c1, xs, a2, c2, rfl, hS, hc1, hd, hc2, rfl⟩ := hR
  refine Ct.imp (RHeld_ok l p a1 c1 xs a2 c2 dead hS hd hc2 (by have := hB.lend; omega)) fun v w ⟨J, a, cap, hJ, hv, hr, hrc, hw⟩ => ?_
  rw [heldP_A] at hv hr
  exact ⟨J, a, cap, hJ, hv, hr, hw⟩
theorem ReadL (s : List UInt8) (hs : s.length ≤ 1000000000000) : Ct Try.prog 8 [str s] (St c I l) fun v w => ∃ J, Le I J ∧ (((readS s).1 ≠ 0 ∧ v = .tuple ⟨[.pointer none, .int .i64 (readS s).1]⟩ ∧ St c J l w) ∨ ((readS s).1 = 0 ∧ ∃ p md ob, v = .tuple ⟨[.pointer (some ⟨p, 0, none⟩), .int .i64 0]⟩ ∧ LBk J (readS s).2.1 (readS s).2.2 md ob ∧ St c J (md ++ (p, ob) :: l) w)) :=
  Ct.imp (LRead_ok l s hs) fun v w ⟨J, hJ, h⟩ => ⟨J, hJ, h.imp id fun ⟨h0, p, a1, c1, xs, md, a2, c2, hv, hS, hc1, ho, hx, hw⟩ => ⟨h0, p, md, _, hv, ⟨a1, c1, xs, a2, c2, rfl, hS, hc1, ho, hx⟩, hw⟩⟩
theorem ReadR (s : List UInt8) (hs : s.length ≤ 1000000000000) : Ct Try.prog 12 [str s] (St c I l) fun v w => ∃ J, Le I J ∧ (((readS s).1 ≠ 0 ∧ v = .tuple ⟨[.pointer none, .int .i64 (readS s).1]⟩ ∧ St c J l w) ∨ ((readS s).1 = 0 ∧ ∃ p ox, v = .tuple ⟨[.pointer (some ⟨p, 0, none⟩), .int .i64 0]⟩ ∧ RBk J (readS s).2.1 (readS s).2.2 ox ∧ St c J ((p, ox) :: l) w)) :=
  Ct.imp (RRead_ok l s hs) fun v w ⟨J, hJ, h⟩ => ⟨J, hJ, h.imp id fun ⟨h0, p, a1, c1, xs, a2, c2, hv, hS, hc1, hr, hx, hrc, hw⟩ => ⟨h0, p, _, hv, ⟨a1, c1, xs, a2, c2, rfl, hS, hc1, hr, hrc, hx⟩, hw⟩⟩
/-- a book of the law's own: read again, it is the same -/
theorem ReadLB (hB : BI S dead) : Ct Try.prog 8 [str (bytesB S dead)] (St c I l) fun v w => ∃ J p md ob, Le I J ∧ v = .tuple ⟨[.pointer (some ⟨p, 0, none⟩), .int .i64 0]⟩ ∧ LBk J S dead md ob ∧ St c J (md ++ (p, ob) :: l) w := by
  refine Ct.imp (ReadL l (bytesB S dead) (by have := bytesB_len hB; omega)) fun v w ⟨J, hJ, h⟩ => ?_
  rw [read_bytes hB] at h
  rcases h with ⟨h0, _⟩ | ⟨_, p, md, ob, hv, hL, hw⟩
  · exact absurd rfl h0
  · exact ⟨J, p, md, ob, hJ, hv, hL, hw⟩
theorem IntsT {S0 : World → Prop} (hD : ∀ w k, S0 w → S0 { w with drawn := k }) (a b : Option Addr) (c1 c2 : Nat) (xs : List Int) (hx : SA S0 encI 1 a xs) (hy : SA S0 encI 1 b xs) (hl : xs.length ≤ 1000000000000) : Ct Try.prog 16 [.slice a xs.length c1, .slice b xs.length c2] S0 fun v w => v = .bool true ∧ S0 w :=
  Ct.imp (Ints_ok hD a b c1 c2 xs xs hx hy hl) fun v w ⟨hv, hw⟩ => ⟨by rw [hv, decide_eq_true rfl], hw⟩
theorem SameT {S0 : World → Prop} (hD : ∀ w k, S0 w → S0 { w with drawn := k }) (a b : Option Addr) (c1 c2 : Nat) (xs : List Hd) (hx : SA S0 encH 2 a xs) (hy : SA S0 encH 2 b xs) (hl : xs.length ≤ 1000000000000) : Ct Try.prog 26 [.slice a xs.length c1, .slice b xs.length c2] S0 fun v w => v = .bool true ∧ S0 w :=
  Ct.imp (Same_ok hD a b c1 c2 xs xs hx hy hl) fun v w ⟨hv, hw⟩ => ⟨by rw [hv, decide_eq_true rfl], hw⟩
end
end Go.Proofs.Ytfiambcocnceiaa
