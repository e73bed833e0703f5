import Derived.Test.YtfiambcocnceiaaPr1
set_option linter.unusedVariables false
set_option maxRecDepth 100000
namespace Go.Proofs.Ytfiambcocnceiaa
open Go Go.E

structure SX where
  n : Int
  a : Option Addr
  cap : Nat
  hs : List Hd
def encS (x : SX) : List Value := [.int .i64 x.n, .slice x.a x.hs.length x.cap]
structure SL (I : Im) (a : Option Addr) (xs : List SX) : Prop where
  r : RA I encS 2 a xs
  e : ∀ x, x ∈ xs → RA I encH 2 x.a x.hs ∧ x.hs.length ≤ x.cap ∧ x.hs.length ≤ 1000
  n : xs.length ≤ 1000
theorem SL.le {I J : Im} {a : Option Addr} {xs : List SX} (h : SL I a xs) (hl : Le I J) : SL J a xs := ⟨h.r.le hl, fun x hx => ⟨(h.e x hx).1.le hl, (h.e x hx).2⟩, h.n⟩
abbrev bkO (T : TypeId) (a1 : Option Addr) (n1 c1 : Nat) (a2 : Option Addr) (n2 c2 : Nat) : Obj := .cells ⟨[.slice a1 n1 c1, .slice a2 n2 c2]⟩ T (0, 0)
abbrev putF (d : List Hd) (h : Hd) : List Hd := putH h d
def heldP (xs : List SX) (d : List Hd) : List Hd := (xs.flatMap (·.hs)).foldl putF d
theorem heldP_take {xs : List SX} {i : Nat} {x : SX} (h : xs[i]? = some x) (d : List Hd) : heldP (xs.take (i + 1)) d = x.hs.foldl putF (heldP (xs.take i) d) := by
  unfold heldP
  rw [List.take_add_one, h]; simp
theorem foldl_take {α β : Type} (f : β → α → β) {hs : List α} {j : Nat} {u : α} (h : hs[j]? = some u) (d : β) : (hs.take (j + 1)).foldl f d = f ((hs.take j).foldl f d) u := by
  rw [List.take_add_one, h]; simp
theorem foldput_len (hs : List Hd) : ∀ d : List Hd, (hs.foldl putF d).length ≤ d.length + hs.length := by
  induction hs with
  | nil => intro d; simp
  | cons h r ih => intro d; have h1 := ih (putF d h); have h2 := putH_len h d; simp only [List.foldl_cons, List.length_cons]; simp only [putF] at h1 ⊢; omega
theorem heldP_len {xs : List SX} (h : ∀ x, x ∈ xs → x.hs.length ≤ 1000) (d : List Hd) : (heldP xs d).length ≤ d.length + xs.length * 1000 := by
  have h1 := foldput_len (xs.flatMap (·.hs)) d
  have h2 : (xs.flatMap (·.hs)).length ≤ xs.length * 1000 := by
    induction xs with
    | nil => simp
    | cons x r ih =>
      have h3 := h x (by simp)
      have h4 := ih (fun y hy => h y (by simp [hy])) (foldput_len _ d)
      simp only [List.flatMap_cons, List.length_append, List.length_cons]; omega
  unfold heldP; omega
def anyN (xs : List SX) (n : Int) : Bool := xs.any fun x => (dget x.hs n).isSome
theorem anyN_take {xs : List SX} {k : Nat} {x : SX} (n : Int) (h : xs[k]? = some x) : anyN (xs.take (k + 1)) n = (anyN (xs.take k) n || (dget x.hs n).isSome) := by
  unfold anyN
  rw [List.take_add_one, h]; simp
theorem anyN_yes {xs : List SX} {k : Nat} {x : SX} {n : Int} (h : xs[k]? = some x) (hd : (dget x.hs n).isSome = true) : anyN xs n = true := by
  unfold anyN
  rw [List.any_eq_true]; exact ⟨x, List.mem_of_getElem? h, hd⟩
/-- a list of Held, as bytes -/
def listsB (hs : List Hd) : List UInt8 := numsB (hs.map (·.1)) ++ numsB (hs.map (·.2))
abbrev WH (h : Hd) : Prop := W64 h.1 ∧ W64 h.2
theorem map_at {α β : Type} {hs : List α} {k : Nat} {u : α} (f : α → β) (h : hs[k]? = some u) : (hs.map f)[k]? = some (f u) := by rw [List.getElem?_map, h]; rfl
def bytesS (xs : List (Int × List Hd)) : List UInt8 := xs.flatMap fun x => numS x.1 ++ listsB x.2
def absS (x : SX) : Int × List Hd := (x.n, x.hs)
def bytesB (xs : List (Int × List Hd)) (d : List Hd) : List UInt8 := numS xs.length ++ bytesS xs ++ listsB d
theorem bytesS_take {xs : List SX} {k : Nat} {x : SX} (h : xs[k]? = some x) : bytesS ((xs.map absS).take (k + 1)) = bytesS ((xs.map absS).take k) ++ (numS x.n ++ listsB x.hs) := by
  unfold bytesS
  rw [List.take_add_one, map_at absS h]; simp [absS]
theorem listsB_len {hs : List Hd} (h : ∀ x ∈ hs, WH x) : (listsB hs).length ≤ 4 + 44 * hs.length := by
  have h1 := numsB_len (xs := hs.map (·.1)) (fun x hx => by obtain ⟨y, hy, rfl⟩ := List.mem_map.1 hx; exact (h y hy).1)
  have h2 := numsB_len (xs := hs.map (·.2)) (fun x hx => by obtain ⟨y, hy, rfl⟩ := List.mem_map.1 hx; exact (h y hy).2)
  unfold listsB; rw [List.length_append]; simp only [List.length_map] at h1 h2; omega
abbrev WS (x : Int × List Hd) : Prop := W64 x.1 ∧ (∀ h ∈ x.2, WH h) ∧ x.2.length ≤ 1000
theorem bytesS_len {xs : List (Int × List Hd)} (h : ∀ x ∈ xs, WS x) : (bytesS xs).length ≤ xs.length * 50000 := by
  unfold bytesS
  induction xs with
  | nil => simp
  | cons x r ih =>
    have h3 := h x (by simp)
    have h1 := numS_len h3.1.1 h3.1.2
    have h2 := listsB_len h3.2.1
    have h4 := ih (fun y hy => h y (by simp [hy]))
    simp only [List.flatMap_cons, List.length_append, List.length_cons]; omega

theorem Has_ok {c : Cx} {I : Im} (l : Ow) (p : Nat) (a1 : Option Addr) (c1 : Nat) (xs : List SX) (a2 : Option Addr) (c2 : Nat) (dead : List Hd) (n : Int) (hS : SL I a1 xs) : Ct Try.prog 43 [.pointer (some ⟨p, 0, none⟩), .int .i64 n] (St c I ((p, (bkO 29 a1 xs.length c1 a2 dead.length c2)) :: l)) fun v w => v = .bool (anyN xs n) ∧ St c I ((p, (bkO 29 a1 xs.length c1 a2 dead.length c2)) :: l) w := by
  refine Ct.enter (n := 31) Try.func43 rfl rfl rfl rfl rfl rfl ?_
  refine TC.seq ?_
  refine TC.quiet rfl ?_
  refine qv (yAsgn (v := .bool _) rfl) rfl rfl ?_
  refine QL.nil ?_
  refine TQ.sq ?_
  refine TC.seq ?_
  refine TC.seq ?_
  refine TC.quiet rfl ?_
  refine qv (yAsgn (v := .int .i64 _) rfl) rfl rfl ?_
  refine QL.nil ?_
  refine TQ.sq ?_
  refine TC.block ?_
  refine TC.loopL (ι := (Nat)) [4, 5, 6, 7, 8, 9, 10, 11, 12, 13, 14, 15, 16, 17, 18, 19, 20, 21, 22, 23, 24, 25, 26, 27, 28, 29, 30] (fun k => [(5, .int .i64 (k : Int))]) (fun k w => (k ≤ xs.length ∧ anyN (xs.take k) n = false) ∧ St c I ((p, (bkO 29 a1 xs.length c1 a2 dead.length c2)) :: l) w) (fun k => xs.length - k) 0 ⟨rfl, trivial⟩ (fun w hw => ⟨⟨by omega, rfl⟩, hw⟩) ?_
  rintro g0 k
  dsimp only
  refine TC.pure fun ⟨hk, he⟩ => ?_
  refine TC.seq ?_
  refine TC.seq ?_
  refine TC.quiet rfl ?_
  refine qv (yMove (v := .int .i64 _) rfl) rfl rfl ?_
  refine qv (yMove (v := .pointer _) rfl) rfl rfl ?_
  refine qv (yNil rfl) rfl rfl ?_
  refine qv (yFA fld29_0 ti26 (by decide) rfl) rfl rfl ?_
  refine qv (yLd1 ti26 rfl (by first | exact RdC.rd | exact rdI (by assumption)) rfl) rfl rfl ?_
  refine qv (ySlLen ul26 rfl) rfl rfl ?_
  have hSn := hS.n
  refine qcLt rfl rfl rfl rfl (fun h14 => ?_) (fun h14 => ?_)
  ·
    refine QL.nil ?_
    refine TQ.sq ?_
    refine TC.condT rfl ?_
    refine TC.skip (TQ.sq ?_)
    refine TC.seq ?_
    refine TC.block ?_
    refine TC.seq ?_
    refine TC.region ?_
    refine sv (yMove (v := .pointer _) rfl) rfl rfl ?_
    refine sv (yNil rfl) rfl rfl ?_
    refine sv (yFA fld29_0 ti26 (by decide) rfl) rfl rfl ?_
    refine sv (yLd1 ti26 rfl (by first | exact RdC.rd | exact rdI (by assumption)) rfl) rfl rfl ?_
    refine sv (yMove (v := .int .i64 _) rfl) rfl rfl ?_
    obtain ⟨x, hx⟩ := getSome (xs := xs) (k := k) (by omega)
    have hxe := hS.e x (getMem hx)
    refine sElF (v := .slice _ _ _) ul26 ti66 fld66_1 ti27 (by decide) rfl (RA.sa hS.r) rfl (by omega) (by omega) (flat_cell (enc := encS) (k := 2) (fun _ => rfl) (by simpa using hx) (by decide) rfl) rfl rfl rfl (fun _ _ => ?_)
    refine sv (yMove (v := .int .i64 _) rfl) rfl rfl ?_
    refine sCall (in_ok _ _ x.hs n (RA.sa hxe.1) (by omega)) rfl rfl (fun v27 w hw => ?_)
    obtain ⟨rfl, hw⟩ := hw
    refine TL.wl ?_ hw
    refine sv (yMove (v := .tuple _) rfl) rfl rfl ?_
    refine sv (yExt rfl rfl) rfl rfl ?_
    refine sv (yExt rfl rfl) rfl rfl ?_
    refine sv (yAsgn (v := .int .i64 _) rfl) rfl rfl ?_
    refine sv (yAsgn (v := .bool _) rfl) rfl rfl ?_
    refine TL.nil ?_
    refine TQ.sq ?_
    refine TC.seq ?_
    refine TC.quiet rfl ?_
    refine qv (yMove (v := .bool _) rfl) rfl rfl ?_
    refine QL.nil ?_
    refine TQ.sq ?_
    refine TC.cond rfl (fun hc => ?_) (fun hc => ?_)
    ·
      refine TC.seq ?_
      refine TC.quiet rfl ?_
      refine qv (yAsgn (v := .bool _) rfl) rfl rfl ?_
      refine QL.nil ?_
      refine TQ.sq ?_
      refine TC.ret (TQ.blkR (TQ.sqR (TQ.lpLR (TQ.blkR (TQ.sqR ?_)))))
      refine TQ.post (v := .bool _) rfl ?_
      exact fun w hw => ⟨by rw [anyN_yes hx hc], hw⟩
    ·
      refine TC.skip (TQ.blk (TQ.sq ?_))
      refine TC.quiet rfl ?_
      refine qv (yMove (v := .int .i64 _) rfl) rfl rfl ?_
      refine qv (yAdd rfl rfl (by omega)) rfl rfl ?_
      refine qv (yAsgn (v := .int .i64 _) rfl) rfl rfl ?_
      refine QL.nil ?_
      refine TQ.lpL (k + 1) (by first | omega | (dsimp only; omega)) (by repeat (first | exact OffL.refl | refine OffL.updO rfl ?_ | refine OffL.upd rfl ?_ | refine OffL.updL rfl ?_ | refine OffL.mask rfl ?_)) ⟨rfl, trivial⟩ (fun w hw => ⟨⟨by omega, by rw [anyN_take n hx, he, hc]; rfl⟩, hw.dr⟩)
  ·
    refine QL.nil ?_
    refine TQ.sq ?_
    refine TC.condF rfl ?_
    refine TC.exit (TQ.sqX (TQ.lpLX (TQ.blkX (TQ.sq ?_))))
    refine TC.seq ?_
    refine TC.quiet rfl ?_
    refine qv (yAsgn (v := .bool _) rfl) rfl rfl ?_
    refine QL.nil ?_
    refine TQ.sq ?_
    refine TC.ret ?_
    refine TQ.post (v := .bool _) rfl ?_
    obtain rfl : k = xs.length := by omega
    rw [List.take_length] at he
    exact fun w hw => ⟨by rw [he], hw⟩
theorem RHeld_ok {c : Cx} {I : Im} (l : Ow) (p : Nat) (a1 : Option Addr) (c1 : Nat) (xs : List SX) (a2 : Option Addr) (c2 : Nat) (dead : List Hd) (hS : SL I a1 xs) (hd : RA I encH 2 a2 dead) (hdc : dead.length ≤ c2) (hdl : dead.length ≤ 1000) : Ct Try.prog 25 [.pointer (some ⟨p, 0, none⟩)] (St c I ((p, (bkO 29 a1 xs.length c1 a2 dead.length c2)) :: l)) fun v w => ∃ J a' cap', Le I J ∧ v = .slice a' (heldP xs dead).length cap' ∧ RA J encH 2 a' (heldP xs dead) ∧ (heldP xs dead).length ≤ cap' ∧ St c J ((p, (bkO 29 a1 xs.length c1 a2 dead.length c2)) :: l) w := by
  refine Ct.enter (n := 46) Try.func25 rfl rfl rfl rfl rfl rfl ?_
  refine TC.seq ?_
  refine TC.quiet rfl ?_
  refine qv (yAsgn (v := .slice _ _ _) rfl) rfl rfl ?_
  refine QL.nil ?_
  refine TQ.sq ?_
  refine TC.seq ?_
  refine TC.quiet rfl ?_
  refine qv (yMove (v := .pointer _) rfl) rfl rfl ?_
  refine qv (yNil rfl) rfl rfl ?_
  refine qv (yFA fld29_1 ti27 (by decide) rfl) rfl rfl ?_
  refine qv (yLd1 ti27 rfl (by first | exact RdC.rd | exact rdI (by assumption)) rfl) rfl rfl ?_
  refine qv (yAsgn (v := .slice _ _ _) rfl) rfl rfl ?_
  refine QL.nil ?_
  refine TQ.sq ?_
  refine TC.seq ?_
  refine TC.seq ?_
  refine TC.quiet rfl ?_
  refine qv (yAsgn (v := .int .i64 _) rfl) rfl rfl ?_
  refine QL.nil ?_
  refine TQ.sq ?_
  refine TC.block ?_
  refine TC.loopL (ι := (Nat) × (Im) × (Option Addr) × (Nat) × (List Hd)) [3, 4, 5, 10, 11, 12, 13, 14, 15, 16, 17, 18, 19, 20, 21, 22, 23, 24, 25, 26, 27, 28, 29, 30, 31, 32, 33, 34, 35, 36, 37, 38, 39, 40, 41, 42, 43, 44] (fun ⟨k, J, a3, c3, cur⟩ => [(4, .int .i64 (k : Int)), (3, .slice a3 cur.length c3)]) (fun ⟨k, J, a3, c3, cur⟩ w => (k ≤ xs.length ∧ Le I J ∧ RA J encH 2 a3 cur ∧ cur.length ≤ c3 ∧ cur = heldP (xs.take k) dead) ∧ St c J ((p, (bkO 29 a1 xs.length c1 a2 dead.length c2)) :: l) w) (fun ⟨k, J, a3, c3, cur⟩ => xs.length - k) (0, I, a2, c2, dead) ⟨rfl, rfl, trivial⟩ (fun w hw => ⟨⟨by omega, Le.refl I, hd, hdc, rfl⟩, hw⟩) ?_
  rintro g0 ⟨k, J, a3, c3, cur⟩
  dsimp only
  refine TC.pure fun ⟨hk, hJ, hr, hrc, he⟩ => ?_
  refine TC.seq ?_
  refine TC.seq ?_
  refine TC.quiet rfl ?_
  refine qv (yMove (v := .int .i64 _) rfl) rfl rfl ?_
  refine qv (yMove (v := .pointer _) rfl) rfl rfl ?_
  refine qv (yNil rfl) rfl rfl ?_
  refine qv (yFA fld29_0 ti26 (by decide) rfl) rfl rfl ?_
  refine qv (yLd1 ti26 rfl (by first | exact RdC.rd | exact rdI (by assumption)) rfl) rfl rfl ?_
  refine qv (ySlLen ul26 rfl) rfl rfl ?_
  have hSn := hS.n
  refine qcLt rfl rfl rfl rfl (fun h16 => ?_) (fun h16 => ?_)
  ·
    obtain ⟨x, hx⟩ := getSome (xs := xs) (k := k) (by omega)
    have hxe := hS.e x (getMem hx)
    refine QL.nil ?_
    refine TQ.sq ?_
    refine TC.condT rfl ?_
    refine TC.skip (TQ.sq ?_)
    refine TC.seq ?_
    refine TC.block ?_
    refine TC.seq ?_
    refine TC.quiet rfl ?_
    refine qv (yAsgn (v := .int .i64 _) rfl) rfl rfl ?_
    refine QL.nil ?_
    refine TQ.sq ?_
    refine TC.block ?_
    refine TC.loopL (ι := (Nat) × (Im) × (Option Addr) × (Nat) × (List Hd)) [3, 5, 19, 20, 21, 22, 23, 24, 25, 26, 27, 28, 29, 30, 31, 32, 33, 34, 35, 36, 37, 38, 39, 40, 41, 42, 43, 44] (fun ⟨j, J2, a4, c4, cur2⟩ => [(5, .int .i64 (j : Int)), (3, .slice a4 cur2.length c4)]) (fun ⟨j, J2, a4, c4, cur2⟩ w => (j ≤ x.hs.length ∧ Le I J2 ∧ RA J2 encH 2 a4 cur2 ∧ cur2.length ≤ c4 ∧ cur2 = (x.hs.take j).foldl putF (heldP (xs.take k) dead)) ∧ St c J2 ((p, (bkO 29 a1 xs.length c1 a2 dead.length c2)) :: l) w) (fun ⟨j, J2, a4, c4, cur2⟩ => x.hs.length - j) (0, J, a3, c3, cur) ⟨rfl, rfl, trivial⟩ (fun w hw => ⟨⟨by omega, hJ, hr, hrc, he⟩, hw⟩) ?_
    rintro g1 ⟨j, J2, a4, c4, cur2⟩
    dsimp only
    refine TC.pure fun ⟨hj, hJ2, hr2, hrc2, he2⟩ => ?_
    refine TC.seq ?_
    refine TC.seq ?_
    refine TC.quiet rfl ?_
    refine qv (yMove (v := .int .i64 _) rfl) rfl rfl ?_
    refine qv (yMove (v := .pointer _) rfl) rfl rfl ?_
    refine qv (yNil rfl) rfl rfl ?_
    refine qv (yFA fld29_0 ti26 (by decide) rfl) rfl rfl ?_
    refine qv (yLd1 ti26 rfl (by first | exact RdC.rd | exact rdI (by assumption)) rfl) rfl rfl ?_
    refine qv (yMove (v := .int .i64 _) rfl) rfl rfl ?_
    refine qElF (v := .slice _ _ _) ul26 ti66 fld66_1 ti27 (by decide) rfl (RA.sa (hS.r.le hJ2)) rfl (by omega) (by omega) (flat_cell (enc := encS) (k := 2) (fun _ => rfl) (by simpa using hx) (by decide) rfl) rfl (fun _ => rfl) (fun _ _ => rfl) rfl rfl rfl (fun _ _ => ?_)
    refine qv (ySlLen ul27 rfl) rfl rfl ?_
    refine qcLt rfl rfl rfl rfl (fun h29 => ?_) (fun h29 => ?_)
    ·
      obtain ⟨u, hu⟩ := getSome (xs := x.hs) (k := j) (by omega)
      have hl1 := heldP_len (xs := xs.take k) (fun y hy => (hS.e y (List.mem_of_mem_take hy)).2.2) dead
      have hl2 := foldput_len (x.hs.take j) (heldP (xs.take k) dead)
      have hl3 : (xs.take k).length = k := by simp; omega
      have hl4 : (x.hs.take j).length = j := by simp; omega
      rw [← he2] at hl2
      refine QL.nil ?_
      refine TQ.sq ?_
      refine TC.condT rfl ?_
      refine TC.skip (TQ.sq ?_)
      refine TC.seq ?_
      refine TC.block ?_
      refine TC.region ?_
      refine sv (yMove (v := .slice _ _ _) rfl) rfl rfl ?_
      refine sv (yMove (v := .pointer _) rfl) rfl rfl ?_
      refine sv (yNil rfl) rfl rfl ?_
      refine sv (yFA fld29_0 ti26 (by decide) rfl) rfl rfl ?_
      refine sv (yLd1 ti26 rfl (by first | exact RdC.rd | exact rdI (by assumption)) rfl) rfl rfl ?_
      refine sv (yMove (v := .int .i64 _) rfl) rfl rfl ?_
      refine sElF (v := .slice _ _ _) ul26 ti66 fld66_1 ti27 (by decide) rfl (RA.sa (hS.r.le hJ2)) rfl (by omega) (by omega) (flat_cell (enc := encS) (k := 2) (fun _ => rfl) (by simpa using hx) (by decide) rfl) rfl rfl rfl (fun _ _ => ?_)
      refine sv (yMove (v := .int .i64 _) rfl) rfl rfl ?_
      refine sElA (v := .agg ⟨[.int .i64 _, .int .i64 _]⟩) ul27 ti49 rfl (RA.sa (hxe.1.le hJ2)) rfl (by omega) (by simpa using hu) (fun _ => rfl) (fun h => nomatch h) rfl rfl rfl (fun _ => ?_)
      refine sCall (put_ok _ a4 c4 cur2 u hr2 hrc2 (by omega)) rfl rfl (fun v44 w hw => ?_)
      obtain ⟨J3, a5, c5, hJ3, rfl, hr3, hrc3, hw⟩ := hw
      refine TL.wl ?_ hw
      refine sv (yAsgn (v := .slice _ _ _) rfl) rfl rfl ?_
      refine TL.nil ?_
      refine TQ.blk (TQ.sq ?_)
      refine TC.quiet rfl ?_
      refine qv (yMove (v := .int .i64 _) rfl) rfl rfl ?_
      refine qv (yAdd rfl rfl (by omega)) rfl rfl ?_
      refine qv (yAsgn (v := .int .i64 _) rfl) rfl rfl ?_
      refine QL.nil ?_
      refine TQ.lpL (j + 1, J3, a5, c5, putH u cur2) (by first | omega | (dsimp only; omega)) (by repeat (first | exact OffL.refl | refine OffL.updO rfl ?_ | refine OffL.upd rfl ?_ | refine OffL.updL rfl ?_ | refine OffL.mask rfl ?_)) ⟨rfl, rfl, trivial⟩ (fun w hw => ⟨⟨by omega, hJ2.trans hJ3, hr3, hrc3, by rw [foldl_take putF hu, ← he2]⟩, hw.dr⟩)
    ·
      refine QL.nil ?_
      refine TQ.sq ?_
      refine TC.condF rfl ?_
      refine TC.exit (TQ.sqX (TQ.lpLX (TQ.blkX (TQ.blk (TQ.sq ?_)))))
      refine TC.quiet rfl ?_
      refine qv (yMove (v := .int .i64 _) rfl) rfl rfl ?_
      refine qv (yAdd rfl rfl (by omega)) rfl rfl ?_
      refine qv (yAsgn (v := .int .i64 _) rfl) rfl rfl ?_
      refine QL.nil ?_
      refine TQ.lpL (k + 1, J2, a4, c4, cur2) (by first | omega | (dsimp only; omega)) (by repeat (first | exact OffL.refl | refine OffL.updO rfl ?_ | refine OffL.upd rfl ?_ | refine OffL.updL rfl ?_ | refine OffL.mask rfl ?_)) ⟨rfl, rfl, trivial⟩ (fun w hw => ⟨⟨by omega, hJ2, hr2, hrc2, by rw [he2, heldP_take hx]; obtain rfl : j = x.hs.length := by {omega}; rw [List.take_length]⟩, hw.dr⟩)
  ·
    refine QL.nil ?_
    refine TQ.sq ?_
    refine TC.condF rfl ?_
    refine TC.exit (TQ.sqX (TQ.lpLX (TQ.blkX (TQ.sq ?_))))
    refine TC.seq ?_
    refine TC.quiet rfl ?_
    refine qv (yMove (v := .slice _ _ _) rfl) rfl rfl ?_
    refine qv (yAsgn (v := .slice _ _ _) rfl) rfl rfl ?_
    refine QL.nil ?_
    refine TQ.sq ?_
    refine TC.ret ?_
    refine TQ.post (v := .slice _ _ _) rfl ?_
    obtain rfl : k = xs.length := by omega
    rw [List.take_length] at he
    subst he
    exact fun w hw => ⟨J, a3, c3, hJ, rfl, hr, hrc, hw⟩
theorem Rlists_ok {c : Cx} {I : Im} (l : Ow) (a : Option Addr) (cap : Nat) (hs : List Hd) (hs0 : SA (St c I l) encH 2 a hs) (hwf : ∀ h ∈ hs, WH h) (hl : hs.length ≤ 1000000) : Ct Try.prog 48 [.slice a hs.length cap] (St c I l) fun v w => v = str (listsB hs) ∧ St c I l w := by
  refine Ct.enter (n := 33) Try.func48 rfl rfl rfl rfl rfl rfl ?_
  refine TC.seq ?_
  refine TC.quiet rfl ?_
  refine qv (yAsgn (v := str _) rfl) rfl rfl ?_
  refine QL.nil ?_
  refine TQ.sq ?_
  refine TC.seq ?_
  refine TC.quiet rfl ?_
  refine qv (yAsgn (v := str _) rfl) rfl rfl ?_
  refine QL.nil ?_
  refine TQ.sq ?_
  refine TC.seq ?_
  refine TC.quiet rfl ?_
  refine qv (yAsgn (v := str _) rfl) rfl rfl ?_
  refine QL.nil ?_
  refine TQ.sq ?_
  refine TC.seq ?_
  refine TC.seq ?_
  refine TC.quiet rfl ?_
  refine qv (yAsgn (v := .int .i64 _) rfl) rfl rfl ?_
  refine QL.nil ?_
  refine TQ.sq ?_
  refine TC.block ?_
  refine TC.loopL (ι := (Nat)) [3, 4, 5, 6, 7, 8, 9, 10, 11, 12, 13, 14, 15, 16, 17, 18, 19, 20, 21, 22, 23, 24, 25, 26, 27] (fun k => [(5, .int .i64 (k : Int)), (3, str (numsP ((hs.map (·.1)).take k))), (4, str (numsP ((hs.map (·.2)).take k)))]) (fun k w => (k ≤ hs.length) ∧ St c I l w) (fun k => hs.length - k) 0 ⟨rfl, rfl, rfl, trivial⟩ (fun w hw => ⟨by omega, hw⟩) ?_
  rintro g0 k
  dsimp only
  refine TC.pure fun hk => ?_
  refine TC.seq ?_
  refine TC.seq ?_
  refine TC.quiet rfl ?_
  refine qv (yMove (v := .int .i64 _) rfl) rfl rfl ?_
  refine qv (yMove (v := .slice _ _ _) rfl) rfl rfl ?_
  refine qv (ySlLen ul27 rfl) rfl rfl ?_
  refine qcLt rfl rfl rfl rfl (fun h9 => ?_) (fun h9 => ?_)
  ·
    obtain ⟨u, hu⟩ := getSome (xs := hs) (k := k) (by omega)
    have hwu := hwf u (getMem hu)
    have hn1 := numS_len hwu.1.1 hwu.1.2
    have hn2 := numS_len hwu.2.1 hwu.2.2
    have hp1 := numsP_len (xs := (hs.map (·.1)).take k) (fun x hx => by obtain ⟨y, hy, rfl⟩ := List.mem_map.1 (List.mem_of_mem_take hx); exact (hwf y hy).1)
    have hp2 := numsP_len (xs := (hs.map (·.2)).take k) (fun x hx => by obtain ⟨y, hy, rfl⟩ := List.mem_map.1 (List.mem_of_mem_take hx); exact (hwf y hy).2)
    have htl : ((hs.map (·.1)).take k).length = k := by simp; omega
    have htl2 : ((hs.map (·.2)).take k).length = k := by simp; omega
    refine QL.nil ?_
    refine TQ.sq ?_
    refine TC.condT rfl ?_
    refine TC.skip (TQ.sq ?_)
    refine TC.seq ?_
    refine TC.block ?_
    refine TC.seq ?_
    refine TC.region ?_
    refine sv (yMove (v := str _) rfl) rfl rfl ?_
    refine sv (yMove (v := .slice _ _ _) rfl) rfl rfl ?_
    refine sv (yMove (v := .int .i64 _) rfl) rfl rfl ?_
    refine sElF (v := .int .i64 _) ul27 ti49 fld49_0 ti3 (by decide) rfl hs0 rfl (by omega) (by omega) (flat_cell (enc := encH) (k := 2) (fun _ => rfl) (by simpa using hu) (by decide) rfl) rfl rfl rfl (fun _ _ => ?_)
    refine sCall (RNumber_ok _ u.1 hwu.1.1 hwu.1.2) rfl rfl (fun v18 w hw => ?_)
    obtain ⟨rfl, hw⟩ := hw
    refine TL.wl ?_ hw
    refine sv (yStrAdd rfl rfl (by omega)) rfl rfl ?_
    refine sv (yAsgn (v := str _) rfl) rfl rfl ?_
    refine TL.nil ?_
    refine TQ.sq ?_
    refine TC.region ?_
    refine sv (yMove (v := str _) rfl) rfl rfl ?_
    refine sv (yMove (v := .slice _ _ _) rfl) rfl rfl ?_
    refine sv (yMove (v := .int .i64 _) rfl) rfl rfl ?_
    refine sElF (v := .int .i64 _) ul27 ti49 fld49_1 ti3 (by decide) rfl hs0 rfl (by omega) (by omega) (flat_cell (enc := encH) (k := 2) (fun _ => rfl) (by simpa using hu) (by decide) rfl) rfl rfl rfl (fun _ _ => ?_)
    refine sCall (RNumber_ok _ u.2 hwu.2.1 hwu.2.2) rfl rfl (fun v26 w hw => ?_)
    obtain ⟨rfl, hw⟩ := hw
    refine TL.wl ?_ hw
    refine sv (yStrAdd rfl rfl (by omega)) rfl rfl ?_
    refine sv (yAsgn (v := str _) rfl) rfl rfl ?_
    refine TL.nil ?_
    refine TQ.blk (TQ.sq ?_)
    refine TC.quiet rfl ?_
    refine qv (yMove (v := .int .i64 _) rfl) rfl rfl ?_
    refine qv (yAdd rfl rfl (by omega)) rfl rfl ?_
    refine qv (yAsgn (v := .int .i64 _) rfl) rfl rfl ?_
    refine QL.nil ?_
    refine TQ.lpL (k + 1) (by first | omega | (dsimp only; omega)) (by repeat (first | exact OffL.refl | refine OffL.updO rfl ?_ | refine OffL.upd rfl ?_ | refine OffL.updL rfl ?_ | refine OffL.mask rfl ?_)) ⟨rfl, (by rw [← numsP_take (map_at (·.1) hu)]; rfl), (by rw [← numsP_take (map_at (·.2) hu)]; rfl), trivial⟩ (fun w hw => ⟨by omega, hw.dr⟩)
  ·
    refine QL.nil ?_
    refine TQ.sq ?_
    refine TC.condF rfl ?_
    refine TC.exit (TQ.sqX (TQ.lpLX (TQ.blkX (TQ.sq ?_))))
    refine TC.seq ?_
    refine TC.quiet rfl ?_
    refine qv (yMove (v := str _) rfl) rfl rfl ?_
    obtain rfl : k = hs.length := by omega
    have htm : ∀ f : Hd → Int, (hs.map f).take hs.length = hs.map f := fun f => List.take_of_length_le (by simp)
    rw [htm, htm]
    have hp1 := numsP_len (xs := hs.map (·.1)) (fun x hx => by obtain ⟨y, hy, rfl⟩ := List.mem_map.1 hx; exact (hwf y hy).1)
    have hp2 := numsP_len (xs := hs.map (·.2)) (fun x hx => by obtain ⟨y, hy, rfl⟩ := List.mem_map.1 hx; exact (hwf y hy).2)
    simp only [List.length_map] at hp1 hp2
    refine qv (yStrAdd rfl rfl (by simp only [List.length_cons, List.length_nil]; omega)) rfl rfl ?_
    refine qv (yMove (v := str _) rfl) rfl rfl ?_
    refine qv (yStrAdd rfl rfl (by simp only [List.length_append, List.length_cons, List.length_nil]; omega)) rfl rfl ?_
    refine qv (yStrAdd rfl rfl (by simp only [List.length_append, List.length_cons, List.length_nil]; omega)) rfl rfl ?_
    refine qv (yAsgn (v := str _) rfl) rfl rfl ?_
    refine QL.nil ?_
    refine TQ.sq ?_
    refine TC.ret ?_
    refine TQ.post (v := str _) rfl ?_
    exact fun w hw => ⟨by unfold listsB numsB; rw [← List.append_assoc], hw⟩
theorem RBytes_ok {c : Cx} {I : Im} (l : Ow) (p : Nat) (a1 : Option Addr) (c1 : Nat) (xs : List SX) (a2 : Option Addr) (c2 : Nat) (dead : List Hd) (hS : SL I a1 xs) (hd : RA I encH 2 a2 dead) (hdl : dead.length ≤ 1000) (hwf : ∀ x ∈ xs.map absS, WS x) (hwd : ∀ h ∈ dead, WH h) : Ct Try.prog 28 [.pointer (some ⟨p, 0, none⟩)] (St c I ((p, (bkO 29 a1 xs.length c1 a2 dead.length c2)) :: l)) fun v w => v = str (bytesB (xs.map absS) dead) ∧ St c I ((p, (bkO 29 a1 xs.length c1 a2 dead.length c2)) :: l) w := by
  refine Ct.enter (n := 48) Try.func28 rfl rfl rfl rfl rfl rfl ?_
  refine TC.seq ?_
  refine TC.quiet rfl ?_
  refine qv (yAsgn (v := str _) rfl) rfl rfl ?_
  refine QL.nil ?_
  refine TQ.sq ?_
  refine TC.seq ?_
  refine TC.region ?_
  refine sv (yMove (v := .pointer _) rfl) rfl rfl ?_
  refine sv (yNil rfl) rfl rfl ?_
  refine sv (yFA fld29_0 ti26 (by decide) rfl) rfl rfl ?_
  refine sv (yLd1 ti26 rfl (by first | exact RdC.rd | exact rdI (by assumption)) rfl) rfl rfl ?_
  refine sv (ySlLen ul26 rfl) rfl rfl ?_
  have hSn := hS.n
  refine sCall (RNumber_ok _ (xs.length : Int) (by omega) (by omega)) rfl rfl (fun v10 w hw => ?_)
  obtain ⟨rfl, hw⟩ := hw
  refine TL.wl ?_ hw
  refine sv (yAsgn (v := str _) rfl) rfl rfl ?_
  refine TL.nil ?_
  refine TQ.sq ?_
  refine TC.seq ?_
  refine TC.seq ?_
  refine TC.quiet rfl ?_
  refine qv (yAsgn (v := .int .i64 _) rfl) rfl rfl ?_
  refine QL.nil ?_
  refine TQ.sq ?_
  refine TC.block ?_
  refine TC.loopL (ι := (Nat) × (List UInt8)) [3, 4, 11, 12, 13, 14, 15, 16, 17, 18, 19, 20, 21, 22, 23, 24, 25, 26, 27, 28, 29, 30, 31, 32, 33, 34, 35, 36, 37, 38, 39, 40] (fun ⟨k, bs⟩ => [(4, .int .i64 (k : Int)), (3, str bs)]) (fun ⟨k, bs⟩ w => (k ≤ xs.length ∧ bs = numS (xs.map absS).length ++ bytesS ((xs.map absS).take k)) ∧ St c I ((p, (bkO 29 a1 xs.length c1 a2 dead.length c2)) :: l) w) (fun ⟨k, bs⟩ => xs.length - k) (0, numS xs.length) ⟨rfl, rfl, trivial⟩ (fun w hw => ⟨⟨by omega, by simp [bytesS]⟩, hw⟩) ?_
  rintro g0 ⟨k, bs⟩
  dsimp only
  refine TC.pure fun ⟨hk, hbs⟩ => ?_
  refine TC.seq ?_
  refine TC.seq ?_
  refine TC.quiet rfl ?_
  refine qv (yMove (v := .int .i64 _) rfl) rfl rfl ?_
  refine qv (yMove (v := .pointer _) rfl) rfl rfl ?_
  refine qv (yNil rfl) rfl rfl ?_
  refine qv (yFA fld29_0 ti26 (by decide) rfl) rfl rfl ?_
  refine qv (yLd1 ti26 rfl (by first | exact RdC.rd | exact rdI (by assumption)) rfl) rfl rfl ?_
  refine qv (ySlLen ul26 rfl) rfl rfl ?_
  refine qcLt rfl rfl rfl rfl (fun h17 => ?_) (fun h17 => ?_)
  ·
    obtain ⟨x, hx⟩ := getSome (xs := xs) (k := k) (by omega)
    have hxe := hS.e x (getMem hx)
    have hbl := congrArg List.length hbs
    rw [List.length_append] at hbl
    have hws := hwf (absS x) (List.mem_map_of_mem (getMem hx))
    have hb1 := bytesS_len (xs := (xs.map absS).take k) (fun y hy => hwf y (List.mem_of_mem_take hy))
    have hb0 := numS_len (z := ((xs.map absS).length : Int)) (by simp <;> omega) (by simp <;> omega)
    have hb2 := numS_len hws.1.1 hws.1.2
    have hb3 := listsB_len hws.2.1
    have htl : ((xs.map absS).take k).length = k := by simp; omega
    have hb4 := hws.2.2
    simp only [absS] at hb2 hb3 hb4
    refine QL.nil ?_
    refine TQ.sq ?_
    refine TC.condT rfl ?_
    refine TC.skip (TQ.sq ?_)
    refine TC.seq ?_
    refine TC.block ?_
    refine TC.heldS 21 (.q 0 (.q 1 (.q 2 (.q 3 (.q 4 (.q 5 (.q 6 (.q 7 (.q 8 (.q 11 (.q 12 (.q 13 (.q 14 (.q 15 (.q 16 (.q 17 (.q 18 (.x 9 (.q 10 (.x 19 (.q 20 (.x 21 .done)))))))))))))))))))))) (fun _ _ h => h.drawn _) mixed rfl (by kernel_rfl) (by kernel_rfl) ?_
    refine Go.E.hq rfl (yMove (v := str _) rfl) rfl rfl (by first | exact Wk.w | exact fun w hw => (hw.le (by assumption)).dr) ?_
    refine Go.E.hq rfl (yMove (v := .pointer _) rfl) rfl rfl (by first | exact Wk.w | exact fun w hw => (hw.le (by assumption)).dr) ?_
    refine Go.E.hq rfl (yNil rfl) rfl rfl (by first | exact Wk.w | exact fun w hw => (hw.le (by assumption)).dr) ?_
    refine Go.E.hq rfl (yFA fld29_0 ti26 (by decide) rfl) rfl rfl (by first | exact Wk.w | exact fun w hw => (hw.le (by assumption)).dr) ?_
    refine Go.E.hq rfl (yLd1 ti26 rfl (by first | exact RdC.rd | exact rdI (by assumption)) rfl) rfl rfl (by first | exact Wk.w | exact fun w hw => (hw.le (by assumption)).dr) ?_
    refine Go.E.hq rfl (yMove (v := .int .i64 _) rfl) rfl rfl (by first | exact Wk.w | exact fun w hw => (hw.le (by assumption)).dr) ?_
    refine hElF rfl rfl rfl (v := .int .i64 _) ul26 ti66 fld66_0 ti3 (by decide) rfl (RA.sa hS.r) rfl (by omega) (by omega) (flat_cell (enc := encS) (k := 2) (fun _ => rfl) (by simpa using hx) (by decide) rfl) rfl (fun _ => rfl) (fun _ _ => rfl) rfl rfl rfl (by first | exact Wk.w | exact fun w hw => (hw.le (by assumption)).dr) (fun _ _ => ?_)
    refine Go.E.hq rfl (yMove (v := .pointer _) rfl) rfl rfl (by first | exact Wk.w | exact fun w hw => (hw.le (by assumption)).dr) ?_
    refine Go.E.hq rfl (yNil rfl) rfl rfl (by first | exact Wk.w | exact fun w hw => (hw.le (by assumption)).dr) ?_
    refine Go.E.hq rfl (yFA fld29_0 ti26 (by decide) rfl) rfl rfl (by first | exact Wk.w | exact fun w hw => (hw.le (by assumption)).dr) ?_
    refine Go.E.hq rfl (yLd1 ti26 rfl (by first | exact RdC.rd | exact rdI (by assumption)) rfl) rfl rfl (by first | exact Wk.w | exact fun w hw => (hw.le (by assumption)).dr) ?_
    refine Go.E.hq rfl (yMove (v := .int .i64 _) rfl) rfl rfl (by first | exact Wk.w | exact fun w hw => (hw.le (by assumption)).dr) ?_
    refine hElF rfl rfl rfl (v := .slice _ _ _) ul26 ti66 fld66_1 ti27 (by decide) rfl (RA.sa hS.r) rfl (by omega) (by omega) (flat_cell (enc := encS) (k := 2) (fun _ => rfl) (by simpa using hx) (by decide) rfl) rfl (fun _ => rfl) (fun _ _ => rfl) rfl rfl rfl (by first | exact Wk.w | exact fun w hw => (hw.le (by assumption)).dr) (fun _ _ => ?_)
    refine Go.E.hx rfl ?_
    refine sCall (RNumber_ok _ x.n hws.1.1 hws.1.2) rfl rfl (fun v29 w hw => ?_)
    obtain ⟨rfl, hw⟩ := hw
    refine TL.wl ?_ hw
    refine Go.E.hn (fun _ => by exact (by first | exact Wk.w | exact fun w hw => (hw.le (by assumption)).dr)) ?_
    refine Go.E.hq rfl (yStrAdd rfl rfl (by omega)) rfl rfl (by first | exact Wk.w | exact fun w hw => (hw.le (by assumption)).dr) ?_
    refine Go.E.hx rfl ?_
    refine sCall (Rlists_ok _ x.a x.cap x.hs (RA.sa hxe.1) hws.2.1 (by omega)) rfl rfl (fun v39 w hw => ?_)
    obtain ⟨rfl, hw⟩ := hw
    refine TL.wl ?_ hw
    refine Go.E.hn (fun _ => by exact (by first | exact Wk.w | exact fun w hw => (hw.le (by assumption)).dr)) ?_
    refine Go.E.hq rfl (yStrAdd rfl rfl (by simp only [List.length_append]; omega)) rfl rfl (by first | exact Wk.w | exact fun w hw => (hw.le (by assumption)).dr) ?_
    refine Go.E.hx rfl ?_
    refine sv (yAsgn (v := str _) rfl) rfl rfl ?_
    refine Go.E.hn (fun h => nomatch h) ?_
    refine TQ.blk (TQ.sq ?_)
    refine TC.quiet rfl ?_
    refine qv (yMove (v := .int .i64 _) rfl) rfl rfl ?_
    refine qv (yAdd rfl rfl (by omega)) rfl rfl ?_
    refine qv (yAsgn (v := .int .i64 _) rfl) rfl rfl ?_
    refine QL.nil ?_
    refine TQ.lpL (k + 1, bs ++ numS x.n ++ listsB x.hs) (by first | omega | (dsimp only; omega)) (by repeat (first | exact OffL.refl | refine OffL.updO rfl ?_ | refine OffL.upd rfl ?_ | refine OffL.updL rfl ?_ | refine OffL.mask rfl ?_)) ⟨rfl, rfl, trivial⟩ (fun w hw => ⟨⟨by omega, by rw [bytesS_take hx, hbs]; simp only [List.append_assoc]⟩, hw.dr⟩)
  ·
    refine QL.nil ?_
    refine TQ.sq ?_
    refine TC.condF rfl ?_
    refine TC.exit (TQ.sqX (TQ.lpLX (TQ.blkX (TQ.sq ?_))))
    refine TC.seq ?_
    refine TC.region ?_
    refine sv (yMove (v := str _) rfl) rfl rfl ?_
    refine sv (yMove (v := .pointer _) rfl) rfl rfl ?_
    refine sv (yNil rfl) rfl rfl ?_
    refine sv (yFA fld29_1 ti27 (by decide) rfl) rfl rfl ?_
    refine sv (yLd1 ti27 rfl (by first | exact RdC.rd | exact rdI (by assumption)) rfl) rfl rfl ?_
    refine sCall (Rlists_ok _ a2 c2 dead (RA.sa hd) hwd (by omega)) rfl rfl (fun v46 w hw => ?_)
    obtain ⟨rfl, hw⟩ := hw
    refine TL.wl ?_ hw
    obtain rfl : k = xs.length := by omega
    rw [show (xs.map absS).take xs.length = xs.map absS from List.take_of_length_le (by simp)] at hbs
    have hbl := congrArg List.length hbs
    rw [List.length_append] at hbl
    have hb1 := bytesS_len hwf
    have hb0 := numS_len (z := ((xs.map absS).length : Int)) (by simp <;> omega) (by simp <;> omega)
    have hb3 := listsB_len hwd
    simp only [List.length_map] at hb1 hb0 hbl
    refine sv (yStrAdd rfl rfl (by omega)) rfl rfl ?_
    refine sv (yAsgn (v := str _) rfl) rfl rfl ?_
    refine TL.nil ?_
    refine TQ.sq ?_
    refine TC.ret ?_
    refine TQ.post (v := str _) rfl ?_
    exact fun w hw => ⟨by unfold bytesB; rw [hbs], hw⟩
end Go.Proofs.Ytfiambcocnceiaa
