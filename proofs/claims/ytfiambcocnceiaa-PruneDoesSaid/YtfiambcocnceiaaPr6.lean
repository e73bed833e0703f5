import Derived.Test.YtfiambcocnceiaaPr5
set_option linter.unusedVariables false
set_option maxRecDepth 100000
namespace Go.Proofs.Ytfiambcocnceiaa
open Go Go.E

theorem addE_n {S : List (Int × List Hd)} {dead : List Hd} {n : Int} {hs : List Hd} (h : n < 1 ∨ 512 < n ∨ n ≤ lastN S) : addE S dead n hs = 2 := by unfold addE; rw [if_pos h]
theorem addE_p {S : List (Int × List Hd)} {dead : List Hd} {n : Int} {hs : List Hd} (h : ¬ (n < 1 ∨ 512 < n ∨ n ≤ lastN S)) (hp : plainB hs = false) : addE S dead n hs = 2 := by unfold addE; rw [if_neg h, if_pos hp]
theorem addE_f {S : List (Int × List Hd)} {dead : List Hd} {n : Int} {hs : List Hd} (h : ¬ (n < 1 ∨ 512 < n ∨ n ≤ lastN S)) (hp : plainB hs = true) (hf : fitsB (sizesP S) (deadM dead) hs = false) : addE S dead n hs = 2 := by unfold addE; rw [if_neg h, if_neg (by simp [hp]), if_pos hf]
theorem addE_m {S : List (Int × List Hd)} {dead : List Hd} {n : Int} {hs : List Hd} (h : ¬ (n < 1 ∨ 512 < n ∨ n ≤ lastN S)) (hp : plainB hs = true) (hf : fitsB (sizesP S) (deadM dead) hs = true) (hm : 256 < manyP S dead hs) : addE S dead n hs = 11 := by unfold addE; rw [if_neg h, if_neg (by simp [hp]), if_neg (by simp [hf]), if_pos hm]
theorem addE_ok {S : List (Int × List Hd)} {dead : List Hd} {n : Int} {hs : List Hd} (h : ¬ (n < 1 ∨ 512 < n ∨ n ≤ lastN S)) (hp : plainB hs = true) (hf : fitsB (sizesP S) (deadM dead) hs = true) (hm : ¬ 256 < manyP S dead hs) : addE S dead n hs = 0 := by unfold addE; rw [if_neg h, if_neg (by simp [hp]), if_neg (by simp [hf]), if_neg hm]
def heldA (S : List (Int × List Hd)) (d : List Hd) : List Hd := (S.flatMap (·.2)).foldl putF d
theorem heldP_A (xs : List SX) (d : List Hd) : heldP xs d = heldA (xs.map absS) d := by
  unfold heldP heldA; congr 1; induction xs with
  | nil => rfl
  | cons x r ih => simp [absS]; exact ih
def bad1 (h : Hd) (x : Int × List Hd) : Bool := match dget x.2 h.1 with
  | some s => decide (s ≠ h.2)
  | none => false
theorem any_take {α : Type} (f : α → Bool) {hs : List α} {k : Nat} {u : α} (h : hs[k]? = some u) : (hs.take (k + 1)).any f = ((hs.take k).any f || f u) := by rw [take_snoc h]; simp
theorem any_yes {α : Type} (f : α → Bool) {hs : List α} {k : Nat} {u : α} (h : hs[k]? = some u) (hf : f u = true) : hs.any f = true := by rw [List.any_eq_true]; exact ⟨u, List.mem_of_getElem? h, hf⟩
def clash1 (S : List (Int × List Hd)) (dead : List Hd) (h : Hd) : Bool := (dget dead h.1).isSome || S.any (bad1 h)
def clashB (S : List (Int × List Hd)) (dead hs : List Hd) : Bool := hs.any (clash1 S dead)
theorem clash_a {S : List (Int × List Hd)} {dead hs : List Hd} {k : Nat} {u : Hd} {s : Int} (hu : hs[k]? = some u) (h : dget dead u.1 = some s) : clashB S dead hs = true := any_yes _ hu (by unfold clash1; rw [h]; rfl)
theorem clash_b {xs : List SX} {dead hs : List Hd} {k i : Nat} {u : Hd} {x : SX} {s : Int} (hu : hs[k]? = some u) (hx : xs[i]? = some x) (h : dget x.hs u.1 = some s) (hne : s ≠ u.2) : clashB (xs.map absS) dead hs = true :=
  any_yes _ hu (by
    unfold clash1
    rw [any_yes (bad1 u) (map_at absS hx) (by unfold bad1 absS; simp only [h]; simpa using hne)]; simp)
theorem bad1_n {x : SX} {u : Hd} (h : dget x.hs u.1 = none) : bad1 u (absS x) = false := by unfold bad1 absS; simp only [h]
theorem bad1_s {x : SX} {u : Hd} {s : Int} (h : dget x.hs u.1 = some s) (he : s = u.2) : bad1 u (absS x) = false := by unfold bad1 absS; simp only [h]; simpa using he
def addR (S : List (Int × List Hd)) (dead : List Hd) (n : Int) (hs : List Hd) : Int :=
  if n < 1 ∨ 512 < n ∨ n ≤ lastN S then 2 else if plainB hs = false then 2 else if clashB S dead hs = true then 2 else if 256 < (hs.foldl putF (heldA S dead)).length then 11 else 0
theorem addR_n {S : List (Int × List Hd)} {dead : List Hd} {n : Int} {hs : List Hd} (h : n < 1 ∨ 512 < n ∨ n ≤ lastN S) : addR S dead n hs = 2 := by unfold addR; rw [if_pos h]
theorem addR_p {S : List (Int × List Hd)} {dead : List Hd} {n : Int} {hs : List Hd} (h : ¬ (n < 1 ∨ 512 < n ∨ n ≤ lastN S)) (hp : plainB hs = false) : addR S dead n hs = 2 := by unfold addR; rw [if_neg h, if_pos hp]
theorem addR_c {S : List (Int × List Hd)} {dead : List Hd} {n : Int} {hs : List Hd} (h : ¬ (n < 1 ∨ 512 < n ∨ n ≤ lastN S)) (hp : plainB hs = true) (hf : clashB S dead hs = true) : addR S dead n hs = 2 := by unfold addR; rw [if_neg h, if_neg (by simp [hp]), if_pos hf]
theorem addR_m {S : List (Int × List Hd)} {dead : List Hd} {n : Int} {hs : List Hd} (h : ¬ (n < 1 ∨ 512 < n ∨ n ≤ lastN S)) (hp : plainB hs = true) (hf : clashB S dead hs = false) (hm : 256 < (hs.foldl putF (heldA S dead)).length) : addR S dead n hs = 11 := by unfold addR; rw [if_neg h, if_neg (by simp [hp]), if_neg (by simp [hf]), if_pos hm]
theorem addR_ok {S : List (Int × List Hd)} {dead : List Hd} {n : Int} {hs : List Hd} (h : ¬ (n < 1 ∨ 512 < n ∨ n ≤ lastN S)) (hp : plainB hs = true) (hf : clashB S dead hs = false) (hm : ¬ 256 < (hs.foldl putF (heldA S dead)).length) : addR S dead n hs = 0 := by unfold addR; rw [if_neg h, if_neg (by simp [hp]), if_neg (by simp [hf]), if_neg hm]
theorem lastN_nil {xs : List SX} (h : (xs.length : Int) ≤ 0) : lastN (xs.map absS) = 0 := by
  have : xs = [] := List.eq_nil_of_length_eq_zero (by omega)
  subst this; rfl
theorem SL.add {I J : Im} {a : Option Addr} {xs : List SX} {x : SX} (h : SL I a xs) (hJ : Le I J) {a' : Option Addr} (hr : RA J encS 2 a' (xs ++ [x])) (hx : RA J encH 2 x.a x.hs) (hxc : x.hs.length ≤ x.cap) (hxl : x.hs.length ≤ 1000) (hn : xs.length < 1000) : SL J a' (xs ++ [x]) :=
  ⟨hr, fun y hy => by
    rcases List.mem_append.1 hy with hy | hy
    · exact ⟨(h.e y hy).1.le hJ, (h.e y hy).2⟩
    · rw [List.mem_singleton.1 hy]; exact ⟨hx, hxc, hxl⟩, by simp; omega⟩

theorem LAdd_ok {c : Cx} {I : Im} (l : Ow) (p : Nat) (a1 : Option Addr) (c1 : Nat) (xs : List SX) (a2 : Option Addr) (c2 : Nat) (dead : List Hd) (n : Int) (a : Option Addr) (cap : Nat) (hs : List Hd) (hS : SL I a1 xs) (hc1 : xs.length ≤ c1) (hn1 : xs.length < 1000) (hok : OKS xs) (hd : SA (St c I l) encH 2 a2 dead) (hdl : dead.length ≤ 1000) (hh : SA (St c I l) encH 2 a hs) (hhl : hs.length ≤ 1000) : Ct Try.prog 13 [.pointer (some ⟨p, 0, none⟩), .int .i64 n, .slice a hs.length cap] (St c I ((p, (bkO 46 a1 xs.length c1 a2 dead.length c2)) :: l)) fun v w => ∃ J a3 c3 ys, Le I J ∧ v = .int .i64 (addE (xs.map absS) dead n hs) ∧ SL J a3 ys ∧ ys.length ≤ c3 ∧ ys.map absS = (if addE (xs.map absS) dead n hs = 0 then xs.map absS ++ [(n, hs)] else xs.map absS) ∧ St c J ((p, (bkO 46 a3 ys.length c3 a2 dead.length c2)) :: l) w := by
  refine Ct.enter (n := 82) Try.func13 rfl rfl rfl rfl rfl rfl ?_
  refine TC.seq ?_
  refine TC.quiet rfl ?_
  refine qv (yAsgn (v := .int .i64 _) rfl) rfl rfl ?_
  refine QL.nil ?_
  refine TQ.sq ?_
  refine TC.seq ?_
  refine TC.block ?_
  refine TC.seq ?_
  refine TC.quiet rfl ?_
  refine qv (yMove (v := .pointer _) rfl) rfl rfl ?_
  refine qv (yPNil ul23 rfl rfl) rfl rfl ?_
  refine qv (yAsgn (v := .bool _) rfl) rfl rfl ?_
  refine QL.nil ?_
  refine TQ.sq ?_
  refine TC.condF rfl ?_
  refine TC.seq ?_
  refine TC.quietD (fun _ _ h => h.drawn _) mixed (by kernel_rfl) rfl ?_
  refine qv (yMove (v := .int .i64 _) rfl) rfl rfl ?_
  have hSn := hS.n
  refine qcLt rfl rfl rfl rfl (fun h12 => ?_) (fun h12 => ?_)
  ·
    refine qv (yMove (v := .bool _) rfl) rfl rfl ?_
    refine qk (.inl ⟨_, _, rfl, rfl, rfl⟩) rfl ?_
    refine qk (.inl ⟨_, _, rfl, rfl, rfl⟩) rfl ?_
    refine qv (yPickT rfl rfl) rfl rfl ?_
    refine qv (yMove (v := .bool _) rfl) rfl rfl ?_
    refine qk (.inl ⟨_, _, rfl, rfl, rfl⟩) rfl ?_
    refine qk (.inl ⟨_, _, rfl, rfl, rfl⟩) rfl ?_
    refine qk (.inl ⟨_, _, rfl, rfl, rfl⟩) rfl ?_
    refine qk (.inl ⟨_, _, rfl, rfl, rfl⟩) rfl ?_
    refine qk (.inl ⟨_, _, rfl, rfl, rfl⟩) rfl ?_
    refine qk (.inl ⟨_, _, rfl, rfl, rfl⟩) rfl ?_
    refine qk (.inl ⟨_, _, rfl, rfl, rfl⟩) rfl ?_
    refine qk (.inr ⟨rfl, _, rfl, rfl⟩) rfl ?_
    refine qk (.inr ⟨rfl, _, rfl, rfl⟩) rfl ?_
    refine qk (.inr ⟨rfl, _, rfl, rfl⟩) rfl ?_
    refine qk (.inr ⟨rfl, _, rfl, rfl⟩) rfl ?_
    refine qk (.inr ⟨rfl, _, rfl, rfl⟩) rfl ?_
    refine qk (.inr ⟨rfl, _, rfl, rfl⟩) rfl ?_
    refine qk (.inr ⟨rfl, _, rfl, rfl⟩) rfl ?_
    refine qk (.inr ⟨rfl, _, rfl, rfl⟩) rfl ?_
    refine qk (.inr ⟨rfl, _, rfl, rfl⟩) rfl ?_
    refine qk (.inr ⟨rfl, _, rfl, rfl⟩) rfl ?_
    refine qk (.inr ⟨rfl, _, rfl, rfl⟩) rfl ?_
    refine qk (.inr ⟨rfl, _, rfl, rfl⟩) rfl ?_
    refine qk (.inr ⟨rfl, _, rfl, rfl⟩) rfl ?_
    refine qk (.inr ⟨rfl, _, rfl, rfl⟩) rfl ?_
    refine qk (.inr ⟨rfl, _, rfl, rfl⟩) rfl ?_
    refine qk (.inl ⟨_, _, rfl, rfl, rfl⟩) rfl ?_
    refine qv (yPickT rfl rfl) rfl rfl ?_
    refine qv (yAsgn (v := .bool _) rfl) rfl rfl ?_
    refine QL.nil ?_
    refine TQ.sq ?_
    refine TC.condT rfl ?_
    refine TC.seq ?_
    refine TC.quiet rfl ?_
    refine qv (yAsgn (v := .int .i64 _) rfl) rfl rfl ?_
    refine QL.nil ?_
    refine TQ.sq ?_
    refine TC.ret (TQ.blkR (TQ.sqR ?_))
    refine TQ.post (v := .int .i64 _) rfl ?_
    have e := addE_n (S := xs.map absS) (dead := dead) (n := n) (hs := hs) (by omega)
    exact fun w hw => ⟨I, a1, c1, xs, Le.refl I, by rw [e], hS, hc1, by rw [e, if_neg (by decide)], hw.dr⟩
  ·
    refine qv (yMove (v := .bool _) rfl) rfl rfl ?_
    refine qv (yMove (v := .int .i64 _) rfl) (.inl ⟨_, _, rfl, rfl, rfl⟩) rfl ?_
    refine qcGt rfl rfl (.inl ⟨_, _, rfl, rfl, rfl⟩) rfl (fun h15 => ?_) (fun h15 => ?_)
    ·
      refine qv (yPickF rfl rfl) rfl rfl ?_
      refine qv (yMove (v := .bool _) rfl) rfl rfl ?_
      refine qk (.inl ⟨_, _, rfl, rfl, rfl⟩) rfl ?_
      refine qk (.inl ⟨_, _, rfl, rfl, rfl⟩) rfl ?_
      refine qk (.inl ⟨_, _, rfl, rfl, rfl⟩) rfl ?_
      refine qk (.inl ⟨_, _, rfl, rfl, rfl⟩) rfl ?_
      refine qk (.inl ⟨_, _, rfl, rfl, rfl⟩) rfl ?_
      refine qk (.inl ⟨_, _, rfl, rfl, rfl⟩) rfl ?_
      refine qk (.inl ⟨_, _, rfl, rfl, rfl⟩) rfl ?_
      refine qk (.inr ⟨rfl, _, rfl, rfl⟩) rfl ?_
      refine qk (.inr ⟨rfl, _, rfl, rfl⟩) rfl ?_
      refine qk (.inr ⟨rfl, _, rfl, rfl⟩) rfl ?_
      refine qk (.inr ⟨rfl, _, rfl, rfl⟩) rfl ?_
      refine qk (.inr ⟨rfl, _, rfl, rfl⟩) rfl ?_
      refine qk (.inr ⟨rfl, _, rfl, rfl⟩) rfl ?_
      refine qk (.inr ⟨rfl, _, rfl, rfl⟩) rfl ?_
      refine qk (.inr ⟨rfl, _, rfl, rfl⟩) rfl ?_
      refine qk (.inr ⟨rfl, _, rfl, rfl⟩) rfl ?_
      refine qk (.inr ⟨rfl, _, rfl, rfl⟩) rfl ?_
      refine qk (.inr ⟨rfl, _, rfl, rfl⟩) rfl ?_
      refine qk (.inr ⟨rfl, _, rfl, rfl⟩) rfl ?_
      refine qk (.inr ⟨rfl, _, rfl, rfl⟩) rfl ?_
      refine qk (.inr ⟨rfl, _, rfl, rfl⟩) rfl ?_
      refine qk (.inr ⟨rfl, _, rfl, rfl⟩) rfl ?_
      refine qk (.inl ⟨_, _, rfl, rfl, rfl⟩) rfl ?_
      refine qv (yPickT rfl rfl) rfl rfl ?_
      refine qv (yAsgn (v := .bool _) rfl) rfl rfl ?_
      refine QL.nil ?_
      refine TQ.sq ?_
      refine TC.condT rfl ?_
      refine TC.seq ?_
      refine TC.quiet rfl ?_
      refine qv (yAsgn (v := .int .i64 _) rfl) rfl rfl ?_
      refine QL.nil ?_
      refine TQ.sq ?_
      refine TC.ret (TQ.blkR (TQ.sqR ?_))
      refine TQ.post (v := .int .i64 _) rfl ?_
      have e := addE_n (S := xs.map absS) (dead := dead) (n := n) (hs := hs) (by omega)
      exact fun w hw => ⟨I, a1, c1, xs, Le.refl I, by rw [e], hS, hc1, by rw [e, if_neg (by decide)], hw.dr⟩
    ·
      refine qv (yPickF rfl rfl) rfl rfl ?_
      refine qv (yMove (v := .bool _) rfl) rfl rfl ?_
      refine qv (yMove (v := .pointer _) rfl) (.inl ⟨_, _, rfl, rfl, rfl⟩) rfl ?_
      refine qv (yNil rfl) (.inl ⟨_, _, rfl, rfl, rfl⟩) rfl ?_
      refine qv (yFA fld46_0 ti44 (by decide) rfl) (.inl ⟨_, _, rfl, rfl, rfl⟩) rfl ?_
      refine qv (yLd1 ti44 rfl (by first | exact RdC.rd | exact rdI (by assumption)) rfl) (.inl ⟨_, _, rfl, rfl, rfl⟩) rfl ?_
      refine qv (ySlLen ul44 rfl) (.inl ⟨_, _, rfl, rfl, rfl⟩) rfl ?_
      refine qcGt rfl rfl (.inl ⟨_, _, rfl, rfl, rfl⟩) rfl (fun h23 => ?_) (fun h23 => ?_)
      ·
        obtain ⟨x, hxk⟩ := getSome (xs := xs) (k := xs.length - 1) (by omega)
        have hla := lastN_at hxk
        have hxi : xs[((xs.length : Int) - 1).toNat]? = some x := by rw [show ((xs.length : Int) - 1).toNat = xs.length - 1 from by omega]; exact hxk
        refine qv (yMove (v := .bool _) rfl) (.inl ⟨_, _, rfl, rfl, rfl⟩) rfl ?_
        refine qv (yMove (v := .int .i64 _) rfl) (.inl ⟨_, _, rfl, rfl, rfl⟩) rfl ?_
        refine qv (yMove (v := .pointer _) rfl) (.inl ⟨_, _, rfl, rfl, rfl⟩) rfl ?_
        refine qv (yNil rfl) (.inl ⟨_, _, rfl, rfl, rfl⟩) rfl ?_
        refine qv (yFA fld46_0 ti44 (by decide) rfl) (.inl ⟨_, _, rfl, rfl, rfl⟩) rfl ?_
        refine qv (yLd1 ti44 rfl (by first | exact RdC.rd | exact rdI (by assumption)) rfl) (.inl ⟨_, _, rfl, rfl, rfl⟩) rfl ?_
        refine qv (yMove (v := .pointer _) rfl) (.inl ⟨_, _, rfl, rfl, rfl⟩) rfl ?_
        refine qv (yNil rfl) (.inl ⟨_, _, rfl, rfl, rfl⟩) rfl ?_
        refine qv (yFA fld46_0 ti44 (by decide) rfl) (.inl ⟨_, _, rfl, rfl, rfl⟩) rfl ?_
        refine qv (yLd1 ti44 rfl (by first | exact RdC.rd | exact rdI (by assumption)) rfl) (.inl ⟨_, _, rfl, rfl, rfl⟩) rfl ?_
        refine qv (ySlLen ul44 rfl) (.inl ⟨_, _, rfl, rfl, rfl⟩) rfl ?_
        refine qv (ySub rfl rfl (by omega)) (.inl ⟨_, _, rfl, rfl, rfl⟩) rfl ?_
        refine qElF (v := .int .i64 _) ul44 ti59 fld59_0 ti3 (by decide) rfl (RA.sa hS.r) rfl (by omega) (by omega) (flat_cell (enc := encS) (k := 2) (fun _ => rfl) (by simpa using hxi) (by decide) rfl) (.inl ⟨_, _, rfl, rfl, rfl⟩) (fun _ => (.inl ⟨_, _, rfl, rfl, rfl⟩)) (fun _ _ => (.inl ⟨_, _, rfl, rfl, rfl⟩)) rfl rfl rfl (fun _ _ => ?_)
        refine qcLe rfl rfl (.inl ⟨_, _, rfl, rfl, rfl⟩) rfl (fun h39 => ?_) (fun h39 => ?_)
        ·
          refine qv (yPickT rfl rfl) (.inl ⟨_, _, rfl, rfl, rfl⟩) rfl ?_
          refine qv (yPickF rfl rfl) rfl rfl ?_
          refine qv (yAsgn (v := .bool _) rfl) rfl rfl ?_
          refine QL.nil ?_
          refine TQ.sq ?_
          refine TC.condT rfl ?_
          refine TC.seq ?_
          refine TC.quiet rfl ?_
          refine qv (yAsgn (v := .int .i64 _) rfl) rfl rfl ?_
          refine QL.nil ?_
          refine TQ.sq ?_
          refine TC.ret (TQ.blkR (TQ.sqR ?_))
          refine TQ.post (v := .int .i64 _) rfl ?_
          have e := addE_n (S := xs.map absS) (dead := dead) (n := n) (hs := hs) (by omega)
          exact fun w hw => ⟨I, a1, c1, xs, Le.refl I, by rw [e], hS, hc1, by rw [e, if_neg (by decide)], hw.dr⟩
        ·
          refine qv (yPickT rfl rfl) (.inl ⟨_, _, rfl, rfl, rfl⟩) rfl ?_
          refine qv (yPickF rfl rfl) rfl rfl ?_
          refine qv (yAsgn (v := .bool _) rfl) rfl rfl ?_
          refine QL.nil ?_
          refine TQ.sq ?_
          refine TC.condF rfl ?_
          refine TC.seq ?_
          refine TC.region ?_
          refine sv (yMove (v := .slice _ _ _) rfl) rfl rfl ?_
          have hnn : ¬ (n < 1 ∨ 512 < n ∨ n ≤ lastN (xs.map absS)) := by omega
          refine sCall (plain_ok _ a cap hs (hh.mono Wk.w) (by omega)) rfl rfl (fun v44 w hw => ?_)
          obtain ⟨rfl, hw⟩ := hw
          refine TL.wl ?_ hw
          cases hp : plainB hs
          ·
            refine sv (yNotT rfl) rfl rfl ?_
            refine sv (yMove (v := .bool _) rfl) rfl rfl ?_
            refine sk rfl (.inl ⟨_, _, rfl, rfl, rfl⟩) rfl ?_
            refine sk rfl (.inl ⟨_, _, rfl, rfl, rfl⟩) rfl ?_
            refine sk rfl (.inl ⟨_, _, rfl, rfl, rfl⟩) rfl ?_
            refine sk rfl (.inl ⟨_, _, rfl, rfl, rfl⟩) rfl ?_
            refine sv (yPickT rfl rfl) rfl rfl ?_
            refine sv (yAsgn (v := .bool _) rfl) rfl rfl ?_
            refine TL.nil ?_
            refine TQ.sq ?_
            refine TC.condT rfl ?_
            refine TC.seq ?_
            refine TC.quiet rfl ?_
            refine qv (yAsgn (v := .int .i64 _) rfl) rfl rfl ?_
            refine QL.nil ?_
            refine TQ.sq ?_
            refine TC.ret (TQ.blkR (TQ.sqR ?_))
            refine TQ.post (v := .int .i64 _) rfl ?_
            have e := addE_p (S := xs.map absS) (dead := dead) (n := n) (hs := hs) hnn hp
            exact fun w hw => ⟨I, a1, c1, xs, Le.refl I, by rw [e], hS, hc1, by rw [e, if_neg (by decide)], hw.dr⟩
          ·
            refine sv (yNotF rfl) rfl rfl ?_
            refine sv (yMove (v := .bool _) rfl) rfl rfl ?_
            refine sg (yMove (v := .pointer _) rfl) rfl (.inl ⟨_, _, rfl, rfl, rfl⟩) rfl ?_
            refine sg (yMove (v := .slice _ _ _) rfl) rfl (.inl ⟨_, _, rfl, rfl, rfl⟩) rfl ?_
            refine TL.ung rfl (.inl ⟨_, _, rfl, rfl, rfl⟩) ?_
            refine sCall (fits_ok l p a1 c1 xs a2 c2 dead a cap hs hS hok hd hdl hh hhl (plainB_ok hp)) rfl rfl (fun v49 w hw => ?_)
            obtain ⟨rfl, hw⟩ := hw
            refine TL.wl ?_ hw
            cases hf : fitsB (sizesP (xs.map absS)) (deadM dead) hs
            ·
              refine sg (yNotT rfl) rfl (.inl ⟨_, _, rfl, rfl, rfl⟩) rfl ?_
              refine sv (yPickF rfl rfl) rfl rfl ?_
              refine sv (yAsgn (v := .bool _) rfl) rfl rfl ?_
              refine TL.nil ?_
              refine TQ.sq ?_
              refine TC.condT rfl ?_
              refine TC.seq ?_
              refine TC.quiet rfl ?_
              refine qv (yAsgn (v := .int .i64 _) rfl) rfl rfl ?_
              refine QL.nil ?_
              refine TQ.sq ?_
              refine TC.ret (TQ.blkR (TQ.sqR ?_))
              refine TQ.post (v := .int .i64 _) rfl ?_
              have e := addE_f (S := xs.map absS) (dead := dead) (n := n) (hs := hs) hnn hp hf
              exact fun w hw => ⟨I, a1, c1, xs, Le.refl I, by rw [e], hS, hc1, by rw [e, if_neg (by decide)], hw.dr⟩
            ·
              refine sg (yNotF rfl) rfl (.inl ⟨_, _, rfl, rfl, rfl⟩) rfl ?_
              refine sv (yPickF rfl rfl) rfl rfl ?_
              refine sv (yAsgn (v := .bool _) rfl) rfl rfl ?_
              refine TL.nil ?_
              refine TQ.sq ?_
              refine TC.condF rfl ?_
              refine TC.seq ?_
              refine TC.region ?_
              refine sv (yMove (v := .pointer _) rfl) rfl rfl ?_
              refine sv (yMove (v := .slice _ _ _) rfl) rfl rfl ?_
              refine sCall (many_ok l p a1 c1 xs a2 c2 dead a cap hs hS hok hdl hh hhl) rfl rfl (fun v55 w hw => ?_)
              obtain ⟨rfl, hw⟩ := hw
              refine TL.wl ?_ hw
              refine scGt rfl rfl rfl rfl (fun h56 => ?_) (fun h56 => ?_)
              ·
                refine sv (yAsgn (v := .bool _) rfl) rfl rfl ?_
                refine TL.nil ?_
                refine TQ.sq ?_
                refine TC.condT rfl ?_
                refine TC.seq ?_
                refine TC.quiet rfl ?_
                refine qv (yAsgn (v := .int .i64 _) rfl) rfl rfl ?_
                refine QL.nil ?_
                refine TQ.sq ?_
                refine TC.ret (TQ.blkR (TQ.sqR ?_))
                refine TQ.post (v := .int .i64 _) rfl ?_
                have e := addE_m (S := xs.map absS) (dead := dead) (n := n) (hs := hs) hnn hp hf (by omega)
                exact fun w hw => ⟨I, a1, c1, xs, Le.refl I, by rw [e], hS, hc1, by rw [e, if_neg (by decide)], hw.dr⟩
              ·
                refine sv (yAsgn (v := .bool _) rfl) rfl rfl ?_
                refine TL.nil ?_
                refine TQ.sq ?_
                refine TC.condF rfl ?_
                refine TC.skip (TQ.blk (TQ.sq ?_))
                refine TC.seq ?_
                refine TC.held (St c I ((p, (bkO 46 a1 xs.length c1 a2 dead.length c2)) :: l)) 23 (.q 0 (.q 1 (.q 2 (.q 3 (.q 4 (.q 5 (.q 6 (.q 7 (.q 8 (.q 9 (.q 10 (.q 11 (.q 12 (.q 13 (.q 14 (.q 15 (.q 16 (.q 18 (.x 17 (.x 19 (.q 20 (.x 21 (.x 22 (.x 23 (.x 24 (.x 25 .done)))))))))))))))))))))))))) (fun _ _ h => h.drawn _) mixed rfl (by kernel_rfl) (by kernel_rfl) ?_
                refine Go.E.hq rfl (yMove (v := .pointer _) rfl) rfl rfl (by first | exact Wk.w | exact fun w hw => (hw.le (by assumption)).dr) ?_
                refine Go.E.hq rfl (yMove (v := .pointer _) rfl) rfl rfl (by first | exact Wk.w | exact fun w hw => (hw.le (by assumption)).dr) ?_
                refine Go.E.hq rfl (yNil rfl) rfl rfl (by first | exact Wk.w | exact fun w hw => (hw.le (by assumption)).dr) ?_
                refine Go.E.hq rfl (yFA fld46_0 ti44 (by decide) rfl) rfl rfl (by first | exact Wk.w | exact fun w hw => (hw.le (by assumption)).dr) ?_
                refine Go.E.hq rfl (yLd1 ti44 rfl (by first | exact RdC.rd | exact rdI (by assumption)) rfl) rfl rfl (by first | exact Wk.w | exact fun w hw => (hw.le (by assumption)).dr) ?_
                refine Go.E.hq rfl (yMove (v := .pointer _) rfl) rfl rfl (by first | exact Wk.w | exact fun w hw => (hw.le (by assumption)).dr) ?_
                refine Go.E.hq rfl (yNil rfl) rfl rfl (by first | exact Wk.w | exact fun w hw => (hw.le (by assumption)).dr) ?_
                refine Go.E.hq rfl (yFA fld46_0 ti44 (by decide) rfl) rfl rfl (by first | exact Wk.w | exact fun w hw => (hw.le (by assumption)).dr) ?_
                refine Go.E.hq rfl (yLd1 ti44 rfl (by first | exact RdC.rd | exact rdI (by assumption)) rfl) rfl rfl (by first | exact Wk.w | exact fun w hw => (hw.le (by assumption)).dr) ?_
                refine Go.E.hq rfl (ySlLen ul44 rfl) rfl rfl (by first | exact Wk.w | exact fun w hw => (hw.le (by assumption)).dr) ?_
                refine Go.E.hq rfl (yMove (v := .pointer _) rfl) rfl rfl (by first | exact Wk.w | exact fun w hw => (hw.le (by assumption)).dr) ?_
                refine Go.E.hq rfl (yNil rfl) rfl rfl (by first | exact Wk.w | exact fun w hw => (hw.le (by assumption)).dr) ?_
                refine Go.E.hq rfl (yFA fld46_0 ti44 (by decide) rfl) rfl rfl (by first | exact Wk.w | exact fun w hw => (hw.le (by assumption)).dr) ?_
                refine Go.E.hq rfl (yLd1 ti44 rfl (by first | exact RdC.rd | exact rdI (by assumption)) rfl) rfl rfl (by first | exact Wk.w | exact fun w hw => (hw.le (by assumption)).dr) ?_
                refine Go.E.hq rfl (ySlLen ul44 rfl) rfl rfl (by first | exact Wk.w | exact fun w hw => (hw.le (by assumption)).dr) ?_
                refine Go.E.hq rfl (yCutHiM ul44 ti59 rfl rfl rfl (by omega) (by omega)) rfl rfl (by first | exact Wk.w | exact fun w hw => (hw.le (by assumption)).dr) ?_
                refine Go.E.hq rfl (yMove (v := .int .i64 _) rfl) rfl rfl (by first | exact Wk.w | exact fun w hw => (hw.le (by assumption)).dr) ?_
                refine Go.E.hq rfl (yMove (v := .slice _ _ _) rfl) rfl rfl (by first | exact Wk.w | exact fun w hw => (hw.le (by assumption)).dr) ?_
                refine Go.E.hx rfl ?_
                refine sBuildSl (vs := []) ul27 ti49 rfl rfl rfl rfl (fun b74 => ?_)
                refine Go.E.hn (fun _ => by exact (by first | exact Wk.w | exact fun w hw => (hw.le (by assumption)).dr)) ?_
                refine Go.E.hx rfl ?_
                refine sAppAF (ys := hs) (xs := ([] : List Hd)) (enc := encH) ul27 ul27 ti49 rfl rfl (OA.made (cs := []) rfl (fun _ => rfl) (by decide)) (hh.mono Wk.w) (fun _ => rfl) (by simp; omega) (by simp; omega) rfl (fun mH aH cH oH => ?_)
                refine Go.E.hn (fun _ => by exact (by first | exact Wk.w | exact fun w hw => (hw.le (by assumption)).dr)) ?_
                refine Go.E.hq rfl (yBuild (vs := [.int .i64 _, .slice _ _ _]) ti59 pl59 rfl) rfl rfl (by first | exact Wk.w | exact fun w hw => (hw.le (by assumption)).dr) ?_
                refine Go.E.hx rfl ?_
                refine sBuildSl (vs := [.int .i64 _, .slice _ _ _]) ul44 ti59 rfl rfl rfl rfl (fun b78 => ?_)
                refine Go.E.hn (fun _ => by exact (by first | exact Wk.w | exact fun w hw => (hw.le (by assumption)).dr)) ?_
                refine Go.E.hx rfl ?_
                refine sAppNA (ys := [(⟨n, aH, cH, hs⟩ : SX)]) (xs := xs) (enc := encS) ul44 ul44 ti59 rfl rfl (RA.sa hS.r) (sa1 _ rfl rfl) (by first | omega | (simp; done) | (simp; omega)) (by first | omega | (simp; done) | (simp; omega)) (by first | omega | (simp; done) | (simp; omega)) rfl (fun mS aS cS oS => ?_)
                refine Go.E.hn (fun _ => by exact (by first | exact Wk.w | exact fun w hw => (hw.le (by assumption)).dr)) ?_
                refine Go.E.hx rfl ?_
                refine sv (yNil rfl) rfl rfl ?_
                refine Go.E.hn (fun h => nomatch h) ?_
                refine Go.E.hx rfl ?_
                refine sv (yFA fld46_0 ti44 (by decide) rfl) rfl rfl ?_
                refine Go.E.hn (fun h => nomatch h) ?_
                refine Go.E.hx rfl ?_
                refine sStoreF (vs := [.slice _ _ _]) (cs' := [.slice _ _ _, .slice _ _ _]) ti44 rfl rfl rfl rfl rfl (.inl rfl) (Nat.le_of_ble_eq_true rfl) rfl rfl ?_
                refine Go.E.hn (fun h => nomatch h) ?_
                refine TQ.sq ?_
                refine TC.seq ?_
                refine TC.quiet rfl ?_
                refine qv (yAsgn (v := .int .i64 _) rfl) rfl rfl ?_
                refine QL.nil ?_
                refine TQ.sq ?_
                refine TC.ret ?_
                refine TQ.post (v := .int .i64 _) rfl ?_
                have e := addE_ok (S := xs.map absS) (dead := dead) (n := n) (hs := hs) hnn hp hf (by omega)
                refine fun w hw => ?_
                try simp only [List.nil_append] at hw
                try simp only [List.nil_append] at oS
                have hw2 : St c I (mS ++ (mH ++ ((p, bkO 46 aS (xs ++ [(⟨n, aH, cH, hs⟩ : SX)]).length cS a2 dead.length c2) :: l))) w := hw.dr
                obtain ⟨J1, hJ1, hr1, hw3⟩ := oS.freeze hw2
                obtain ⟨J2, hJ2, hr2, hw4⟩ := oH.freeze hw3
                exact ⟨J2, aS, cS, _, hJ1.trans hJ2, by rw [e], hS.add (x := ⟨n, aH, cH, hs⟩) (hJ1.trans hJ2) (hr1.le hJ2) (by simpa using hr2) (by simpa using oH.le) hhl hn1, oS.le, by rw [e, if_pos rfl]; simp [absS], hw4⟩
      ·
        have hla := lastN_nil (xs := xs) (by omega)
        refine qv (yMove (v := .bool _) rfl) (.inl ⟨_, _, rfl, rfl, rfl⟩) rfl ?_
        refine qk (.inl ⟨_, _, rfl, rfl, rfl⟩) rfl ?_
        refine qk (.inl ⟨_, _, rfl, rfl, rfl⟩) rfl ?_
        refine qk (.inl ⟨_, _, rfl, rfl, rfl⟩) rfl ?_
        refine qk (.inl ⟨_, _, rfl, rfl, rfl⟩) rfl ?_
        refine qk (.inl ⟨_, _, rfl, rfl, rfl⟩) rfl ?_
        refine qk (.inl ⟨_, _, rfl, rfl, rfl⟩) rfl ?_
        refine qk (.inl ⟨_, _, rfl, rfl, rfl⟩) rfl ?_
        refine qk (.inl ⟨_, _, rfl, rfl, rfl⟩) rfl ?_
        refine qk (.inl ⟨_, _, rfl, rfl, rfl⟩) rfl ?_
        refine qk (.inl ⟨_, _, rfl, rfl, rfl⟩) rfl ?_
        refine qk (.inl ⟨_, _, rfl, rfl, rfl⟩) rfl ?_
        refine qk (.inl ⟨_, _, rfl, rfl, rfl⟩) rfl ?_
        refine qk (.inl ⟨_, _, rfl, rfl, rfl⟩) rfl ?_
        refine qk (.inl ⟨_, _, rfl, rfl, rfl⟩) rfl ?_
        refine qk (.inl ⟨_, _, rfl, rfl, rfl⟩) rfl ?_
        refine qv (yPickF rfl rfl) (.inl ⟨_, _, rfl, rfl, rfl⟩) rfl ?_
        refine qv (yPickF rfl rfl) rfl rfl ?_
        refine qv (yAsgn (v := .bool _) rfl) rfl rfl ?_
        refine QL.nil ?_
        refine TQ.sq ?_
        refine TC.condF rfl ?_
        refine TC.seq ?_
        refine TC.region ?_
        refine sv (yMove (v := .slice _ _ _) rfl) rfl rfl ?_
        have hnn : ¬ (n < 1 ∨ 512 < n ∨ n ≤ lastN (xs.map absS)) := by omega
        refine sCall (plain_ok _ a cap hs (hh.mono Wk.w) (by omega)) rfl rfl (fun v44 w hw => ?_)
        obtain ⟨rfl, hw⟩ := hw
        refine TL.wl ?_ hw
        cases hp : plainB hs
        ·
          refine sv (yNotT rfl) rfl rfl ?_
          refine sv (yMove (v := .bool _) rfl) rfl rfl ?_
          refine sk rfl (.inl ⟨_, _, rfl, rfl, rfl⟩) rfl ?_
          refine sk rfl (.inl ⟨_, _, rfl, rfl, rfl⟩) rfl ?_
          refine sk rfl (.inl ⟨_, _, rfl, rfl, rfl⟩) rfl ?_
          refine sk rfl (.inl ⟨_, _, rfl, rfl, rfl⟩) rfl ?_
          refine sv (yPickT rfl rfl) rfl rfl ?_
          refine sv (yAsgn (v := .bool _) rfl) rfl rfl ?_
          refine TL.nil ?_
          refine TQ.sq ?_
          refine TC.condT rfl ?_
          refine TC.seq ?_
          refine TC.quiet rfl ?_
          refine qv (yAsgn (v := .int .i64 _) rfl) rfl rfl ?_
          refine QL.nil ?_
          refine TQ.sq ?_
          refine TC.ret (TQ.blkR (TQ.sqR ?_))
          refine TQ.post (v := .int .i64 _) rfl ?_
          have e := addE_p (S := xs.map absS) (dead := dead) (n := n) (hs := hs) hnn hp
          exact fun w hw => ⟨I, a1, c1, xs, Le.refl I, by rw [e], hS, hc1, by rw [e, if_neg (by decide)], hw.dr⟩
        ·
          refine sv (yNotF rfl) rfl rfl ?_
          refine sv (yMove (v := .bool _) rfl) rfl rfl ?_
          refine sg (yMove (v := .pointer _) rfl) rfl (.inl ⟨_, _, rfl, rfl, rfl⟩) rfl ?_
          refine sg (yMove (v := .slice _ _ _) rfl) rfl (.inl ⟨_, _, rfl, rfl, rfl⟩) rfl ?_
          refine TL.ung rfl (.inl ⟨_, _, rfl, rfl, rfl⟩) ?_
          refine sCall (fits_ok l p a1 c1 xs a2 c2 dead a cap hs hS hok hd hdl hh hhl (plainB_ok hp)) rfl rfl (fun v49 w hw => ?_)
          obtain ⟨rfl, hw⟩ := hw
          refine TL.wl ?_ hw
          cases hf : fitsB (sizesP (xs.map absS)) (deadM dead) hs
          ·
            refine sg (yNotT rfl) rfl (.inl ⟨_, _, rfl, rfl, rfl⟩) rfl ?_
            refine sv (yPickF rfl rfl) rfl rfl ?_
            refine sv (yAsgn (v := .bool _) rfl) rfl rfl ?_
            refine TL.nil ?_
            refine TQ.sq ?_
            refine TC.condT rfl ?_
            refine TC.seq ?_
            refine TC.quiet rfl ?_
            refine qv (yAsgn (v := .int .i64 _) rfl) rfl rfl ?_
            refine QL.nil ?_
            refine TQ.sq ?_
            refine TC.ret (TQ.blkR (TQ.sqR ?_))
            refine TQ.post (v := .int .i64 _) rfl ?_
            have e := addE_f (S := xs.map absS) (dead := dead) (n := n) (hs := hs) hnn hp hf
            exact fun w hw => ⟨I, a1, c1, xs, Le.refl I, by rw [e], hS, hc1, by rw [e, if_neg (by decide)], hw.dr⟩
          ·
            refine sg (yNotF rfl) rfl (.inl ⟨_, _, rfl, rfl, rfl⟩) rfl ?_
            refine sv (yPickF rfl rfl) rfl rfl ?_
            refine sv (yAsgn (v := .bool _) rfl) rfl rfl ?_
            refine TL.nil ?_
            refine TQ.sq ?_
            refine TC.condF rfl ?_
            refine TC.seq ?_
            refine TC.region ?_
            refine sv (yMove (v := .pointer _) rfl) rfl rfl ?_
            refine sv (yMove (v := .slice _ _ _) rfl) rfl rfl ?_
            refine sCall (many_ok l p a1 c1 xs a2 c2 dead a cap hs hS hok hdl hh hhl) rfl rfl (fun v55 w hw => ?_)
            obtain ⟨rfl, hw⟩ := hw
            refine TL.wl ?_ hw
            refine scGt rfl rfl rfl rfl (fun h56 => ?_) (fun h56 => ?_)
            ·
              refine sv (yAsgn (v := .bool _) rfl) rfl rfl ?_
              refine TL.nil ?_
              refine TQ.sq ?_
              refine TC.condT rfl ?_
              refine TC.seq ?_
              refine TC.quiet rfl ?_
              refine qv (yAsgn (v := .int .i64 _) rfl) rfl rfl ?_
              refine QL.nil ?_
              refine TQ.sq ?_
              refine TC.ret (TQ.blkR (TQ.sqR ?_))
              refine TQ.post (v := .int .i64 _) rfl ?_
              have e := addE_m (S := xs.map absS) (dead := dead) (n := n) (hs := hs) hnn hp hf (by omega)
              exact fun w hw => ⟨I, a1, c1, xs, Le.refl I, by rw [e], hS, hc1, by rw [e, if_neg (by decide)], hw.dr⟩
            ·
              refine sv (yAsgn (v := .bool _) rfl) rfl rfl ?_
              refine TL.nil ?_
              refine TQ.sq ?_
              refine TC.condF rfl ?_
              refine TC.skip (TQ.blk (TQ.sq ?_))
              refine TC.seq ?_
              refine TC.held (St c I ((p, (bkO 46 a1 xs.length c1 a2 dead.length c2)) :: l)) 23 (.q 0 (.q 1 (.q 2 (.q 3 (.q 4 (.q 5 (.q 6 (.q 7 (.q 8 (.q 9 (.q 10 (.q 11 (.q 12 (.q 13 (.q 14 (.q 15 (.q 16 (.q 18 (.x 17 (.x 19 (.q 20 (.x 21 (.x 22 (.x 23 (.x 24 (.x 25 .done)))))))))))))))))))))))))) (fun _ _ h => h.drawn _) mixed rfl (by kernel_rfl) (by kernel_rfl) ?_
              refine Go.E.hq rfl (yMove (v := .pointer _) rfl) rfl rfl (by first | exact Wk.w | exact fun w hw => (hw.le (by assumption)).dr) ?_
              refine Go.E.hq rfl (yMove (v := .pointer _) rfl) rfl rfl (by first | exact Wk.w | exact fun w hw => (hw.le (by assumption)).dr) ?_
              refine Go.E.hq rfl (yNil rfl) rfl rfl (by first | exact Wk.w | exact fun w hw => (hw.le (by assumption)).dr) ?_
              refine Go.E.hq rfl (yFA fld46_0 ti44 (by decide) rfl) rfl rfl (by first | exact Wk.w | exact fun w hw => (hw.le (by assumption)).dr) ?_
              refine Go.E.hq rfl (yLd1 ti44 rfl (by first | exact RdC.rd | exact rdI (by assumption)) rfl) rfl rfl (by first | exact Wk.w | exact fun w hw => (hw.le (by assumption)).dr) ?_
              refine Go.E.hq rfl (yMove (v := .pointer _) rfl) rfl rfl (by first | exact Wk.w | exact fun w hw => (hw.le (by assumption)).dr) ?_
              refine Go.E.hq rfl (yNil rfl) rfl rfl (by first | exact Wk.w | exact fun w hw => (hw.le (by assumption)).dr) ?_
              refine Go.E.hq rfl (yFA fld46_0 ti44 (by decide) rfl) rfl rfl (by first | exact Wk.w | exact fun w hw => (hw.le (by assumption)).dr) ?_
              refine Go.E.hq rfl (yLd1 ti44 rfl (by first | exact RdC.rd | exact rdI (by assumption)) rfl) rfl rfl (by first | exact Wk.w | exact fun w hw => (hw.le (by assumption)).dr) ?_
              refine Go.E.hq rfl (ySlLen ul44 rfl) rfl rfl (by first | exact Wk.w | exact fun w hw => (hw.le (by assumption)).dr) ?_
              refine Go.E.hq rfl (yMove (v := .pointer _) rfl) rfl rfl (by first | exact Wk.w | exact fun w hw => (hw.le (by assumption)).dr) ?_
              refine Go.E.hq rfl (yNil rfl) rfl rfl (by first | exact Wk.w | exact fun w hw => (hw.le (by assumption)).dr) ?_
              refine Go.E.hq rfl (yFA fld46_0 ti44 (by decide) rfl) rfl rfl (by first | exact Wk.w | exact fun w hw => (hw.le (by assumption)).dr) ?_
              refine Go.E.hq rfl (yLd1 ti44 rfl (by first | exact RdC.rd | exact rdI (by assumption)) rfl) rfl rfl (by first | exact Wk.w | exact fun w hw => (hw.le (by assumption)).dr) ?_
              refine Go.E.hq rfl (ySlLen ul44 rfl) rfl rfl (by first | exact Wk.w | exact fun w hw => (hw.le (by assumption)).dr) ?_
              refine Go.E.hq rfl (yCutHiM ul44 ti59 rfl rfl rfl (by omega) (by omega)) rfl rfl (by first | exact Wk.w | exact fun w hw => (hw.le (by assumption)).dr) ?_
              refine Go.E.hq rfl (yMove (v := .int .i64 _) rfl) rfl rfl (by first | exact Wk.w | exact fun w hw => (hw.le (by assumption)).dr) ?_
              refine Go.E.hq rfl (yMove (v := .slice _ _ _) rfl) rfl rfl (by first | exact Wk.w | exact fun w hw => (hw.le (by assumption)).dr) ?_
              refine Go.E.hx rfl ?_
              refine sBuildSl (vs := []) ul27 ti49 rfl rfl rfl rfl (fun b74 => ?_)
              refine Go.E.hn (fun _ => by exact (by first | exact Wk.w | exact fun w hw => (hw.le (by assumption)).dr)) ?_
              refine Go.E.hx rfl ?_
              refine sAppAF (ys := hs) (xs := ([] : List Hd)) (enc := encH) ul27 ul27 ti49 rfl rfl (OA.made (cs := []) rfl (fun _ => rfl) (by decide)) (hh.mono Wk.w) (fun _ => rfl) (by simp; omega) (by simp; omega) rfl (fun mH aH cH oH => ?_)
              refine Go.E.hn (fun _ => by exact (by first | exact Wk.w | exact fun w hw => (hw.le (by assumption)).dr)) ?_
              refine Go.E.hq rfl (yBuild (vs := [.int .i64 _, .slice _ _ _]) ti59 pl59 rfl) rfl rfl (by first | exact Wk.w | exact fun w hw => (hw.le (by assumption)).dr) ?_
              refine Go.E.hx rfl ?_
              refine sBuildSl (vs := [.int .i64 _, .slice _ _ _]) ul44 ti59 rfl rfl rfl rfl (fun b78 => ?_)
              refine Go.E.hn (fun _ => by exact (by first | exact Wk.w | exact fun w hw => (hw.le (by assumption)).dr)) ?_
              refine Go.E.hx rfl ?_
              refine sAppNA (ys := [(⟨n, aH, cH, hs⟩ : SX)]) (xs := xs) (enc := encS) ul44 ul44 ti59 rfl rfl (RA.sa hS.r) (sa1 _ rfl rfl) (by first | omega | (simp; done) | (simp; omega)) (by first | omega | (simp; done) | (simp; omega)) (by first | omega | (simp; done) | (simp; omega)) rfl (fun mS aS cS oS => ?_)
              refine Go.E.hn (fun _ => by exact (by first | exact Wk.w | exact fun w hw => (hw.le (by assumption)).dr)) ?_
              refine Go.E.hx rfl ?_
              refine sv (yNil rfl) rfl rfl ?_
              refine Go.E.hn (fun h => nomatch h) ?_
              refine Go.E.hx rfl ?_
              refine sv (yFA fld46_0 ti44 (by decide) rfl) rfl rfl ?_
              refine Go.E.hn (fun h => nomatch h) ?_
              refine Go.E.hx rfl ?_
              refine sStoreF (vs := [.slice _ _ _]) (cs' := [.slice _ _ _, .slice _ _ _]) ti44 rfl rfl rfl rfl rfl (.inl rfl) (Nat.le_of_ble_eq_true rfl) rfl rfl ?_
              refine Go.E.hn (fun h => nomatch h) ?_
              refine TQ.sq ?_
              refine TC.seq ?_
              refine TC.quiet rfl ?_
              refine qv (yAsgn (v := .int .i64 _) rfl) rfl rfl ?_
              refine QL.nil ?_
              refine TQ.sq ?_
              refine TC.ret ?_
              refine TQ.post (v := .int .i64 _) rfl ?_
              have e := addE_ok (S := xs.map absS) (dead := dead) (n := n) (hs := hs) hnn hp hf (by omega)
              refine fun w hw => ?_
              try simp only [List.nil_append] at hw
              try simp only [List.nil_append] at oS
              have hw2 : St c I (mS ++ (mH ++ ((p, bkO 46 aS (xs ++ [(⟨n, aH, cH, hs⟩ : SX)]).length cS a2 dead.length c2) :: l))) w := hw.dr
              obtain ⟨J1, hJ1, hr1, hw3⟩ := oS.freeze hw2
              obtain ⟨J2, hJ2, hr2, hw4⟩ := oH.freeze hw3
              exact ⟨J2, aS, cS, _, hJ1.trans hJ2, by rw [e], hS.add (x := ⟨n, aH, cH, hs⟩) (hJ1.trans hJ2) (hr1.le hJ2) (by simpa using hr2) (by simpa using oH.le) hhl hn1, oS.le, by rw [e, if_pos rfl]; simp [absS], hw4⟩
theorem RAdd_ok {c : Cx} {I : Im} (l : Ow) (p : Nat) (a1 : Option Addr) (c1 : Nat) (xs : List SX) (a2 : Option Addr) (c2 : Nat) (dead : List Hd) (n : Int) (a : Option Addr) (cap : Nat) (hs : List Hd) (hS : SL I a1 xs) (hc1 : xs.length ≤ c1) (hn1 : xs.length < 1000) (hd : RA I encH 2 a2 dead) (hc2 : dead.length ≤ c2) (hdl : dead.length ≤ 1000) (hhr : RA I encH 2 a hs) (hhl : hs.length ≤ 1000) : Ct Try.prog 24 [.pointer (some ⟨p, 0, none⟩), .int .i64 n, .slice a hs.length cap] (St c I ((p, (bkO 29 a1 xs.length c1 a2 dead.length c2)) :: l)) fun v w => ∃ J a3 c3 ys, Le I J ∧ v = .int .i64 (addR (xs.map absS) dead n hs) ∧ SL J a3 ys ∧ ys.length ≤ c3 ∧ ys.map absS = (if addR (xs.map absS) dead n hs = 0 then xs.map absS ++ [(n, hs)] else xs.map absS) ∧ St c J ((p, (bkO 29 a3 ys.length c3 a2 dead.length c2)) :: l) w := by
  have hh : SA (St c I l) encH 2 a hs := hhr.sa
  refine Ct.enter (n := 140) Try.func24 rfl rfl rfl rfl rfl rfl ?_
  refine TC.seq ?_
  refine TC.quiet rfl ?_
  refine qv (yAsgn (v := .int .i64 _) rfl) rfl rfl ?_
  refine QL.nil ?_
  refine TQ.sq ?_
  refine TC.seq ?_
  refine TC.seq ?_
  refine TC.heldS 36 (.q 0 (.q 1 (.q 2 (.q 3 (.q 4 (.q 5 (.q 6 (.q 7 (.q 8 (.q 9 (.q 10 (.q 11 (.q 12 (.q 13 (.q 14 (.q 15 (.q 16 (.q 17 (.q 18 (.q 19 (.q 20 (.q 21 (.q 22 (.q 23 (.q 24 (.q 25 (.q 26 (.q 27 (.q 28 (.q 29 (.q 30 (.q 31 (.q 32 (.x 33 (.q 34 (.q 35 .done)))))))))))))))))))))))))))))))))))) (fun _ _ h => h.drawn _) mixed rfl (by kernel_rfl) (by kernel_rfl) ?_
  refine Go.E.hq rfl (yMove (v := .int .i64 _) rfl) rfl rfl (by first | exact Wk.w | exact fun w hw => (hw.le (by assumption)).dr) ?_
  have hSn := hS.n
  refine hcLt rfl rfl rfl rfl rfl (by first | exact Wk.w | exact fun w hw => (hw.le (by assumption)).dr) (fun h12 => ?_) (fun h12 => ?_)
  ·
    refine Go.E.hq rfl (yMove (v := .bool _) rfl) rfl rfl (by first | exact Wk.w | exact fun w hw => (hw.le (by assumption)).dr) ?_
    refine Go.E.hk rfl (.inl ⟨_, _, rfl, rfl, rfl⟩) rfl (by first | exact Wk.w | exact fun w hw => (hw.le (by assumption)).dr) ?_
    refine Go.E.hk rfl (.inl ⟨_, _, rfl, rfl, rfl⟩) rfl (by first | exact Wk.w | exact fun w hw => (hw.le (by assumption)).dr) ?_
    refine Go.E.hq rfl (yPickT rfl rfl) rfl rfl (by first | exact Wk.w | exact fun w hw => (hw.le (by assumption)).dr) ?_
    refine Go.E.hq rfl (yMove (v := .bool _) rfl) rfl rfl (by first | exact Wk.w | exact fun w hw => (hw.le (by assumption)).dr) ?_
    refine Go.E.hk rfl (.inl ⟨_, _, rfl, rfl, rfl⟩) rfl (by first | exact Wk.w | exact fun w hw => (hw.le (by assumption)).dr) ?_
    refine Go.E.hk rfl (.inl ⟨_, _, rfl, rfl, rfl⟩) rfl (by first | exact Wk.w | exact fun w hw => (hw.le (by assumption)).dr) ?_
    refine Go.E.hk rfl (.inl ⟨_, _, rfl, rfl, rfl⟩) rfl (by first | exact Wk.w | exact fun w hw => (hw.le (by assumption)).dr) ?_
    refine Go.E.hk rfl (.inl ⟨_, _, rfl, rfl, rfl⟩) rfl (by first | exact Wk.w | exact fun w hw => (hw.le (by assumption)).dr) ?_
    refine Go.E.hk rfl (.inl ⟨_, _, rfl, rfl, rfl⟩) rfl (by first | exact Wk.w | exact fun w hw => (hw.le (by assumption)).dr) ?_
    refine Go.E.hk rfl (.inl ⟨_, _, rfl, rfl, rfl⟩) rfl (by first | exact Wk.w | exact fun w hw => (hw.le (by assumption)).dr) ?_
    refine Go.E.hk rfl (.inl ⟨_, _, rfl, rfl, rfl⟩) rfl (by first | exact Wk.w | exact fun w hw => (hw.le (by assumption)).dr) ?_
    refine Go.E.hk rfl (.inr ⟨rfl, _, rfl, rfl⟩) rfl (by first | exact Wk.w | exact fun w hw => (hw.le (by assumption)).dr) ?_
    refine Go.E.hk rfl (.inr ⟨rfl, _, rfl, rfl⟩) rfl (by first | exact Wk.w | exact fun w hw => (hw.le (by assumption)).dr) ?_
    refine Go.E.hk rfl (.inr ⟨rfl, _, rfl, rfl⟩) rfl (by first | exact Wk.w | exact fun w hw => (hw.le (by assumption)).dr) ?_
    refine Go.E.hk rfl (.inr ⟨rfl, _, rfl, rfl⟩) rfl (by first | exact Wk.w | exact fun w hw => (hw.le (by assumption)).dr) ?_
    refine Go.E.hk rfl (.inr ⟨rfl, _, rfl, rfl⟩) rfl (by first | exact Wk.w | exact fun w hw => (hw.le (by assumption)).dr) ?_
    refine Go.E.hk rfl (.inr ⟨rfl, _, rfl, rfl⟩) rfl (by first | exact Wk.w | exact fun w hw => (hw.le (by assumption)).dr) ?_
    refine Go.E.hk rfl (.inr ⟨rfl, _, rfl, rfl⟩) rfl (by first | exact Wk.w | exact fun w hw => (hw.le (by assumption)).dr) ?_
    refine Go.E.hk rfl (.inr ⟨rfl, _, rfl, rfl⟩) rfl (by first | exact Wk.w | exact fun w hw => (hw.le (by assumption)).dr) ?_
    refine Go.E.hk rfl (.inr ⟨rfl, _, rfl, rfl⟩) rfl (by first | exact Wk.w | exact fun w hw => (hw.le (by assumption)).dr) ?_
    refine Go.E.hk rfl (.inr ⟨rfl, _, rfl, rfl⟩) rfl (by first | exact Wk.w | exact fun w hw => (hw.le (by assumption)).dr) ?_
    refine Go.E.hk rfl (.inr ⟨rfl, _, rfl, rfl⟩) rfl (by first | exact Wk.w | exact fun w hw => (hw.le (by assumption)).dr) ?_
    refine Go.E.hk rfl (.inr ⟨rfl, _, rfl, rfl⟩) rfl (by first | exact Wk.w | exact fun w hw => (hw.le (by assumption)).dr) ?_
    refine Go.E.hk rfl (.inr ⟨rfl, _, rfl, rfl⟩) rfl (by first | exact Wk.w | exact fun w hw => (hw.le (by assumption)).dr) ?_
    refine Go.E.hk rfl (.inr ⟨rfl, _, rfl, rfl⟩) rfl (by first | exact Wk.w | exact fun w hw => (hw.le (by assumption)).dr) ?_
    refine Go.E.hk rfl (.inr ⟨rfl, _, rfl, rfl⟩) rfl (by first | exact Wk.w | exact fun w hw => (hw.le (by assumption)).dr) ?_
    refine Go.E.hk rfl (.inl ⟨_, _, rfl, rfl, rfl⟩) rfl (by first | exact Wk.w | exact fun w hw => (hw.le (by assumption)).dr) ?_
    refine Go.E.hq rfl (yPickT rfl rfl) rfl rfl (by first | exact Wk.w | exact fun w hw => (hw.le (by assumption)).dr) ?_
    refine Go.E.hq rfl (yMove (v := .bool _) rfl) rfl rfl (by first | exact Wk.w | exact fun w hw => (hw.le (by assumption)).dr) ?_
    refine Go.E.hk rfl (.inl ⟨_, _, rfl, rfl, rfl⟩) rfl (by first | exact Wk.w | exact fun w hw => (hw.le (by assumption)).dr) ?_
    refine Go.E.hx rfl ?_
    refine sk rfl (.inl ⟨_, _, rfl, rfl, rfl⟩) rfl ?_
    refine Go.E.hn (fun _ => by exact (by first | exact Wk.w | exact fun w hw => (hw.le (by assumption)).dr)) ?_
    refine Go.E.hk rfl (.inl ⟨_, _, rfl, rfl, rfl⟩) rfl (by first | exact Wk.w | exact fun w hw => (hw.le (by assumption)).dr) ?_
    refine Go.E.hq rfl (yPickT rfl rfl) rfl rfl (by first | exact Wk.w | exact fun w hw => (hw.le (by assumption)).dr) ?_
    refine TQ.sq ?_
    refine TC.condT rfl ?_
    refine TC.seq ?_
    refine TC.quiet rfl ?_
    refine qv (yAsgn (v := .int .i64 _) rfl) rfl rfl ?_
    refine QL.nil ?_
    refine TQ.sq ?_
    refine TC.ret (TQ.sqR ?_)
    refine TQ.post (v := .int .i64 _) rfl ?_
    have e := addR_n (S := xs.map absS) (dead := dead) (n := n) (hs := hs) (by omega)
    exact fun w hw => ⟨I, a1, c1, xs, Le.refl I, by rw [e], hS, hc1, by rw [e, if_neg (by decide)], hw.dr⟩
  ·
    refine Go.E.hq rfl (yMove (v := .bool _) rfl) rfl rfl (by first | exact Wk.w | exact fun w hw => (hw.le (by assumption)).dr) ?_
    refine Go.E.hq rfl (yMove (v := .int .i64 _) rfl) (.inl ⟨_, _, rfl, rfl, rfl⟩) rfl (by first | exact Wk.w | exact fun w hw => (hw.le (by assumption)).dr) ?_
    refine hcGt rfl rfl rfl (.inl ⟨_, _, rfl, rfl, rfl⟩) rfl (by first | exact Wk.w | exact fun w hw => (hw.le (by assumption)).dr) (fun h15 => ?_) (fun h15 => ?_)
    ·
      refine Go.E.hq rfl (yPickF rfl rfl) rfl rfl (by first | exact Wk.w | exact fun w hw => (hw.le (by assumption)).dr) ?_
      refine Go.E.hq rfl (yMove (v := .bool _) rfl) rfl rfl (by first | exact Wk.w | exact fun w hw => (hw.le (by assumption)).dr) ?_
      refine Go.E.hk rfl (.inl ⟨_, _, rfl, rfl, rfl⟩) rfl (by first | exact Wk.w | exact fun w hw => (hw.le (by assumption)).dr) ?_
      refine Go.E.hk rfl (.inl ⟨_, _, rfl, rfl, rfl⟩) rfl (by first | exact Wk.w | exact fun w hw => (hw.le (by assumption)).dr) ?_
      refine Go.E.hk rfl (.inl ⟨_, _, rfl, rfl, rfl⟩) rfl (by first | exact Wk.w | exact fun w hw => (hw.le (by assumption)).dr) ?_
      refine Go.E.hk rfl (.inl ⟨_, _, rfl, rfl, rfl⟩) rfl (by first | exact Wk.w | exact fun w hw => (hw.le (by assumption)).dr) ?_
      refine Go.E.hk rfl (.inl ⟨_, _, rfl, rfl, rfl⟩) rfl (by first | exact Wk.w | exact fun w hw => (hw.le (by assumption)).dr) ?_
      refine Go.E.hk rfl (.inl ⟨_, _, rfl, rfl, rfl⟩) rfl (by first | exact Wk.w | exact fun w hw => (hw.le (by assumption)).dr) ?_
      refine Go.E.hk rfl (.inl ⟨_, _, rfl, rfl, rfl⟩) rfl (by first | exact Wk.w | exact fun w hw => (hw.le (by assumption)).dr) ?_
      refine Go.E.hk rfl (.inr ⟨rfl, _, rfl, rfl⟩) rfl (by first | exact Wk.w | exact fun w hw => (hw.le (by assumption)).dr) ?_
      refine Go.E.hk rfl (.inr ⟨rfl, _, rfl, rfl⟩) rfl (by first | exact Wk.w | exact fun w hw => (hw.le (by assumption)).dr) ?_
      refine Go.E.hk rfl (.inr ⟨rfl, _, rfl, rfl⟩) rfl (by first | exact Wk.w | exact fun w hw => (hw.le (by assumption)).dr) ?_
      refine Go.E.hk rfl (.inr ⟨rfl, _, rfl, rfl⟩) rfl (by first | exact Wk.w | exact fun w hw => (hw.le (by assumption)).dr) ?_
      refine Go.E.hk rfl (.inr ⟨rfl, _, rfl, rfl⟩) rfl (by first | exact Wk.w | exact fun w hw => (hw.le (by assumption)).dr) ?_
      refine Go.E.hk rfl (.inr ⟨rfl, _, rfl, rfl⟩) rfl (by first | exact Wk.w | exact fun w hw => (hw.le (by assumption)).dr) ?_
      refine Go.E.hk rfl (.inr ⟨rfl, _, rfl, rfl⟩) rfl (by first | exact Wk.w | exact fun w hw => (hw.le (by assumption)).dr) ?_
      refine Go.E.hk rfl (.inr ⟨rfl, _, rfl, rfl⟩) rfl (by first | exact Wk.w | exact fun w hw => (hw.le (by assumption)).dr) ?_
      refine Go.E.hk rfl (.inr ⟨rfl, _, rfl, rfl⟩) rfl (by first | exact Wk.w | exact fun w hw => (hw.le (by assumption)).dr) ?_
      refine Go.E.hk rfl (.inr ⟨rfl, _, rfl, rfl⟩) rfl (by first | exact Wk.w | exact fun w hw => (hw.le (by assumption)).dr) ?_
      refine Go.E.hk rfl (.inr ⟨rfl, _, rfl, rfl⟩) rfl (by first | exact Wk.w | exact fun w hw => (hw.le (by assumption)).dr) ?_
      refine Go.E.hk rfl (.inr ⟨rfl, _, rfl, rfl⟩) rfl (by first | exact Wk.w | exact fun w hw => (hw.le (by assumption)).dr) ?_
      refine Go.E.hk rfl (.inr ⟨rfl, _, rfl, rfl⟩) rfl (by first | exact Wk.w | exact fun w hw => (hw.le (by assumption)).dr) ?_
      refine Go.E.hk rfl (.inr ⟨rfl, _, rfl, rfl⟩) rfl (by first | exact Wk.w | exact fun w hw => (hw.le (by assumption)).dr) ?_
      refine Go.E.hk rfl (.inr ⟨rfl, _, rfl, rfl⟩) rfl (by first | exact Wk.w | exact fun w hw => (hw.le (by assumption)).dr) ?_
      refine Go.E.hk rfl (.inl ⟨_, _, rfl, rfl, rfl⟩) rfl (by first | exact Wk.w | exact fun w hw => (hw.le (by assumption)).dr) ?_
      refine Go.E.hq rfl (yPickT rfl rfl) rfl rfl (by first | exact Wk.w | exact fun w hw => (hw.le (by assumption)).dr) ?_
      refine Go.E.hq rfl (yMove (v := .bool _) rfl) rfl rfl (by first | exact Wk.w | exact fun w hw => (hw.le (by assumption)).dr) ?_
      refine Go.E.hk rfl (.inl ⟨_, _, rfl, rfl, rfl⟩) rfl (by first | exact Wk.w | exact fun w hw => (hw.le (by assumption)).dr) ?_
      refine Go.E.hx rfl ?_
      refine sk rfl (.inl ⟨_, _, rfl, rfl, rfl⟩) rfl ?_
      refine Go.E.hn (fun _ => by exact (by first | exact Wk.w | exact fun w hw => (hw.le (by assumption)).dr)) ?_
      refine Go.E.hk rfl (.inl ⟨_, _, rfl, rfl, rfl⟩) rfl (by first | exact Wk.w | exact fun w hw => (hw.le (by assumption)).dr) ?_
      refine Go.E.hq rfl (yPickT rfl rfl) rfl rfl (by first | exact Wk.w | exact fun w hw => (hw.le (by assumption)).dr) ?_
      refine TQ.sq ?_
      refine TC.condT rfl ?_
      refine TC.seq ?_
      refine TC.quiet rfl ?_
      refine qv (yAsgn (v := .int .i64 _) rfl) rfl rfl ?_
      refine QL.nil ?_
      refine TQ.sq ?_
      refine TC.ret (TQ.sqR ?_)
      refine TQ.post (v := .int .i64 _) rfl ?_
      have e := addR_n (S := xs.map absS) (dead := dead) (n := n) (hs := hs) (by omega)
      exact fun w hw => ⟨I, a1, c1, xs, Le.refl I, by rw [e], hS, hc1, by rw [e, if_neg (by decide)], hw.dr⟩
    ·
      refine Go.E.hq rfl (yPickF rfl rfl) rfl rfl (by first | exact Wk.w | exact fun w hw => (hw.le (by assumption)).dr) ?_
      refine Go.E.hq rfl (yMove (v := .bool _) rfl) rfl rfl (by first | exact Wk.w | exact fun w hw => (hw.le (by assumption)).dr) ?_
      refine Go.E.hq rfl (yMove (v := .pointer _) rfl) (.inl ⟨_, _, rfl, rfl, rfl⟩) rfl (by first | exact Wk.w | exact fun w hw => (hw.le (by assumption)).dr) ?_
      refine Go.E.hq rfl (yNil rfl) (.inl ⟨_, _, rfl, rfl, rfl⟩) rfl (by first | exact Wk.w | exact fun w hw => (hw.le (by assumption)).dr) ?_
      refine Go.E.hq rfl (yFA fld29_0 ti26 (by decide) rfl) (.inl ⟨_, _, rfl, rfl, rfl⟩) rfl (by first | exact Wk.w | exact fun w hw => (hw.le (by assumption)).dr) ?_
      refine Go.E.hq rfl (yLd1 ti26 rfl (by first | exact RdC.rd | exact rdI (by assumption)) rfl) (.inl ⟨_, _, rfl, rfl, rfl⟩) rfl (by first | exact Wk.w | exact fun w hw => (hw.le (by assumption)).dr) ?_
      refine Go.E.hq rfl (ySlLen ul26 rfl) (.inl ⟨_, _, rfl, rfl, rfl⟩) rfl (by first | exact Wk.w | exact fun w hw => (hw.le (by assumption)).dr) ?_
      refine hcGt rfl rfl rfl (.inl ⟨_, _, rfl, rfl, rfl⟩) rfl (by first | exact Wk.w | exact fun w hw => (hw.le (by assumption)).dr) (fun h23 => ?_) (fun h23 => ?_)
      ·
        obtain ⟨x, hxk⟩ := getSome (xs := xs) (k := xs.length - 1) (by omega)
        have hla := lastN_at hxk
        have hxi : xs[((xs.length : Int) - 1).toNat]? = some x := by rw [show ((xs.length : Int) - 1).toNat = xs.length - 1 from by omega]; exact hxk
        refine Go.E.hq rfl (yMove (v := .bool _) rfl) (.inl ⟨_, _, rfl, rfl, rfl⟩) rfl (by first | exact Wk.w | exact fun w hw => (hw.le (by assumption)).dr) ?_
        refine Go.E.hq rfl (yMove (v := .int .i64 _) rfl) (.inl ⟨_, _, rfl, rfl, rfl⟩) rfl (by first | exact Wk.w | exact fun w hw => (hw.le (by assumption)).dr) ?_
        refine Go.E.hq rfl (yMove (v := .pointer _) rfl) (.inl ⟨_, _, rfl, rfl, rfl⟩) rfl (by first | exact Wk.w | exact fun w hw => (hw.le (by assumption)).dr) ?_
        refine Go.E.hq rfl (yNil rfl) (.inl ⟨_, _, rfl, rfl, rfl⟩) rfl (by first | exact Wk.w | exact fun w hw => (hw.le (by assumption)).dr) ?_
        refine Go.E.hq rfl (yFA fld29_0 ti26 (by decide) rfl) (.inl ⟨_, _, rfl, rfl, rfl⟩) rfl (by first | exact Wk.w | exact fun w hw => (hw.le (by assumption)).dr) ?_
        refine Go.E.hq rfl (yLd1 ti26 rfl (by first | exact RdC.rd | exact rdI (by assumption)) rfl) (.inl ⟨_, _, rfl, rfl, rfl⟩) rfl (by first | exact Wk.w | exact fun w hw => (hw.le (by assumption)).dr) ?_
        refine Go.E.hq rfl (yMove (v := .pointer _) rfl) (.inl ⟨_, _, rfl, rfl, rfl⟩) rfl (by first | exact Wk.w | exact fun w hw => (hw.le (by assumption)).dr) ?_
        refine Go.E.hq rfl (yNil rfl) (.inl ⟨_, _, rfl, rfl, rfl⟩) rfl (by first | exact Wk.w | exact fun w hw => (hw.le (by assumption)).dr) ?_
        refine Go.E.hq rfl (yFA fld29_0 ti26 (by decide) rfl) (.inl ⟨_, _, rfl, rfl, rfl⟩) rfl (by first | exact Wk.w | exact fun w hw => (hw.le (by assumption)).dr) ?_
        refine Go.E.hq rfl (yLd1 ti26 rfl (by first | exact RdC.rd | exact rdI (by assumption)) rfl) (.inl ⟨_, _, rfl, rfl, rfl⟩) rfl (by first | exact Wk.w | exact fun w hw => (hw.le (by assumption)).dr) ?_
        refine Go.E.hq rfl (ySlLen ul26 rfl) (.inl ⟨_, _, rfl, rfl, rfl⟩) rfl (by first | exact Wk.w | exact fun w hw => (hw.le (by assumption)).dr) ?_
        refine Go.E.hq rfl (ySub rfl rfl (by omega)) (.inl ⟨_, _, rfl, rfl, rfl⟩) rfl (by first | exact Wk.w | exact fun w hw => (hw.le (by assumption)).dr) ?_
        refine hElF rfl rfl rfl (v := .int .i64 _) ul26 ti66 fld66_0 ti3 (by decide) rfl (RA.sa hS.r) rfl (by omega) (by omega) (flat_cell (enc := encS) (k := 2) (fun _ => rfl) (by simpa using hxi) (by decide) rfl) (.inl ⟨_, _, rfl, rfl, rfl⟩) (fun _ => (.inl ⟨_, _, rfl, rfl, rfl⟩)) (fun _ _ => (.inl ⟨_, _, rfl, rfl, rfl⟩)) rfl rfl rfl (by first | exact Wk.w | exact fun w hw => (hw.le (by assumption)).dr) (fun _ _ => ?_)
        refine hcLe rfl rfl rfl (.inl ⟨_, _, rfl, rfl, rfl⟩) rfl (by first | exact Wk.w | exact fun w hw => (hw.le (by assumption)).dr) (fun h39 => ?_) (fun h39 => ?_)
        ·
          refine Go.E.hq rfl (yPickT rfl rfl) (.inl ⟨_, _, rfl, rfl, rfl⟩) rfl (by first | exact Wk.w | exact fun w hw => (hw.le (by assumption)).dr) ?_
          refine Go.E.hq rfl (yPickF rfl rfl) rfl rfl (by first | exact Wk.w | exact fun w hw => (hw.le (by assumption)).dr) ?_
          refine Go.E.hq rfl (yMove (v := .bool _) rfl) rfl rfl (by first | exact Wk.w | exact fun w hw => (hw.le (by assumption)).dr) ?_
          refine Go.E.hk rfl (.inl ⟨_, _, rfl, rfl, rfl⟩) rfl (by first | exact Wk.w | exact fun w hw => (hw.le (by assumption)).dr) ?_
          refine Go.E.hx rfl ?_
          refine sk rfl (.inl ⟨_, _, rfl, rfl, rfl⟩) rfl ?_
          refine Go.E.hn (fun _ => by exact (by first | exact Wk.w | exact fun w hw => (hw.le (by assumption)).dr)) ?_
          refine Go.E.hk rfl (.inl ⟨_, _, rfl, rfl, rfl⟩) rfl (by first | exact Wk.w | exact fun w hw => (hw.le (by assumption)).dr) ?_
          refine Go.E.hq rfl (yPickT rfl rfl) rfl rfl (by first | exact Wk.w | exact fun w hw => (hw.le (by assumption)).dr) ?_
          refine TQ.sq ?_
          refine TC.condT rfl ?_
          refine TC.seq ?_
          refine TC.quiet rfl ?_
          refine qv (yAsgn (v := .int .i64 _) rfl) rfl rfl ?_
          refine QL.nil ?_
          refine TQ.sq ?_
          refine TC.ret (TQ.sqR ?_)
          refine TQ.post (v := .int .i64 _) rfl ?_
          have e := addR_n (S := xs.map absS) (dead := dead) (n := n) (hs := hs) (by omega)
          exact fun w hw => ⟨I, a1, c1, xs, Le.refl I, by rw [e], hS, hc1, by rw [e, if_neg (by decide)], hw.dr⟩
        ·
          refine Go.E.hq rfl (yPickT rfl rfl) (.inl ⟨_, _, rfl, rfl, rfl⟩) rfl (by first | exact Wk.w | exact fun w hw => (hw.le (by assumption)).dr) ?_
          refine Go.E.hq rfl (yPickF rfl rfl) rfl rfl (by first | exact Wk.w | exact fun w hw => (hw.le (by assumption)).dr) ?_
          refine Go.E.hq rfl (yMove (v := .bool _) rfl) rfl rfl (by first | exact Wk.w | exact fun w hw => (hw.le (by assumption)).dr) ?_
          refine Go.E.hq rfl (yMove (v := .slice _ _ _) rfl) (.inl ⟨_, _, rfl, rfl, rfl⟩) rfl (by first | exact Wk.w | exact fun w hw => (hw.le (by assumption)).dr) ?_
          refine Go.E.hx rfl ?_
          have hnn : ¬ (n < 1 ∨ 512 < n ∨ n ≤ lastN (xs.map absS)) := by omega
          refine TL.ung rfl (.inl ⟨_, _, rfl, rfl, rfl⟩) ?_
          refine sCall (Rise_ok _ a cap hs (hh.mono Wk.w) (by omega)) rfl rfl (fun v48 w hw => ?_)
          obtain ⟨rfl, hw⟩ := hw
          refine TL.wl ?_ hw
          cases hp : plainB hs
          ·
            refine Go.E.hn (fun _ => by exact (by first | exact Wk.w | exact fun w hw => (hw.le (by assumption)).dr)) ?_
            refine Go.E.hq rfl (yNotT rfl) (.inl ⟨_, _, rfl, rfl, rfl⟩) rfl (by first | exact Wk.w | exact fun w hw => (hw.le (by assumption)).dr) ?_
            refine Go.E.hq rfl (yPickF rfl rfl) rfl rfl (by first | exact Wk.w | exact fun w hw => (hw.le (by assumption)).dr) ?_
            refine TQ.sq ?_
            refine TC.condT rfl ?_
            refine TC.seq ?_
            refine TC.quiet rfl ?_
            refine qv (yAsgn (v := .int .i64 _) rfl) rfl rfl ?_
            refine QL.nil ?_
            refine TQ.sq ?_
            refine TC.ret (TQ.sqR ?_)
            refine TQ.post (v := .int .i64 _) rfl ?_
            have e := addR_p (S := xs.map absS) (dead := dead) (n := n) (hs := hs) hnn hp
            exact fun w hw => ⟨I, a1, c1, xs, Le.refl I, by rw [e], hS, hc1, by rw [e, if_neg (by decide)], hw.dr⟩
          ·
            refine Go.E.hn (fun _ => by exact (by first | exact Wk.w | exact fun w hw => (hw.le (by assumption)).dr)) ?_
            refine Go.E.hq rfl (yNotF rfl) (.inl ⟨_, _, rfl, rfl, rfl⟩) rfl (by first | exact Wk.w | exact fun w hw => (hw.le (by assumption)).dr) ?_
            refine Go.E.hq rfl (yPickF rfl rfl) rfl rfl (by first | exact Wk.w | exact fun w hw => (hw.le (by assumption)).dr) ?_
            refine TQ.sq ?_
            refine TC.condF rfl ?_
            refine TC.skip (TQ.sq ?_)
            refine TC.seq ?_
            refine TC.seq ?_
            refine TC.quiet rfl ?_
            refine qv (yAsgn (v := .int .i64 _) rfl) rfl rfl ?_
            refine QL.nil ?_
            refine TQ.sq ?_
            refine TC.block ?_
            refine TC.loopL (ι := (Nat)) [6, 7, 8, 9, 10, 11, 12, 51, 52, 53, 54, 55, 56, 57, 58, 59, 60, 61, 62, 63, 64, 65, 66, 67, 68, 69, 70, 71, 72, 73, 74, 75, 76, 77, 78, 79, 80, 81, 82, 83, 84, 85, 86, 87, 88, 89, 90, 91, 92, 93, 94, 95, 96, 97, 98, 99, 100, 101, 102, 103, 104, 105, 106] (fun k => [(7, .int .i64 (k : Int))]) (fun k w => (k ≤ hs.length ∧ (hs.take k).any (clash1 (xs.map absS) dead) = false) ∧ St c I ((p, (bkO 29 a1 xs.length c1 a2 dead.length c2)) :: l) w) (fun k => hs.length - k) 0 ⟨rfl, trivial⟩ (fun w hw => ⟨⟨by omega, rfl⟩, hw⟩) ?_
            rintro g0 k
            dsimp only
            refine TC.pure fun ⟨hk, he⟩ => ?_
            refine TC.seq ?_
            refine TC.seq ?_
            refine TC.quiet rfl ?_
            refine qv (yMove (v := .int .i64 _) rfl) rfl rfl ?_
            refine qv (yMove (v := .slice _ _ _) rfl) rfl rfl ?_
            refine qv (ySlLen ul27 rfl) rfl rfl ?_
            refine qcLt rfl rfl rfl rfl (fun h54 => ?_) (fun h54 => ?_)
            ·
              obtain ⟨u, hu⟩ := getSome (xs := hs) (k := k) (by omega)
              refine QL.nil ?_
              refine TQ.sq ?_
              refine TC.condT rfl ?_
              refine TC.skip (TQ.sq ?_)
              refine TC.seq ?_
              refine TC.block ?_
              refine TC.seq ?_
              refine TC.quietD (fun _ _ h => h.drawn _) mixed (by kernel_rfl) rfl ?_
              refine qv (yMove (v := .pointer _) rfl) rfl rfl ?_
              refine qv (yNil rfl) rfl rfl ?_
              refine qv (yFA fld29_1 ti27 (by decide) rfl) rfl rfl ?_
              refine qv (yLd1 ti27 rfl (by first | exact RdC.rd | exact rdI (by assumption)) rfl) rfl rfl ?_
              refine qv (yMove (v := .slice _ _ _) rfl) rfl rfl ?_
              refine qv (yMove (v := .int .i64 _) rfl) rfl rfl ?_
              refine qElF (v := .int .i64 _) ul27 ti49 fld49_0 ti3 (by decide) rfl (hh.mono Wk.w) rfl (by omega) (by omega) (flat_cell (enc := encH) (k := 2) (fun _ => rfl) (by simpa using hu) (by decide) rfl) rfl (fun _ => rfl) (fun _ _ => rfl) rfl rfl rfl (fun _ _ => ?_)
              refine qCall (in_ok a2 c2 dead u.1 (RA.sa hd) (by omega)) rfl rfl rfl ?_
              rcases hdd : dget dead u.1 with _ | s
              ·
                refine qv (yMove (v := .tuple _) rfl) rfl rfl ?_
                refine qv (yExt rfl rfl) rfl rfl ?_
                refine qv (yExt rfl rfl) rfl rfl ?_
                refine qv (yAsgn (v := .int .i64 _) rfl) rfl rfl ?_
                refine qv (yAsgn (v := .bool _) rfl) rfl rfl ?_
                refine QL.nil ?_
                refine TQ.sq ?_
                refine TC.seq ?_
                refine TC.seq ?_
                refine TC.quiet rfl ?_
                refine qv (yMove (v := .bool _) rfl) rfl rfl ?_
                refine QL.nil ?_
                refine TQ.sq ?_
                refine TC.condF rfl ?_
                refine TC.skip (TQ.sq ?_)
                refine TC.seq ?_
                refine TC.quiet rfl ?_
                refine qv (yAsgn (v := .int .i64 _) rfl) rfl rfl ?_
                refine QL.nil ?_
                refine TQ.sq ?_
                refine TC.block ?_
                refine TC.loopL (ι := (Nat)) [6, 10, 11, 12, 71, 72, 73, 74, 75, 76, 77, 78, 79, 80, 81, 82, 83, 84, 85, 86, 87, 88, 89, 90, 91, 92, 93, 94, 95, 96, 97, 98, 99, 100, 101, 102, 103, 104, 105, 106] (fun i => [(10, .int .i64 (i : Int))]) (fun i w => (i ≤ xs.length ∧ ((xs.map absS).take i).any (bad1 u) = false) ∧ St c I ((p, (bkO 29 a1 xs.length c1 a2 dead.length c2)) :: l) w) (fun i => xs.length - i) 0 ⟨rfl, trivial⟩ (fun w hw => ⟨⟨by omega, rfl⟩, hw⟩) ?_
                rintro g1 i
                dsimp only
                refine TC.pure fun ⟨hil, hi⟩ => ?_
                refine TC.seq ?_
                refine TC.seq ?_
                refine TC.quiet rfl ?_
                refine qv (yMove (v := .int .i64 _) rfl) rfl rfl ?_
                refine qv (yMove (v := .pointer _) rfl) rfl rfl ?_
                refine qv (yNil rfl) rfl rfl ?_
                refine qv (yFA fld29_0 ti26 (by decide) rfl) rfl rfl ?_
                refine qv (yLd1 ti26 rfl (by first | exact RdC.rd | exact rdI (by assumption)) rfl) rfl rfl ?_
                refine qv (ySlLen ul26 rfl) rfl rfl ?_
                refine qcLt rfl rfl rfl rfl (fun h77 => ?_) (fun h77 => ?_)
                ·
                  obtain ⟨x, hxk⟩ := getSome (xs := xs) (k := i) (by omega)
                  have hxe := hS.e x (getMem hxk)
                  refine QL.nil ?_
                  refine TQ.sq ?_
                  refine TC.condT rfl ?_
                  refine TC.skip (TQ.sq ?_)
                  refine TC.seq ?_
                  refine TC.block ?_
                  refine TC.seq ?_
                  refine TC.quietD (fun _ _ h => h.drawn _) mixed (by kernel_rfl) rfl ?_
                  refine qv (yMove (v := .pointer _) rfl) rfl rfl ?_
                  refine qv (yNil rfl) rfl rfl ?_
                  refine qv (yFA fld29_0 ti26 (by decide) rfl) rfl rfl ?_
                  refine qv (yLd1 ti26 rfl (by first | exact RdC.rd | exact rdI (by assumption)) rfl) rfl rfl ?_
                  refine qv (yMove (v := .int .i64 _) rfl) rfl rfl ?_
                  refine qElF (v := .slice _ _ _) ul26 ti66 fld66_1 ti27 (by decide) rfl (RA.sa hS.r) rfl (by omega) (by omega) (flat_cell (enc := encS) (k := 2) (fun _ => rfl) (by simpa using hxk) (by decide) rfl) rfl (fun _ => rfl) (fun _ _ => rfl) rfl rfl rfl (fun _ _ => ?_)
                  refine qv (yMove (v := .slice _ _ _) rfl) rfl rfl ?_
                  refine qv (yMove (v := .int .i64 _) rfl) rfl rfl ?_
                  refine qElF (v := .int .i64 _) ul27 ti49 fld49_0 ti3 (by decide) rfl (hh.mono Wk.w) rfl (by omega) (by omega) (flat_cell (enc := encH) (k := 2) (fun _ => rfl) (by simpa using hu) (by decide) rfl) rfl (fun _ => rfl) (fun _ _ => rfl) rfl rfl rfl (fun _ _ => ?_)
                  refine qCall (in_ok x.a x.cap x.hs u.1 (RA.sa hxe.1) (by omega)) rfl rfl rfl ?_
                  rcases hdx : dget x.hs u.1 with _ | s
                  ·
                    refine qv (yMove (v := .tuple _) rfl) rfl rfl ?_
                    refine qv (yExt rfl rfl) rfl rfl ?_
                    refine qv (yExt rfl rfl) rfl rfl ?_
                    refine qv (yAsgn (v := .int .i64 _) rfl) rfl rfl ?_
                    refine qv (yAsgn (v := .bool _) rfl) rfl rfl ?_
                    refine QL.nil ?_
                    refine TQ.sq ?_
                    refine TC.seq ?_
                    refine TC.quiet rfl ?_
                    refine qv (yMove (v := .bool _) rfl) rfl rfl ?_
                    refine qv (yMove (v := .bool _) rfl) rfl rfl ?_
                    refine qk (.inl ⟨_, _, rfl, rfl, rfl⟩) rfl ?_
                    refine qk (.inl ⟨_, _, rfl, rfl, rfl⟩) rfl ?_
                    refine qk (.inl ⟨_, _, rfl, rfl, rfl⟩) rfl ?_
                    refine qk (.inl ⟨_, _, rfl, rfl, rfl⟩) rfl ?_
                    refine qk (.inl ⟨_, _, rfl, rfl, rfl⟩) rfl ?_
                    refine qk (.inl ⟨_, _, rfl, rfl, rfl⟩) rfl ?_
                    refine qk (.inl ⟨_, _, rfl, rfl, rfl⟩) rfl ?_
                    refine qv (yPickF rfl rfl) rfl rfl ?_
                    refine QL.nil ?_
                    refine TQ.sq ?_
                    refine TC.condF rfl ?_
                    refine TC.skip (TQ.blk (TQ.sq ?_))
                    refine TC.quiet rfl ?_
                    refine qv (yMove (v := .int .i64 _) rfl) rfl rfl ?_
                    refine qv (yAdd rfl rfl (by omega)) rfl rfl ?_
                    refine qv (yAsgn (v := .int .i64 _) rfl) rfl rfl ?_
                    refine QL.nil ?_
                    refine TQ.lpL (i + 1) (by first | omega | (dsimp only; omega)) (by repeat (first | exact OffL.refl | refine OffL.updO rfl ?_ | refine OffL.upd rfl ?_ | refine OffL.updL rfl ?_ | refine OffL.mask rfl ?_)) ⟨rfl, trivial⟩ (fun w hw => ⟨⟨by omega, by rw [any_take _ (map_at absS hxk), hi, bad1_n hdx]; rfl⟩, hw.dr⟩)
                  ·
                    refine qv (yMove (v := .tuple _) rfl) rfl rfl ?_
                    refine qv (yExt rfl rfl) rfl rfl ?_
                    refine qv (yExt rfl rfl) rfl rfl ?_
                    refine qv (yAsgn (v := .int .i64 _) rfl) rfl rfl ?_
                    refine qv (yAsgn (v := .bool _) rfl) rfl rfl ?_
                    refine QL.nil ?_
                    refine TQ.sq ?_
                    refine TC.seq ?_
                    refine TC.quiet rfl ?_
                    refine qv (yMove (v := .bool _) rfl) rfl rfl ?_
                    refine qv (yMove (v := .bool _) rfl) rfl rfl ?_
                    refine qv (yMove (v := .int .i64 _) rfl) (.inl ⟨_, _, rfl, rfl, rfl⟩) rfl ?_
                    refine qv (yMove (v := .slice _ _ _) rfl) (.inl ⟨_, _, rfl, rfl, rfl⟩) rfl ?_
                    refine qv (yMove (v := .int .i64 _) rfl) (.inl ⟨_, _, rfl, rfl, rfl⟩) rfl ?_
                    refine qElF (v := .int .i64 _) ul27 ti49 fld49_1 ti3 (by decide) rfl (hh.mono Wk.w) rfl (by omega) (by omega) (flat_cell (enc := encH) (k := 2) (fun _ => rfl) (by simpa using hu) (by decide) rfl) (.inl ⟨_, _, rfl, rfl, rfl⟩) (fun _ => (.inl ⟨_, _, rfl, rfl, rfl⟩)) (fun _ _ => (.inl ⟨_, _, rfl, rfl, rfl⟩)) rfl rfl rfl (fun _ _ => ?_)
                    refine qcNe rfl rfl (.inl ⟨_, _, rfl, rfl, rfl⟩) rfl (fun h105 => ?_) (fun h105 => ?_)
                    ·
                      refine qv (yPickT rfl rfl) rfl rfl ?_
                      refine QL.nil ?_
                      refine TQ.sq ?_
                      refine TC.condT rfl ?_
                      refine TC.seq ?_
                      refine TC.quiet rfl ?_
                      refine qv (yAsgn (v := .int .i64 _) rfl) rfl rfl ?_
                      refine QL.nil ?_
                      refine TQ.sq ?_
                      refine TC.ret (TQ.blkR (TQ.sqR (TQ.lpLR (TQ.blkR (TQ.blkR (TQ.sqR (TQ.lpLR (TQ.blkR (TQ.sqR ?_)))))))))
                      refine TQ.post (v := .int .i64 _) rfl ?_
                      have e := addR_c (S := xs.map absS) (dead := dead) (n := n) (hs := hs) hnn hp (clash_b hu hxk hdx (by simpa using h105))
                      exact fun w hw => ⟨I, a1, c1, xs, Le.refl I, by rw [e], hS, hc1, by rw [e, if_neg (by decide)], hw.dr⟩
                    ·
                      refine qv (yPickT rfl rfl) rfl rfl ?_
                      refine QL.nil ?_
                      refine TQ.sq ?_
                      refine TC.condF rfl ?_
                      refine TC.skip (TQ.blk (TQ.sq ?_))
                      refine TC.quiet rfl ?_
                      refine qv (yMove (v := .int .i64 _) rfl) rfl rfl ?_
                      refine qv (yAdd rfl rfl (by omega)) rfl rfl ?_
                      refine qv (yAsgn (v := .int .i64 _) rfl) rfl rfl ?_
                      refine QL.nil ?_
                      refine TQ.lpL (i + 1) (by first | omega | (dsimp only; omega)) (by repeat (first | exact OffL.refl | refine OffL.updO rfl ?_ | refine OffL.upd rfl ?_ | refine OffL.updL rfl ?_ | refine OffL.mask rfl ?_)) ⟨rfl, trivial⟩ (fun w hw => ⟨⟨by omega, by rw [any_take _ (map_at absS hxk), hi, bad1_s hdx (by simpa using h105)]; rfl⟩, hw.dr⟩)
                ·
                  refine QL.nil ?_
                  refine TQ.sq ?_
                  refine TC.condF rfl ?_
                  refine TC.exit (TQ.sqX (TQ.lpLX (TQ.blkX (TQ.blk (TQ.sq ?_)))))
                  refine TC.quiet rfl ?_
                  refine qv (yMove (v := .int .i64 _) rfl) rfl rfl ?_
                  refine qv (yAdd rfl rfl (by omega)) rfl rfl ?_
                  refine qv (yAsgn (v := .int .i64 _) rfl) rfl rfl ?_
                  refine QL.nil ?_
                  have hi2 : (xs.map absS).any (bad1 u) = false := by rw [show (xs.map absS).take i = xs.map absS from List.take_of_length_le (by simp; omega)] at hi; exact hi
                  refine TQ.lpL (k + 1) (by first | omega | (dsimp only; omega)) (by repeat (first | exact OffL.refl | refine OffL.updO rfl ?_ | refine OffL.upd rfl ?_ | refine OffL.updL rfl ?_ | refine OffL.mask rfl ?_)) ⟨rfl, trivial⟩ (fun w hw => ⟨⟨by omega, by rw [any_take _ hu, he]; unfold clash1; rw [hdd, hi2]; rfl⟩, hw.dr⟩)
              ·
                refine qv (yMove (v := .tuple _) rfl) rfl rfl ?_
                refine qv (yExt rfl rfl) rfl rfl ?_
                refine qv (yExt rfl rfl) rfl rfl ?_
                refine qv (yAsgn (v := .int .i64 _) rfl) rfl rfl ?_
                refine qv (yAsgn (v := .bool _) rfl) rfl rfl ?_
                refine QL.nil ?_
                refine TQ.sq ?_
                refine TC.seq ?_
                refine TC.seq ?_
                refine TC.quiet rfl ?_
                refine qv (yMove (v := .bool _) rfl) rfl rfl ?_
                refine QL.nil ?_
                refine TQ.sq ?_
                refine TC.condT rfl ?_
                refine TC.seq ?_
                refine TC.quiet rfl ?_
                refine qv (yAsgn (v := .int .i64 _) rfl) rfl rfl ?_
                refine QL.nil ?_
                refine TQ.sq ?_
                refine TC.ret (TQ.sqR (TQ.blkR (TQ.sqR (TQ.lpLR (TQ.blkR (TQ.sqR ?_))))))
                refine TQ.post (v := .int .i64 _) rfl ?_
                have e := addR_c (S := xs.map absS) (dead := dead) (n := n) (hs := hs) hnn hp (clash_a hu hdd)
                exact fun w hw => ⟨I, a1, c1, xs, Le.refl I, by rw [e], hS, hc1, by rw [e, if_neg (by decide)], hw.dr⟩
            ·
              refine QL.nil ?_
              refine TQ.sq ?_
              refine TC.condF rfl ?_
              refine TC.exit (TQ.sqX (TQ.lpLX (TQ.blkX (TQ.sq ?_))))
              refine TC.seq ?_
              refine TC.region ?_
              refine sv (yMove (v := .pointer _) rfl) rfl rfl ?_
              have hcl : clashB (xs.map absS) dead hs = false := by rw [show hs.take k = hs from List.take_of_length_le (by omega)] at he; exact he
              refine sCall (RHeld_ok l p a1 c1 xs a2 c2 dead hS hd hc2 hdl) rfl rfl (fun v108 w hw => ?_)
              obtain ⟨J0, a0, c0, hJ0, rfl, hr0, hrc0, hw⟩ := hw
              refine TL.wl ?_ hw
              refine sv (yAsgn (v := .slice _ _ _) rfl) rfl rfl ?_
              refine TL.nil ?_
              refine TQ.sq ?_
              refine TC.seq ?_
              refine TC.seq ?_
              refine TC.quiet rfl ?_
              refine qv (yAsgn (v := .int .i64 _) rfl) rfl rfl ?_
              refine QL.nil ?_
              refine TQ.sq ?_
              refine TC.block ?_
              refine TC.loopL (ι := (Nat) × (Im) × (Option Addr) × (Nat) × (List Hd)) [13, 14, 109, 110, 111, 112, 113, 114, 115, 116, 117, 118, 119, 120] (fun ⟨k, J, a3, c3, cur⟩ => [(14, .int .i64 (k : Int)), (13, .slice a3 cur.length c3)]) (fun ⟨k, J, a3, c3, cur⟩ w => (k ≤ hs.length ∧ Le I J ∧ RA J encH 2 a3 cur ∧ cur.length ≤ c3 ∧ cur = (hs.take k).foldl putF (heldP xs dead)) ∧ St c J ((p, (bkO 29 a1 xs.length c1 a2 dead.length c2)) :: l) w) (fun ⟨k, J, a3, c3, cur⟩ => hs.length - k) (0, J0, a0, c0, heldP xs dead) ⟨rfl, rfl, trivial⟩ (fun w hw => ⟨⟨by omega, hJ0, hr0, hrc0, rfl⟩, hw⟩) ?_
              rintro g2 ⟨k, J, a3, c3, cur⟩
              dsimp only
              refine TC.pure fun ⟨hk2, hJ, hr, hrc, hcur⟩ => ?_
              refine TC.seq ?_
              refine TC.seq ?_
              refine TC.quiet rfl ?_
              refine qv (yMove (v := .int .i64 _) rfl) rfl rfl ?_
              refine qv (yMove (v := .slice _ _ _) rfl) rfl rfl ?_
              refine qv (ySlLen ul27 rfl) rfl rfl ?_
              refine qcLt rfl rfl rfl rfl (fun h112 => ?_) (fun h112 => ?_)
              ·
                obtain ⟨u, hu⟩ := getSome (xs := hs) (k := k) (by omega)
                have hl1 := heldP_len (xs := xs) (fun y hy => (hS.e y hy).2.2) dead
                have hl2 := foldput_len (hs.take k) (heldP xs dead)
                have hl3 : (hs.take k).length ≤ k := by simp; omega
                rw [← hcur] at hl2
                refine QL.nil ?_
                refine TQ.sq ?_
                refine TC.condT rfl ?_
                refine TC.skip (TQ.sq ?_)
                refine TC.seq ?_
                refine TC.block ?_
                refine TC.region ?_
                refine sv (yMove (v := .slice _ _ _) rfl) rfl rfl ?_
                refine sv (yMove (v := .slice _ _ _) rfl) rfl rfl ?_
                refine sv (yMove (v := .int .i64 _) rfl) rfl rfl ?_
                refine sElA (v := .agg ⟨[.int .i64 _, .int .i64 _]⟩) ul27 ti49 rfl (RA.sa (hhr.le hJ)) rfl (by omega) (by simpa using hu) (fun _ => rfl) (fun h => nomatch h) rfl rfl rfl (fun _ => ?_)
                refine sCall (put_ok _ a3 c3 cur u hr hrc (by omega)) rfl rfl (fun v120 w hw => ?_)
                obtain ⟨J2, a4, c4, hJ2, rfl, hr2, hrc2, hw⟩ := hw
                refine TL.wl ?_ hw
                refine sv (yAsgn (v := .slice _ _ _) rfl) rfl rfl ?_
                refine TL.nil ?_
                refine TQ.blk (TQ.sq ?_)
                refine TC.quiet rfl ?_
                refine qv (yMove (v := .int .i64 _) rfl) rfl rfl ?_
                refine qv (yAdd rfl rfl (by omega)) rfl rfl ?_
                refine qv (yAsgn (v := .int .i64 _) rfl) rfl rfl ?_
                refine QL.nil ?_
                refine TQ.lpL (k + 1, J2, a4, c4, putH u cur) (by first | omega | (dsimp only; omega)) (by repeat (first | exact OffL.refl | refine OffL.updO rfl ?_ | refine OffL.upd rfl ?_ | refine OffL.updL rfl ?_ | refine OffL.mask rfl ?_)) ⟨rfl, rfl, trivial⟩ (fun w hw => ⟨⟨by omega, hJ.trans hJ2, hr2, hrc2, by rw [foldl_take putF hu, ← hcur]⟩, hw.dr⟩)
              ·
                have hcur2 : cur = hs.foldl putF (heldA (xs.map absS) dead) := by rw [hcur, show hs.take k = hs from List.take_of_length_le (by omega), heldP_A]
                refine QL.nil ?_
                refine TQ.sq ?_
                refine TC.condF rfl ?_
                refine TC.exit (TQ.sqX (TQ.lpLX (TQ.blkX (TQ.sq ?_))))
                refine TC.seq ?_
                refine TC.seq ?_
                refine TC.quiet rfl ?_
                refine qv (yMove (v := .slice _ _ _) rfl) rfl rfl ?_
                refine qv (ySlLen ul27 rfl) rfl rfl ?_
                refine qcGt rfl rfl rfl rfl (fun h123 => ?_) (fun h123 => ?_)
                ·
                  rw [hcur2] at h123
                  refine QL.nil ?_
                  refine TQ.sq ?_
                  refine TC.condT rfl ?_
                  refine TC.seq ?_
                  refine TC.quiet rfl ?_
                  refine qv (yAsgn (v := .int .i64 _) rfl) rfl rfl ?_
                  refine QL.nil ?_
                  refine TQ.sq ?_
                  refine TC.ret (TQ.sqR ?_)
                  refine TQ.post (v := .int .i64 _) rfl ?_
                  have e := addR_m (S := xs.map absS) (dead := dead) (n := n) (hs := hs) hnn hp hcl (by omega)
                  exact fun w hw => ⟨J, a1, c1, xs, hJ, by rw [e], hS.le hJ, hc1, by rw [e, if_neg (by decide)], hw.dr⟩
                ·
                  rw [hcur2] at h123
                  refine QL.nil ?_
                  refine TQ.sq ?_
                  refine TC.condF rfl ?_
                  refine TC.skip (TQ.sq ?_)
                  refine TC.seq ?_
                  refine TC.region ?_
                  refine sv (yMove (v := .pointer _) rfl) rfl rfl ?_
                  refine sBuildSl (vs := []) ul26 ti66 rfl rfl rfl rfl (fun b125 => ?_)
                  refine sv (yMove (v := .pointer _) rfl) rfl rfl ?_
                  refine sv (yNil rfl) rfl rfl ?_
                  refine sv (yFA fld29_0 ti26 (by decide) rfl) rfl rfl ?_
                  refine sv (yLd1 ti26 rfl (by first | exact RdC.rd | exact rdI (by assumption)) rfl) rfl rfl ?_
                  refine sAppAF (ys := xs) (xs := ([] : List SX)) (enc := encS) ul26 ul26 ti66 rfl rfl (OA.made (cs := []) rfl (fun _ => rfl) (by decide)) (RA.sa (hS.r.le hJ)) (fun _ => rfl) (by first | omega | (simp; done) | (simp; omega)) (by first | omega | (simp; done) | (simp; omega)) rfl (fun m1 a5 c5 o1 => ?_)
                  refine sv (yMove (v := .int .i64 _) rfl) rfl rfl ?_
                  refine sBuildSl (vs := []) ul27 ti49 rfl rfl rfl rfl (fun b132 => ?_)
                  refine sv (yMove (v := .slice _ _ _) rfl) rfl rfl ?_
                  refine sAppAF (ys := hs) (xs := ([] : List Hd)) (enc := encH) ul27 ul27 ti49 rfl rfl (OA.made (cs := []) rfl (fun _ => rfl) (by decide)) (RA.sa (hhr.le hJ)) (fun _ => rfl) (by first | omega | (simp; done) | (simp; omega)) (by first | omega | (simp; done) | (simp; omega)) rfl (fun mH aH cH oH => ?_)
                  refine sv (yBuild (vs := [.int .i64 _, .slice _ _ _]) ti66 pl66 rfl) rfl rfl ?_
                  refine sBuildSl (vs := [.int .i64 _, .slice _ _ _]) ul26 ti66 rfl rfl rfl rfl (fun b136 => ?_)
                  refine sAppA1F (enc := encS) ((⟨n, aH, cH, hs⟩ : SX)) ul26 ul26 ti66 rfl rfl o1 rfl rfl (fun _ => rfl) (by first | omega | (simp; done) | (simp; omega)) (by first | omega | (simp; done) | (simp; omega)) rfl (fun mS aS cS oS => ?_)
                  refine sv (yNil rfl) rfl rfl ?_
                  refine sv (yFA fld29_0 ti26 (by decide) rfl) rfl rfl ?_
                  refine sStoreF (vs := [.slice _ _ _]) (cs' := [.slice _ _ _, .slice _ _ _]) ti26 rfl rfl rfl rfl rfl (.inl rfl) (Nat.le_of_ble_eq_true rfl) rfl rfl ?_
                  refine TL.nil ?_
                  refine TQ.sq ?_
                  refine TC.seq ?_
                  refine TC.quiet rfl ?_
                  refine qv (yAsgn (v := .int .i64 _) rfl) rfl rfl ?_
                  refine QL.nil ?_
                  refine TQ.sq ?_
                  refine TC.ret ?_
                  refine TQ.post (v := .int .i64 _) rfl ?_
                  have e := addR_ok (S := xs.map absS) (dead := dead) (n := n) (hs := hs) hnn hp hcl (by omega)
                  refine fun w hw => ?_
                  try simp only [List.nil_append] at hw
                  try simp only [List.nil_append] at oS
                  have hw2 : St c J (mS ++ (mH ++ ((p, bkO 29 aS (xs ++ [(⟨n, aH, cH, hs⟩ : SX)]).length cS a2 dead.length c2) :: l))) w := hw.dr
                  obtain ⟨J1, hJ1, hr1, hw3⟩ := oS.freeze hw2
                  obtain ⟨J2, hJ2, hr2, hw4⟩ := oH.freeze hw3
                  exact ⟨J2, aS, cS, _, hJ.trans (hJ1.trans hJ2), by rw [e], hS.add (x := ⟨n, aH, cH, hs⟩) (hJ.trans (hJ1.trans hJ2)) (hr1.le hJ2) (by simpa using hr2) (by simpa using oH.le) hhl hn1, oS.le, by rw [e, if_pos rfl]; simp [absS], hw4⟩
      ·
        have hla := lastN_nil (xs := xs) (by omega)
        refine Go.E.hq rfl (yMove (v := .bool _) rfl) (.inl ⟨_, _, rfl, rfl, rfl⟩) rfl (by first | exact Wk.w | exact fun w hw => (hw.le (by assumption)).dr) ?_
        refine Go.E.hk rfl (.inl ⟨_, _, rfl, rfl, rfl⟩) rfl (by first | exact Wk.w | exact fun w hw => (hw.le (by assumption)).dr) ?_
        refine Go.E.hk rfl (.inl ⟨_, _, rfl, rfl, rfl⟩) rfl (by first | exact Wk.w | exact fun w hw => (hw.le (by assumption)).dr) ?_
        refine Go.E.hk rfl (.inl ⟨_, _, rfl, rfl, rfl⟩) rfl (by first | exact Wk.w | exact fun w hw => (hw.le (by assumption)).dr) ?_
        refine Go.E.hk rfl (.inl ⟨_, _, rfl, rfl, rfl⟩) rfl (by first | exact Wk.w | exact fun w hw => (hw.le (by assumption)).dr) ?_
        refine Go.E.hk rfl (.inl ⟨_, _, rfl, rfl, rfl⟩) rfl (by first | exact Wk.w | exact fun w hw => (hw.le (by assumption)).dr) ?_
        refine Go.E.hk rfl (.inl ⟨_, _, rfl, rfl, rfl⟩) rfl (by first | exact Wk.w | exact fun w hw => (hw.le (by assumption)).dr) ?_
        refine Go.E.hk rfl (.inl ⟨_, _, rfl, rfl, rfl⟩) rfl (by first | exact Wk.w | exact fun w hw => (hw.le (by assumption)).dr) ?_
        refine Go.E.hk rfl (.inl ⟨_, _, rfl, rfl, rfl⟩) rfl (by first | exact Wk.w | exact fun w hw => (hw.le (by assumption)).dr) ?_
        refine Go.E.hk rfl (.inl ⟨_, _, rfl, rfl, rfl⟩) rfl (by first | exact Wk.w | exact fun w hw => (hw.le (by assumption)).dr) ?_
        refine Go.E.hk rfl (.inl ⟨_, _, rfl, rfl, rfl⟩) rfl (by first | exact Wk.w | exact fun w hw => (hw.le (by assumption)).dr) ?_
        refine Go.E.hk rfl (.inl ⟨_, _, rfl, rfl, rfl⟩) rfl (by first | exact Wk.w | exact fun w hw => (hw.le (by assumption)).dr) ?_
        refine Go.E.hk rfl (.inl ⟨_, _, rfl, rfl, rfl⟩) rfl (by first | exact Wk.w | exact fun w hw => (hw.le (by assumption)).dr) ?_
        refine Go.E.hk rfl (.inl ⟨_, _, rfl, rfl, rfl⟩) rfl (by first | exact Wk.w | exact fun w hw => (hw.le (by assumption)).dr) ?_
        refine Go.E.hk rfl (.inl ⟨_, _, rfl, rfl, rfl⟩) rfl (by first | exact Wk.w | exact fun w hw => (hw.le (by assumption)).dr) ?_
        refine Go.E.hk rfl (.inl ⟨_, _, rfl, rfl, rfl⟩) rfl (by first | exact Wk.w | exact fun w hw => (hw.le (by assumption)).dr) ?_
        refine Go.E.hq rfl (yPickF rfl rfl) (.inl ⟨_, _, rfl, rfl, rfl⟩) rfl (by first | exact Wk.w | exact fun w hw => (hw.le (by assumption)).dr) ?_
        refine Go.E.hq rfl (yPickF rfl rfl) rfl rfl (by first | exact Wk.w | exact fun w hw => (hw.le (by assumption)).dr) ?_
        refine Go.E.hq rfl (yMove (v := .bool _) rfl) rfl rfl (by first | exact Wk.w | exact fun w hw => (hw.le (by assumption)).dr) ?_
        refine Go.E.hq rfl (yMove (v := .slice _ _ _) rfl) (.inl ⟨_, _, rfl, rfl, rfl⟩) rfl (by first | exact Wk.w | exact fun w hw => (hw.le (by assumption)).dr) ?_
        refine Go.E.hx rfl ?_
        have hnn : ¬ (n < 1 ∨ 512 < n ∨ n ≤ lastN (xs.map absS)) := by omega
        refine TL.ung rfl (.inl ⟨_, _, rfl, rfl, rfl⟩) ?_
        refine sCall (Rise_ok _ a cap hs (hh.mono Wk.w) (by omega)) rfl rfl (fun v48 w hw => ?_)
        obtain ⟨rfl, hw⟩ := hw
        refine TL.wl ?_ hw
        cases hp : plainB hs
        ·
          refine Go.E.hn (fun _ => by exact (by first | exact Wk.w | exact fun w hw => (hw.le (by assumption)).dr)) ?_
          refine Go.E.hq rfl (yNotT rfl) (.inl ⟨_, _, rfl, rfl, rfl⟩) rfl (by first | exact Wk.w | exact fun w hw => (hw.le (by assumption)).dr) ?_
          refine Go.E.hq rfl (yPickF rfl rfl) rfl rfl (by first | exact Wk.w | exact fun w hw => (hw.le (by assumption)).dr) ?_
          refine TQ.sq ?_
          refine TC.condT rfl ?_
          refine TC.seq ?_
          refine TC.quiet rfl ?_
          refine qv (yAsgn (v := .int .i64 _) rfl) rfl rfl ?_
          refine QL.nil ?_
          refine TQ.sq ?_
          refine TC.ret (TQ.sqR ?_)
          refine TQ.post (v := .int .i64 _) rfl ?_
          have e := addR_p (S := xs.map absS) (dead := dead) (n := n) (hs := hs) hnn hp
          exact fun w hw => ⟨I, a1, c1, xs, Le.refl I, by rw [e], hS, hc1, by rw [e, if_neg (by decide)], hw.dr⟩
        ·
          refine Go.E.hn (fun _ => by exact (by first | exact Wk.w | exact fun w hw => (hw.le (by assumption)).dr)) ?_
          refine Go.E.hq rfl (yNotF rfl) (.inl ⟨_, _, rfl, rfl, rfl⟩) rfl (by first | exact Wk.w | exact fun w hw => (hw.le (by assumption)).dr) ?_
          refine Go.E.hq rfl (yPickF rfl rfl) rfl rfl (by first | exact Wk.w | exact fun w hw => (hw.le (by assumption)).dr) ?_
          refine TQ.sq ?_
          refine TC.condF rfl ?_
          refine TC.skip (TQ.sq ?_)
          refine TC.seq ?_
          refine TC.seq ?_
          refine TC.quiet rfl ?_
          refine qv (yAsgn (v := .int .i64 _) rfl) rfl rfl ?_
          refine QL.nil ?_
          refine TQ.sq ?_
          refine TC.block ?_
          refine TC.loopL (ι := (Nat)) [6, 7, 8, 9, 10, 11, 12, 51, 52, 53, 54, 55, 56, 57, 58, 59, 60, 61, 62, 63, 64, 65, 66, 67, 68, 69, 70, 71, 72, 73, 74, 75, 76, 77, 78, 79, 80, 81, 82, 83, 84, 85, 86, 87, 88, 89, 90, 91, 92, 93, 94, 95, 96, 97, 98, 99, 100, 101, 102, 103, 104, 105, 106] (fun k => [(7, .int .i64 (k : Int))]) (fun k w => (k ≤ hs.length ∧ (hs.take k).any (clash1 (xs.map absS) dead) = false) ∧ St c I ((p, (bkO 29 a1 xs.length c1 a2 dead.length c2)) :: l) w) (fun k => hs.length - k) 0 ⟨rfl, trivial⟩ (fun w hw => ⟨⟨by omega, rfl⟩, hw⟩) ?_
          rintro g0 k
          dsimp only
          refine TC.pure fun ⟨hk, he⟩ => ?_
          refine TC.seq ?_
          refine TC.seq ?_
          refine TC.quiet rfl ?_
          refine qv (yMove (v := .int .i64 _) rfl) rfl rfl ?_
          refine qv (yMove (v := .slice _ _ _) rfl) rfl rfl ?_
          refine qv (ySlLen ul27 rfl) rfl rfl ?_
          refine qcLt rfl rfl rfl rfl (fun h54 => ?_) (fun h54 => ?_)
          ·
            obtain ⟨u, hu⟩ := getSome (xs := hs) (k := k) (by omega)
            refine QL.nil ?_
            refine TQ.sq ?_
            refine TC.condT rfl ?_
            refine TC.skip (TQ.sq ?_)
            refine TC.seq ?_
            refine TC.block ?_
            refine TC.seq ?_
            refine TC.quietD (fun _ _ h => h.drawn _) mixed (by kernel_rfl) rfl ?_
            refine qv (yMove (v := .pointer _) rfl) rfl rfl ?_
            refine qv (yNil rfl) rfl rfl ?_
            refine qv (yFA fld29_1 ti27 (by decide) rfl) rfl rfl ?_
            refine qv (yLd1 ti27 rfl (by first | exact RdC.rd | exact rdI (by assumption)) rfl) rfl rfl ?_
            refine qv (yMove (v := .slice _ _ _) rfl) rfl rfl ?_
            refine qv (yMove (v := .int .i64 _) rfl) rfl rfl ?_
            refine qElF (v := .int .i64 _) ul27 ti49 fld49_0 ti3 (by decide) rfl (hh.mono Wk.w) rfl (by omega) (by omega) (flat_cell (enc := encH) (k := 2) (fun _ => rfl) (by simpa using hu) (by decide) rfl) rfl (fun _ => rfl) (fun _ _ => rfl) rfl rfl rfl (fun _ _ => ?_)
            refine qCall (in_ok a2 c2 dead u.1 (RA.sa hd) (by omega)) rfl rfl rfl ?_
            rcases hdd : dget dead u.1 with _ | s
            ·
              refine qv (yMove (v := .tuple _) rfl) rfl rfl ?_
              refine qv (yExt rfl rfl) rfl rfl ?_
              refine qv (yExt rfl rfl) rfl rfl ?_
              refine qv (yAsgn (v := .int .i64 _) rfl) rfl rfl ?_
              refine qv (yAsgn (v := .bool _) rfl) rfl rfl ?_
              refine QL.nil ?_
              refine TQ.sq ?_
              refine TC.seq ?_
              refine TC.seq ?_
              refine TC.quiet rfl ?_
              refine qv (yMove (v := .bool _) rfl) rfl rfl ?_
              refine QL.nil ?_
              refine TQ.sq ?_
              refine TC.condF rfl ?_
              refine TC.skip (TQ.sq ?_)
              refine TC.seq ?_
              refine TC.quiet rfl ?_
              refine qv (yAsgn (v := .int .i64 _) rfl) rfl rfl ?_
              refine QL.nil ?_
              refine TQ.sq ?_
              refine TC.block ?_
              refine TC.loopL (ι := (Nat)) [6, 10, 11, 12, 71, 72, 73, 74, 75, 76, 77, 78, 79, 80, 81, 82, 83, 84, 85, 86, 87, 88, 89, 90, 91, 92, 93, 94, 95, 96, 97, 98, 99, 100, 101, 102, 103, 104, 105, 106] (fun i => [(10, .int .i64 (i : Int))]) (fun i w => (i ≤ xs.length ∧ ((xs.map absS).take i).any (bad1 u) = false) ∧ St c I ((p, (bkO 29 a1 xs.length c1 a2 dead.length c2)) :: l) w) (fun i => xs.length - i) 0 ⟨rfl, trivial⟩ (fun w hw => ⟨⟨by omega, rfl⟩, hw⟩) ?_
              rintro g1 i
              dsimp only
              refine TC.pure fun ⟨hil, hi⟩ => ?_
              refine TC.seq ?_
              refine TC.seq ?_
              refine TC.quiet rfl ?_
              refine qv (yMove (v := .int .i64 _) rfl) rfl rfl ?_
              refine qv (yMove (v := .pointer _) rfl) rfl rfl ?_
              refine qv (yNil rfl) rfl rfl ?_
              refine qv (yFA fld29_0 ti26 (by decide) rfl) rfl rfl ?_
              refine qv (yLd1 ti26 rfl (by first | exact RdC.rd | exact rdI (by assumption)) rfl) rfl rfl ?_
              refine qv (ySlLen ul26 rfl) rfl rfl ?_
              refine qcLt rfl rfl rfl rfl (fun h77 => ?_) (fun h77 => ?_)
              ·
                obtain ⟨x, hxk⟩ := getSome (xs := xs) (k := i) (by omega)
                have hxe := hS.e x (getMem hxk)
                refine QL.nil ?_
                refine TQ.sq ?_
                refine TC.condT rfl ?_
                refine TC.skip (TQ.sq ?_)
                refine TC.seq ?_
                refine TC.block ?_
                refine TC.seq ?_
                refine TC.quietD (fun _ _ h => h.drawn _) mixed (by kernel_rfl) rfl ?_
                refine qv (yMove (v := .pointer _) rfl) rfl rfl ?_
                refine qv (yNil rfl) rfl rfl ?_
                refine qv (yFA fld29_0 ti26 (by decide) rfl) rfl rfl ?_
                refine qv (yLd1 ti26 rfl (by first | exact RdC.rd | exact rdI (by assumption)) rfl) rfl rfl ?_
                refine qv (yMove (v := .int .i64 _) rfl) rfl rfl ?_
                refine qElF (v := .slice _ _ _) ul26 ti66 fld66_1 ti27 (by decide) rfl (RA.sa hS.r) rfl (by omega) (by omega) (flat_cell (enc := encS) (k := 2) (fun _ => rfl) (by simpa using hxk) (by decide) rfl) rfl (fun _ => rfl) (fun _ _ => rfl) rfl rfl rfl (fun _ _ => ?_)
                refine qv (yMove (v := .slice _ _ _) rfl) rfl rfl ?_
                refine qv (yMove (v := .int .i64 _) rfl) rfl rfl ?_
                refine qElF (v := .int .i64 _) ul27 ti49 fld49_0 ti3 (by decide) rfl (hh.mono Wk.w) rfl (by omega) (by omega) (flat_cell (enc := encH) (k := 2) (fun _ => rfl) (by simpa using hu) (by decide) rfl) rfl (fun _ => rfl) (fun _ _ => rfl) rfl rfl rfl (fun _ _ => ?_)
                refine qCall (in_ok x.a x.cap x.hs u.1 (RA.sa hxe.1) (by omega)) rfl rfl rfl ?_
                rcases hdx : dget x.hs u.1 with _ | s
                ·
                  refine qv (yMove (v := .tuple _) rfl) rfl rfl ?_
                  refine qv (yExt rfl rfl) rfl rfl ?_
                  refine qv (yExt rfl rfl) rfl rfl ?_
                  refine qv (yAsgn (v := .int .i64 _) rfl) rfl rfl ?_
                  refine qv (yAsgn (v := .bool _) rfl) rfl rfl ?_
                  refine QL.nil ?_
                  refine TQ.sq ?_
                  refine TC.seq ?_
                  refine TC.quiet rfl ?_
                  refine qv (yMove (v := .bool _) rfl) rfl rfl ?_
                  refine qv (yMove (v := .bool _) rfl) rfl rfl ?_
                  refine qk (.inl ⟨_, _, rfl, rfl, rfl⟩) rfl ?_
                  refine qk (.inl ⟨_, _, rfl, rfl, rfl⟩) rfl ?_
                  refine qk (.inl ⟨_, _, rfl, rfl, rfl⟩) rfl ?_
                  refine qk (.inl ⟨_, _, rfl, rfl, rfl⟩) rfl ?_
                  refine qk (.inl ⟨_, _, rfl, rfl, rfl⟩) rfl ?_
                  refine qk (.inl ⟨_, _, rfl, rfl, rfl⟩) rfl ?_
                  refine qk (.inl ⟨_, _, rfl, rfl, rfl⟩) rfl ?_
                  refine qv (yPickF rfl rfl) rfl rfl ?_
                  refine QL.nil ?_
                  refine TQ.sq ?_
                  refine TC.condF rfl ?_
                  refine TC.skip (TQ.blk (TQ.sq ?_))
                  refine TC.quiet rfl ?_
                  refine qv (yMove (v := .int .i64 _) rfl) rfl rfl ?_
                  refine qv (yAdd rfl rfl (by omega)) rfl rfl ?_
                  refine qv (yAsgn (v := .int .i64 _) rfl) rfl rfl ?_
                  refine QL.nil ?_
                  refine TQ.lpL (i + 1) (by first | omega | (dsimp only; omega)) (by repeat (first | exact OffL.refl | refine OffL.updO rfl ?_ | refine OffL.upd rfl ?_ | refine OffL.updL rfl ?_ | refine OffL.mask rfl ?_)) ⟨rfl, trivial⟩ (fun w hw => ⟨⟨by omega, by rw [any_take _ (map_at absS hxk), hi, bad1_n hdx]; rfl⟩, hw.dr⟩)
                ·
                  refine qv (yMove (v := .tuple _) rfl) rfl rfl ?_
                  refine qv (yExt rfl rfl) rfl rfl ?_
                  refine qv (yExt rfl rfl) rfl rfl ?_
                  refine qv (yAsgn (v := .int .i64 _) rfl) rfl rfl ?_
                  refine qv (yAsgn (v := .bool _) rfl) rfl rfl ?_
                  refine QL.nil ?_
                  refine TQ.sq ?_
                  refine TC.seq ?_
                  refine TC.quiet rfl ?_
                  refine qv (yMove (v := .bool _) rfl) rfl rfl ?_
                  refine qv (yMove (v := .bool _) rfl) rfl rfl ?_
                  refine qv (yMove (v := .int .i64 _) rfl) (.inl ⟨_, _, rfl, rfl, rfl⟩) rfl ?_
                  refine qv (yMove (v := .slice _ _ _) rfl) (.inl ⟨_, _, rfl, rfl, rfl⟩) rfl ?_
                  refine qv (yMove (v := .int .i64 _) rfl) (.inl ⟨_, _, rfl, rfl, rfl⟩) rfl ?_
                  refine qElF (v := .int .i64 _) ul27 ti49 fld49_1 ti3 (by decide) rfl (hh.mono Wk.w) rfl (by omega) (by omega) (flat_cell (enc := encH) (k := 2) (fun _ => rfl) (by simpa using hu) (by decide) rfl) (.inl ⟨_, _, rfl, rfl, rfl⟩) (fun _ => (.inl ⟨_, _, rfl, rfl, rfl⟩)) (fun _ _ => (.inl ⟨_, _, rfl, rfl, rfl⟩)) rfl rfl rfl (fun _ _ => ?_)
                  refine qcNe rfl rfl (.inl ⟨_, _, rfl, rfl, rfl⟩) rfl (fun h105 => ?_) (fun h105 => ?_)
                  ·
                    refine qv (yPickT rfl rfl) rfl rfl ?_
                    refine QL.nil ?_
                    refine TQ.sq ?_
                    refine TC.condT rfl ?_
                    refine TC.seq ?_
                    refine TC.quiet rfl ?_
                    refine qv (yAsgn (v := .int .i64 _) rfl) rfl rfl ?_
                    refine QL.nil ?_
                    refine TQ.sq ?_
                    refine TC.ret (TQ.blkR (TQ.sqR (TQ.lpLR (TQ.blkR (TQ.blkR (TQ.sqR (TQ.lpLR (TQ.blkR (TQ.sqR ?_)))))))))
                    refine TQ.post (v := .int .i64 _) rfl ?_
                    have e := addR_c (S := xs.map absS) (dead := dead) (n := n) (hs := hs) hnn hp (clash_b hu hxk hdx (by simpa using h105))
                    exact fun w hw => ⟨I, a1, c1, xs, Le.refl I, by rw [e], hS, hc1, by rw [e, if_neg (by decide)], hw.dr⟩
                  ·
                    refine qv (yPickT rfl rfl) rfl rfl ?_
                    refine QL.nil ?_
                    refine TQ.sq ?_
                    refine TC.condF rfl ?_
                    refine TC.skip (TQ.blk (TQ.sq ?_))
                    refine TC.quiet rfl ?_
                    refine qv (yMove (v := .int .i64 _) rfl) rfl rfl ?_
                    refine qv (yAdd rfl rfl (by omega)) rfl rfl ?_
                    refine qv (yAsgn (v := .int .i64 _) rfl) rfl rfl ?_
                    refine QL.nil ?_
                    refine TQ.lpL (i + 1) (by first | omega | (dsimp only; omega)) (by repeat (first | exact OffL.refl | refine OffL.updO rfl ?_ | refine OffL.upd rfl ?_ | refine OffL.updL rfl ?_ | refine OffL.mask rfl ?_)) ⟨rfl, trivial⟩ (fun w hw => ⟨⟨by omega, by rw [any_take _ (map_at absS hxk), hi, bad1_s hdx (by simpa using h105)]; rfl⟩, hw.dr⟩)
              ·
                refine QL.nil ?_
                refine TQ.sq ?_
                refine TC.condF rfl ?_
                refine TC.exit (TQ.sqX (TQ.lpLX (TQ.blkX (TQ.blk (TQ.sq ?_)))))
                refine TC.quiet rfl ?_
                refine qv (yMove (v := .int .i64 _) rfl) rfl rfl ?_
                refine qv (yAdd rfl rfl (by omega)) rfl rfl ?_
                refine qv (yAsgn (v := .int .i64 _) rfl) rfl rfl ?_
                refine QL.nil ?_
                have hi2 : (xs.map absS).any (bad1 u) = false := by rw [show (xs.map absS).take i = xs.map absS from List.take_of_length_le (by simp; omega)] at hi; exact hi
                refine TQ.lpL (k + 1) (by first | omega | (dsimp only; omega)) (by repeat (first | exact OffL.refl | refine OffL.updO rfl ?_ | refine OffL.upd rfl ?_ | refine OffL.updL rfl ?_ | refine OffL.mask rfl ?_)) ⟨rfl, trivial⟩ (fun w hw => ⟨⟨by omega, by rw [any_take _ hu, he]; unfold clash1; rw [hdd, hi2]; rfl⟩, hw.dr⟩)
            ·
              refine qv (yMove (v := .tuple _) rfl) rfl rfl ?_
              refine qv (yExt rfl rfl) rfl rfl ?_
              refine qv (yExt rfl rfl) rfl rfl ?_
              refine qv (yAsgn (v := .int .i64 _) rfl) rfl rfl ?_
              refine qv (yAsgn (v := .bool _) rfl) rfl rfl ?_
              refine QL.nil ?_
              refine TQ.sq ?_
              refine TC.seq ?_
              refine TC.seq ?_
              refine TC.quiet rfl ?_
              refine qv (yMove (v := .bool _) rfl) rfl rfl ?_
              refine QL.nil ?_
              refine TQ.sq ?_
              refine TC.condT rfl ?_
              refine TC.seq ?_
              refine TC.quiet rfl ?_
              refine qv (yAsgn (v := .int .i64 _) rfl) rfl rfl ?_
              refine QL.nil ?_
              refine TQ.sq ?_
              refine TC.ret (TQ.sqR (TQ.blkR (TQ.sqR (TQ.lpLR (TQ.blkR (TQ.sqR ?_))))))
              refine TQ.post (v := .int .i64 _) rfl ?_
              have e := addR_c (S := xs.map absS) (dead := dead) (n := n) (hs := hs) hnn hp (clash_a hu hdd)
              exact fun w hw => ⟨I, a1, c1, xs, Le.refl I, by rw [e], hS, hc1, by rw [e, if_neg (by decide)], hw.dr⟩
          ·
            refine QL.nil ?_
            refine TQ.sq ?_
            refine TC.condF rfl ?_
            refine TC.exit (TQ.sqX (TQ.lpLX (TQ.blkX (TQ.sq ?_))))
            refine TC.seq ?_
            refine TC.region ?_
            refine sv (yMove (v := .pointer _) rfl) rfl rfl ?_
            have hcl : clashB (xs.map absS) dead hs = false := by rw [show hs.take k = hs from List.take_of_length_le (by omega)] at he; exact he
            refine sCall (RHeld_ok l p a1 c1 xs a2 c2 dead hS hd hc2 hdl) rfl rfl (fun v108 w hw => ?_)
            obtain ⟨J0, a0, c0, hJ0, rfl, hr0, hrc0, hw⟩ := hw
            refine TL.wl ?_ hw
            refine sv (yAsgn (v := .slice _ _ _) rfl) rfl rfl ?_
            refine TL.nil ?_
            refine TQ.sq ?_
            refine TC.seq ?_
            refine TC.seq ?_
            refine TC.quiet rfl ?_
            refine qv (yAsgn (v := .int .i64 _) rfl) rfl rfl ?_
            refine QL.nil ?_
            refine TQ.sq ?_
            refine TC.block ?_
            refine TC.loopL (ι := (Nat) × (Im) × (Option Addr) × (Nat) × (List Hd)) [13, 14, 109, 110, 111, 112, 113, 114, 115, 116, 117, 118, 119, 120] (fun ⟨k, J, a3, c3, cur⟩ => [(14, .int .i64 (k : Int)), (13, .slice a3 cur.length c3)]) (fun ⟨k, J, a3, c3, cur⟩ w => (k ≤ hs.length ∧ Le I J ∧ RA J encH 2 a3 cur ∧ cur.length ≤ c3 ∧ cur = (hs.take k).foldl putF (heldP xs dead)) ∧ St c J ((p, (bkO 29 a1 xs.length c1 a2 dead.length c2)) :: l) w) (fun ⟨k, J, a3, c3, cur⟩ => hs.length - k) (0, J0, a0, c0, heldP xs dead) ⟨rfl, rfl, trivial⟩ (fun w hw => ⟨⟨by omega, hJ0, hr0, hrc0, rfl⟩, hw⟩) ?_
            rintro g2 ⟨k, J, a3, c3, cur⟩
            dsimp only
            refine TC.pure fun ⟨hk2, hJ, hr, hrc, hcur⟩ => ?_
            refine TC.seq ?_
            refine TC.seq ?_
            refine TC.quiet rfl ?_
            refine qv (yMove (v := .int .i64 _) rfl) rfl rfl ?_
            refine qv (yMove (v := .slice _ _ _) rfl) rfl rfl ?_
            refine qv (ySlLen ul27 rfl) rfl rfl ?_
            refine qcLt rfl rfl rfl rfl (fun h112 => ?_) (fun h112 => ?_)
            ·
              obtain ⟨u, hu⟩ := getSome (xs := hs) (k := k) (by omega)
              have hl1 := heldP_len (xs := xs) (fun y hy => (hS.e y hy).2.2) dead
              have hl2 := foldput_len (hs.take k) (heldP xs dead)
              have hl3 : (hs.take k).length ≤ k := by simp; omega
              rw [← hcur] at hl2
              refine QL.nil ?_
              refine TQ.sq ?_
              refine TC.condT rfl ?_
              refine TC.skip (TQ.sq ?_)
              refine TC.seq ?_
              refine TC.block ?_
              refine TC.region ?_
              refine sv (yMove (v := .slice _ _ _) rfl) rfl rfl ?_
              refine sv (yMove (v := .slice _ _ _) rfl) rfl rfl ?_
              refine sv (yMove (v := .int .i64 _) rfl) rfl rfl ?_
              refine sElA (v := .agg ⟨[.int .i64 _, .int .i64 _]⟩) ul27 ti49 rfl (RA.sa (hhr.le hJ)) rfl (by omega) (by simpa using hu) (fun _ => rfl) (fun h => nomatch h) rfl rfl rfl (fun _ => ?_)
              refine sCall (put_ok _ a3 c3 cur u hr hrc (by omega)) rfl rfl (fun v120 w hw => ?_)
              obtain ⟨J2, a4, c4, hJ2, rfl, hr2, hrc2, hw⟩ := hw
              refine TL.wl ?_ hw
              refine sv (yAsgn (v := .slice _ _ _) rfl) rfl rfl ?_
              refine TL.nil ?_
              refine TQ.blk (TQ.sq ?_)
              refine TC.quiet rfl ?_
              refine qv (yMove (v := .int .i64 _) rfl) rfl rfl ?_
              refine qv (yAdd rfl rfl (by omega)) rfl rfl ?_
              refine qv (yAsgn (v := .int .i64 _) rfl) rfl rfl ?_
              refine QL.nil ?_
              refine TQ.lpL (k + 1, J2, a4, c4, putH u cur) (by first | omega | (dsimp only; omega)) (by repeat (first | exact OffL.refl | refine OffL.updO rfl ?_ | refine OffL.upd rfl ?_ | refine OffL.updL rfl ?_ | refine OffL.mask rfl ?_)) ⟨rfl, rfl, trivial⟩ (fun w hw => ⟨⟨by omega, hJ.trans hJ2, hr2, hrc2, by rw [foldl_take putF hu, ← hcur]⟩, hw.dr⟩)
            ·
              have hcur2 : cur = hs.foldl putF (heldA (xs.map absS) dead) := by rw [hcur, show hs.take k = hs from List.take_of_length_le (by omega), heldP_A]
              refine QL.nil ?_
              refine TQ.sq ?_
              refine TC.condF rfl ?_
              refine TC.exit (TQ.sqX (TQ.lpLX (TQ.blkX (TQ.sq ?_))))
              refine TC.seq ?_
              refine TC.seq ?_
              refine TC.quiet rfl ?_
              refine qv (yMove (v := .slice _ _ _) rfl) rfl rfl ?_
              refine qv (ySlLen ul27 rfl) rfl rfl ?_
              refine qcGt rfl rfl rfl rfl (fun h123 => ?_) (fun h123 => ?_)
              ·
                rw [hcur2] at h123
                refine QL.nil ?_
                refine TQ.sq ?_
                refine TC.condT rfl ?_
                refine TC.seq ?_
                refine TC.quiet rfl ?_
                refine qv (yAsgn (v := .int .i64 _) rfl) rfl rfl ?_
                refine QL.nil ?_
                refine TQ.sq ?_
                refine TC.ret (TQ.sqR ?_)
                refine TQ.post (v := .int .i64 _) rfl ?_
                have e := addR_m (S := xs.map absS) (dead := dead) (n := n) (hs := hs) hnn hp hcl (by omega)
                exact fun w hw => ⟨J, a1, c1, xs, hJ, by rw [e], hS.le hJ, hc1, by rw [e, if_neg (by decide)], hw.dr⟩
              ·
                rw [hcur2] at h123
                refine QL.nil ?_
                refine TQ.sq ?_
                refine TC.condF rfl ?_
                refine TC.skip (TQ.sq ?_)
                refine TC.seq ?_
                refine TC.region ?_
                refine sv (yMove (v := .pointer _) rfl) rfl rfl ?_
                refine sBuildSl (vs := []) ul26 ti66 rfl rfl rfl rfl (fun b125 => ?_)
                refine sv (yMove (v := .pointer _) rfl) rfl rfl ?_
                refine sv (yNil rfl) rfl rfl ?_
                refine sv (yFA fld29_0 ti26 (by decide) rfl) rfl rfl ?_
                refine sv (yLd1 ti26 rfl (by first | exact RdC.rd | exact rdI (by assumption)) rfl) rfl rfl ?_
                refine sAppAF (ys := xs) (xs := ([] : List SX)) (enc := encS) ul26 ul26 ti66 rfl rfl (OA.made (cs := []) rfl (fun _ => rfl) (by decide)) (RA.sa (hS.r.le hJ)) (fun _ => rfl) (by first | omega | (simp; done) | (simp; omega)) (by first | omega | (simp; done) | (simp; omega)) rfl (fun m1 a5 c5 o1 => ?_)
                refine sv (yMove (v := .int .i64 _) rfl) rfl rfl ?_
                refine sBuildSl (vs := []) ul27 ti49 rfl rfl rfl rfl (fun b132 => ?_)
                refine sv (yMove (v := .slice _ _ _) rfl) rfl rfl ?_
                refine sAppAF (ys := hs) (xs := ([] : List Hd)) (enc := encH) ul27 ul27 ti49 rfl rfl (OA.made (cs := []) rfl (fun _ => rfl) (by decide)) (RA.sa (hhr.le hJ)) (fun _ => rfl) (by first | omega | (simp; done) | (simp; omega)) (by first | omega | (simp; done) | (simp; omega)) rfl (fun mH aH cH oH => ?_)
                refine sv (yBuild (vs := [.int .i64 _, .slice _ _ _]) ti66 pl66 rfl) rfl rfl ?_
                refine sBuildSl (vs := [.int .i64 _, .slice _ _ _]) ul26 ti66 rfl rfl rfl rfl (fun b136 => ?_)
                refine sAppA1F (enc := encS) ((⟨n, aH, cH, hs⟩ : SX)) ul26 ul26 ti66 rfl rfl o1 rfl rfl (fun _ => rfl) (by first | omega | (simp; done) | (simp; omega)) (by first | omega | (simp; done) | (simp; omega)) rfl (fun mS aS cS oS => ?_)
                refine sv (yNil rfl) rfl rfl ?_
                refine sv (yFA fld29_0 ti26 (by decide) rfl) rfl rfl ?_
                refine sStoreF (vs := [.slice _ _ _]) (cs' := [.slice _ _ _, .slice _ _ _]) ti26 rfl rfl rfl rfl rfl (.inl rfl) (Nat.le_of_ble_eq_true rfl) rfl rfl ?_
                refine TL.nil ?_
                refine TQ.sq ?_
                refine TC.seq ?_
                refine TC.quiet rfl ?_
                refine qv (yAsgn (v := .int .i64 _) rfl) rfl rfl ?_
                refine QL.nil ?_
                refine TQ.sq ?_
                refine TC.ret ?_
                refine TQ.post (v := .int .i64 _) rfl ?_
                have e := addR_ok (S := xs.map absS) (dead := dead) (n := n) (hs := hs) hnn hp hcl (by omega)
                refine fun w hw => ?_
                try simp only [List.nil_append] at hw
                try simp only [List.nil_append] at oS
                have hw2 : St c J (mS ++ (mH ++ ((p, bkO 29 aS (xs ++ [(⟨n, aH, cH, hs⟩ : SX)]).length cS a2 dead.length c2) :: l))) w := hw.dr
                obtain ⟨J1, hJ1, hr1, hw3⟩ := oS.freeze hw2
                obtain ⟨J2, hJ2, hr2, hw4⟩ := oH.freeze hw3
                exact ⟨J2, aS, cS, _, hJ.trans (hJ1.trans hJ2), by rw [e], hS.add (x := ⟨n, aH, cH, hs⟩) (hJ.trans (hJ1.trans hJ2)) (hr1.le hJ2) (by simpa using hr2) (by simpa using oH.le) hhl hn1, oS.le, by rw [e, if_pos rfl]; simp [absS], hw4⟩
end Go.Proofs.Ytfiambcocnceiaa
