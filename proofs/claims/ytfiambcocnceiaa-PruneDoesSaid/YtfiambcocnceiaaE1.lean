import Derived.WalkKit
import Derived.Deep.Quiet
import Derived.OrdersHeld
set_option linter.unusedVariables false
set_option linter.unusedSimpArgs false
namespace Go.E
open Go

/-! ### 1. The assertion: what is immutable, what is owned -/
structure Cx where
  os : Os
  tape : Nat → Question → Nat
  output : Array (Nat × ByteArray)
abbrev Im := Nat → Option Obj
abbrev Ow := List (Nat × Obj)
structure St (c : Cx) (I : Im) (l : Ow) (w : World) : Prop where
  os : w.os = c.os
  tape : w.tape = c.tape
  out : w.output = c.output
  im : ∀ b o, I b = some o → w.heap[b]? = some o
  own : ∀ p, p ∈ l → w.heap[p.1]? = some p.2 ∧ I p.1 = none
  nd : (l.map (·.1)).Nodup
def Le (I J : Im) : Prop := ∀ b o, I b = some o → J b = some o
theorem Le.refl (I : Im) : Le I I := fun _ _ h => h
theorem Le.trans {I J K : Im} (h : Le I J) (k : Le J K) : Le I K := fun b o x => k b o (h b o x)

section
variable {c : Cx} {I : Im} {l : Ow} {w : World}
theorem St.drew (h : St c I l w) : St c I l w.drew := ⟨h.os, h.tape, h.out, h.im, h.own, h.nd⟩
theorem St.drawn (h : St c I l w) (n : Nat) : St c I l { w with drawn := n } := ⟨h.os, h.tape, h.out, h.im, h.own, h.nd⟩
theorem St.lt (h : St c I l w) {b : Nat} {o : Obj} (hb : (b, o) ∈ l) : b < w.heap.size := by
  have := (h.own _ hb).1
  exact (Array.getElem?_eq_some_iff.1 this).1
theorem St.fresh (h : St c I l w) : I w.heap.size = none ∧ w.heap.size ∉ l.map (·.1) := by
  constructor
  · cases hI : I w.heap.size with
    | none => rfl
    | some o => have := h.im _ _ hI; simp at this
  · intro hm
    obtain ⟨p, hp, e⟩ := List.mem_map.1 hm
    have := (h.own p hp).1
    rw [e] at this; simp at this
theorem St.alloc (h : St c I l w) (o : Obj) : St c I ((w.heap.size, o) :: l) (w.alloc o) := by
  refine ⟨h.os, h.tape, h.out, fun b o' hb => ?_, fun p hp => ?_, ?_⟩
  · have h1 := h.im b o' hb
    have hlt := (Array.getElem?_eq_some_iff.1 h1).1
    show (w.heap.push o)[b]? = _
    rw [Array.getElem?_push, if_neg (by omega)]; exact h1
  · rcases List.mem_cons.1 hp with rfl | hp
    · exact ⟨by show (w.heap.push o)[w.heap.size]? = _; simp, h.fresh.1⟩
    · have h1 := h.own p hp
      have hlt := (Array.getElem?_eq_some_iff.1 h1.1).1
      refine ⟨?_, h1.2⟩
      show (w.heap.push o)[p.1]? = _
      rw [Array.getElem?_push, if_neg (by omega)]; exact h1.1
  · simp only [List.map_cons, List.nodup_cons]
    exact ⟨h.fresh.2, h.nd⟩
/-- a block is written -/
theorem St.put {b : Nat} {o o' : Obj} (h : St c I ((b, o) :: l) w) : St c I ((b, o') :: l) { w with heap := w.heap.setIfInBounds b o' } := by
  have hnd := h.nd
  simp only [List.map_cons, List.nodup_cons] at hnd
  refine ⟨h.os, h.tape, h.out, fun b1 o1 hb => ?_, fun p hp => ?_, by simpa using hnd⟩
  · have h1 := h.im b1 o1 hb
    have : b1 ≠ b := fun e => by have := (h.own (b, o) List.mem_cons_self).2; rw [e] at hb; simp [hb] at this
    show (w.heap.setIfInBounds b o')[b1]? = _
    rw [Array.getElem?_setIfInBounds_ne (Ne.symm this)]; exact h1
  · rcases List.mem_cons.1 hp with rfl | hp
    · refine ⟨?_, (h.own (b, o) List.mem_cons_self).2⟩
      have hlt := h.lt (List.mem_cons_self)
      show (w.heap.setIfInBounds b o')[b]? = _
      rw [Array.getElem?_setIfInBounds_self]; simp [hlt]
    · have h1 := h.own p (List.mem_cons_of_mem _ hp)
      have : p.1 ≠ b := fun e => hnd.1 (e ▸ List.mem_map_of_mem hp)
      refine ⟨?_, h1.2⟩
      show (w.heap.setIfInBounds b o')[p.1]? = _
      rw [Array.getElem?_setIfInBounds_ne (Ne.symm this)]; exact h1.1
theorem St.perm {l' : Ow} (hp : l.Perm l') (h : St c I l w) : St c I l' w :=
  ⟨h.os, h.tape, h.out, h.im, fun p hm => h.own p (hp.mem_iff.2 hm), (hp.map _).nodup_iff.1 h.nd⟩
theorem St.sub {l' : Ow} (hp : l'.Sublist l) (h : St c I l w) : St c I l' w :=
  ⟨h.os, h.tape, h.out, h.im, fun p hm => h.own p (hp.subset hm), (hp.map _).nodup h.nd⟩
theorem St.tl {x : Nat × Obj} (h : St c I (x :: l) w) : St c I l w := h.sub (List.sublist_cons_self _ _)
theorem St.dropL {l1 : Ow} (h : St c I (l1 ++ l) w) : St c I l w := h.sub (List.sublist_append_right _ _)
/-- an owned block becomes immutable -/
def inc (I : Im) (b : Nat) (o : Obj) : Im := fun x => if x = b then some o else I x
theorem St.freeze {b : Nat} {o : Obj} (h : St c I ((b, o) :: l) w) : St c (inc I b o) l w ∧ Le I (inc I b o) ∧ (inc I b o) b = some o := by
  have hnd := h.nd
  simp only [List.map_cons, List.nodup_cons] at hnd
  have h0 := h.own (b, o) List.mem_cons_self
  refine ⟨⟨h.os, h.tape, h.out, fun b1 o1 hb => ?_, fun p hp => ?_, hnd.2⟩, fun b1 o1 hb => ?_, by simp [inc]⟩
  · unfold inc at hb; split at hb
    · rename_i e; cases hb; rw [e]; exact h0.1
    · exact h.im b1 o1 hb
  · have h1 := h.own p (List.mem_cons_of_mem _ hp)
    refine ⟨h1.1, ?_⟩
    have : p.1 ≠ b := fun e => hnd.1 (e ▸ List.mem_map_of_mem hp)
    simp [inc, this, h1.2]
  · unfold inc; split
    · rename_i e; rw [e] at hb; have := h0.2; simp [hb] at this
    · exact hb
theorem St.hd {b : Nat} {o : Obj} (h : St c I ((b, o) :: l) w) : w.heap[b]? = some o := (h.own (b, o) List.mem_cons_self).1
theorem St.ne {b b' : Nat} {o o' : Obj} (h : St c I ((b, o) :: l) w) (hm : (b', o') ∈ l) : b' ≠ b := by
  have hnd := h.nd
  simp only [List.map_cons, List.nodup_cons] at hnd
  exact fun e => hnd.1 (e ▸ List.mem_map_of_mem hm)
/- bring a chunk to the front -/
variable {x0 x1 x2 x3 x4 x5 x6 : Nat × Obj}
theorem St.f1 (h : St c I (x0 :: x1 :: l) w) : St c I (x1 :: x0 :: l) w := h.perm (List.Perm.swap _ _ _)
theorem St.f2 (h : St c I (x0 :: x1 :: x2 :: l) w) : St c I (x2 :: x0 :: x1 :: l) w := h.perm ((List.Perm.cons _ (List.Perm.swap _ _ _)).trans (List.Perm.swap _ _ _))
theorem St.f3 (h : St c I (x0 :: x1 :: x2 :: x3 :: l) w) : St c I (x3 :: x0 :: x1 :: x2 :: l) w :=
  h.perm ((List.Perm.cons _ ((List.Perm.cons _ (List.Perm.swap _ _ _)).trans (List.Perm.swap _ _ _))).trans (List.Perm.swap _ _ _))
end

/-! ### 2. Frames as functions -/
abbrev Env := Nat → Value
def upd (e : Env) (d : Nat) (v : Value) : Env := fun i => bif Nat.beq i d then v else e i
theorem beqF {i d : Nat} (h : ¬ i = d) : Nat.beq i d = false := by
  cases hb : Nat.beq i d with
  | false => rfl
  | true => exact absurd (Nat.eq_of_beq_eq_true hb) h
def updO (e : Env) : Option Nat → Value → Env
  | some d, v => upd e d v
  | none, _ => e
def envL : List Value → Env
  | [], _ => undef
  | v :: _, 0 => v
  | _ :: vs, i + 1 => envL vs i
def mask (D : Nat → Bool) (g e : Env) : Env := fun i => bif D i then g i else e i
structure Ag (n : Nat) (a : Act) (e : Env) : Prop where
  defers : a.defers = []
  size : a.tmps.size = n
  tmps : ∀ i, a.tmps.getD i undef = e i
def ev (e : Env) : Operand → Value
  | .tmp t => e t
  | .const v => v
  | .global g => .pointer (some ⟨g, 0, none⟩)
  | .func f => .func (.func f) #[] #[]
def evs (e : Env) : List Operand → List Value
  | [] => []
  | x :: r => ev e x :: evs e r
theorem evs_map (e : Env) (l : List Operand) : evs e l = l.map (ev e) := by
  induction l with
  | nil => rfl
  | cons x r ih => simp [evs, ih]
theorem Ag.eval {n : Nat} {a : Act} {e : Env} (h : Ag n a e) : a.eval = ev e := by
  funext x
  cases x with
  | tmp t => exact h.tmps t
  | const v => rfl
  | global g => rfl
  | func f => rfl
def inB (n : Nat) : Option Nat → Bool
  | some d => Nat.blt d n
  | none => true
theorem Ag.put {n : Nat} {a : Act} {e : Env} (h : Ag n a e) (d : Option Nat) (v : Value) (hd : inB n d = true) : Ag n (a.put d v) (updO e d v) := by
  cases d with
  | none => exact h
  | some d =>
    have hd' : d < n := by simpa [inB] using hd
    refine ⟨h.defers, by simp [Act.put, h.size], fun i => ?_⟩
    simp only [Act.put, updO, upd]
    by_cases hi : i = d
    · subst hi
      have : i < a.tmps.size := by rw [h.size]; exact hd'
      simp [Array.getD_eq_getD_getElem?, this]
    · have hb : Nat.beq i d = false := beqF hi
      rw [hb, cond_false, ← h.tmps i]
      simp only [Array.getD_eq_getD_getElem?]
      rw [Array.getElem?_setIfInBounds_ne (Ne.symm hi)]

/-! ### 3. Judgements -/
abbrev Po := Exit → Env → World → Prop
def lift (n : Nat) (Q : Po) : Exit → Act → World → Prop := fun x a w => ∃ e, Ag n a e ∧ Q x e w
def WL (P : Program) (n : Nat) (ops : Array Oper) (rest : List Oper) (Q : Po) (e : Env) (w : World) : Prop := ∀ a, Ag n a e → wpList P ops (lift n Q) rest a w
def WC (P : Program) (n : Nat) (c : Code) (Q : Po) (e : Env) (w : World) : Prop := ∀ a, Ag n a e → c.wp P (lift n Q) a w
def TL (P : Program) (n : Nat) (ops : Array Oper) (rest : List Oper) (S : World → Prop) (Q : Po) (e : Env) : Prop := ∀ w, S w → WL P n ops rest Q e w
def TC (P : Program) (n : Nat) (c : Code) (S : World → Prop) (Q : Po) (e : Env) : Prop := ∀ w, S w → WC P n c Q e w
def TQ (S : World → Prop) (Q : Po) (x : Exit) (e : Env) : Prop := ∀ w, S w → Q x e w
/-- a call, from every world of S: it returns, and R -/
def Ct (P : Program) (f : FuncId) (args : List Value) (S : World → Prop) (R : Value → World → Prop) : Prop :=
  (∃ fn, P.funcs[f]? = some fn ∧ (fn.name == "runtime.NumGoroutine") = false ∧ fn.body.isNone = false) ∧
  ∀ w, S w → Calls P f args.toArray w fun e w' => ∃ v, e = .returned v ∧ R v w'

theorem Ct.mono {P : Program} {f : FuncId} {args : List Value} {S S' : World → Prop} {R R' : Value → World → Prop} (h : Ct P f args S R) (hs : ∀ w, S' w → S w) (hr : ∀ v w, R v w → R' v w) : Ct P f args S' R' :=
  ⟨h.1, fun w hw => (h.2 w (hs w hw)).mono fun _ _ ⟨v, he, hv⟩ => ⟨v, he, hr _ _ hv⟩⟩
theorem Ct.imp {P : Program} {f : FuncId} {args : List Value} {S : World → Prop} {R R' : Value → World → Prop} (h : Ct P f args S R) (hr : ∀ v w, R v w → R' v w) : Ct P f args S R' := h.mono (fun _ h => h) hr

def Sq (P : Program) (n : Nat) (c : Code) (Q : Po) : Po := fun x e w => match x with | .normal => WC P n c Q e w | x => Q x e w
def Blk (id : Nat) (Q : Po) : Po := fun x e w => match x with | .normal => Q .normal e w | .exit j => bif Nat.beq j id then Q .normal e w else Q (.exit j) e w | x => Q x e w
def Lp {ι : Type} (E : ι → Env) (Sι : ι → World → Prop) (μ : ι → Nat) (i : ι) (Q : Po) : Po := fun x e w => match x with | .normal => ∃ j, μ j < μ i ∧ e = E j ∧ Sι j w | x => Q x e w
def resE (rs : List ResultVar) (e : Env) : List Value := rs.map fun | .tmp t => e t | .cell _ _ => undef
def resV : List ResultVar → Env → Value
  | [.tmp t], e => e t
  | [.tmp t, .tmp u], e => .tuple #[e t, e u]
  | [.tmp t, .tmp u, .tmp v], e => .tuple #[e t, e u, e v]
  | [.tmp t, .tmp u, .tmp v, .tmp x], e => .tuple #[e t, e u, e v, e x]
  | [.tmp t, .tmp u, .tmp v, .tmp x, .tmp y], e => .tuple #[e t, e u, e v, e x, e y]
  | _, _ => .tuple #[]
def resOk : List ResultVar → Bool
  | [] | [.tmp _] | [.tmp _, .tmp _] | [.tmp _, .tmp _, .tmp _] | [.tmp _, .tmp _, .tmp _, .tmp _] | [.tmp _, .tmp _, .tmp _, .tmp _, .tmp _] => true
  | _ => false
def Post (rs : List ResultVar) (R : Value → World → Prop) : Po := fun x e w => match x with | .normal | .ret => R (resV rs e) w | _ => False

theorem run_results {P : Program} {fn : Func} {rs : List ResultVar} {n : Nat} {a : Act} {e : Env} (hr : fn.results = rs.toArray) (hok : resOk rs = true) (hA : Ag n a e) (w : World) :
    (results fn a.tmps).run P w = .ok (resV rs e) w := by
  have ht := hA.tmps
  unfold resOk at hok
  split at hok <;> first | (cases hok; done) | (simp [results, hr, resV, ht])

theorem Ct.enter {P : Program} {f : FuncId} {fn : Func} {cd : Code} {n : Nat} {rs : List ResultVar} {args : List Value} {S : World → Prop} {R : Value → World → Prop}
    (hf : P.funcs[f]? = some fn) (hb : fn.body = some cd) (hn : fn.ntmps = n) (hrs : fn.results = rs.toArray) (hok : resOk rs = true) (hnm : (fn.name == "runtime.NumGoroutine") = false)
    (hl : Nat.ble args.length n = true) (h : TC P n cd S (Post rs R) (envL args)) : Ct P f args S R := by
  refine ⟨⟨fn, hf, hnm, by rw [hb]; rfl⟩, fun w hw => ?_⟩
  have hl' : args.length ≤ n := by simpa using hl
  refine calls_of_wp hf hb ?_
  have hA : Ag n { tmps := args.toArray ++ Array.replicate (fn.ntmps - args.toArray.size) undef, defers := [] } (envL args) := by
    refine ⟨rfl, by simp [hn]; omega, fun i => ?_⟩
    have : ∀ (l : List Value) (i : Nat), envL l i = l[i]?.getD undef := by
      intro l; induction l with
      | nil => intro i; rfl
      | cons x r ih => intro i; cases i with
        | zero => rfl
        | succ i => simp [envL, ih]
    rw [this]
    simp only [Array.getD_eq_getD_getElem?, Array.getElem?_append, List.size_toArray, List.getElem?_toArray]
    split
    · rfl
    · rename_i hlt
      have h1 : args[i]? = none := by simp; omega
      rw [h1]
      simp only [Array.getElem?_replicate]
      split <;> rfl
  refine Code.wp_mono ?_ (h w hw _ hA)
  intro x a w ⟨e, hA, hq⟩
  cases x with
  | normal => exact ⟨hA.defers, _, run_results hrs hok hA w, _, rfl, hq⟩
  | ret => exact ⟨hA.defers, _, run_results hrs hok hA w, _, rfl, hq⟩
  | exit _ => exact hq.elim
  | goto _ => exact hq.elim
  | panic _ => exact hq.elim
  | outgrown => exact hq.elim

/-! ### 4. Control -/
section
variable {P : Program} {n : Nat} {S : World → Prop} {Q : Po} {e : Env}
theorem lift_mono {Q Q' : Po} (h : ∀ x e w, Q x e w → Q' x e w) : ∀ x a w, lift n Q x a w → lift n Q' x a w := fun x a w ⟨e, hA, hq⟩ => ⟨e, hA, h _ _ _ hq⟩
theorem TC.seq {c1 c2 : Code} (h : TC P n c1 S (Sq P n c2 Q) e) : TC P n (c1.seq c2) S Q e := by
  intro w hw a hA
  refine wp_seq (Code.wp_mono ?_ (h w hw a hA))
  intro x a' w' ⟨e', hA', hq⟩
  cases x with
  | normal => exact hq a' hA'
  | _ => exact ⟨e', hA', hq⟩
theorem TC.skip (h : TQ S Q .normal e) : TC P n .skip S Q e := fun w hw a hA => wp_skip ⟨e, hA, h w hw⟩
theorem TC.ret (h : TQ S Q .ret e) : TC P n .ret S Q e := fun w hw a hA => wp_ret ⟨e, hA, h w hw⟩
theorem TC.exit {id : Nat} (h : TQ S Q (.exit id) e) : TC P n (.exit id) S Q e := fun w hw a hA => wp_exit ⟨e, hA, h w hw⟩
theorem TC.block {id : Nat} {cd : Code} (h : TC P n cd S (Blk id Q) e) : TC P n (.block id cd) S Q e := by
  intro w hw a hA
  refine wp_block (Code.wp_mono ?_ (h w hw a hA))
  intro x a' w' ⟨e', hA', hq⟩
  cases x with
  | exit j =>
    simp only [Blk] at hq
    simp only [Exit.inBlock]
    by_cases hj : j = id
    · subst hj
      simp at hq ⊢
      exact ⟨e', hA', hq⟩
    · have : Nat.beq j id = false := beqF hj
      simp [this] at hq
      simp [hj]
      exact ⟨e', hA', hq⟩
  | _ => exact ⟨e', hA', hq⟩
theorem TC.cond {o : Operand} {c1 c2 : Code} {b : Bool} (hv : ev e o = .bool b) (h1 : b = true → TC P n c1 S Q e) (h2 : b = false → TC P n c2 S Q e) : TC P n (.cond o c1 c2) S Q e := by
  intro w hw a hA
  have : a.eval o = .bool b := by rw [hA.eval]; exact hv
  cases b with
  | true => exact wp_cond this (h1 rfl w hw a hA)
  | false => exact wp_cond this (h2 rfl w hw a hA)
theorem TC.condT {o : Operand} {c1 c2 : Code} (hv : ev e o = .bool true) (h1 : TC P n c1 S Q e) : TC P n (.cond o c1 c2) S Q e := TC.cond hv (fun _ => h1) (fun h => nomatch h)
theorem TC.condF {o : Operand} {c1 c2 : Code} (hv : ev e o = .bool false) (h2 : TC P n c2 S Q e) : TC P n (.cond o c1 c2) S Q e := TC.cond hv (fun h => nomatch h) (fun _ => h2)
theorem TC.region {id : Nat} {l : List Oper} (h : TL P n l.toArray l S Q e) : TC P n (.region id l.toArray false) S Q e := fun w hw a hA => wp_region_lit (h w hw a hA)
theorem TC.loop {ι : Type} (E : ι → Env) (Sι : ι → World → Prop) (μ : ι → Nat) (i0 : ι) {body : Code} (he : e = E i0) (h0 : ∀ w, S w → Sι i0 w)
    (hb : ∀ i, TC P n body (Sι i) (Lp E Sι μ i Q) (E i)) : TC P n (.loop body) S Q e := by
  intro w hw a hA b k cs
  have key : ∀ m i a w, μ i = m → Ag n a (E i) → Sι i w →
      ∃ x a' w', lift n Q x a' w' ∧ Arrives P (lone (b.at a (.code body :: .inLoop body :: k)) cs w) b k cs x a' w' := by
    intro m
    induction m using Nat.strongRecOn with
    | _ m ih =>
      intro i a w hm hA hS
      obtain ⟨x, a1, w1, ⟨e1, hA1, hq⟩, harr⟩ := hb i w hS a hA b (.inLoop body :: k) cs
      cases x with
      | normal =>
        obtain ⟨j, hlt, rfl, hS1⟩ := hq
        obtain ⟨x2, a2, w2, hq2, harr2⟩ := ih (μ j) (hm ▸ hlt) j a1 w1 rfl hA1 hS1
        exact ⟨x2, a2, w2, hq2, .of_steps (Steps.trans harr (.one step_inLoop)) harr2⟩
      | exit id => exact ⟨_, a1, w1, ⟨e1, hA1, hq⟩, .pass (x := .inLoop body) rfl (fun _ _ => .inl (by simp)) harr⟩
      | goto l => exact ⟨_, a1, w1, ⟨e1, hA1, hq⟩, .pass (x := .inLoop body) rfl (fun _ _ => .inl (by simp)) harr⟩
      | ret => exact ⟨_, a1, w1, ⟨e1, hA1, hq⟩, .pass (x := .inLoop body) rfl (fun _ _ => .inl (by simp)) harr⟩
      | panic ch => exact ⟨_, a1, w1, ⟨e1, hA1, hq⟩, .pass (x := .inLoop body) rfl (fun _ _ => .inl (by simp)) harr⟩
      | outgrown => exact ⟨_, a1, w1, ⟨e1, hA1, hq⟩, .pass (x := .inLoop body) rfl (fun _ _ => .inl (by simp)) harr⟩
  obtain ⟨x, a', w', hq, harr⟩ := key _ i0 a w rfl (he ▸ hA) (h0 w hw)
  exact ⟨x, a', w', hq, .of_steps (.one step_loop) harr⟩
theorem TL.nil {ops : Array Oper} (h : TQ S Q .normal e) : TL P n ops [] S Q e := fun w hw a hA => wpList_nil ⟨e, hA, h w hw⟩
theorem TQ.sq {cd : Code} (h : TC P n cd S Q e) : TQ S (Sq P n cd Q) .normal e := h
theorem TQ.sqR {cd : Code} (h : TQ S Q .ret e) : TQ S (Sq P n cd Q) .ret e := h
theorem TQ.sqX {cd : Code} {j : Nat} (h : TQ S Q (.exit j) e) : TQ S (Sq P n cd Q) (.exit j) e := h
theorem TQ.blk {id : Nat} (h : TQ S Q .normal e) : TQ S (Blk id Q) .normal e := h
theorem TQ.blkR {id : Nat} (h : TQ S Q .ret e) : TQ S (Blk id Q) .ret e := h
theorem TQ.blkX {id : Nat} (h : TQ S Q .normal e) : TQ S (Blk id Q) (.exit id) e := fun w hw => by
  have : Nat.beq id id = true := by simp
  simp only [Blk, this, cond_true]; exact h w hw
theorem TQ.blkY {id j : Nat} (hj : Nat.beq j id = false) (h : TQ S Q (.exit j) e) : TQ S (Blk id Q) (.exit j) e := fun w hw => by
  simp only [Blk, hj, cond_false]; exact h w hw
theorem TQ.lp {ι : Type} {E : ι → Env} {Sι : ι → World → Prop} {μ : ι → Nat} {i : ι} (j : ι) (hm : μ j < μ i) (he : e = E j) (h : ∀ w, S w → Sι j w) : TQ S (Lp E Sι μ i Q) .normal e := fun w hw => ⟨j, hm, he, h w hw⟩
theorem TQ.lpR {ι : Type} {E : ι → Env} {Sι : ι → World → Prop} {μ : ι → Nat} {i : ι} (h : TQ S Q .ret e) : TQ S (Lp E Sι μ i Q) .ret e := h
theorem TQ.lpX {ι : Type} {E : ι → Env} {Sι : ι → World → Prop} {μ : ι → Nat} {i : ι} {j : Nat} (h : TQ S Q (.exit j) e) : TQ S (Lp E Sι μ i Q) (.exit j) e := h
theorem TQ.post {rs : List ResultVar} {R : Value → World → Prop} {v : Value} (hv : resV rs e = v) (h : ∀ w, S w → R v w) : TQ S (Post rs R) .ret e := fun w hw => by subst hv; exact h w hw
theorem TQ.postN {rs : List ResultVar} {R : Value → World → Prop} {v : Value} (hv : resV rs e = v) (h : ∀ w, S w → R v w) : TQ S (Post rs R) .normal e := fun w hw => by subst hv; exact h w hw
end
end Go.E
