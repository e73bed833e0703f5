import Derived.Test.YtfiambcocnceiaaE12
import Derived.MapKept
set_option linter.unusedVariables false
set_option linter.unusedSimpArgs false
set_option linter.unusedSectionVars false
namespace Go.E
open Go
/-! ### maps of the call's own, as lists of pairs -/
section
variable {κ γ : Type} [DecidableEq κ]
def kf (a : κ) : List (κ × γ) → Nat → Option (Nat × γ)
  | [], _ => none
  | p :: r, i => if a = p.1 then some (i, p.2) else kf a r (i + 1)
def dget (d : List (κ × γ)) (a : κ) : Option γ := match d with
  | [] => none
  | p :: r => if a = p.1 then some p.2 else dget r a
def dput (d : List (κ × γ)) (a : κ) (v : γ) : List (κ × γ) := match d with
  | [] => [(a, v)]
  | p :: r => if a = p.1 then (a, v) :: r else p :: dput r a v
def ddel (d : List (κ × γ)) (a : κ) : List (κ × γ) := match d with
  | [] => []
  | p :: r => if a = p.1 then r else p :: ddel r a
theorem kf_get (a : κ) : ∀ (d : List (κ × γ)) (i : Nat), (kf a d i).map (·.2) = dget d a
  | [], _ => rfl
  | p :: r, i => by
    unfold kf dget
    split
    · rfl
    · exact kf_get a r (i + 1)
theorem dget_put_self (d : List (κ × γ)) (a : κ) (v : γ) : dget (dput d a v) a = some v := by
  induction d with
  | nil => simp [dput, dget]
  | cons p r ih =>
    unfold dput; split
    · simp [dget]
    · rename_i h; simp [dget, h, ih]
theorem dget_put_ne (d : List (κ × γ)) {a b : κ} (v : γ) (h : b ≠ a) : dget (dput d a v) b = dget d b := by
  induction d with
  | nil => simp [dput, dget, h]
  | cons p r ih =>
    unfold dput; split
    · rename_i e; simp only [dget]; rw [if_neg h, if_neg (by rw [← e]; exact h)]
    · simp only [dget, ih]
theorem dget_put (d : List (κ × γ)) (a b : κ) (v : γ) : dget (dput d a v) b = if b = a then some v else dget d b := by
  split
  · rename_i h; subst h; exact dget_put_self d b v
  · rename_i h; exact dget_put_ne d v h
theorem dput_keys (d : List (κ × γ)) (a : κ) (v : γ) : (dput d a v).map (·.1) = if (dget d a).isSome then d.map (·.1) else d.map (·.1) ++ [a] := by
  induction d with
  | nil => simp [dput, dget]
  | cons p r ih =>
    unfold dput dget; split
    · rename_i e; simp [e]
    · simp only [List.map_cons, ih]; split <;> simp
theorem dget_mem {d : List (κ × γ)} {a : κ} : (dget d a).isSome = true ↔ a ∈ d.map (·.1) := by
  induction d with
  | nil => simp [dget]
  | cons p r ih =>
    unfold dget; split
    · rename_i e; simp [e]
    · rename_i e; simp only [ih, List.map_cons, List.mem_cons]; constructor
      · exact .inr
      · rintro (h | h)
        · exact absurd h e
        · exact h
theorem dput_nodup {d : List (κ × γ)} (h : (d.map (·.1)).Nodup) (a : κ) (v : γ) : ((dput d a v).map (·.1)).Nodup := by
  rw [dput_keys]; split
  · exact h
  · rename_i hn
    rw [dget_mem] at hn
    rw [List.nodup_append]
    refine ⟨h, by simp, ?_⟩
    intro x hx y hy e
    simp at hy; subst hy; subst e; exact hn hx
/-- how keys are found -/
structure KE (P : Program) (t : TypeId) (kv : κ → Value) : Prop where
  chk : ∀ b a w, (Instr.checkKey b 10000 t (kv a)).run P w = .ok () w
  find : ∀ (γ : Type) (ve : γ → Value) (a : κ) (es : List MapEntry) (d : List (κ × γ)) w, es.map (fun e => (e.key, e.val)) = d.map (fun p => (kv p.1, ve p.2)) → (Instr.findKey t (kv a) es).run P w = .ok ((kf a d 0).map fun p => (p.1, ve p.2)) w
  bits : ∀ a, Instr.sameBits 10000 (kv a) (kv a) = true
theorem KE.now {P : Program} {t : TypeId} {kv : κ → Value} {td : TypeDesc} (hu : P.underlying t = some td) (hs : ∀ a b, Instr.sameNow td (kv a) (kv b) = some (decide (a = b))) (hc : ∀ b a w, (Instr.checkKey b 10000 t (kv a)).run P w = .ok () w) (hb : ∀ a, Instr.sameBits 10000 (kv a) (kv a) = true) : KE P t kv := by
  refine ⟨hc, fun γ ve a es d w h => ?_, hb⟩
  have key : ∀ (es : List MapEntry) (d : List (κ × γ)) (i : Nat), es.map (fun e => (e.key, e.val)) = d.map (fun p => (kv p.1, ve p.2)) → Instr.findNow td (kv a) es i = some ((kf a d i).map fun p => (p.1, ve p.2)) := by
    intro es
    induction es with
    | nil =>
      intro d i h
      cases d with
      | nil => rfl
      | cons p r => cases h
    | cons e r ih =>
      intro d i h
      cases d with
      | nil => cases h
      | cons p q =>
        simp only [List.map_cons, List.cons.injEq, Prod.mk.injEq] at h
        unfold Instr.findNow kf
        rw [h.1.1, hs a p.1]
        by_cases hp : a = p.1
        · simp [hp, h.1.2]
        · simp [hp]; simpa using ih q (i + 1) h.2
  unfold Instr.findKey
  simp [run_underlying hu, key es d 0 h]
theorem KE.int {P : Program} {t : TypeId} {q : IntKind} (hu : P.underlying t = some (.int q)) : KE P t (fun z : Int => .int q z) :=
  KE.now hu (fun a b => by simp [Instr.sameNow]; by_cases h : a = b <;> simp [h]) (fun b a w => by unfold Instr.checkKey; simp [run_underlying hu]) (fun a => by show (q == q && a == a) = true; simp)
theorem str_inj {a b : List UInt8} (h : str a = str b) : a = b := by
  unfold str at h
  injection h with h
  injection h with h
  injection h
theorem KE.str {P : Program} {t : TypeId} (hu : P.underlying t = some .string) : KE P t str :=
  KE.now hu (fun a b => by
    have : ((⟨⟨a⟩⟩ : ByteArray) == ⟨⟨b⟩⟩) = decide (a = b) := by
      by_cases h : a = b
      · subst h; rw [decide_eq_true rfl]; exact (MapKept.bytes_beq _ _).2 rfl
      · rw [decide_eq_false h, Bool.eq_false_iff]
        intro e; have e := (MapKept.bytes_beq _ _).1 e; injection e with e; injection e with e; exact h e
    simp [E.str, Instr.sameNow, this]) (fun b a w => by unfold Instr.checkKey; simp [run_underlying hu, E.str]) (fun a => by show ((⟨⟨a⟩⟩ : ByteArray) == ⟨⟨a⟩⟩) = true; exact (MapKept.bytes_beq _ _).2 rfl)
/-- the map's block -/
structure MD (kv : κ → Value) (ve : γ → Value) (o : Obj) (d : List (κ × γ)) : Prop where
  ex : ∃ es clock, o = .map es clock ∧ es.toList.map (fun e => (e.key, e.val)) = d.map (fun p => (kv p.1, ve p.2)) ∧ (es.toList.map (·.born)).Nodup ∧ ∀ e ∈ es.toList, e.born < clock
  nd : (d.map (·.1)).Nodup
theorem MD.nil {kv : κ → Value} {ve : γ → Value} : MD kv ve (.map #[] 0) [] := ⟨⟨#[], 0, rfl, rfl, by simp, by simp⟩, by simp⟩
def RdO (S : World → Prop) (b : Nat) (o : Obj) : Prop := ∀ w, S w → w.heap[b]? = some o
class RdM (S : World → Prop) (b : Nat) (o : outParam Obj) : Prop where
  rd : RdO S b o
instance (priority := 2000) RdM.here {c : Cx} {I : Im} {b : Nat} {o : Obj} {l : Ow} : RdM (St c I ((b, o) :: l)) b o := ⟨fun w hw => hw.hd⟩
instance RdM.cons {c : Cx} {I : Im} {b : Nat} {o : Obj} {x : Nat × Obj} {l : Ow} [h : RdM (St c I l) b o] : RdM (St c I (x :: l)) b o := ⟨fun w hw => h.rd w hw.tl⟩
instance RdM.app {c : Cx} {I : Im} {b : Nat} {o : Obj} {m l : Ow} [h : RdM (St c I l) b o] : RdM (St c I (m ++ l)) b o := ⟨fun w hw => h.rd w hw.dropL⟩
theorem modify_pairs {kv : κ → Value} {ve : γ → Value} {a : κ} {v : γ} : ∀ (es : List MapEntry) (d : List (κ × γ)) (i j : Nat) (u : γ), es.map (fun e => (e.key, e.val)) = d.map (fun p => (kv p.1, ve p.2)) → kf a d i = some (j, u) → ∃ n, j = i + n ∧ (∃ e, es[n]? = some e ∧ e.key = kv a) ∧ (es.modify n fun e => { e with key := kv a, val := ve v }).map (fun e => (e.key, e.val)) = (dput d a v).map (fun p => (kv p.1, ve p.2)) := by
  intro es
  induction es with
  | nil =>
    intro d i j u h hk
    cases d with
    | nil => cases hk
    | cons p r => cases h
  | cons e r ih =>
    intro d i j u h hk
    cases d with
    | nil => cases h
    | cons p q =>
      simp only [List.map_cons, List.cons.injEq, Prod.mk.injEq] at h
      unfold kf at hk
      split at hk
      · rename_i hp
        cases hk
        refine ⟨0, rfl, ⟨e, rfl, by rw [h.1.1, hp]⟩, ?_⟩
        simp [dput, hp, List.modify, h.2]
      · rename_i hp
        obtain ⟨n, h1, ⟨e', h2, h4⟩, h3⟩ := ih q (i + 1) j u h.2 hk
        refine ⟨n + 1, by omega, ⟨e', by simpa using h2, h4⟩, ?_⟩
        simp [dput, hp, h.1, h3]
theorem kf_none {a : κ} {d : List (κ × γ)} {i : Nat} (h : kf a d i = none) : dget d a = none := by rw [← kf_get a d i, h]; rfl
theorem dput_none {d : List (κ × γ)} {a : κ} {v : γ} (h : dget d a = none) : dput d a v = d ++ [(a, v)] := by
  induction d with
  | nil => rfl
  | cons p r ih =>
    unfold dget at h
    split at h
    · cases h
    · rename_i hp; unfold dput; rw [if_neg hp, ih h]; rfl
/-- the new block -/
theorem MD.put {kv : κ → Value} {ve : γ → Value} {P : Program} {t k e : TypeId} {o : Obj} {d : List (κ × γ)} (h : MD kv ve o d) (K : KE P k kv) (ht : P.underlying t = some (.map k e)) (a : κ) (v : γ) {b : Nat} {w : World} (hb : w.heap[b]? = some o) :
    ∃ o', MD kv ve o' (dput d a v) ∧ (Instr.mapUpdate t (.map (some b)) (kv a) (ve v)).run P w = .ok () { w with heap := w.heap.setIfInBounds b o' } := by
  obtain ⟨⟨es, clock, rfl, h1, h2, h3⟩, h4⟩ := h
  have hf := K.find γ ve a es.toList d w h1
  have hlt := (Array.getElem?_eq_some_iff.1 hb).1
  have hset : ∀ o', (setObj b o').run P w = .ok () { w with heap := w.heap.setIfInBounds b o' } := fun o' => MapKept.run_setObj_map o' hb
  cases hk : kf a d 0 with
  | none =>
    rw [hk] at hf
    refine ⟨.map (es.push { key := kv a, val := ve v, born := clock }) (clock + 1), ⟨⟨_, _, rfl, ?_, ?_, ?_⟩, dput_nodup h4 a v⟩, ?_⟩
    · rw [dput_none (kf_none hk)]; simp [h1]
    · rw [Array.toList_push, List.map_append, List.nodup_append]
      refine ⟨h2, by simp, ?_⟩
      intro x hx y hy e
      simp at hy; subst hy; subst e
      obtain ⟨e, he, hb⟩ := List.mem_map.1 hx
      have := h3 e he; omega
    · intro e he
      rw [Array.toList_push, List.mem_append] at he
      rcases he with he | he
      · have := h3 e he; omega
      · simp at he; subst he; simp
    · simp only [Instr.mapUpdate, Sem.run_bind, run_underlying ht, Result.andThen_ok, MapKept.run_getObj_map hb, K.chk, hf, Option.map_none, hset]
  | some p =>
    obtain ⟨j, u⟩ := p
    rw [hk] at hf
    obtain ⟨n, hn, ⟨e0, he0, hek⟩, hm⟩ := modify_pairs (v := v) es.toList d 0 j u h1 hk
    have hn' : j = n := by omega
    subst hn'
    have hborn : (es.toList.modify j fun e => { e with key := kv a, val := ve v }).map (·.born) = es.toList.map (·.born) := by
      apply List.ext_getElem?
      intro i
      simp only [List.getElem?_map, List.getElem?_modify]
      split
      · cases es.toList[i]? <;> rfl
      · simp
    refine ⟨.map (es.modify j fun e => { e with key := kv a, val := ve v }) clock, ⟨⟨_, _, rfl, ?_, ?_, ?_⟩, dput_nodup h4 a v⟩, ?_⟩
    · rw [Array.toList_modify]; exact hm
    · rw [Array.toList_modify, hborn]; exact h2
    · intro e he
      rw [Array.toList_modify] at he
      have : e.born ∈ (es.toList.modify j fun e => { e with key := kv a, val := ve v }).map (·.born) := List.mem_map_of_mem he
      rw [hborn] at this
      obtain ⟨e', he', hb'⟩ := List.mem_map.1 this
      have := h3 e' he'; omega
    · have hkey : ((es[j]?).map (·.key)).getD (kv a) = kv a := by
        have : es[j]? = some e0 := by simpa using he0
        rw [this]; exact hek
      simp only [Instr.mapUpdate, Sem.run_bind, run_underlying ht, Result.andThen_ok, MapKept.run_getObj_map hb, K.chk, hf, Option.map_some, hkey, Instr.keyThatStays, K.bits, if_true, Sem.run_pure, hset]
theorem MD.look {kv : κ → Value} {ve : γ → Value} {P : Program} {t k e : TypeId} {o : Obj} {d : List (κ × γ)} (h : MD kv ve o d) (K : KE P k kv) (ht : P.underlying t = some (.map k e)) (a : κ) {b : Nat} {w : World} (hb : w.heap[b]? = some o) {z : Value} (hz : (zeroValue e).run P w = .ok z w) (ok : Bool) :
    (Instr.lookup t (.map (some b)) (kv a) ok).run P w = .ok (bif ok then .tuple #[((dget d a).map ve).getD z, .bool (dget d a).isSome] else ((dget d a).map ve).getD z) w := by
  obtain ⟨⟨es, clock, rfl, h1, h2, h3⟩, h4⟩ := h
  have hf := K.find γ ve a es.toList d w h1
  have hg := kf_get a d 0
  cases hk : kf a d 0 with
  | none =>
    rw [hk] at hf hg
    rw [← hg]
    simp only [Instr.lookup, Sem.run_bind, run_underlying ht, Result.andThen_ok, MapKept.run_getObj_map hb, K.chk, hf, Option.map_none, Sem.run_pure, hz]
    cases ok <;> rfl
  | some p =>
    rw [hk] at hf hg
    rw [← hg]
    simp only [Instr.lookup, Sem.run_bind, run_underlying ht, Result.andThen_ok, MapKept.run_getObj_map hb, K.chk, hf, Option.map_some, Sem.run_pure]
    cases ok <;> rfl
end
section
variable {κ γ : Type} [DecidableEq κ] {kv : κ → Value} {ve : γ → Value}
variable {P : Program} {n : Nat} {ops : Array Oper} {rest : List Oper} {Q : Po} {S S0 : World → Prop} {e : Env} {c : Cx} {I : Im} {l : Ow} {t0 : Nat}
  {d : Option Tmp} {ty : TypeId} {ps : String} {af : Array Edge} {g : Option (Nat × Bool)}
theorem sMakeMap {t : TypeId} (hd : inB n d = true) (h : ∀ b, TL P n ops rest (St c I ((b, .map #[] 0) :: l)) Q (updO e d (.map (some b)))) :
    TL P n ops (⟨d, .makeMap t none, ty, ps, af, none⟩ :: rest) (St c I l) Q e :=
  TL.step rfl hd fun w hw => ⟨_, _, by simp [execOp, Instr.makeMap, newObj, Sem.run], h _ _ (hw.alloc _)⟩
theorem sMapUpd {t k el : TypeId} {m x y : Operand} {b : Nat} {o : Obj} {dd : List (κ × γ)} (a : κ) (v : γ) (ht : P.underlying t = some (.map k el)) (K : KE P k kv) (hm : ev e m = .map (some b)) (hx : ev e x = kv a) (hy : ev e y = ve v) (hD : MD kv ve o dd) (hdn : d = none)
    (h : ∀ o', MD kv ve o' (dput dd a v) → TL P n ops rest (St c I ((b, o') :: l)) Q e) :
    TL P n ops (⟨d, .mapUpdate t m x y, ty, ps, af, none⟩ :: rest) (St c I ((b, o) :: l)) Q e := by
  refine TL.stepS rfl hdn fun w hw => ?_
  obtain ⟨o', h1, h2⟩ := hD.put K ht a v hw.hd
  refine ⟨_, ?_, h o' h1 _ hw.put⟩
  simp [execOp, hm, hx, hy, h2]
theorem yLook {t k el kk bb : TypeId} {agg : Bool} {z r : Value} {m x : Operand} {b : Nat} {o : Obj} {dd : List (κ × γ)} (a : κ) (ht : P.underlying t = some (.map k el)) (hel : TI P el kk agg z bb) (K : KE P k kv) (hm : ev e m = .map (some b)) (hx : ev e x = kv a) (hD : MD kv ve o dd) (hr : RdO S b o) (hv : ((dget dd a).map ve).getD z = r) :
    Yv P S e ⟨d, .lookup t m x false, ty, ps, af, g⟩ r := fun w hw => by
  subst hv
  have := hD.look K ht a (hr w hw) (z := z) (by rw [hel.zero]) false
  simp only [cond_false] at this
  simp [execOp, hm, hx, this]
theorem yLookOk {t k el kk bb : TypeId} {agg : Bool} {z r : Value} {ok : Bool} {m x : Operand} {b : Nat} {o : Obj} {dd : List (κ × γ)} (a : κ) (ht : P.underlying t = some (.map k el)) (hel : TI P el kk agg z bb) (K : KE P k kv) (hm : ev e m = .map (some b)) (hx : ev e x = kv a) (hD : MD kv ve o dd) (hr : RdO S b o) (hv : ((dget dd a).map ve).getD z = r) (hok : (dget dd a).isSome = ok) :
    Yv P S e ⟨d, .lookup t m x true, ty, ps, af, g⟩ (.tuple ⟨[r, .bool ok]⟩) := fun w hw => by
  subst hv hok
  have := hD.look K ht a (hr w hw) (z := z) (by rw [hel.zero]) true
  simp only [cond_true] at this
  simp [execOp, hm, hx, this]
theorem yMapLen {ts : List TypeId} {t k el : TypeId} {x : Operand} {b : Nat} {o : Obj} {dd : List (κ × γ)} (ht : P.underlying t = some (.map k el)) (hx : ev e x = .map (some b)) (hD : MD kv ve o dd) (hr : RdO S b o) :
    Yv P S e ⟨d, .call ⟨.builtin .len, [x].toArray, (t :: ts).toArray⟩, ty, ps, af, g⟩ (.int .i64 dd.length) := fun w hw => by
  obtain ⟨⟨es, clock, rfl, h1, h2, h3⟩, h4⟩ := hD
  have hl : es.size = dd.length := by have := congrArg List.length h1; simpa using this
  have hb := hr w hw
  simp [execOp, resolve, invoke, builtin, Builtin.len_, hx, run_underlying ht, goInt, MapKept.run_getObj_map hb, hl]
end
end Go.E
