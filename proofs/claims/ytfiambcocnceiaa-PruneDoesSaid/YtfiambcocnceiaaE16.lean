import Derived.Test.YtfiambcocnceiaaE15
set_option linter.unusedVariables false
set_option linter.unusedSimpArgs false
namespace Go.E
open Go
/-! ### chunks, wherever they lie -/
class Fx (l : Ow) (b : Nat) (o : outParam Obj) (l' : outParam Ow) : Prop where
  p : l.Perm ((b, o) :: l')
instance (priority := 2000) Fx.here {b : Nat} {o : Obj} {l : Ow} : Fx ((b, o) :: l) b o l := ⟨.refl _⟩
instance Fx.cons {b : Nat} {o : Obj} {x : Nat × Obj} {l l' : Ow} [h : Fx l b o l'] : Fx (x :: l) b o (x :: l') := ⟨(h.p.cons x).trans (.swap _ _ _)⟩
instance Fx.app {b : Nat} {o : Obj} {m l l' : Ow} [h : Fx l b o l'] : Fx (m ++ l) b o (m ++ l') := ⟨(h.p.append_left m).trans List.perm_middle⟩
class Fm (l : Ow) (m : Ow) (l' : outParam Ow) : Prop where
  p : l.Perm (m ++ l')
instance (priority := 2000) Fm.here {m l : Ow} : Fm (m ++ l) m l := ⟨.refl _⟩
instance (priority := 2000) Fm.nil {l : Ow} : Fm l [] l := ⟨.refl _⟩
instance (priority := 1900) Fm.one {b : Nat} {o : Obj} {l l' : Ow} [h : Fx l b o l'] : Fm l [(b, o)] l' := ⟨h.p⟩
instance Fm.cons {m : Ow} {x : Nat × Obj} {l l' : Ow} [h : Fm l m l'] : Fm (x :: l) m (x :: l') := ⟨(h.p.cons x).trans List.perm_middle.symm⟩
instance Fm.app {m m2 l l' : Ow} [h : Fm l m l'] : Fm (m2 ++ l) m (m2 ++ l') := ⟨(h.p.append_left m2).trans (by
  rw [← List.append_assoc, ← List.append_assoc]
  exact List.perm_append_comm.append_right l')⟩
theorem Fx.w {l : Ow} {b : Nat} {o : Obj} {l' : Ow} (h : Fx l b o l') {c : Cx} {I : Im} (w : World) (hw : St c I l w) : St c I ((b, o) :: l') w := hw.perm h.p
theorem Fm.w {l m l' : Ow} (h : Fm l m l') {c : Cx} {I : Im} (w : World) (hw : St c I l w) : St c I (m ++ l') w := hw.perm h.p
/- drop chunks: the state that is left -/
class Dr (l l' : Ow) : Prop where
  s : ∃ l2, l.Perm l2 ∧ l'.Sublist l2
instance (priority := 2000) Dr.refl {l : Ow} : Dr l l := ⟨l, .refl _, List.Sublist.refl _⟩
instance Dr.cons {x : Nat × Obj} {l l' : Ow} [h : Dr l l'] : Dr (x :: l) l' := ⟨let ⟨l2, h1, h2⟩ := h.s; ⟨x :: l2, h1.cons x, h2.cons x⟩⟩
instance Dr.app {m l l' : Ow} [h : Dr l l'] : Dr (m ++ l) l' := ⟨let ⟨l2, h1, h2⟩ := h.s; ⟨m ++ l2, h1.append_left m, h2.trans (List.sublist_append_right _ _)⟩⟩
instance (priority := 500) Dr.fx {b : Nat} {o : Obj} {l l1 l' : Ow} [h : Fx l b o l1] [h2 : Dr l1 l'] : Dr l ((b, o) :: l') := ⟨let ⟨l2, h3, h4⟩ := h2.s; ⟨(b, o) :: l2, h.p.trans (h3.cons _), h4.cons_cons _⟩⟩
instance (priority := 500) Dr.fm {m l l1 l' : Ow} [h : Fm l m l1] [h2 : Dr l1 l'] : Dr l (m ++ l') := ⟨let ⟨l2, h3, h4⟩ := h2.s; ⟨m ++ l2, h.p.trans (h3.append_left m), (List.Sublist.refl m).append h4⟩⟩
instance (priority := 100) Wk.dr {c : Cx} {I : Im} {l l' : Ow} [h : Dr l l'] : Wk (St c I l) (St c I l') := ⟨fun w hw => let ⟨_, h1, h2⟩ := h.s; (hw.perm h1).sub h2⟩
theorem St.dr {c : Cx} {I : Im} {l l' : Ow} {w : World} (hw : St c I l w) [h : Dr l l'] : St c I l' w := let ⟨_, h1, h2⟩ := h.s; (hw.perm h1).sub h2
section
variable {P : Program} {n : Nat} {ops : Array Oper} {rest : List Oper} {Q : Po} {S S0 : World → Prop} {e : Env} {c : Cx} {I : Im} {l l0 l1 : Ow} {t0 : Nat}
  {d : Option Tmp} {ty : TypeId} {ps : String} {af : Array Edge} {g : Option (Nat × Bool)}
theorem sStoreF {t k bb : Nat} {agg : Bool} {z : Value} {x y : Operand} {b o : Nat} {cs vs cs' : List Value} {ty' : TypeId} {fr : Nat × Nat} {v : Value} (ht : TI P t k agg z bb) (hx : ev e x = .pointer (some ⟨b, o, none⟩)) [hf : Fx l0 b (.cells ⟨cs⟩ ty' fr) l] (hy : ev e y = v) (hv : v.cells = ⟨vs⟩) (hl : vs.length = k)
    (h1 : vs.all (·.oneCell') = true) (hfr : fr.2 = 0 ∨ cs.length ≤ fr.1) (ho : o + k ≤ cs.length) (hcs : cs.take o ++ vs ++ cs.drop (o + k) = cs') (hdn : d = none) (h : TL P n ops rest (St c I ((b, .cells ⟨cs'⟩ ty' fr) :: l)) Q e) :
    TL P n ops (⟨d, .store t x y, ty, ps, af, none⟩ :: rest) (St c I l0) Q e := TL.pre hf.w (sStore ht hx hy hv hl h1 hfr ho hcs hdn h)
theorem sMapUpdF {κ γ : Type} [DecidableEq κ] {kv : κ → Value} {ve : γ → Value} {t k el : TypeId} {m x y : Operand} {b : Nat} {o : Obj} {dd : List (κ × γ)} (a : κ) (v : γ) (ht : P.underlying t = some (.map k el)) (K : KE P k kv) (hm : ev e m = .map (some b)) [hf : Fx l0 b o l] (hx : ev e x = kv a) (hy : ev e y = ve v) (hD : MD kv ve o dd) (hdn : d = none)
    (h : ∀ o', MD kv ve o' (dput dd a v) → TL P n ops rest (St c I ((b, o') :: l)) Q e) :
    TL P n ops (⟨d, .mapUpdate t m x y, ty, ps, af, none⟩ :: rest) (St c I l0) Q e := TL.pre hf.w (sMapUpd a v ht K hm hx hy hD hdn h)
theorem sAppBF {t u el : TypeId} {x y : Operand} {m : Ow} {a : Option Addr} {cap : Nat} {bs nb : List UInt8} {v : Value} (ht : P.underlying t = some (.slice el)) (hel : TI P el 1 false (.int .u8 0) 1) (hx : ev e x = .slice a bs.length cap) (hy : ev e y = v)
    (hos : OB el m a cap bs) [hf : Fm l0 m l] (hsrc : Src P (St c I (m ++ l)) u v 1 nb.length (nb.map encB)) (hb : bs.length + nb.length ≤ 140737488355328) (hd : inB n d = true)
    (h : ∀ m' a' cap', OB el m' a' cap' (bs ++ nb) → TL P n ops rest (St c I (m' ++ l)) Q (updO e d (.slice a' (bs ++ nb).length cap'))) :
    TL P n ops (⟨d, .call ⟨.builtin .append, [x, y].toArray, [t, u].toArray⟩, ty, ps, af, none⟩ :: rest) (St c I l0) Q e := TL.pre hf.w (sAppB ht hel hx hy hos hsrc hb hd h)
theorem sAppAF {α : Type} {enc : α → List Value} {t u el : TypeId} {k bb : Nat} {agg : Bool} {z : Value} {x y : Operand} {m : Ow} {a b : Option Addr} {cap cap2 : Nat} {xs ys : List α} (ht : P.underlying t = some (.slice el)) (hu : P.underlying u = some (.slice el)) (hel : TI P el k agg z bb) (hx : ev e x = .slice a xs.length cap) (hy : ev e y = .slice b ys.length cap2)
    (hos : OA el enc k m a cap xs) [hf : Fm l0 m l] (hsrc : SA (St c I (m ++ l)) enc k b ys) (h1 : ∀ x, (enc x).all (·.oneCell') = true) (hb : (xs.length + ys.length) * bb ≤ 140737488355328) (h63 : xs.length + ys.length ≤ 9223372036854775807) (hd : inB n d = true)
    (h : ∀ m' a' cap', OA el enc k m' a' cap' (xs ++ ys) → TL P n ops rest (St c I (m' ++ l)) Q (updO e d (.slice a' (xs ++ ys).length cap'))) :
    TL P n ops (⟨d, .call ⟨.builtin .append, [x, y].toArray, [t, u].toArray⟩, ty, ps, af, none⟩ :: rest) (St c I l0) Q e := TL.pre hf.w (sAppA ht hu hel hx hy hos hsrc h1 hb h63 hd h)
theorem sAppB1F (u : UInt8) {t u' el : TypeId} {x y : Operand} {m : Ow} {a : Option Addr} {b cap : Nat} {cs : List Value} {ty' : TypeId} {fr : Nat × Nat} {bs : List UInt8} (ht : P.underlying t = some (.slice el)) (hu : P.underlying u' = some (.slice el)) (hel : TI P el 1 false (.int .u8 0) 1) (hx : ev e x = .slice a bs.length cap) (hy : ev e y = .slice (some ⟨b, 0, none⟩) 1 1)
    (hos : OB el m a cap bs) [hf : Fx l0 b (.cells ⟨cs⟩ ty' fr) l1] [hg : Fm l1 m l] (hc : cs = [encB u]) (hb : bs.length + 1 ≤ 140737488355328) (hd : inB n d = true)
    (h : ∀ m' a' cap', OB el m' a' cap' (bs ++ [u]) → TL P n ops rest (St c I (m' ++ l)) Q (updO e d (.slice a' (bs ++ [u]).length cap'))) :
    TL P n ops (⟨d, .call ⟨.builtin .append, [x, y].toArray, [t, u'].toArray⟩, ty, ps, af, none⟩ :: rest) (St c I l0) Q e := TL.pre (fun w hw => (hf.w w hw).perm (hg.p.cons _)) (sAppB1 u ht hu hel hx hy hos hc hb hd h)
theorem sAppA1F {α : Type} {enc : α → List Value} (u : α) {t u' el : TypeId} {k bb : Nat} {agg : Bool} {z : Value} {x y : Operand} {m : Ow} {a : Option Addr} {b cap : Nat} {cs : List Value} {ty' : TypeId} {fr : Nat × Nat} {xs : List α} (ht : P.underlying t = some (.slice el)) (hu : P.underlying u' = some (.slice el)) (hel : TI P el k agg z bb) (hx : ev e x = .slice a xs.length cap) (hy : ev e y = .slice (some ⟨b, 0, none⟩) 1 1)
    (hos : OA el enc k m a cap xs) [hf : Fx l0 b (.cells ⟨cs⟩ ty' fr) l1] [hg : Fm l1 m l] (hc : cs = enc u) (hk : cs.length = k) (h1 : ∀ x, (enc x).all (·.oneCell') = true) (hb : (xs.length + 1) * bb ≤ 140737488355328) (h63 : xs.length + 1 ≤ 9223372036854775807) (hd : inB n d = true)
    (h : ∀ m' a' cap', OA el enc k m' a' cap' (xs ++ [u]) → TL P n ops rest (St c I (m' ++ l)) Q (updO e d (.slice a' (xs ++ [u]).length cap'))) :
    TL P n ops (⟨d, .call ⟨.builtin .append, [x, y].toArray, [t, u'].toArray⟩, ty, ps, af, none⟩ :: rest) (St c I l0) Q e := TL.pre (fun w hw => (hf.w w hw).perm (hg.p.cons _)) (sAppA1 u ht hu hel hx hy hos hc hk h1 hb h63 hd h)
/-- the call, the state being brought into the shape that is asked -/
theorem sCallF {l' : Ow} {f : FuncId} {xs : List Operand} {ts : Array TypeId} {args : List Value} {R : Value → World → Prop} (hf : Ct P f args (St c I l') R) [hg : Dr l l'] (hx : evs e xs = args) (hd : inB n d = true) (h : ∀ v, TL P n ops rest (R v) Q (updO e d v)) :
    TL P n ops (⟨d, .call ⟨.value (.func f), xs.toArray, ts⟩, ty, ps, af, none⟩ :: rest) (St c I l) Q e := TL.pre (fun w hw => hw.dr) (sCall hf hx hd h)
theorem sCallVF {l' : Ow} {f : FuncId} {fo : Operand} {fs cp : List Value} {xs : List Operand} {ts : Array TypeId} {args : List Value} {R : Value → World → Prop} (hfo : ev e fo = .func (.func f) ⟨fs⟩ ⟨cp⟩) (hf : Ct P f args (St c I l') R) [hg : Dr l l'] (hx : fs ++ evs e xs ++ cp = args) (hd : inB n d = true) (h : ∀ v, TL P n ops rest (R v) Q (updO e d v)) :
    TL P n ops (⟨d, .call ⟨.value fo, xs.toArray, ts⟩, ty, ps, af, none⟩ :: rest) (St c I l) Q e := TL.pre (fun w hw => hw.dr) (sCallV hfo hf hx hd h)
end
end Go.E
namespace Go.E
open Go
theorem OA.fm {α : Type} {enc : α → List Value} {k cap : Nat} {el : TypeId} {m l l' : Ow} {a : Option Addr} {xs : List α} {c : Cx} {I : Im} (h : OA el enc k m a cap xs) [hf : Fm l m l'] : SA (St c I l) enc k a xs := SA.mono (OA.sa (c := c) (I := I) (l := l') h) hf.w
abbrev catL : List Ow → Ow → Ow
  | [], l => l
  | m :: ms, l => m ++ catL ms l
class Fs (l : Ow) (ms : List Ow) (l' : outParam Ow) : Prop where
  p : l.Perm (catL ms l')
instance Fs.nil {l : Ow} : Fs l [] l := ⟨.refl _⟩
instance Fs.cons {l m l1 l2 : Ow} {ms : List Ow} [h : Fm l m l1] [h2 : Fs l1 ms l2] : Fs l (m :: ms) l2 := ⟨h.p.trans (h2.p.append_left m)⟩
section
variable {P : Program} {n : Nat} {ops : Array Oper} {rest : List Oper} {Q : Po} {S S0 : World → Prop} {e : Env} {c : Cx} {I : Im} {l l0 l1 : Ow} {t0 : Nat}
  {d : Option Tmp} {ty : TypeId} {ps : String} {af : Array Edge} {g : Option (Nat × Bool)}
theorem sCallG {l' : Ow} (ms : List Ow) {f : FuncId} {xs : List Operand} {ts : Array TypeId} {args : List Value} {R : Value → World → Prop} (hf : Ct P f args (St c I (catL ms l')) R) [hg : Fs l ms l'] (hx : evs e xs = args) (hd : inB n d = true) (h : ∀ v, TL P n ops rest (R v) Q (updO e d v)) :
    TL P n ops (⟨d, .call ⟨.value (.func f), xs.toArray, ts⟩, ty, ps, af, none⟩ :: rest) (St c I l) Q e := TL.pre (fun w hw => hw.perm hg.p) (sCall hf hx hd h)
theorem sCallVG {l' : Ow} (ms : List Ow) {f : FuncId} {fo : Operand} {fs cp : List Value} {xs : List Operand} {ts : Array TypeId} {args : List Value} {R : Value → World → Prop} (hfo : ev e fo = .func (.func f) ⟨fs⟩ ⟨cp⟩) (hf : Ct P f args (St c I (catL ms l')) R) [hg : Fs l ms l'] (hx : fs ++ evs e xs ++ cp = args) (hd : inB n d = true) (h : ∀ v, TL P n ops rest (R v) Q (updO e d v)) :
    TL P n ops (⟨d, .call ⟨.value fo, xs.toArray, ts⟩, ty, ps, af, none⟩ :: rest) (St c I l) Q e := TL.pre (fun w hw => hw.perm hg.p) (sCallV hfo hf hx hd h)
theorem TL.ung {op : Op} (hb : bnd n ops = true) (hW : Wt ops e ⟨d, op, ty, ps, af, g⟩ true) (h : TL P n ops (⟨d, op, ty, ps, af, none⟩ :: rest) S Q e) : TL P n ops (⟨d, op, ty, ps, af, g⟩ :: rest) S Q e := by
  intro w hw a hA
  have hwt := Wt.spec hW hA (fun _ _ => trivial) (bnd_spec hb)
  have h1 := h w hw a hA
  unfold wpList at h1 ⊢
  rw [if_pos (by simp [Region.wanted])] at h1
  rw [if_pos hwt]
  exact h1
end
end Go.E
