import Derived.Test.YtfiambcocnceiaaE7
set_option linter.unusedVariables false
set_option linter.unusedSimpArgs false
namespace Go.E
open Go

def encB (b : UInt8) : Value := .int .u8 b.toNat
/-- a slice of the call's own: its chunks (one or none), its header, its cells -/
def OS (el : TypeId) (k : Nat) (m : Ow) (a : Option Addr) (n cap : Nat) (cells : List Value) : Prop :=
  cells.length = n * k ∧ n ≤ cap ∧ cap ≤ maxLen ∧ ((m = [] ∧ a = none ∧ cap = 0) ∨ ∃ b cs fr, m = [(b, .cells ⟨cs⟩ el fr)] ∧ a = some ⟨b, 0, none⟩ ∧ cs.length = cap * k ∧ cs.take (n * k) = cells ∧ (fr.2 = 0 ∨ cap * k ≤ fr.1))
theorem OS.nil {el k : Nat} : OS el k [] none 0 0 [] := ⟨by simp, Nat.le_refl _, by simp [maxLen], .inl ⟨rfl, rfl, rfl⟩⟩
theorem OS.made {el k b n : Nat} {cs : List Value} (h : cs.length = n * k) (hn : n ≤ maxLen) : OS el k [(b, .cells ⟨cs⟩ el (0, 0))] (some ⟨b, 0, none⟩) n n cs :=
  ⟨h, Nat.le_refl _, hn, .inr ⟨b, cs, (0, 0), rfl, rfl, h, by rw [← h, List.take_length], .inl rfl⟩⟩
theorem OS.slr {el k : Nat} {m : Ow} {a : Option Addr} {n cap : Nat} {cells : List Value} (h : OS el k m a n cap cells) {c : Cx} {I : Im} {l : Ow} (hm : m ⊆ l) : SlR (St c I l) a n k cells := by
  refine ⟨h.1, fun hn => ?_⟩
  rcases h.2.2.2 with ⟨_, _, h0⟩ | ⟨b, cs, fr, rfl, rfl, h1, h2, _⟩
  · have := h.2.1; omega
  · exact ⟨b, 0, cs, rfl, rdO (ty := el) (fr := fr) (hm (by simp)), by simpa using h2⟩
theorem OS.sl {el k : Nat} {m : Ow} {a : Option Addr} {n cap : Nat} {cells : List Value} (h : OS el k m a n cap cells) {c : Cx} {I : Im} {l : Ow} : SlR (St c I (m ++ l)) a n k cells := h.slr (List.subset_append_left _ _)
/-- it becomes immutable -/
theorem OS.freeze {el k : Nat} {m : Ow} {a : Option Addr} {n cap : Nat} {cells : List Value} (h : OS el k m a n cap cells) {c : Cx} {I : Im} {l : Ow} {w : World} (hw : St c I (m ++ l) w) : ∃ J, Le I J ∧ RS J a n k cells ∧ St c J l w := by
  rcases h.2.2.2 with ⟨rfl, rfl, h0⟩ | ⟨b, cs, fr, rfl, rfl, h1, h2, _⟩
  · have hn : n = 0 := by have := h.2.1; omega
    subst hn
    exact ⟨I, Le.refl I, ⟨h.1, fun hn => absurd hn (by omega)⟩, hw⟩
  · obtain ⟨h3, h4, h5⟩ := hw.freeze
    exact ⟨_, h4, ⟨h.1, fun _ => ⟨b, 0, cs, el, fr, rfl, h5, by simpa using h2⟩⟩, h3⟩
/-- what is appended: cnt elements of k cells -/
def Src (P : Program) (S : World → Prop) (u : TypeId) (v : Value) (k cnt : Nat) (news : List Value) : Prop :=
  (∃ a cap el, P.underlying u = some (.slice el) ∧ v = .slice a cnt cap ∧ SlR S a cnt k news) ∨ (P.underlying u = some .string ∧ k = 1 ∧ ∃ bs, v = str bs ∧ cnt = bs.length ∧ news = bs.map encB)
theorem Src.of_sl {P : Program} {S : World → Prop} {u el : TypeId} {a : Option Addr} {k cnt cap : Nat} {news : List Value} (hu : P.underlying u = some (.slice el)) (h : SlR S a cnt k news) : Src P S u (.slice a cnt cap) k cnt news := .inl ⟨a, cap, el, hu, rfl, h⟩
theorem Src.of_str {P : Program} {S : World → Prop} {u : TypeId} {bs : List UInt8} (hu : P.underlying u = some .string) : Src P S u (str bs) 1 bs.length (bs.map encB) := .inr ⟨hu, rfl, bs, rfl, rfl, rfl⟩
theorem encB_one (bs : List UInt8) : (bs.map encB).all (·.oneCell') = true := by simp [encB, Value.oneCell']

section
variable {P : Program} {S : World → Prop}
theorem run_first {a : Option Addr} {cnt cap k : Nat} {news : List Value} (h : SlR S a cnt k news) {w w' : World} (hw : S w) (hh : w'.heap = w.heap) : (Builtin.firstCells k cnt (.slice a cnt cap)).run P w' = .ok ⟨news⟩ w' := by
  by_cases hn : 0 < cnt
  · obtain ⟨b, o, cs, rfl, hr, hc⟩ := h.2 hn
    obtain ⟨ty, fr, hb⟩ := hr w hw
    have := run_loadCells_at (P := P) (w := w') (b := b) (o := o) (cs := cs) (vs := news) (ty := ty) (fr := fr) (by rw [hh]; exact hb) (by rw [h.1]; exact hc)
    simp only [Builtin.firstCells]
    rw [← h.1]; exact this
  · have : cnt = 0 := by omega
    subst this
    have hnil : news = [] := List.eq_nil_of_length_eq_zero (by simpa using h.1)
    subst hnil
    cases a <;> simp [Builtin.firstCells, loadCells, loadCellsFrom]
theorem Src.run {u : TypeId} {v : Value} {k cnt : Nat} {news : List Value} (h : Src P S u v k cnt news) {w w' : World} (hw : S w) (hh : w'.heap = w.heap) :
    (Builtin.lenOf v).run P w' = .ok cnt w' ∧ (Builtin.firstCells k cnt v).run P w' = .ok ⟨news⟩ w' ∧ ((∃ el', P.underlying u = some (.slice el')) ∨ P.underlying u = some .string) ∧ news.length = cnt * k := by
  rcases h with ⟨a, cap, el, hu, rfl, hs⟩ | ⟨hu, rfl, bs, rfl, rfl, rfl⟩
  · exact ⟨by simp [Builtin.lenOf], run_first hs hw hh, .inl ⟨_, hu⟩, hs.1⟩
  · refine ⟨by simp [Builtin.lenOf, str, size_str], ?_, .inr hu, by simp⟩
    have : ((⟨⟨bs⟩⟩ : ByteArray).extract 0 bs.length).data.map (fun b => Value.int .u8 b.toNat) = ⟨bs.map encB⟩ := by
      rw [ByteArray.data_extract]
      apply Array.ext'
      simp [encB]
    simp only [Builtin.firstCells, str, Sem.run_pure, this]
/-- append, as it runs: room, or a new row -/
theorem run_app_grow {t u el : TypeId} {k bb : Nat} {agg : Bool} {z : Value} {a : Option Addr} {n cap cnt : Nat} {olds news : List Value} {v : Value} {ty : TypeId} (ht : P.underlying t = some (.slice el)) (hel : TI P el k agg z bb)
    (hold : SlR S a n k olds) (hsrc : Src P S u v k cnt news) (hg : cap < n + cnt) (hb : (n + cnt) * bb ≤ 140737488355328) (h63 : n + cnt ≤ 9223372036854775807) {w : World} (hw : S w) :
    ∃ cap' cs, (Builtin.append_ #[t, u] ty #[.slice a n cap, v]).run P w = .ok (.slice (some ⟨w.heap.size, 0, none⟩) (n + cnt) cap') (w.drew.alloc (.cells ⟨cs⟩ el)) ∧ n + cnt ≤ cap' ∧ cap' ≤ maxLen ∧ cs.length = cap' * k ∧ cs.take ((n + cnt) * k) = olds ++ news := by
  obtain ⟨i, hi, hik, hiz, hib⟩ := hel.info
  have hr := hsrc.run (w' := w) hw rfl
  have hr' := hsrc.run (w' := w.drew) hw rfl
  have ho := run_first (P := P) (cap := cap) hold (w' := w.drew) hw rfl
  have hu := hr.2.2.1
  have hn : ¬ (n + cnt ≤ cap) := by omega
  have h63' : ¬ (9223372036854775807 < ((n : Int) + (cnt : Int))) := by omega
  have h48' : ¬ (281474976710656 < Builtin.nextslicecap (n + cnt) cap * bb) := by have := growslice_fits (bytes := bb) hg hb; omega
  have hge := grownCap_ge w (n + cnt) cap el
  have hle := grownCap_le_maxLen w (n + cnt) cap el (by simp only [maxLen]; omega)
  refine ⟨grownCap w (n + cnt) cap el, olds ++ news ++ (Builtin.zeroCells z.cells (grownCap w (n + cnt) cap el - (n + cnt))).toList, ?_, hge, hle, ?_, ?_⟩
  · subst hib hik
    have harr : ∀ (A : Array Value), (⟨olds⟩ : Array Value) ++ (⟨news⟩ ++ A) = ⟨olds ++ (news ++ A.toList)⟩ := fun A => by apply Array.ext'; simp
    rcases hu with ⟨el', hu⟩ | hu <;>
      (simp [Builtin.append_, run_underlying ht, run_underlying hu, sizeOf, typeInfo, zeroValue, hi, hiz, hr.1, hn, h63', h48', Question.forced, hr'.2.1, ho, newRow, grownCap]
       rw [harr])
  · have := hel.zs
    simp only [List.length_append, hold.1, hr.2.2.2, Array.length_toList, size_zeroCells, this, ← Nat.add_mul]
    congr 1; omega
  · have : (olds ++ news).length = (n + cnt) * k := by rw [List.length_append, hold.1, hr.2.2.2, Nat.add_mul]
    rw [← this]
    exact List.take_left
end
section
variable {P : Program} {n : Nat} {ops : Array Oper} {rest : List Oper} {Q : Po} {S : World → Prop} {e : Env} {c : Cx} {I : Im} {l : Ow}
  {d : Option Tmp} {ty : TypeId} {ps : String} {af : Array Edge}
/-- append that must make a new row -/
theorem sAppN {t u el : TypeId} {k bb : Nat} {agg : Bool} {z : Value} {x y : Operand} {a : Option Addr} {len cap cnt : Nat} {olds news : List Value} {v : Value} (ht : P.underlying t = some (.slice el)) (hel : TI P el k agg z bb) (hx : ev e x = .slice a len cap) (hy : ev e y = v)
    (hold : SlR (St c I l) a len k olds) (hsrc : Src P (St c I l) u v k cnt news) (hg : cap < len + cnt) (hb : (len + cnt) * bb ≤ 140737488355328) (h63 : len + cnt ≤ 9223372036854775807) (hd : inB n d = true)
    (h : ∀ m' a' cap', OS el k m' a' (len + cnt) cap' (olds ++ news) → TL P n ops rest (St c I (m' ++ l)) Q (updO e d (.slice a' (len + cnt) cap'))) :
    TL P n ops (⟨d, .call ⟨.builtin .append, [x, y].toArray, [t, u].toArray⟩, ty, ps, af, none⟩ :: rest) (St c I l) Q e := by
  subst hy
  refine TL.step rfl hd fun w hw => ?_
  obtain ⟨cap', cs, hr, h1, h2, h3, h4⟩ := run_app_grow (ty := ty) ht hel hold hsrc hg hb h63 hw
  refine ⟨_, _, ?_, h [(w.heap.size, .cells ⟨cs⟩ el (0, 0))] _ cap' ⟨?_, h1, h2, .inr ⟨_, cs, (0, 0), rfl, rfl, h3, h4, .inl rfl⟩⟩ _ (hw.drew.alloc _)⟩
  · simp [execOp, resolve, invoke, builtin, hx, hr]
  · have := (hsrc.run (P := P) (w' := w) hw rfl).2.2.2
    rw [List.length_append, hold.1, this, Nat.add_mul]
/-- append onto a slice of the call's own -/
theorem sApp {t u el : TypeId} {k bb : Nat} {agg : Bool} {z : Value} {x y : Operand} {m : Ow} {a : Option Addr} {len cap cnt : Nat} {cells news : List Value} {v : Value} (ht : P.underlying t = some (.slice el)) (hel : TI P el k agg z bb) (hx : ev e x = .slice a len cap) (hy : ev e y = v)
    (hos : OS el k m a len cap cells) (hsrc : Src P (St c I (m ++ l)) u v k cnt news) (h1 : news.all (·.oneCell') = true) (hb : (len + cnt) * bb ≤ 140737488355328) (h63 : len + cnt ≤ 9223372036854775807) (hd : inB n d = true)
    (h : ∀ m' a' cap', OS el k m' a' (len + cnt) cap' (cells ++ news) → TL P n ops rest (St c I (m' ++ l)) Q (updO e d (.slice a' (len + cnt) cap'))) :
    TL P n ops (⟨d, .call ⟨.builtin .append, [x, y].toArray, [t, u].toArray⟩, ty, ps, af, none⟩ :: rest) (St c I (m ++ l)) Q e := by
  subst hy
  by_cases hroom : len + cnt ≤ cap
  · refine TL.step rfl hd fun w hw => ?_
    obtain ⟨i, hi, hik, hiz, hib⟩ := hel.info
    have hr := hsrc.run (w' := w) hw rfl
    have hu := hr.2.2.1
    have hnl := hr.2.2.2
    rcases hos with ⟨o1, o2, o3, ⟨rfl, rfl, h0⟩ | ⟨b, cs, fr, rfl, rfl, h3, h4, h5⟩⟩
    · have hc0 : cnt = 0 ∧ len = 0 := by omega
      obtain ⟨rfl, rfl⟩ := hc0
      have hcn : news = [] := List.eq_nil_of_length_eq_zero (by simpa using hnl)
      subst hcn
      have hce : cells = [] := List.eq_nil_of_length_eq_zero (by simpa using o1)
      subst hce h0
      refine ⟨.slice none 0 0, w, ?_, h [] none 0 OS.nil w hw⟩
      subst hib hik
      rcases hu with ⟨el', hu⟩ | hu <;>
        simp [execOp, resolve, invoke, builtin, hx, Builtin.append_, run_underlying ht, run_underlying hu, sizeOf, typeInfo, hi, hr.1, hr.2.1]
    · have hfit : len * k + news.length ≤ cs.length := by rw [hnl, h3, ← Nat.add_mul]; exact Nat.mul_le_mul_right _ hroom
      have hst := run_storeCells_fz P b (len * k) el fr news 0 ⟨cs⟩ w hw.hd (by rw [show (⟨cs⟩ : Array Value).size = cs.length from rfl, h3]; exact h5) (by simpa using hfit) (by simpa using h1)
      simp only [Nat.add_zero] at hst
      refine ⟨.slice (some ⟨b, 0, none⟩) (len + cnt) cap, _, ?_, h [(b, .cells ⟨cs.take (len * k) ++ news ++ cs.drop (len * k + news.length)⟩ el fr)] _ cap ⟨?_, hroom, o3, .inr ⟨b, _, fr, rfl, rfl, ?_, ?_, h5⟩⟩ _ hw.row⟩
      · subst hib hik
        rcases hu with ⟨el', hu⟩ | hu
        · simp [execOp, resolve, invoke, builtin, hx, Builtin.append_, run_underlying ht, run_underlying hu, sizeOf, typeInfo, hi, hr.1, hr.2.1, hroom, addr_add]
          rw [hst]
          simp
        · simp [execOp, resolve, invoke, builtin, hx, Builtin.append_, run_underlying ht, run_underlying hu, sizeOf, typeInfo, hi, hr.1, hr.2.1, hroom, addr_add]
          rw [hst]
          simp
      · rw [List.length_append, o1, hnl, Nat.add_mul]
      · simp only [List.length_append, List.length_take, List.length_drop]
        have : len * k ≤ cs.length := by omega
        omega
      · rw [h4]
        have : (cells ++ news).length = (len + cnt) * k := by rw [List.length_append, o1, hnl, Nat.add_mul]
        rw [← this]
        exact List.take_left
  · refine sAppN ht hel hx rfl hos.sl hsrc (by omega) hb h63 hd fun m' a' cap' ho => TL.pre (fun w hw => ?_) (h m' a' cap' ho)
    exact hw.sub (List.Sublist.append (List.Sublist.refl _) (List.sublist_append_right _ _))
/-! ### 13. Calls -/
theorem run_callFunc {f : FuncId} {fn : Func} {as : Array Value} {w : World} (hfn : P.funcs[f]? = some fn) (hnm : (fn.name == "runtime.NumGoroutine") = false) (hbd : fn.body.isNone = false) : (callFunc f as).run P w = .ok (.enter f as) w := by
  have h1 : ¬ fn.name = "runtime.NumGoroutine" := by simpa using hnm
  have h2 : ¬ fn.body = none := fun h => by rw [h] at hbd; cases hbd
  simp [callFunc, hfn, h1, h2]
theorem sCall {f : FuncId} {xs : List Operand} {ts : Array TypeId} {args : List Value} {R : Value → World → Prop} (hf : Ct P f args S R) (hx : evs e xs = args) (hd : inB n d = true) (h : ∀ v, TL P n ops rest (R v) Q (updO e d v)) :
    TL P n ops (⟨d, .call ⟨.value (.func f), xs.toArray, ts⟩, ty, ps, af, none⟩ :: rest) S Q e := by
  subst hx
  intro w hw a hA
  obtain ⟨⟨fn, hfn, hnm, hbd⟩, hc⟩ := hf
  refine wpList_plain rfl fun K hK => ?_
  have hr : (execOp (ev e) ⟨d, .call ⟨.value (.func f), xs.toArray, ts⟩, ty, ps, af, none⟩).run P w = .ok (.enter f (evs e xs).toArray) w := by
    simp [execOp, resolve, ev, Deferred.ofValue, invoke, run_callFunc hfn hnm hbd, evs_map]
  simp only [Oper.wp, hA.eval, hr, Oper.upon]
  refine (hc w hw).mono fun en w' ⟨v, he, hv⟩ => ?_
  subst he
  exact hK _ _ (h v w' hv _ (hA.put d v hd))
/-- the call of a function value -/
theorem sCallV {f : FuncId} {fo : Operand} {fs cp : List Value} {xs : List Operand} {ts : Array TypeId} {args : List Value} {R : Value → World → Prop} (hfo : ev e fo = .func (.func f) ⟨fs⟩ ⟨cp⟩) (hf : Ct P f args S R) (hx : fs ++ evs e xs ++ cp = args) (hd : inB n d = true) (h : ∀ v, TL P n ops rest (R v) Q (updO e d v)) :
    TL P n ops (⟨d, .call ⟨.value fo, xs.toArray, ts⟩, ty, ps, af, none⟩ :: rest) S Q e := by
  subst hx
  intro w hw a hA
  obtain ⟨⟨fn, hfn, hnm, hbd⟩, hc⟩ := hf
  refine wpList_plain rfl fun K hK => ?_
  have hr : (execOp (ev e) ⟨d, .call ⟨.value fo, xs.toArray, ts⟩, ty, ps, af, none⟩).run P w = .ok (.enter f (fs ++ evs e xs ++ cp).toArray) w := by
    simp [execOp, resolve, hfo, Deferred.ofValue, invoke, run_callFunc hfn hnm hbd, evs_map]
  simp only [Oper.wp, hA.eval, hr, Oper.upon]
  refine (hc w hw).mono fun en w' ⟨v, he, hv⟩ => ?_
  subst he
  exact hK _ _ (h v w' hv _ (hA.put d v hd))
/-- a call that only looks, in a region that only looks -/
theorem qCall {K : Env → Prop} {f : FuncId} {xs : List Operand} {ts : Array TypeId} {args : List Value} {v : Value} {g : Option (Nat × Bool)} (hf : Ct P f args S fun u w => u = v ∧ S w) (hx : evs e xs = args) (hW : Wt ops e ⟨d, .call ⟨.value (.func f), xs.toArray, ts⟩, ty, ps, af, g⟩ true) (hd : inB n d = true) (h : QL P n ops S rest (updO e d v) K) :
    QL P n ops S (⟨d, .call ⟨.value (.func f), xs.toArray, ts⟩, ty, ps, af, g⟩ :: rest) e K := by
  subst hx
  obtain ⟨⟨fn, hfn, hnm, hbd⟩, hc⟩ := hf
  refine ⟨hd, .inl ⟨hW, v, fun a hA w hw => ?_, h⟩⟩
  have hr : (execOp (ev e) ⟨d, .call ⟨.value (.func f), xs.toArray, ts⟩, ty, ps, af, g⟩).run P w = .ok (.enter f (evs e xs).toArray) w := by
    simp [execOp, resolve, ev, Deferred.ofValue, invoke, run_callFunc hfn hnm hbd, evs_map]
  unfold Oper.quietAt
  rw [hA.eval, hr]
  exact ⟨rfl, (hc w hw).mono fun en w' ⟨u, he, hu, hS⟩ => ⟨by rw [he, hu], hS⟩⟩
/-! ### 14. Bytes and texts -/
theorem run_bytesToString {a : Option Addr} {len cap : Nat} {bs : List UInt8} (h : SlR S a len 1 (bs.map encB)) {w : World} (hw : S w) : (Conv.bytesToString (.slice a len cap)).run P w = .ok (str bs) w := by
  by_cases hn : 0 < len
  · obtain ⟨b, o, cs, rfl, hr, hc⟩ := h.2 hn
    obtain ⟨ty, fr, hb⟩ := hr w hw
    have hlen : (bs.map encB).length = len := by simpa using h.1
    have hl := run_loadCells_at (P := P) (w := w) (b := b) (o := o) (cs := cs) (vs := bs.map encB) (ty := ty) (fr := fr) hb (by rw [hlen]; simpa using hc)
    rw [hlen] at hl
    have h2 : bs.map encB = (bs.map fun b => (b.toNat : Int)).map (Value.int .u8) := by simp [encB, List.map_map]
    rw [h2] at hl
    rw [Go.run_bytesToString w ⟨b, o, none⟩ len cap _ hl]
    congr 1
    unfold str
    congr 1
    have hf : ∀ (l : List UInt8) (r : List UInt8), (l.map fun b => (b.toNat : Int)).foldl (fun (r : ByteArray) n => r.push (UInt8.ofNat n.toNat)) ⟨⟨r⟩⟩ = ⟨⟨r ++ l⟩⟩ := by
      intro l
      induction l with
      | nil => intro r; simp
      | cons x l ih =>
        intro r
        simp only [List.map_cons, List.foldl_cons]
        have : (⟨⟨r⟩⟩ : ByteArray).push (UInt8.ofNat (x.toNat : Int).toNat) = ⟨⟨r ++ [x]⟩⟩ := by
          simp [ByteArray.push]
        rw [this, ih]
        simp
    exact hf bs []
  · have : len = 0 := by omega
    subst this
    have hnil : bs = [] := by have := h.1; simpa using this
    subst hnil
    cases a with
    | none => simp [Conv.bytesToString, str]; rfl
    | some a => simp [Conv.bytesToString, loadCells, loadCellsFrom, str]; rfl
theorem yToStr {s t el : TypeId} {x : Operand} {a : Option Addr} {len cap : Nat} {bs : List UInt8} {g : Option (Nat × Bool)} (hs : P.underlying s = some (.slice el)) (hel : P.underlying el = some (.int .u8)) (ht : P.underlying t = some .string) (hx : ev e x = .slice a len cap) (h : SlR S a len 1 (bs.map encB)) :
    Yv P S e ⟨d, .convert s t x, ty, ps, af, g⟩ (str bs) := fun w hw => by
  simp [execOp, hx, convert, run_underlying hs, run_underlying ht, run_underlying hel, run_bytesToString h hw]
/-- []byte(s) -/
theorem sToBytes {s t el : TypeId} {x : Operand} {bs : List UInt8} (hs : P.underlying s = some .string) (ht : P.underlying t = some (.slice el)) (hel : P.underlying el = some (.int .u8)) (hx : ev e x = str bs) (h63 : bs.length ≤ 9223372036854775807) (hd : inB n d = true)
    (h : ∀ m' a' cap', OS el 1 m' a' bs.length cap' (bs.map encB) → TL P n ops rest (St c I (m' ++ l)) Q (updO e d (.slice a' bs.length cap'))) :
    TL P n ops (⟨d, .convert s t x, ty, ps, af, none⟩ :: rest) (St c I l) Q e := by
  refine TL.step rfl hd fun w hw => ?_
  have hge := grownCap_ge w bs.length 0 el
  have hle := grownCap_le_maxLen w bs.length 0 el (by simp only [maxLen]; omega)
  generalize hcap : grownCap w bs.length 0 el = cap at *
  let cs : List Value := bs.map encB ++ List.replicate (cap - bs.length) (.int .u8 0)
  have hcl : cs.length = cap := by simp [cs]; omega
  let w' : World := (w.drew.alloc (.cells ⟨cs⟩ el)).freeze ⟨w.heap.size, cap, none⟩ 1
  have hw' : St c I ((w.heap.size, .cells ⟨cs⟩ el (cap, cap + 1)) :: l) w' := by
    have h1 := hw.drew.alloc (.cells ⟨cs⟩ el)
    have h2 := h1.put (o' := .cells ⟨cs⟩ el (cap, cap + 1))
    have : w' = { w.drew.alloc (.cells ⟨cs⟩ el) with heap := (w.drew.alloc (.cells ⟨cs⟩ el)).heap.setIfInBounds w.heap.size (.cells ⟨cs⟩ el (cap, cap + 1)) } := by
      simp only [w', World.freeze]
      rw [if_neg (by omega)]
      congr 1
      apply Array.ext_getElem?
      intro i
      rw [Array.getElem?_modify, Array.getElem?_setIfInBounds]
      by_cases hi : w.heap.size = i
      · subst hi
        have hb : (w.drew.alloc (.cells ⟨cs⟩ el)).heap[w.heap.size]? = some (.cells ⟨cs⟩ el) := h1.hd
        have hlt := (Array.getElem?_eq_some_iff.1 hb).1
        rw [if_pos rfl, if_pos rfl, hb, if_pos hlt]
        simp
      · simp [hi]
    rw [this]; exact h2
  refine ⟨.slice (some ⟨w.heap.size, 0, none⟩) bs.length cap, w', ?_, h _ _ cap ⟨by simp, hge, hle, .inr ⟨_, cs, (cap, cap + 1), rfl, rfl, by simpa using hcl, ?_, .inr (by simp)⟩⟩ _ hw'⟩
  · have hmap : (⟨⟨bs⟩⟩ : ByteArray).data.map (fun b => Value.int .u8 b.toNat) ++ Array.replicate (cap - bs.length) (.int .u8 0) = ⟨cs⟩ := by
      apply Array.ext'
      simp [cs, encB]
    have hcut : (Question.appendCap bs.length 0 el).cut (w.tape w.drawn (.appendCap bs.length 0 el)) = cap := hcap
    have hsh : (w.drew.alloc (.cells ⟨cs⟩ el)).shape? w.heap.size = some (el, cap) := by
      have hb : (w.drew.alloc (.cells ⟨cs⟩ el)).heap[w.heap.size]? = some (.cells ⟨cs⟩ el) := (hw.drew.alloc (.cells ⟨cs⟩ el)).hd
      unfold World.shape?
      rw [hb]
      show some (el, cs.length) = _
      rw [hcl]
    simp [execOp, hx, str, convert, run_underlying hs, run_underlying ht, run_underlying hel, Conv.stringToBytes, size_str, Question.forced, hcut]
    have hmap' : (bs.map (fun b => Value.int .u8 b.toNat)).toArray ++ Array.replicate (cap - bs.length) (.int .u8 0) = ⟨cs⟩ := by
      apply Array.ext'
      simp [cs, encB]
    rw [hmap']
    have hrow : (newRow el ⟨cs⟩).run P w.drew = .ok ⟨w.heap.size, 0, none⟩ (w.drew.alloc (.cells ⟨cs⟩ el)) := by
      simp [newRow, newObj, Sem.run]
      rfl
    simp only [hrow, Result.andThen_ok]
    have hms : (markStringish ⟨w.heap.size, 0, none⟩).run P (w.drew.alloc (.cells ⟨cs⟩ el)) = .ok () w' := by
      simp only [markStringish, Sem.run_bind, shape, Sem.run, hsh, Result.andThen_ok]
      simp [freeze, Sem.run, w']
    simp only [hms, Result.andThen_ok]
  · simp [cs]
end
end Go.E
