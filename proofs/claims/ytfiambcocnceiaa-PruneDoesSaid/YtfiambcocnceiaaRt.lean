import Derived.Test.YtfiambcocnceiaaLay3
set_option linter.unusedVariables false
set_option linter.unusedSimpArgs false
namespace Go.Proofs.Ytfiambcocnceiaa
open Go Go.E
/-! numbers' bytes, read and laid -/
def stepD (n : Nat) (u : UInt8) : Nat := n * 10 + (u.toNat - 48)
theorem dropAt {α : Type} {s : List α} {f : Nat} {u : α} (h : s[f]? = some u) : s.drop f = u :: s.drop (f + 1) := by
  obtain ⟨h1, h2⟩ := List.getElem?_eq_some_iff.1 h
  rw [List.drop_eq_getElem_cons h1, h2]
theorem getAt {α : Type} {s r : List α} {f : Nat} {u : α} (h : s.drop f = u :: r) : s[f]? = some u ∧ s.drop (f + 1) = r ∧ f < s.length := by
  have h1 : s[f]? = some u := by
    have := congrArg (fun l => l[0]?) h
    simpa using this
  have h2 := dropAt h1
  rw [h] at h2
  exact ⟨h1, (List.cons.inj h2).2.symm, (List.getElem?_eq_some_iff.1 h1).1⟩
theorem dropApp {α : Type} {s a b : List α} {f : Nat} (h : s.drop f = a ++ b) : s.drop (f + a.length) = b := by
  rw [← List.drop_drop, h, List.drop_left]
theorem scanD (s : List UInt8) (f : Nat) (h : f ≤ s.length) : ∃ ds, s.drop f = ds ++ s.drop (endD s f) ∧ (∀ u, u ∈ ds → isD u = true) ∧ endD s f = f + ds.length ∧ ∀ n, valD s f n = ds.foldl stepD n := by
  by_cases hl : f < s.length
  · have hg : s[f]? = some s[f] := List.getElem?_eq_getElem hl
    cases hd : isD s[f] with
    | true =>
      obtain ⟨ds, h1, h2, h3, h4⟩ := scanD s (f + 1) (by omega)
      refine ⟨s[f] :: ds, ?_, ?_, ?_, ?_⟩
      · rw [endD_step hg hd, dropAt hg, List.cons_append, ← h1]
      · intro u hu
        rcases List.mem_cons.1 hu with rfl | hu
        · exact hd
        · exact h2 u hu
      · rw [endD_step hg hd, h3, List.length_cons]; omega
      · intro n; rw [valD_step hg hd, h4]; rfl
    | false =>
      have hs : ∀ u, s[f]? = some u → isD u = false := fun u hu => by rw [hg] at hu; cases hu; exact hd
      exact ⟨[], by rw [endD_stop hs]; rfl, by simp, by rw [endD_stop hs]; rfl, fun n => by rw [valD_stop hs]; rfl⟩
  · have hs : ∀ u, s[f]? = some u → isD u = false := fun u hu => by have := (List.getElem?_eq_some_iff.1 hu).1; omega
    exact ⟨[], by rw [endD_stop hs]; rfl, by simp, by rw [endD_stop hs]; rfl, fun n => by rw [valD_stop hs]; rfl⟩
termination_by s.length - f
theorem digs_uniq : ∀ {ds1 ds2 r1 r2 : List UInt8}, ds1 ++ r1 = ds2 ++ r2 → (∀ u, u ∈ ds1 → isD u = true) → (∀ u, u ∈ ds2 → isD u = true) → (∀ u, r1.head? = some u → isD u = false) → (∀ u, r2.head? = some u → isD u = false) → ds1 = ds2 ∧ r1 = r2
  | [], [], r1, r2, h, _, _, _, _ => ⟨rfl, h⟩
  | [], v :: d2, r1, r2, h, _, h2, h3, _ => by
    rw [List.nil_append] at h; rw [h] at h3
    have := h3 v rfl; rw [h2 v (by simp)] at this; cases this
  | u :: d1, [], r1, r2, h, h1, _, _, h4 => by
    rw [List.nil_append] at h; rw [← h] at h4
    have := h4 u rfl; rw [h1 u (by simp)] at this; cases this
  | u :: d1, v :: d2, r1, r2, h, h1, h2, h3, h4 => by
    simp only [List.cons_append, List.cons.injEq] at h
    have := digs_uniq h.2 (fun x hx => h1 x (by simp [hx])) (fun x hx => h2 x (by simp [hx])) h3 h4
    exact ⟨by rw [h.1, this.1], this.2⟩
theorem isD_dig {k : Nat} (h : k < 10) : isD (UInt8.ofNat (48 + k)) = true ∧ (UInt8.ofNat (48 + k)).toNat = 48 + k := by
  have h1 : (UInt8.ofNat (48 + k)).toNat = 48 + k := by simp; omega
  exact ⟨by unfold isD; rw [h1]; simp; omega, h1⟩
theorem dg_digits (n : Nat) : ∀ u, u ∈ dg n → isD u = true := by
  induction n using Nat.strongRecOn with
  | _ n ih =>
    intro u hu
    by_cases h : n < 10
    · rw [dg_small h] at hu
      rw [List.mem_singleton.1 hu]; exact (isD_dig h).1
    · rw [dg_big (by omega)] at hu
      rcases List.mem_append.1 hu with hu | hu
      · exact ih (n / 10) (by omega) u hu
      · rw [List.mem_singleton.1 hu]; exact (isD_dig (by omega)).1
theorem dg_val (n : Nat) : (dg n).foldl stepD 0 = n := by
  induction n using Nat.strongRecOn with
  | _ n ih =>
    by_cases h : n < 10
    · rw [dg_small h]; simp only [List.foldl_cons, List.foldl_nil, stepD]; rw [(isD_dig h).2]; omega
    · rw [dg_big (by omega), List.foldl_append, ih (n / 10) (by omega)]
      simp only [List.foldl_cons, List.foldl_nil, stepD]; rw [(isD_dig (by omega)).2]; omega
theorem dg_head (n : Nat) : 1 ≤ n → (dg n).head? ≠ some 48 := by
  induction n using Nat.strongRecOn with
  | _ n ih =>
    intro h1
    by_cases h : n < 10
    · rw [dg_small h]
      intro e
      have e2 : UInt8.ofNat (48 + n) = 48 := by simpa using e
      have e3 := congrArg UInt8.toNat e2
      rw [(isD_dig h).2] at e3
      have : (48 : UInt8).toNat = 48 := rfl
      omega
    · rw [dg_big (by omega)]
      have h2 := ih (n / 10) (by omega) (by omega)
      have h3 := dg_pos (n / 10)
      cases hd : dg (n / 10) with
      | nil => rw [hd] at h3; simp at h3
      | cons u r => rw [hd] at h2; simpa using h2
theorem dg_of : ∀ (k : Nat) (ds : List UInt8), ds.length = k + 1 → (∀ u, u ∈ ds → isD u = true) → (2 ≤ ds.length → ds.head? ≠ some 48) → dg (ds.foldl stepD 0) = ds
  | 0, ds, hl, hd, _ => by
    obtain ⟨u, rfl⟩ : ∃ u, ds = [u] := by
      match ds, hl with
      | [u], _ => exact ⟨u, rfl⟩
    have h := isD_iff.1 (hd u (by simp))
    simp only [List.foldl_cons, List.foldl_nil, stepD]
    rw [dg_small (by omega)]
    congr 1
    rw [show 48 + (0 * 10 + (u.toNat - 48)) = u.toNat from by omega]; simp
  | k + 1, ds, hl, hd, hh => by
    have hne : ds ≠ [] := fun e => by rw [e] at hl; simp at hl
    obtain ⟨d, v, rfl⟩ : ∃ d v, ds = d ++ [v] := ⟨_, _, (List.dropLast_concat_getLast hne).symm⟩
    have hl2 : d.length = k + 1 := by simpa using hl
    have hhd : (d ++ [v]).head? = d.head? := by
      cases d with
      | nil => simp at hl2
      | cons u r => rfl
    rw [hhd] at hh
    have ih := dg_of k d hl2 (fun u hu => hd u (by simp [hu])) (fun _ => hh (by simp; omega))
    have hlast := isD_iff.1 (hd v (by simp))
    have hpos : 1 ≤ d.foldl stepD 0 := by
      rcases Nat.eq_zero_or_pos (d.foldl stepD 0) with h0 | h0
      · rw [h0, dg_small (by omega)] at ih
        have := hh (by simp; omega)
        rw [← ih] at this
        exact absurd rfl this
      · exact h0
    have hv : (d ++ [v]).foldl stepD 0 = d.foldl stepD 0 * 10 + (v.toNat - 48) := by rw [List.foldl_append]; rfl
    rw [hv, dg_big (by omega)]
    rw [show (d.foldl stepD 0 * 10 + (v.toNat - 48)) / 10 = d.foldl stepD 0 from by omega, ih]
    rw [show 48 + (d.foldl stepD 0 * 10 + (v.toNat - 48)) % 10 = v.toNat from by omega]
    simp
theorem chkD_zero {s : List UInt8} {i e : Nat} {last : UInt8} (h : chkD s i e last = 0) : e ≠ s.length ∧ e ≠ i ∧ s[e]? = some last ∧ ¬ (i + 1 < e ∧ s[i]? = some 48) := by
  unfold chkD at h
  split at h
  · exact absurd h (by decide)
  · rename_i h1
    split at h
    · exact absurd h (by decide)
    · rename_i h2
      split at h
      · exact absurd h (by decide)
      · rename_i h3
        exact ⟨h1, fun e => h2 (.inl e), Classical.not_not.1 fun e => h2 (.inr e), h3⟩
theorem chkD_ok {s : List UInt8} {i e : Nat} {last : UInt8} (h1 : e ≠ s.length) (h2 : e ≠ i) (h3 : s[e]? = some last) (h4 : ¬ (i + 1 < e ∧ s[i]? = some 48)) : chkD s i e last = 0 := by
  unfold chkD; rw [if_neg h1, if_neg (fun h => h.elim h2 (fun h => h h3)), if_neg h4]
theorem notD59 : isD 59 = false := by decide
/-- laid, then read -/
theorem rdN_print {s : List UInt8} {f n : Nat} {post : List UInt8} {neg : Bool} (h : s.drop f = dg n ++ 59 :: post) (hb : n ≤ if neg then 9223372036854775808 else 9223372036854775807) (hz : neg = true → 1 ≤ n) : rdN s neg f = ((if neg then -(n : Int) else (n : Int)), ((f + (dg n).length : Nat) : Int) + 1, 0) := by
  have hp := dg_pos n
  have hf : f < s.length := by
    have := congrArg List.length h
    rw [List.length_drop, List.length_append] at this; omega
  obtain ⟨ds, h1, h2, h3, h4⟩ := scanD s f (by omega)
  have hu := digs_uniq (h1.symm.trans h) h2 (dg_digits n) (fun u hu => by
    have : s[endD s f]? = some u := by
      have e : (s.drop (endD s f))[0]? = some u := by rw [← List.head?_eq_getElem?]; exact hu
      rw [List.getElem?_drop] at e; simpa using e
    exact endD_not s f u this) (fun u hu => by cases hu; exact notD59)
  obtain ⟨rfl, hr⟩ := hu
  have hg := getAt hr
  have hv : valD s f 0 = n := by rw [h4, dg_val]
  have hfd : s[f]? = (dg n).head? := by
    have : (s.drop f)[0]? = (dg n ++ 59 :: post)[0]? := by rw [h]
    rw [List.getElem?_drop, Nat.add_zero] at this
    rw [this, List.head?_eq_getElem?]
    rw [List.getElem?_append_left hp]
  have hlead : ¬ (1 ≤ n ∧ s[f]? = some 48) := fun ⟨a, b⟩ => dg_head n a (by rw [← hfd]; exact b)
  have hone : n = 0 → (dg n).length = 1 := fun e => by rw [e, dg_small (by omega)]; rfl
  unfold rdN rdF
  rw [hv]
  have hc : chkD s f (endD s f) 59 = 0 := chkD_ok (by omega) (by omega) hg.1 (by
    rintro ⟨a, b⟩
    rcases Nat.eq_zero_or_pos n with h0 | h0
    · have := hone h0; omega
    · exact hlead ⟨h0, b⟩)
  rw [if_neg (by simp [hc]), if_neg (by rintro ⟨a, b, d⟩; exact hlead ⟨hz a, d⟩), if_neg (by omega), h3]
theorem rdNum_print {s : List UInt8} {p : Nat} {z : Int} {post : List UInt8} (hz : W64 z) (h : s.drop p = numS z ++ post) : rdNum s p = (z, ((p + (numS z).length : Nat) : Int), 0) := by
  have hp := dg_pos z.toNat
  have hlen : p < s.length := by
    have := congrArg List.length h
    rw [List.length_drop, List.length_append] at this
    have : 0 < (numS z).length := by unfold numS; split <;> simp
    omega
  unfold numS at h ⊢
  by_cases h0 : 0 ≤ z
  · rw [if_pos h0] at h ⊢
    rw [List.append_assoc] at h
    have hh : s[p]? ≠ some 45 := by
      intro e
      have : (s.drop p)[0]? = some 45 := by rw [List.getElem?_drop]; exact e
      rw [h, List.getElem?_append_left hp] at this
      have := dg_digits z.toNat 45 (List.mem_of_getElem? this)
      exact absurd this (by decide)
    rw [rdNum_pos (by omega) (by omega) (by simpa using hh)]
    have := rdN_print (neg := false) (f := ((p : Int)).toNat) (n := z.toNat) (post := post) h (by simp; omega) (by simp)
    rw [this]
    simp; constructor <;> omega
  · rw [if_neg h0] at h ⊢
    have hg := getAt (show s.drop p = 45 :: (dg (-z).toNat ++ [59] ++ post) from h)
    rw [rdNum_neg (by omega) (by omega) (by simpa using hg.1)]
    have h2 : s.drop (((p : Int)).toNat + 1) = dg (-z).toNat ++ 59 :: post := by rw [Int.toNat_natCast, hg.2.1]; simp
    rw [rdN_print (neg := true) h2 (by simp; omega) (fun _ => by omega)]
    simp; constructor <;> omega
/-- read, then laid -/
theorem rdN_read {s : List UInt8} {neg : Bool} {f : Nat} (hf : f ≤ s.length) (h : (rdN s neg f).2.2 = 0) : ∃ n : Nat, (rdN s neg f).1 = (if neg then -(n : Int) else (n : Int)) ∧ (neg = true → 1 ≤ n) ∧ s.drop f = dg n ++ 59 :: s.drop (rdN s neg f).2.1.toNat := by
  obtain ⟨ds, h1, h2, h3, h4⟩ := scanD s f hf
  unfold rdN rdF at h ⊢
  by_cases c1 : chkD s f (endD s f) 59 ≠ 0
  · rw [if_pos c1] at h; exact absurd h c1
  rw [if_neg c1] at h ⊢
  obtain ⟨k1, k2, k3, k4⟩ := chkD_zero (Classical.not_not.1 c1)
  by_cases c2 : neg = true ∧ endD s f = f + 1 ∧ s[f]? = some 48
  · rw [if_pos c2] at h; exact absurd h (by decide)
  rw [if_neg c2] at h ⊢
  by_cases c3 : (if neg then 9223372036854775808 else 9223372036854775807) < valD s f 0
  · rw [if_pos c3] at h; exact absurd h (by decide)
  rw [if_neg c3]
  have hdl : ds.length ≠ 0 := by omega
  have hfd : s[f]? = ds.head? := by
    have : (s.drop f)[0]? = (ds ++ s.drop (endD s f))[0]? := by rw [← h1]
    rw [List.getElem?_drop, Nat.add_zero] at this
    rw [this, List.head?_eq_getElem?, List.getElem?_append_left (by omega)]
  have hdg : dg (ds.foldl stepD 0) = ds := dg_of (ds.length - 1) ds (by omega) h2 (fun h2l => by rw [← hfd]; exact fun e => k4 ⟨by omega, e⟩)
  have hv : valD s f 0 = ds.foldl stepD 0 := h4 0
  refine ⟨valD s f 0, rfl, fun hn => ?_, ?_⟩
  · rcases Nat.eq_zero_or_pos (valD s f 0) with h0 | h0
    · exfalso
      rw [hv] at h0
      rw [h0, dg_small (by omega)] at hdg
      exact c2 ⟨hn, by rw [h3, ← hdg]; rfl, by rw [hfd, ← hdg]; rfl⟩
    · exact h0
  · rw [hv, hdg]
    conv => lhs; rw [h1]
    rw [dropAt k3]
    congr 2
theorem rdNum_read {s : List UInt8} {p : Nat} (hp : p ≤ s.length) (h : (rdNum s p).2.2 = 0) : s.drop p = numS (rdNum s p).1 ++ s.drop (rdNum s p).2.1.toNat := by
  by_cases h0 : s[p]? = some 45
  · have e := rdNum_neg (s := s) (a := p) (by omega) (by omega) (by simpa using h0)
    rw [e] at h ⊢
    have hl := (List.getElem?_eq_some_iff.1 h0).1
    obtain ⟨n, h1, h2, h3⟩ := rdN_read (s := s) (neg := true) (f := ((p : Int)).toNat + 1) (by omega) h
    have hn := h2 rfl
    rw [h1, if_pos rfl]
    have h3' : s.drop (p + 1) = dg n ++ 59 :: s.drop (rdN s true (((p : Int)).toNat + 1)).2.1.toNat := by simpa using h3
    rw [dropAt h0, h3']
    unfold numS
    rw [if_neg (by omega), show (-(-(n : Int))).toNat = n from by omega]; simp
  · have e := rdNum_pos (s := s) (a := p) (by omega) (by omega) (by simpa using h0)
    rw [e] at h ⊢
    obtain ⟨n, h1, h2, h3⟩ := rdN_read (s := s) (neg := false) (f := ((p : Int)).toNat) (by omega) h
    have h1' : (rdN s false ((p : Int)).toNat).1 = (n : Int) := by simpa using h1
    rw [h1']
    have h3' : s.drop p = dg n ++ 59 :: s.drop (rdN s false ((p : Int)).toNat).2.1.toNat := by simpa using h3
    rw [h3']
    unfold numS
    rw [if_pos (by omega), show ((n : Int)).toNat = n from by omega]; simp
theorem numS_hd (z : Int) : ∃ u r, numS z = u :: r ∧ u ≠ 41 ∧ u ≠ 40 := by
  unfold numS
  have hp := dg_pos z.toNat
  split
  · cases hd : dg z.toNat with
    | nil => rw [hd] at hp; simp at hp
    | cons u r =>
      have := dg_digits z.toNat u (by rw [hd]; simp)
      refine ⟨u, r ++ [59], rfl, ?_, ?_⟩ <;> (intro e; rw [e] at this; exact absurd this (by decide))
  · exact ⟨45, _, rfl, by decide, by decide⟩
theorem rds_print {s post : List UInt8} : ∀ (ys : List Int) (p : Nat) (acc : List Int), (∀ x, x ∈ ys → W64 x) → s.drop p = ys.flatMap numS ++ 41 :: post → acc.length + ys.length ≤ 512 → rds s p acc = (acc ++ ys, ((p + (ys.flatMap numS).length : Nat) : Int) + 1, 0)
  | [], p, acc, _, h, _ => by
    have hg := getAt (show s.drop p = 41 :: post from h)
    rw [rds_done (by omega) (by simpa using hg.1)]; simp
  | z :: r, p, acc, hw, h, hl => by
    rw [List.flatMap_cons, List.append_assoc] at h
    obtain ⟨u, t, hu, h41, _⟩ := numS_hd z
    have hg := getAt (show s.drop p = u :: (t ++ (r.flatMap numS ++ 41 :: post)) from by rw [h, hu]; rfl)
    have hn := rdNum_print (hw z (by simp)) h
    simp only [List.length_cons] at hl
    rw [rds_step (by omega) (by rw [Int.toNat_natCast, hg.1]; simpa using h41) (by omega) (by rw [hn]), hn]
    have ih := rds_print (s := s) (post := post) r (p + (numS z).length) (acc ++ [z]) (fun x hx => hw x (by simp [hx])) (dropApp h) (by simp; omega)
    simp only []
    rw [ih]
    simp [List.flatMap_cons]; omega
theorem rds_read {s : List UInt8} : ∀ (m : Nat) (p : Nat) (acc : List Int), 512 - acc.length ≤ m → p ≤ s.length → (rds s p acc).2.2 = 0 → ∃ ys, (rds s p acc).1 = acc ++ ys ∧ s.drop p = ys.flatMap numS ++ 41 :: s.drop (rds s p acc).2.1.toNat := by
  intro m
  induction m with
  | zero =>
    intro p acc hm hp h
    by_cases h1 : (p : Int) = s.length
    · rw [rds_end h1] at h; exact absurd h (by decide)
    by_cases h2 : s[((p : Int)).toNat]? = some 41
    · rw [rds_done h1 h2]
      exact ⟨[], by simp, by rw [Int.toNat_natCast] at h2; rw [dropAt h2]; simp⟩
    · rw [rds_many h1 h2 (by omega)] at h; exact absurd h (by decide)
  | succ m ih =>
    intro p acc hm hp h
    by_cases h1 : (p : Int) = s.length
    · rw [rds_end h1] at h; exact absurd h (by decide)
    by_cases h2 : s[((p : Int)).toNat]? = some 41
    · rw [rds_done h1 h2]
      exact ⟨[], by simp, by rw [Int.toNat_natCast] at h2; rw [dropAt h2]; simp⟩
    by_cases h3 : 512 ≤ acc.length
    · rw [rds_many h1 h2 h3] at h; exact absurd h (by decide)
    by_cases h4 : (rdNum s p).2.2 = 0
    · have h5 := rdNum_next h4 (by omega)
      have h6 := rdNum_read hp h4
      rw [rds_step h1 h2 (by omega) h4] at h ⊢
      obtain ⟨q, hq⟩ : ∃ q : Nat, (rdNum s p).2.1 = (q : Int) := ⟨(rdNum s p).2.1.toNat, by omega⟩
      rw [hq] at h ⊢ h6 h5
      obtain ⟨ys, h7, h8⟩ := ih q (acc ++ [(rdNum s p).1]) (by simp; omega) (by omega) h
      refine ⟨(rdNum s p).1 :: ys, by rw [h7]; simp, ?_⟩
      rw [h6, Int.toNat_natCast, h8]; simp
    · rw [rds_err h1 h2 (by omega) h4] at h; exact absurd h h4
theorem rdNums_print {s post : List UInt8} {p : Nat} {xs : List Int} (hw : ∀ x, x ∈ xs → W64 x) (hl : xs.length ≤ 512) (h : s.drop p = numsB xs ++ post) : rdNums s p = (xs, ((p + (numsB xs).length : Nat) : Int), 0) := by
  have h' : s.drop p = 40 :: (xs.flatMap numS ++ 41 :: post) := by rw [h]; simp [numsB, numsP]
  have hg := getAt h'
  unfold rdNums
  rw [if_neg (by omega), if_neg (by omega), if_neg (by simp [hg.1])]
  have := rds_print xs (p + 1) [] hw (by rw [hg.2.1]) (by simpa using hl)
  rw [show ((p : Int) + 1) = ((p + 1 : Nat) : Int) from by omega, this]
  simp [numsB, numsP]; omega
theorem rdNums_inv {s : List UInt8} {a : Int} (h : (rdNums s a).2.2 = 0) : 0 ≤ a ∧ a < s.length ∧ s[a.toNat]? = some 40 ∧ rdNums s a = rds s (a + 1) [] := by
  unfold rdNums at h ⊢
  by_cases h1 : a < 0 ∨ (s.length : Int) < a
  · rw [if_pos h1] at h; exact absurd h (by decide)
  rw [if_neg h1] at h ⊢
  by_cases h2 : a = s.length
  · rw [if_pos h2] at h; exact absurd h (by decide)
  rw [if_neg h2] at h ⊢
  by_cases h3 : s[a.toNat]? ≠ some 40
  · rw [if_pos h3] at h; exact absurd h (by decide)
  rw [if_neg h3]
  exact ⟨by omega, by omega, Classical.not_not.1 h3, rfl⟩
theorem rdNums_read {s : List UInt8} {p : Nat} (h : (rdNums s p).2.2 = 0) : s.drop p = numsB (rdNums s p).1 ++ s.drop (rdNums s p).2.1.toNat := by
  obtain ⟨h0, h1, h2, h3⟩ := rdNums_inv h
  rw [h3] at h ⊢
  rw [show ((p : Int) + 1) = ((p + 1 : Nat) : Int) from by omega] at h ⊢
  obtain ⟨ys, h4, h5⟩ := rds_read 512 (p + 1) [] (by simp) (by omega) h
  rw [Int.toNat_natCast] at h2
  rw [dropAt h2, h5, h4]; simp [numsB, numsP]
end Go.Proofs.Ytfiambcocnceiaa
