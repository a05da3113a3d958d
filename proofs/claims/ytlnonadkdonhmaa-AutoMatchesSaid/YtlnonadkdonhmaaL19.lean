/- Contracts and lemmas that a claim of this seat uses. -/
import Derived.Test.YtlnonadkdonhmaaL16
import Derived.Test.YtlnonadkdonhmaaL17
import Derived.Test.YtlnonadkdonhmaaL14

/- Compiled matching, plainly: the machine of a group plays with the first rule that is ready. -/
namespace Go.Proofs.Ytlnonadkdonhmaa
open Go.RowKit Go.Maps

/-! ### bits of small sets -/
theorem ext_all : ((List.range 64).all fun s => (List.range 64).all fun t => s == t || !((List.range 6).all fun c => inI (s : Int) (c : Int) == inI (t : Int) (c : Int))) = true := by kernel_rfl
theorem isB_ext {s t : Int} (hs : isB s) (ht : isB t) (h : ∀ c : Nat, c < 6 → inI s c = inI t c) : s = t := by
  obtain ⟨x, rfl, hx⟩ := nat_of hs
  obtain ⟨y, rfl, hy⟩ := nat_of ht
  have h1 := List.all_eq_true.1 ext_all x (List.mem_range.2 hx)
  have h2 := List.all_eq_true.1 h1 y (List.mem_range.2 hy)
  have h3 : ((List.range 6).all fun c => inI (x : Int) (c : Int) == inI (y : Int) (c : Int)) = true := by
    rw [List.all_eq_true]
    intro c hc
    rw [h c (List.mem_range.1 hc)]
    simp
  rw [h3] at h2
  have : x = y := by simpa using h2
  rw [this]
theorem clr_all : ((List.range 64).all fun s => (List.range 6).all fun o => (List.range 6).all fun x => inI (bits BinOp.andNot .i64 (s : Int) (2 ^ o)) (x : Int) == (inI (s : Int) (x : Int) && !(x == o))) = true := by kernel_rfl
theorem in_clr {s : Int} {o x : Nat} (hs : isB s) (ho : o < 6) (hx : x < 6) : inI (bits BinOp.andNot .i64 s (2 ^ o)) x = (inI s x && !(x == o)) := by
  obtain ⟨y, rfl, hy⟩ := nat_of hs
  have h1 := List.all_eq_true.1 clr_all y (List.mem_range.2 hy)
  have h2 := List.all_eq_true.1 h1 o (List.mem_range.2 ho)
  have h3 := List.all_eq_true.1 h2 x (List.mem_range.2 hx)
  exact beq_iff_eq.1 h3
theorem in_toF {os : List Int} {set kept : Int} (hs : isB set) (ho : ∀ x ∈ os, 0 ≤ x ∧ x < 6) : ∀ k, k ≤ os.length → ∀ x : Nat, x < 6 → (inI (toF os set kept k) x = true ↔ inI set x = true ∧ ∀ i, i < k → os.getD i 0 = (x : Int) → bit0 kept i = false)
  | 0, _, x, _ => by
    show inI set x = true ↔ _
    exact ⟨fun h => ⟨h, fun i hi => by omega⟩, fun h => h.1⟩
  | k + 1, hk, x, hx => by
    have ih := in_toF (kept := kept) hs ho k (by omega) x hx
    have hok := ho os[k] (List.getElem_mem (by omega))
    obtain ⟨c, hc⟩ := Int.eq_ofNat_of_zero_le hok.1
    have e : os.getD k 0 = (c : Int) := by simp [List.getD, List.getElem?_eq_getElem (show k < os.length by omega), hc]
    unfold toF
    cases hb : bit0 kept k with
    | true =>
      rw [if_pos rfl, e, Int.toNat_natCast, in_clr (toF_isB hs k) (by omega) hx, Bool.and_eq_true, ih]
      constructor
      · rintro ⟨⟨h1, h2⟩, h3⟩
        refine ⟨h1, fun i hi hix => ?_⟩
        by_cases hik : i = k
        · subst hik
          rw [e] at hix
          have : c = x := by omega
          subst this
          simp at h3
        · exact h2 i (by omega) hix
      · rintro ⟨h1, h2⟩
        refine ⟨⟨h1, fun i hi => h2 i (by omega)⟩, ?_⟩
        have hne : ¬ x = c := by
          rintro rfl
          have := h2 k (by omega) e
          rw [hb] at this
          cases this
        simpa using hne
    | false =>
      rw [if_neg (by decide), ih]
      constructor
      · rintro ⟨h1, h2⟩
        refine ⟨h1, fun i hi hix => ?_⟩
        by_cases hik : i = k
        · rw [hik]; exact hb
        · exact h2 i (by omega) hix
      · rintro ⟨h1, h2⟩
        exact ⟨h1, fun i hi => h2 i (by omega)⟩
theorem bit_all : ((List.range 6).all fun k => (List.range (2 ^ k)).all fun s => bit0 (s : Int) k && (List.range (k + 1)).all fun i => bit0 ((s : Int) + 2 ^ k) i == (if i = k then false else bit0 (s : Int) i)) = true := by kernel_rfl
theorem bit_place {os : List Int} {keep : Int} (h6 : os.length ≤ 6) : ∀ k, k ≤ os.length → (∃ s : Nat, sumTo (placeF os keep) k = (s : Int) ∧ s < 2 ^ k) ∧ ∀ i, i < k → bit0 (sumTo (placeF os keep) k) i = !inI keep (os.getD i 0)
  | 0, _ => ⟨⟨0, rfl, by decide⟩, fun i hi => by omega⟩
  | k + 1, hk => by
    obtain ⟨⟨s, hs, hlt⟩, hb⟩ := bit_place (keep := keep) h6 k (by omega)
    have h1 := List.all_eq_true.1 bit_all k (List.mem_range.2 (by omega))
    have h2 := List.all_eq_true.1 h1 s (List.mem_range.2 hlt)
    rw [Bool.and_eq_true] at h2
    have hpow : (2 : Nat) ^ (k + 1) = 2 ^ k + 2 ^ k := by rw [Nat.pow_succ]; omega
    rw [sumTo_succ]
    unfold placeF
    rw [show sumTo (fun i => if inI keep (os.getD i 0) = true then (2 : Int) ^ i else 0) k = sumTo (placeF os keep) k from rfl, hs]
    cases hin : inI keep (os.getD k 0) with
    | true =>
      rw [if_pos rfl]
      refine ⟨⟨s + 2 ^ k, by push_cast; rfl, by omega⟩, fun i hi => ?_⟩
      have h3 := beq_iff_eq.1 (List.all_eq_true.1 h2.2 i (List.mem_range.2 hi))
      rw [h3]
      by_cases e : i = k
      · subst e
        rw [if_pos rfl, hin]
        rfl
      · rw [if_neg e, ← hs]
        exact hb i (by omega)
    | false =>
      rw [if_neg (by decide), Int.add_zero]
      refine ⟨⟨s, rfl, by omega⟩, fun i hi => ?_⟩
      by_cases e : i = k
      · subst e
        rw [h2.1, hin]
        rfl
      · rw [← hs]
        exact hb i (by omega)
theorem mem_others {r : Int} {c : Nat} (hr : isB r) (hc : c < 6) {x : Nat} (hx : x < 6) : (x : Int) ∈ othersA r c ↔ inI r x = true ∧ x ≠ c := by
  have e : (x : Int) ∈ othersA r c ↔ inI (bits BinOp.andNot .i64 r (2 ^ ((c : Int)).toNat)) x = true := by
    constructor
    · intro h
      obtain ⟨i, hi, _, h2⟩ := pickTo_mem h
      have : x = i := by omega
      subst this
      exact h2
    · intro h
      show (x : Int) ∈ pickTo _ 6
      simp only [pickTo, List.mem_map, List.mem_filter, List.mem_range]
      exact ⟨x, ⟨hx, h⟩, rfl⟩
  rw [e, Int.toNat_natCast, in_clr hr hc hx, Bool.and_eq_true]
  simp

/-! ### the queues' sets -/
theorem nn_get {m : List Int} (hn : ∀ y ∈ m, 0 ≤ y) (c : Nat) : 0 ≤ m.getD c 0 := by
  cases e : m[c]? with
  | none => simp [List.getD, e]
  | some y => simpa [List.getD, e] using hn y (List.mem_of_getElem? e)
theorem setQ_inc {m : List Int} {x : Nat} (hm : m.length ≤ 6) (hx : x < m.length) (hn : ∀ y ∈ m, 0 ≤ y) : setQ (incAt m x) = fullI (setQ m) x := by
  have hl : (incAt m x).length = m.length := incAt_len _ _
  refine isB_ext (setQ_isB (by omega)) (full_isB (setQ_isB hm) (by omega) (by omega)) fun c hc => ?_
  rw [in_full (setQ_isB hm) (by omega) hc, inI_setQ (by omega) hc, inI_setQ hm hc, hl, incAt_get hx]
  by_cases e : c = x
  · subst e
    have := nn_get hn c
    rw [if_pos rfl, decide_eq_true hx, decide_eq_true (show c = c from rfl), decide_eq_true (show 0 < m.getD c 0 + 1 by omega)]
    simp
  · rw [if_neg e, Int.add_zero, decide_eq_false e, Bool.or_false]
/-- A rule that was not ready ahead of a message takes it. -/
theorem takes_in {rs : List Int} (hb : bAll rs) {m : List Int} {x : Nat} {r : Int} (hm : m.length ≤ 6) (hx : x < m.length) (hr : r ∈ rs) (hrest : readyL rs (setQ m) = []) (hw : withinI r (setQ (incAt m x)) = true) : inI r x = true := by
  have hl1 : (incAt m x).length = m.length := incAt_len _ _
  have hrb := hb r hr
  have hwi := (within_iff hrb (setQ_isB (by omega))).1 hw
  cases hin : inI r x with
  | true => rfl
  | false =>
    exfalso
    have hws : withinI r (setQ m) = true := by
      rw [within_iff hrb (setQ_isB hm)]
      intro c hc hcr
      have h1 := hwi c hc hcr
      rw [inI_setQ (by omega) hc, hl1, incAt_get hx] at h1
      have hne : c ≠ x := by rintro rfl; rw [hin] at hcr; cases hcr
      rw [if_neg hne, Int.add_zero] at h1
      rw [inI_setQ hm hc]
      exact h1
    have := rest_iff.1 hrest r hr
    rw [hws] at this
    cases this
/-- What is left of the queues' set, as the machine finds it. -/
theorem toF_take {rs : List Int} (hb : bAll rs) {m : List Int} {x : Nat} {r : Int} (hm : m.length ≤ 6) (hx : x < m.length) (hr : r ∈ rs) (hrest : readyL rs (setQ m) = []) (hw : withinI r (setQ (incAt m x)) = true) :
    toF (othersA r x) (setQ m) (placeI (othersA r x) (setQ (takeQ r (incAt m x)))) (othersA r x).length = setQ (takeQ r (incAt m x)) := by
  have hxr := takes_in hb hm hx hr hrest hw
  have hrb := hb r hr
  have hl1 : (incAt m x).length = m.length := incAt_len _ _
  have hl2 : (takeQ r (incAt m x)).length = m.length := by rw [takeQ_len, hl1]
  refine isB_ext (toF_isB (setQ_isB hm) _) (setQ_isB (by omega)) fun c hc => ?_
  have key : ∀ c : Nat, c < 6 → inI (setQ (takeQ r (incAt m x))) c = (decide (c < m.length) && decide (0 < m.getD c 0 + (if c = x then 1 else 0) - (if inI r c then 1 else 0))) := by
    intro c hc
    rw [inI_setQ (by omega) hc, hl2]
    by_cases hcl : c < m.length
    · rw [takeQ_get (by omega) hc, incAt_get hx]
    · rw [decide_eq_false hcl, Bool.false_and, Bool.false_and]
  rw [Bool.eq_iff_iff, in_toF (setQ_isB hm) (fun y hy => othersA_bd hy) _ (Nat.le_refl _) c hc]
  have hmem := mem_others (c := x) hrb (by omega) hc
  have hbits : (∀ i, i < (othersA r x).length → (othersA r x).getD i 0 = (c : Int) → bit0 (placeI (othersA r x) (setQ (takeQ r (incAt m x)))) i = false) ↔ ((c : Int) ∈ othersA r x → inI (setQ (takeQ r (incAt m x))) c = true) := by
    have hp := (bit_place (os := othersA r x) (keep := setQ (takeQ r (incAt m x))) (othersA_len _ _) _ (Nat.le_refl _)).2
    constructor
    · intro h hmem
      obtain ⟨i, hi⟩ := List.getElem?_of_mem hmem
      have hil := (List.getElem?_eq_some_iff.1 hi).1
      have hg : (othersA r x).getD i 0 = (c : Int) := by simp [List.getD, hi]
      have h1 := h i hil hg
      have h2 := hp i hil
      rw [hg] at h2
      have h3 : bit0 (placeI (othersA r x) (setQ (takeQ r (incAt m x)))) i = !inI (setQ (takeQ r (incAt m x))) c := h2
      rw [h1] at h3
      cases hh : inI (setQ (takeQ r (incAt m x))) (c : Int) with
      | true => rfl
      | false => rw [hh] at h3; cases h3
    · intro h i hil hg
      have hmem : (c : Int) ∈ othersA r x := by
        rw [← hg]
        simp [List.getD, List.getElem?_eq_getElem hil]
      have h2 := hp i hil
      rw [hg, h hmem] at h2
      exact h2
  rw [hbits, hmem, inI_setQ hm hc, key c hc]
  simp only [Bool.and_eq_true, decide_eq_true_eq]
  by_cases e : c = x
  · subst e
    rw [hxr]
    simp
  · rw [if_neg e]
    cases hin : inI r c with
    | true =>
      simp only [if_true]
      constructor
      · rintro ⟨_, h⟩; exact h ⟨trivial, e⟩
      · rintro ⟨h1, h2⟩; exact ⟨⟨h1, by omega⟩, fun _ => ⟨h1, h2⟩⟩
    | false => simp
end Go.Proofs.Ytlnonadkdonhmaa

/- The machine of a group: its states are the sets at rest; a run with it chooses the first rule that is ready. -/
namespace Go.Proofs.Ytlnonadkdonhmaa
open Go.RowKit Go.Maps

theorem addNum_idx (l : List Int) (x : Int) : (addNum l x)[l.idxOf x]? = some x := by
  unfold addNum
  split
  · rename_i h
    exact idxOf_get h
  · rename_i h
    rw [List.idxOf_eq_length h, List.getElem?_append_right (Nat.le_refl _), Nat.sub_self]
    rfl
theorem pre_get {l l' : List Int} {i : Nat} {x : Int} (h : l <+: l') (hi : l[i]? = some x) : l'[i]? = some x := by
  obtain ⟨t, rfl⟩ := h
  rw [List.getElem?_append_left (List.getElem?_eq_some_iff.1 hi).1]
  exact hi
theorem foldNum_get (l : List Int) : ∀ (n : Nat) (xs : List Int), xs.length = n → ∀ (j : Nat) (q : Int), (foldNum l xs).1[j]? = some q → ∃ x, xs[j]? = some x ∧ 0 ≤ q ∧ (foldNum l xs).2[q.toNat]? = some x
  | 0, xs, hn, j, q, h => by
    obtain rfl := List.eq_nil_of_length_eq_zero hn
    simp [foldNum] at h
  | n + 1, xs, hn, j, q, h => by
    obtain ⟨ys, y, rfl⟩ : ∃ ys y, xs = ys ++ [y] := by
      rcases List.eq_nil_or_concat xs with rfl | ⟨ys, y, e⟩
      · simp at hn
      · exact ⟨ys, y, by rw [e, List.concat_eq_append]⟩
    have hyl : ys.length = n := by simp at hn; exact hn
    rw [foldNum_snoc] at h ⊢
    simp only at h ⊢
    have hl1 := foldNum_len1 l ys
    by_cases hj : j < ys.length
    · rw [List.getElem?_append_left (by omega)] at h
      obtain ⟨x, hx, h0, hg⟩ := foldNum_get l n ys hyl j q h
      exact ⟨x, by rw [List.getElem?_append_left hj]; exact hx, h0, pre_get (addNum_pre _ _) hg⟩
    · have hjl := (List.getElem?_eq_some_iff.1 h).1
      simp at hjl
      have e : j = ys.length := by omega
      subst e
      rw [List.getElem?_append_right (by omega), hl1, Nat.sub_self] at h
      have hq : ((foldNum l ys).2.idxOf y : Int) = q := by injection h
      refine ⟨y, by rw [List.getElem?_append_right (Nat.le_refl _), Nat.sub_self]; rfl, by omega, ?_⟩
      rw [← hq, Int.toNat_natCast]
      exact addNum_idx _ _
theorem actsTo_get {rs : List Int} {s : Int} {l : List Int} : ∀ (k c : Nat) (a : AAct), (actsTo rs s l k).1[c]? = some a → a.rule = stepR rs s c ∧ ∃ l', a.next = (foldNum l' (stepN rs s c)).1 ∧ (foldNum l' (stepN rs s c)).2 <+: (actsTo rs s l k).2
  | 0, c, a, h => by simp [actsTo] at h
  | k + 1, c, a, h => by
    have hl := actsTo_len rs s l k
    rw [actsTo] at h ⊢
    simp only at h ⊢
    by_cases hc : c < k
    · rw [List.getElem?_append_left (by omega)] at h
      obtain ⟨h1, l', h2, h3⟩ := actsTo_get k c a h
      exact ⟨h1, l', h2, h3.trans (foldNum_pre _ _)⟩
    · have hcl := (List.getElem?_eq_some_iff.1 h).1
      simp [hl] at hcl
      have e : c = k := by omega
      subst e
      rw [List.getElem?_append_right (by omega), hl, Nat.sub_self] at h
      have ha : (⟨stepR rs s c, (foldNum (actsTo rs s l c).2 (stepN rs s c)).1⟩ : AAct) = a := by injection h
      rw [← ha]
      exact ⟨rfl, _, rfl, List.prefix_refl _⟩
theorem machTo_row {n : Nat} {rs : List Int} : ∀ (k i : Nat) (acts : List AAct), (machTo n rs k).1[i]? = some acts → ∃ s l, (machTo n rs k).2[i]? = some s ∧ acts = (actsTo rs s l n).1 ∧ (actsTo rs s l n).2 <+: (machTo n rs k).2
  | 0, i, acts, h => by simp [machTo] at h
  | k + 1, i, acts, h => by
    rw [machTo] at h ⊢
    cases hs : (machTo n rs k).2[k]? with
    | none =>
      rw [hs] at h
      exact machTo_row k i acts h
    | some s =>
      rw [hs] at h
      simp only at h ⊢
      have hk := (List.getElem?_eq_some_iff.1 hs).1
      have hl := machTo_len (n := n) (rs := rs) (k := k) (by omega)
      by_cases hi : i < k
      · rw [List.getElem?_append_left (by omega)] at h
        obtain ⟨s', l', h1, h2, h3⟩ := machTo_row k i acts h
        exact ⟨s', l', pre_get (actsTo_pre _ _ _ _) h1, h2, h3.trans (actsTo_pre _ _ _ _)⟩
      · have hil := (List.getElem?_eq_some_iff.1 h).1
        simp [hl] at hil
        have e : i = k := by omega
        subst e
        rw [List.getElem?_append_right (by omega), hl, Nat.sub_self] at h
        have ha : (actsTo rs s (machTo n rs i).2 n).1 = acts := by injection h
        exact ⟨s, _, pre_get (actsTo_pre _ _ _ _) hs, ha.symm, List.prefix_refl _⟩
/-- The sets of the states. -/
def setsI (n : Nat) (rs : List Int) : List Int := (machTo n rs 64).2
theorem machI_len {n : Nat} {rs : List Int} (hn : n ≤ 6) : (machI n rs).length = (setsI n rs).length := by
  have h := (machTo_ok (n := n) (rs := rs) hn 64).len
  have e := machTo_min (n := n) (rs := rs) 64
  unfold machI setsI
  rw [Int.toNat_natCast]
  omega
theorem machI_act {n : Nat} {rs : List Int} (hn : n ≤ 6) {i c : Nat} {s : Int} (hs : (setsI n rs)[i]? = some s) (hc : c < n) :
    ∃ a, (rowM (machI n rs) i)[c]? = some a ∧ a.rule = stepR rs s c ∧ a.next.length = (stepN rs s c).length ∧ ∀ (j : Nat) (q : Int), a.next[j]? = some q → 0 ≤ q ∧ ∃ t, (stepN rs s c)[j]? = some t ∧ (setsI n rs)[q.toNat]? = some t := by
  have hi := (List.getElem?_eq_some_iff.1 hs).1
  have hl := machI_len (rs := rs) hn
  have hm : (machI n rs)[i]? = some (rowM (machI n rs) i) := by
    unfold rowM
    simp [List.getD, List.getElem?_eq_getElem (show i < (machI n rs).length by omega)]
  have hm2 : (machTo n rs 64).1[i]? = some (rowM (machI n rs) i) := by
    rw [← hm]
    unfold machI
    rw [Int.toNat_natCast]
  obtain ⟨s', l, h1, h2, h3⟩ := machTo_row 64 i _ hm2
  have e : s = s' := by
    unfold setsI at hs
    rw [hs] at h1
    injection h1
  subst e
  have hal := actsTo_len rs s l n
  have ha : (rowM (machI n rs) i)[c]? = some ((actsTo rs s l n).1[c]'(by omega)) := by
    rw [h2, List.getElem?_eq_getElem]
  refine ⟨_, ha, ?_⟩
  rw [h2] at ha
  obtain ⟨g1, l', g2, g3⟩ := actsTo_get n c _ ha
  refine ⟨g1, by rw [g2, foldNum_len1], fun j q hq => ?_⟩
  rw [g2] at hq
  obtain ⟨x, hx, h0, hg⟩ := foldNum_get l' _ _ rfl j q hq
  exact ⟨h0, x, hx, pre_get (g3.trans h3) hg⟩

/-! ### runs -/
def chFirst : Unit → Nat → List Int → Int × Unit := fun _ _ rd => (rd.getD 0 0, ())
theorem chFirst_mem (s : Unit) (i : Nat) (rd : List Int) (h : rd ≠ []) : (chFirst s i rd).1 ∈ rd := by
  cases rd with
  | nil => exact absurd rfl h
  | cons x t => exact List.mem_cons_self ..
theorem setsI_zero (n : Nat) (rs : List Int) : (setsI n rs)[0]? = some 0 := by
  have gen : ∀ k, [0] <+: (machTo n rs k).2 := by
    intro k
    induction k with
    | zero => exact List.prefix_refl _
    | succ k ih =>
      rw [machTo]
      cases hs : (machTo n rs k).2[k]? with
      | none => exact ih
      | some s => exact ih.trans (actsTo_pre _ _ _ _)
  exact pre_get (gen 64) rfl
theorem actAt_row {m : Mach} {s c : Nat} {a : AAct} (h : (rowM m s)[c]? = some a) : actAt m (s : Int) (c : Int) = a := by
  show ((m.getD ((s : Int)).toNat []).getD ((c : Int)).toNat ⟨0, []⟩) = a
  rw [Int.toNat_natCast, Int.toNat_natCast]
  show (rowM m s).getD c ⟨0, []⟩ = a
  simp [List.getD, h]

theorem stepL_get {os : List Int} {set : Int} {p : Nat} (hp : p < 2 ^ os.length) : (stepL os set)[p]? = some (toF os set (p : Int) os.length) := by
  unfold stepL
  rw [List.getElem?_map]
  have e : (List.range (2 ^ os.length))[p]? = some p := by
    generalize 2 ^ os.length = M at hp
    rw [List.getElem?_range hp]
  rw [e]
  rfl

theorem run_mach {N : Nat} {rs l : List Int} (hg : grpOk (N : Int) rs = true) (hl : ∀ x ∈ l, 0 ≤ x ∧ x < (N : Int)) : ∀ k, k ≤ l.length →
    ∃ q, rnTo rs (machI N rs) N l k = some q ∧ q.many = (qTo rs chFirst N () l k).many ∧ q.out = (qTo rs chFirst N () l k).out ∧ 0 ≤ q.st ∧ (setsI N rs)[q.st.toNat]? = some (setQ q.many)
  | 0, _ => by
    have h6 := (grpOk_true hg).2.1
    refine ⟨⟨List.replicate N 0, 0, []⟩, rfl, rfl, rfl, Int.le_refl _, ?_⟩
    rw [setQ_zero (by omega)]
    exact setsI_zero N rs
  | k + 1, hk => by
    have h6 := (grpOk_true hg).2.1
    have hN : N ≤ 6 := by omega
    have hba := bAll_of hg
    have hf : formedA (N : Int) rs (machI N rs) = true := formedA_machI hg
    obtain ⟨q, hq, hqm, hqo, hst0, hset⟩ := run_mach hg hl k (by omega)
    have hx : l[k]? = some l[k] := List.getElem?_eq_getElem (by omega)
    have hxb := hl _ (List.mem_of_getElem? hx)
    obtain ⟨x, hxe⟩ := Int.eq_ofNat_of_zero_le hxb.1
    rw [hxe] at hx hxb
    have hok := rnTo_ok hf hl k q (by omega) hq
    have hnn := rn_nn hba hN hf hl k q (by omega) hq
    have hlen := hok.ok.len
    have hm6 : q.many.length ≤ 6 := by omega
    have hxl : x < q.many.length := by omega
    have hP := qTo_play (rs := rs) (ch := chFirst) (N := N) (s0 := ()) (l := l) chFirst_mem
    have hrest : readyL rs (setQ q.many) = [] := by
      have e : readyL rs (setQ (qTo rs chFirst N () l k).many) = [] := hP.rest hg hN hl k (by omega)
      rw [hqm]
      exact e
    have hinc := setQ_inc hm6 hxl hnn
    have hxN : x < N := by omega
    obtain ⟨a, ha, hrule, halen, hnext⟩ := machI_act hN hset hxN
    have hact : actAt (machI N rs) q.st (x : Int) = a := by
      have e := actAt_row ha
      rw [Int.toNat_of_nonneg hst0] at e
      exact e
    rw [rnTo_step hq hx]
    unfold rnStep
    rw [hact]
    cases hR : readyL rs (setQ (incAt q.many (x : Int))) with
    | nil =>
      have hR2 : readyL rs (fullI (setQ q.many) (x : Int)) = [] := by rw [← hinc]; exact hR
      have e1 : stepR rs (setQ q.many) (x : Int) = -1 := by unfold stepR; rw [hR2]
      have e2 : stepN rs (setQ q.many) (x : Int) = [fullI (setQ q.many) x] := by unfold stepN; rw [hR2]
      rw [e1] at hrule
      rw [e2] at halen hnext
      have hneg : a.rule < 0 := by omega
      rw [if_pos hneg]
      have hn0 : a.next[0]? = some (a.next[0]'(by rw [halen]; exact Nat.zero_lt_one)) := List.getElem?_eq_getElem (by rw [halen]; exact Nat.zero_lt_one)
      obtain ⟨h0, t, ht, hS⟩ := hnext 0 _ hn0
      have hni : nextI rs a ⟨(x : Int), setQ (incAt q.many (x : Int))⟩ = a.next[0]'(by rw [halen]; exact Nat.zero_lt_one) := by
        unfold nextI
        rw [if_pos hneg]
        simp [List.getD, hn0]
      have e := qTo_none (rs := rs) (ch := chFirst) (N := N) (s0 := ()) (l := l) (k := k) rfl hx (by rw [← hqm]; exact hR)
      refine ⟨_, rfl, ?_, ?_, ?_, ?_⟩
      · rw [e, hqm]
      · rw [e, hqo, hrule]
      · simp only [hni]; exact h0
      · simp only [hni]
        rw [hS, hinc]
        have : t = fullI (setQ q.many) x := by
          simp at ht
          exact ht.symm
        rw [this]
    | cons r t =>
      have hmem : r ∈ readyL rs (setQ (incAt q.many (x : Int))) := by rw [hR]; exact List.mem_cons_self ..
      obtain ⟨b, rr, hb, hbr, hw⟩ := ready_mem hmem
      subst hb
      have hR2 : readyL rs (fullI (setQ q.many) (x : Int)) = (b : Int) :: t := by rw [← hinc]; exact hR
      have hgb : rs.getD ((b : Int)).toNat 0 = rr := by rw [Int.toNat_natCast]; simp [List.getD, hbr]
      have e1 : stepR rs (setQ q.many) (x : Int) = (b : Int) := by unfold stepR; rw [hR2]
      have e2 : stepN rs (setQ q.many) (x : Int) = stepL (othersA rr x) (setQ q.many) := by
        unfold stepN
        rw [hR2]
        simp only [hgb]
      rw [e1] at hrule
      rw [e2] at halen hnext
      have hneg : ¬ a.rule < 0 := by omega
      rw [if_neg hneg, hrule, hgb, if_pos hw]
      have hrm := List.mem_of_getElem? hbr
      have htf := toF_take hba hm6 hxl hrm hrest hw
      obtain ⟨⟨p, hp, hplt⟩, _⟩ := bit_place (os := othersA rr x) (keep := setQ (takeQ rr (incAt q.many (x : Int)))) (othersA_len _ _) _ (Nat.le_refl _)
      have hpl : placeI (othersA rr x) (setQ (takeQ rr (incAt q.many (x : Int)))) = (p : Int) := hp
      rw [hpl] at htf
      have hsl : (stepL (othersA rr x) (setQ q.many)).length = 2 ^ (othersA rr x).length := by unfold stepL; simp
      have hpa : p < a.next.length := by rw [halen, hsl]; exact hplt
      have hn0 : a.next[p]? = some a.next[p] := List.getElem?_eq_getElem hpa
      obtain ⟨h0, t', ht, hS⟩ := hnext p _ hn0
      have hni : nextI rs a ⟨(x : Int), setQ (takeQ rr (incAt q.many (x : Int)))⟩ = a.next[p] := by
        unfold nextI
        rw [if_neg hneg]
        show a.next.getD (placeI (othersA (rs.getD a.rule.toNat 0) x) (setQ (takeQ rr (incAt q.many (x : Int))))).toNat 0 = _
        rw [hrule, hgb, hpl, Int.toNat_natCast]
        simp [List.getD, hn0]
      have e := qTo_some (rs := rs) (ch := chFirst) (N := N) (s0 := ()) (l := l) (k := k) (r := rr) (rd := (b : Int) :: t) rfl hx (by rw [← hqm]; exact hR) (by simp) (by
        show rs[((b : Int)).toNat]? = some rr
        rw [Int.toNat_natCast]; exact hbr)
      refine ⟨_, rfl, ?_, ?_, ?_, ?_⟩
      · rw [e, hqm]
      · rw [e, hqo]; rfl
      · simp only [hni]; exact h0
      · simp only [hni]
        rw [hS]
        have : t' = toF (othersA rr x) (setQ q.many) (p : Int) (othersA rr x).length := by
          have e9 := stepL_get (set := setQ q.many) hplt
          have e8 := ht.symm.trans e9
          exact Option.some.inj e8
        rw [this, htf]
end Go.Proofs.Ytlnonadkdonhmaa

/- The least machine, plainly: it is as defined, it says the same, and it has no more states; runs with machines that say the same. -/
namespace Go.Proofs.Ytlnonadkdonhmaa
open Go.RowKit Go.Maps

section
variable {n : Int} {rs : List Int} {m m' : Mach}
theorem lactsTo_get {row : List AAct} {l : List Int} : ∀ (k c : Nat) (a' : AAct), k ≤ row.length → (lactsTo m row l k).1[c]? = some a' → ∃ a, row[c]? = some a ∧ a'.rule = a.rule ∧ ∃ l', a'.next = (foldNum l' (a.next.map (fsT m))).1 ∧ (foldNum l' (a.next.map (fsT m))).2 <+: (lactsTo m row l k).2
  | 0, c, a, _, h => by simp [lactsTo] at h
  | k + 1, c, a', hk, h => by
    have hl := lactsTo_len (m := m) (row := row) (l := l) k (by omega)
    have hx : row[k]? = some row[k] := List.getElem?_eq_getElem (by omega)
    rw [lactsTo, hx] at h ⊢
    simp only at h ⊢
    by_cases hc : c < k
    · rw [List.getElem?_append_left (by omega)] at h
      obtain ⟨a, h1, h2, l', h3, h4⟩ := lactsTo_get k c a' (by omega) h
      exact ⟨a, h1, h2, l', h3, h4.trans (foldNum_pre _ _)⟩
    · have hcl := (List.getElem?_eq_some_iff.1 h).1
      simp [hl] at hcl
      have e : c = k := by omega
      subst e
      rw [List.getElem?_append_right (by omega), hl, Nat.sub_self] at h
      have ha : (⟨row[c].rule, (foldNum (lactsTo m row l c).2 (row[c].next.map (fsT m))).1⟩ : AAct) = a' := by injection h
      rw [← ha]
      exact ⟨row[c], hx, rfl, _, rfl, List.prefix_refl _⟩
theorem leastTo_row : ∀ (k i : Nat) (acts : List AAct), (leastTo m k).1[i]? = some acts → ∃ s l, (leastTo m k).2[i]? = some s ∧ acts = (lactsTo m (rowM m s.toNat) l (rowM m s.toNat).length).1 ∧ (lactsTo m (rowM m s.toNat) l (rowM m s.toNat).length).2 <+: (leastTo m k).2
  | 0, i, acts, h => by simp [leastTo] at h
  | k + 1, i, acts, h => by
    rw [leastTo] at h ⊢
    cases hs : (leastTo m k).2[k]? with
    | none =>
      rw [hs] at h
      exact leastTo_row k i acts h
    | some s =>
      rw [hs] at h
      simp only at h ⊢
      have hk := (List.getElem?_eq_some_iff.1 hs).1
      have hl := leastTo_len (m := m) (k := k) (by omega)
      by_cases hi : i < k
      · rw [List.getElem?_append_left (by omega)] at h
        obtain ⟨s', l', h1, h2, h3⟩ := leastTo_row k i acts h
        exact ⟨s', l', pre_get (lactsTo_pre _ _ _) h1, h2, h3.trans (lactsTo_pre _ _ _)⟩
      · have hil := (List.getElem?_eq_some_iff.1 h).1
        simp [hl] at hil
        have e : i = k := by omega
        subst e
        rw [List.getElem?_append_right (by omega), hl, Nat.sub_self] at h
        have ha := Option.some.inj h
        exact ⟨s, _, pre_get (lactsTo_pre _ _ _) hs, ha.symm, List.prefix_refl _⟩
theorem leastTo_min : ∀ k, (leastTo m k).1.length = min k (leastTo m k).2.length
  | 0 => by simp [leastTo]
  | k + 1 => by
    have ih := leastTo_min k
    rw [leastTo]
    cases hs : (leastTo m k).2[k]? with
    | none =>
      have := List.getElem?_eq_none_iff.1 hs
      simp only
      omega
    | some s =>
      have hk := (List.getElem?_eq_some_iff.1 hs).1
      have hp := (lactsTo_pre (m := m) (rowM m s.toNat) (leastTo m k).2 (rowM m s.toNat).length).length_le
      simp only [List.length_append, List.length_cons, List.length_nil]
      omega
theorem leastH_ok (hf : formedA n rs m = true) : HeadsOk m (leastH m) := leastTo_ok hf 64
theorem leastM_len (hf : formedA n rs m = true) : (leastM m).length = (leastH m).length := by
  have h := ((leastH_ok hf).sets (formed_len hf).2).len
  have e := leastTo_min (m := m) 64
  unfold leastM leastH at *
  omega
theorem leastM_le (hf : formedA n rs m = true) : (leastM m).length ≤ m.length := by
  rw [leastM_len hf]
  exact nodup_below _ _ (leastH_ok hf).nodup fun x hx => ((leastH_ok hf).all x hx).1
theorem leastH_zero : (leastH m)[0]? = some 0 := by
  have gen : ∀ k, [0] <+: (leastTo m k).2 := by
    intro k
    induction k with
    | zero => exact List.prefix_refl _
    | succ k ih => exact ih.trans (leastTo_pre k)
  exact pre_get (gen 64) rfl
/-- The acts of a state of the least machine. -/
theorem least_row (hf : formedA n rs m = true) {i : Nat} {s : Int} (hs : (leastH m)[i]? = some s) :
    (rowM (leastM m) i).length = (rowM m s.toNat).length ∧ ∀ (c : Nat) (a' : AAct), (rowM (leastM m) i)[c]? = some a' → ∃ a, (rowM m s.toNat)[c]? = some a ∧ a'.rule = a.rule ∧ a'.next.length = a.next.length ∧
      ∀ (j : Nat) (q : Int), a'.next[j]? = some q → 0 ≤ q ∧ ∃ p, a.next[j]? = some p ∧ (leastH m)[q.toNat]? = some (fsT m p) := by
  have hi := (List.getElem?_eq_some_iff.1 hs).1
  have hl := leastM_len hf
  have hm : (leastM m)[i]? = some (rowM (leastM m) i) := by
    unfold rowM
    simp [List.getD, List.getElem?_eq_getElem (show i < (leastM m).length by omega)]
  obtain ⟨s', l, h1, h2, h3⟩ := leastTo_row 64 i _ hm
  have e : s = s' := Option.some.inj (hs.symm.trans h1)
  subst e
  have hal := lactsTo_len (m := m) (row := rowM m s.toNat) (l := l) _ (Nat.le_refl _)
  refine ⟨by rw [h2]; exact hal, fun c a' ha => ?_⟩
  rw [h2] at ha
  obtain ⟨a, g1, g2, l', g3, g4⟩ := lactsTo_get _ c a' (Nat.le_refl _) ha
  refine ⟨a, g1, g2, by rw [g3, foldNum_len1, List.length_map], fun j q hq => ?_⟩
  rw [g3] at hq
  obtain ⟨x, hx, h0, hg⟩ := foldNum_get l' _ _ rfl j q hq
  rw [List.getElem?_map] at hx
  obtain ⟨p, hp, hpx⟩ := Option.map_eq_some_iff.1 hx
  exact ⟨h0, p, hp, by rw [hpx]; exact pre_get (g4.trans h3) hg⟩
theorem least_state (hf : formedA n rs m = true) {i : Nat} (hi : i < (leastM m).length) : ∃ s : Nat, (leastH m)[i]? = some (s : Int) ∧ s < m.length ∧ firstA m s = s := by
  have hil : i < (leastH m).length := by rw [← leastM_len hf]; exact hi
  have hx : (leastH m)[i]? = some (leastH m)[i] := List.getElem?_eq_getElem hil
  obtain ⟨h1, h2⟩ := (leastH_ok hf).all _ (List.mem_of_getElem? hx)
  obtain ⟨s, hs⟩ := Int.eq_ofNat_of_zero_le h1.1
  rw [hs] at hx h1 h2
  refine ⟨s, hx, by omega, ?_⟩
  unfold fsT at h2
  rw [Int.toNat_natCast] at h2
  omega
/-- A state of the least machine says what those say whose class it is. -/
theorem least_bis (hf : formedA n rs m = true) : Bis (leastM m) m (fun k s => s < m.length ∧ (leastH m)[k]? = some (firstA m s : Int)) := by
  refine ⟨?_, ?_, ?_⟩
  · rintro k s ⟨h1, h2⟩
    exact ⟨by rw [leastM_len hf]; exact (List.getElem?_eq_some_iff.1 h2).1, h1⟩
  · rintro k s ⟨h1, h2⟩ c x y hx hy
    obtain ⟨_, hr⟩ := least_row hf h2
    obtain ⟨a, ha, hrule, _⟩ := hr c x hx
    rw [Int.toNat_natCast] at ha
    rw [hrule]
    exact (firstA_sim hf h1).rule c a y ha hy
  · rintro k s ⟨h1, h2⟩ c x y j p q hx hy hp hq
    obtain ⟨_, hr⟩ := least_row hf h2
    obtain ⟨a, ha, _, _, hn⟩ := hr c x hx
    rw [Int.toNat_natCast] at ha
    obtain ⟨h0, p', hp', hH⟩ := hn j p hp
    have hs := (firstA_sim hf h1).next ha hy hp' hq
    refine ⟨hs.lt.2, ?_⟩
    rw [hH]
    unfold fsT
    rw [(first_iff hf hs.lt.1 hs.lt.2).1 hs]
theorem least_formed (hf : formedA n rs m = true) : formedA n rs (leastM m) = true := by
  have hg := formed_grp hf
  have hlen := leastM_len hf
  have hle := leastM_le hf
  have hm := formed_len hf
  have h1 : 1 ≤ (leastM m).length := by
    rw [hlen]
    have := (List.getElem?_eq_some_iff.1 (leastH_zero (m := m))).1
    omega
  unfold formedA
  simp only [Bool.and_eq_true, decide_eq_true_eq]
  refine ⟨⟨⟨hg, h1⟩, by omega⟩, ?_⟩
  rw [List.all_eq_true]
  intro acts hmem
  obtain ⟨i, hi⟩ := List.getElem?_of_mem hmem
  have hil := (List.getElem?_eq_some_iff.1 hi).1
  obtain ⟨s, hs, hsm, _⟩ := least_state hf hil
  have e : rowM (leastM m) i = acts := by unfold rowM; simp [List.getD, hi]
  obtain ⟨hl, hr⟩ := least_row hf hs
  rw [e, Int.toNat_natCast] at hl
  rw [e] at hr
  have hrl := rowM_len hf hsm
  unfold rowOkA
  rw [Bool.and_eq_true]
  refine ⟨by rw [decide_eq_true_eq]; omega, ?_⟩
  unfold allTo
  rw [List.all_eq_true]
  intro c hc
  have hcl := List.mem_range.1 hc
  rw [List.getElem?_eq_getElem hcl]
  simp only [Option.all_some]
  obtain ⟨a, ha, hrule, hnl, hn⟩ := hr c _ (List.getElem?_eq_getElem hcl)
  rw [Int.toNat_natCast] at ha
  have hok := act_ok hf hsm ha
  unfold actOkA at hok ⊢
  simp only [Bool.and_eq_true, decide_eq_true_eq] at hok ⊢
  refine ⟨⟨by rw [hrule]; exact hok.1.1, by rw [hrule, hnl]; exact hok.1.2⟩, ?_⟩
  rw [List.all_eq_true]
  intro q hq
  obtain ⟨j, hj⟩ := List.getElem?_of_mem hq
  obtain ⟨h0, p, _, hH⟩ := hn j q hj
  have := (List.getElem?_eq_some_iff.1 hH).1
  unfold nextOk
  simp only [Bool.and_eq_true, decide_eq_true_eq]
  omega
theorem others_len5 {r : Int} {c : Nat} (hr : isB r) (hc : c < 6) : (othersA r c).length ≤ 5 := by
  have h : ((List.range 6).filter fun i : Nat => inI (bits BinOp.andNot .i64 r (2 ^ ((c : Int)).toNat)) i).length < (List.range 6).length := by
    rw [List.length_filter_lt_length_iff_exists]
    refine ⟨c, List.mem_range.2 hc, ?_⟩
    rw [Int.toNat_natCast, in_clr hr hc hc]
    simp
  have e : (othersA r c).length = ((List.range 6).filter fun i : Nat => inI (bits BinOp.andNot .i64 r (2 ^ ((c : Int)).toNat)) i).length := by
    show (List.map _ _).length = _
    rw [List.length_map]
  rw [e]
  simp at h ⊢
  omega
theorem formed_compact (hf : formedA n rs m = true) : compactB m = true := by
  have hm := formed_len hf
  have h6 := (grpOk_true (formed_grp hf)).2.1
  unfold compactB
  rw [Bool.and_eq_true]
  refine ⟨by rw [decide_eq_true_eq]; omega, ?_⟩
  rw [List.all_eq_true]
  intro acts hmem
  obtain ⟨i, hi⟩ := List.getElem?_of_mem hmem
  have hil := (List.getElem?_eq_some_iff.1 hi).1
  have e : rowM m i = acts := by unfold rowM; simp [List.getD, hi]
  have hl := rowM_len hf hil
  rw [e] at hl
  unfold rowC
  simp only [Bool.and_eq_true, decide_eq_true_eq, List.all_eq_true]
  refine ⟨by omega, fun a ha => ?_⟩
  obtain ⟨c, hc⟩ := List.getElem?_of_mem ha
  have hcl := (List.getElem?_eq_some_iff.1 hc).1
  have hok := act_ok hf hil (by rw [e]; exact hc)
  unfold actC
  rw [decide_eq_true_eq, next_many hok]
  unfold manyA
  have h5 := others_len5 (r := rs.getD a.rule.toNat 0) (c := c) (getB (bAll_of (formed_grp hf)) _) (by omega)
  have hp : 2 ^ (othersA (rs.getD a.rule.toNat 0) (c : Int)).length ≤ 2 ^ 5 := Nat.pow_le_pow_right (by decide) h5
  split
  · omega
  · omega

/-! ### runs with machines that say the same -/
def idxN (rs : List Int) (rule : Int) (x : Lt) : Nat := if rule < 0 then 0 else (placeI (othersA (rs.getD rule.toNat 0) x.ch) x.keep).toNat
theorem nextI_idx (rs : List Int) (a : AAct) (x : Lt) : nextI rs a x = a.next.getD (idxN rs a.rule x) 0 := by
  unfold nextI idxN
  split <;> rfl
theorem idxN_lt {len : Nat} {a : AAct} {x : Lt} (ha : actOkA rs len x.ch a = true) : idxN rs a.rule x < a.next.length := by
  have hlen := next_many ha
  simp only [actOkA, ruleOk, Bool.and_eq_true, Bool.or_eq_true, decide_eq_true_eq] at ha
  unfold idxN
  split
  · rename_i hneg
    have h1 : a.rule = -1 := by
      rcases ha.1.1 with h | h
      · exact h
      · have := h.1.1; omega
    rw [hlen, manyA, if_pos h1]
    omega
  · exact next_lt (by omega) hlen
/-- The acts of two states that say the same, at one letter. -/
theorem Bis.step (hf : formedA n rs m = true) (hf' : formedA n rs m' = true) {R : Nat → Nat → Prop} (hB : Bis m m' R) {s t : Int} (hs : 0 ≤ s) (ht : 0 ≤ t) (hR : R s.toNat t.toNat) {c : Nat} (hc : (c : Int) < n) (keep : Int) :
    (actAt m s c).rule = (actAt m' t c).rule ∧ 0 ≤ nextI rs (actAt m s c) ⟨c, keep⟩ ∧ 0 ≤ nextI rs (actAt m' t c) ⟨c, keep⟩ ∧ R (nextI rs (actAt m s c) ⟨c, keep⟩).toNat (nextI rs (actAt m' t c) ⟨c, keep⟩).toNat := by
  obtain ⟨h1, h2⟩ := hB.lt _ _ hR
  have hl := rowM_len hf h1
  have hx : (rowM m s.toNat)[c]? = some ((rowM m s.toNat)[c]'(by omega)) := List.getElem?_eq_getElem (by omega)
  obtain ⟨y, hy, hr, hn⟩ := hB.at_ hf hf' hR hx
  have e1 := actAt_row hx
  have e2 := actAt_row hy
  rw [Int.toNat_of_nonneg hs] at e1
  rw [Int.toNat_of_nonneg ht] at e2
  rw [e1, e2]
  have hi := idxN_lt (x := ⟨(c : Int), keep⟩) (act_ok hf h1 hx)
  have hi2 : idxN rs y.rule ⟨(c : Int), keep⟩ < y.next.length := by rw [← hr, ← hn]; exact hi
  have hp : ((rowM m s.toNat)[c]'(by omega)).next[idxN rs ((rowM m s.toNat)[c]'(by omega)).rule ⟨(c : Int), keep⟩]? = some (nextI rs ((rowM m s.toNat)[c]'(by omega)) ⟨(c : Int), keep⟩) := by
    rw [nextI_idx, List.getElem?_eq_getElem hi]
    simp [List.getD, List.getElem?_eq_getElem hi]
  have hq : y.next[idxN rs y.rule ⟨(c : Int), keep⟩]? = some (nextI rs y ⟨(c : Int), keep⟩) := by
    rw [nextI_idx, List.getElem?_eq_getElem hi2]
    simp [List.getD, List.getElem?_eq_getElem hi2]
  have hp0 := act_next hf h1 hx (List.mem_of_getElem? hp)
  have hq0 := act_next hf' h2 hy (List.mem_of_getElem? hq)
  rw [← hr] at hq
  exact ⟨hr, hp0.1, hq0.1, hB.next _ _ hR c _ y _ _ _ hx hy hp hq⟩
theorem run_bis {N : Nat} {l : List Int} (hf : formedA (N : Int) rs m = true) (hf' : formedA (N : Int) rs m' = true) {R : Nat → Nat → Prop} (hB : Bis m m' R) (h0 : R 0 0) (hl : ∀ x ∈ l, 0 ≤ x ∧ x < (N : Int)) : ∀ k, k ≤ l.length →
    (rnTo rs m N l k = none ∧ rnTo rs m' N l k = none) ∨ ∃ q q', rnTo rs m N l k = some q ∧ rnTo rs m' N l k = some q' ∧ q.many = q'.many ∧ q.out = q'.out ∧ 0 ≤ q.st ∧ 0 ≤ q'.st ∧ R q.st.toNat q'.st.toNat
  | 0, _ => .inr ⟨_, _, rfl, rfl, rfl, rfl, Int.le_refl _, Int.le_refl _, h0⟩
  | k + 1, hk => by
    have hx : l[k]? = some l[k] := List.getElem?_eq_getElem (by omega)
    have hxb := hl _ (List.mem_of_getElem? hx)
    obtain ⟨x, hxe⟩ := Int.eq_ofNat_of_zero_le hxb.1
    rw [hxe] at hx hxb
    rcases run_bis hf hf' hB h0 hl k (by omega) with ⟨h1, h2⟩ | ⟨q, q', h1, h2, hm, ho, hs, ht, hR⟩
    · exact .inl ⟨rnTo_none h1 1, rnTo_none h2 1⟩
    · rw [rnTo_step h1 hx, rnTo_step h2 hx]
      have hst := fun keep => hB.step hf hf' hs ht hR (c := x) (by omega) keep
      have hr := (hst 0).1
      unfold rnStep
      rw [← hr, ← hm]
      by_cases hneg : (actAt m q.st (x : Int)).rule < 0
      · rw [if_pos hneg, if_pos hneg]
        obtain ⟨_, g1, g2, g3⟩ := hst (setQ (incAt q.many (x : Int)))
        exact .inr ⟨_, _, rfl, rfl, rfl, by simp only [ho], g1, g2, g3⟩
      · rw [if_neg hneg, if_neg hneg]
        by_cases hw : withinI (rs.getD (actAt m q.st (x : Int)).rule.toNat 0) (setQ (incAt q.many (x : Int))) = true
        · rw [if_pos hw, if_pos hw]
          obtain ⟨_, g1, g2, g3⟩ := hst (setQ (takeQ (rs.getD (actAt m q.st (x : Int)).rule.toNat 0) (incAt q.many (x : Int))))
          exact .inr ⟨_, _, rfl, rfl, rfl, by simp only [ho], g1, g2, g3⟩
        · rw [if_neg hw, if_neg hw]
          exact .inl ⟨rfl, rfl⟩
end
end Go.Proofs.Ytlnonadkdonhmaa
