/- Contracts and lemmas that a claim of this seat uses. -/
import Derived.Test.YtlnonadkdonhmaaL31
import Derived.Test.YtlnonadkdonhmaaL11
import Derived.Test.YtlnonadkdonhmaaL1

/- The least machine, plainly: it is as defined, it says the same, and it has no more states. -/
namespace Go.Proofs.Ytlnonadkdonhmaa
open Go.RowKit Go.Maps

theorem getB0 {rs : List Int} (h : bAll rs) (i : Nat) : isB (rs.getD i 0) := by
  cases e : rs[i]? with
  | none => simp only [List.getD, e]; exact ⟨by decide, by decide⟩
  | some r => simp only [List.getD, e]; exact h r (List.mem_of_getElem? e)

theorem clr_all : ((List.range 64).all fun s => (List.range 6).all fun o => (List.range 6).all fun x => inI (bits BinOp.andNot .i64 (s : Int) (2 ^ o)) (x : Int) == (inI (s : Int) (x : Int) && !(x == o))) = true := by kernel_rfl
theorem in_clr {s : Int} {o x : Nat} (hs : isB s) (ho : o < 6) (hx : x < 6) : inI (bits BinOp.andNot .i64 s (2 ^ o)) x = (inI s x && !(x == o)) := by
  obtain ⟨y, rfl, hy⟩ := nat_of hs
  have h1 := List.all_eq_true.1 clr_all y (List.mem_range.2 hy)
  have h2 := List.all_eq_true.1 h1 o (List.mem_range.2 ho)
  have h3 := List.all_eq_true.1 h2 x (List.mem_range.2 hx)
  exact beq_iff_eq.1 h3
theorem addNum_idx (l : List Int) (x : Int) : (addNum l x)[l.idxOf x]? = some x := by
  unfold addNum
  split
  · rename_i h
    exact idxOf_get h
  · rename_i h
    rw [List.idxOf_eq_length h, List.getElem?_append_right (Nat.le_refl _), Nat.sub_self]
    rfl
theorem actAt_row {m : Mach} {s c : Nat} {a : AAct} (h : (rowM m s)[c]? = some a) : actAt m (s : Int) (c : Int) = a := by
  show ((m.getD ((s : Int)).toNat []).getD ((c : Int)).toNat ⟨0, []⟩) = a
  rw [Int.toNat_natCast, Int.toNat_natCast]
  show (rowM m s).getD c ⟨0, []⟩ = a
  simp [List.getD, h]

theorem pre_get {l l' : List Int} {i : Nat} {x : Int} (h : l <+: l') (hi : l[i]? = some x) : l'[i]? = some x := by
  obtain ⟨t, rfl⟩ := h
  rw [List.getElem?_append_left (List.getElem?_eq_some_iff.1 hi).1]
  exact hi
theorem foldNum_get (l : List Int) : ∀ (n : Nat) (xs : List Int), xs.length = n → ∀ (j : Nat) (q : Int), (foldNum l xs).1[j]? = some q → ∃ x, xs[j]? = some x ∧ 0 ≤ q ∧ (foldNum l xs).2[q.toNat]? = some x
  | 0, xs, hn, j, q, h => by
    obtain rfl := List.eq_nil_of_length_eq_zero hn
    simp [foldNum] at h
  | n + 1, xs, hn, j, q, h => by
    obtain ⟨ys, y, rfl⟩ : ∃ ys y, xs = ys ++ [y] := by
      rcases List.eq_nil_or_concat xs with rfl | ⟨ys, y, e⟩
      · simp at hn
      · exact ⟨ys, y, by rw [e, List.concat_eq_append]⟩
    have hyl : ys.length = n := by simp at hn; exact hn
    rw [foldNum_snoc] at h ⊢
    simp only at h ⊢
    have hl1 := foldNum_len1 l ys
    by_cases hj : j < ys.length
    · rw [List.getElem?_append_left (by omega)] at h
      obtain ⟨x, hx, h0, hg⟩ := foldNum_get l n ys hyl j q h
      exact ⟨x, by rw [List.getElem?_append_left hj]; exact hx, h0, pre_get (addNum_pre _ _) hg⟩
    · have hjl := (List.getElem?_eq_some_iff.1 h).1
      simp at hjl
      have e : j = ys.length := by omega
      subst e
      rw [List.getElem?_append_right (by omega), hl1, Nat.sub_self] at h
      have hq : ((foldNum l ys).2.idxOf y : Int) = q := by injection h
      refine ⟨y, by rw [List.getElem?_append_right (Nat.le_refl _), Nat.sub_self]; rfl, by omega, ?_⟩
      rw [← hq, Int.toNat_natCast]
      exact addNum_idx _ _

section
variable {n : Int} {rs : List Int} {m m' : Mach}
theorem lactsTo_get {row : List AAct} {l : List Int} : ∀ (k c : Nat) (a' : AAct), k ≤ row.length → (lactsTo m row l k).1[c]? = some a' → ∃ a, row[c]? = some a ∧ a'.rule = a.rule ∧ ∃ l', a'.next = (foldNum l' (a.next.map (fsT m))).1 ∧ (foldNum l' (a.next.map (fsT m))).2 <+: (lactsTo m row l k).2
  | 0, c, a, _, h => by simp [lactsTo] at h
  | k + 1, c, a', hk, h => by
    have hl := lactsTo_len (m := m) (row := row) (l := l) k (by omega)
    have hx : row[k]? = some row[k] := List.getElem?_eq_getElem (by omega)
    rw [lactsTo, hx] at h ⊢
    simp only at h ⊢
    by_cases hc : c < k
    · rw [List.getElem?_append_left (by omega)] at h
      obtain ⟨a, h1, h2, l', h3, h4⟩ := lactsTo_get k c a' (by omega) h
      exact ⟨a, h1, h2, l', h3, h4.trans (foldNum_pre _ _)⟩
    · have hcl := (List.getElem?_eq_some_iff.1 h).1
      simp [hl] at hcl
      have e : c = k := by omega
      subst e
      rw [List.getElem?_append_right (by omega), hl, Nat.sub_self] at h
      have ha : (⟨row[c].rule, (foldNum (lactsTo m row l c).2 (row[c].next.map (fsT m))).1⟩ : AAct) = a' := by injection h
      rw [← ha]
      exact ⟨row[c], hx, rfl, _, rfl, List.prefix_refl _⟩
theorem leastTo_row : ∀ (k i : Nat) (acts : List AAct), (leastTo m k).1[i]? = some acts → ∃ s l, (leastTo m k).2[i]? = some s ∧ acts = (lactsTo m (rowM m s.toNat) l (rowM m s.toNat).length).1 ∧ (lactsTo m (rowM m s.toNat) l (rowM m s.toNat).length).2 <+: (leastTo m k).2
  | 0, i, acts, h => by simp [leastTo] at h
  | k + 1, i, acts, h => by
    rw [leastTo] at h ⊢
    cases hs : (leastTo m k).2[k]? with
    | none =>
      rw [hs] at h
      exact leastTo_row k i acts h
    | some s =>
      rw [hs] at h
      simp only at h ⊢
      have hk := (List.getElem?_eq_some_iff.1 hs).1
      have hl := leastTo_len (m := m) (k := k) (by omega)
      by_cases hi : i < k
      · rw [List.getElem?_append_left (by omega)] at h
        obtain ⟨s', l', h1, h2, h3⟩ := leastTo_row k i acts h
        exact ⟨s', l', pre_get (lactsTo_pre _ _ _) h1, h2, h3.trans (lactsTo_pre _ _ _)⟩
      · have hil := (List.getElem?_eq_some_iff.1 h).1
        simp [hl] at hil
        have e : i = k := by omega
        subst e
        rw [List.getElem?_append_right (by omega), hl, Nat.sub_self] at h
        have ha := Option.some.inj h
        exact ⟨s, _, pre_get (lactsTo_pre _ _ _) hs, ha.symm, List.prefix_refl _⟩
theorem leastTo_min : ∀ k, (leastTo m k).1.length = min k (leastTo m k).2.length
  | 0 => by simp [leastTo]
  | k + 1 => by
    have ih := leastTo_min k
    rw [leastTo]
    cases hs : (leastTo m k).2[k]? with
    | none =>
      have := List.getElem?_eq_none_iff.1 hs
      simp only
      omega
    | some s =>
      have hk := (List.getElem?_eq_some_iff.1 hs).1
      have hp := (lactsTo_pre (m := m) (rowM m s.toNat) (leastTo m k).2 (rowM m s.toNat).length).length_le
      simp only [List.length_append, List.length_cons, List.length_nil]
      omega
theorem leastH_ok (hf : formedA n rs m = true) : HeadsOk m (leastH m) := leastTo_ok hf 64
theorem leastM_len (hf : formedA n rs m = true) : (leastM m).length = (leastH m).length := by
  have h := ((leastH_ok hf).sets (formed_len hf).2).len
  have e := leastTo_min (m := m) 64
  unfold leastM leastH at *
  omega
theorem leastM_le (hf : formedA n rs m = true) : (leastM m).length ≤ m.length := by
  rw [leastM_len hf]
  exact nodup_below _ _ (leastH_ok hf).nodup fun x hx => ((leastH_ok hf).all x hx).1
theorem leastH_zero : (leastH m)[0]? = some 0 := by
  have gen : ∀ k, [0] <+: (leastTo m k).2 := by
    intro k
    induction k with
    | zero => exact List.prefix_refl _
    | succ k ih => exact ih.trans (leastTo_pre k)
  exact pre_get (gen 64) rfl
/-- The acts of a state of the least machine. -/
theorem least_row (hf : formedA n rs m = true) {i : Nat} {s : Int} (hs : (leastH m)[i]? = some s) :
    (rowM (leastM m) i).length = (rowM m s.toNat).length ∧ ∀ (c : Nat) (a' : AAct), (rowM (leastM m) i)[c]? = some a' → ∃ a, (rowM m s.toNat)[c]? = some a ∧ a'.rule = a.rule ∧ a'.next.length = a.next.length ∧
      ∀ (j : Nat) (q : Int), a'.next[j]? = some q → 0 ≤ q ∧ ∃ p, a.next[j]? = some p ∧ (leastH m)[q.toNat]? = some (fsT m p) := by
  have hi := (List.getElem?_eq_some_iff.1 hs).1
  have hl := leastM_len hf
  have hm : (leastM m)[i]? = some (rowM (leastM m) i) := by
    unfold rowM
    simp [List.getD, List.getElem?_eq_getElem (show i < (leastM m).length by omega)]
  obtain ⟨s', l, h1, h2, h3⟩ := leastTo_row 64 i _ hm
  have e : s = s' := Option.some.inj (hs.symm.trans h1)
  subst e
  have hal := lactsTo_len (m := m) (row := rowM m s.toNat) (l := l) _ (Nat.le_refl _)
  refine ⟨by rw [h2]; exact hal, fun c a' ha => ?_⟩
  rw [h2] at ha
  obtain ⟨a, g1, g2, l', g3, g4⟩ := lactsTo_get _ c a' (Nat.le_refl _) ha
  refine ⟨a, g1, g2, by rw [g3, foldNum_len1, List.length_map], fun j q hq => ?_⟩
  rw [g3] at hq
  obtain ⟨x, hx, h0, hg⟩ := foldNum_get l' _ _ rfl j q hq
  rw [List.getElem?_map] at hx
  obtain ⟨p, hp, hpx⟩ := Option.map_eq_some_iff.1 hx
  exact ⟨h0, p, hp, by rw [hpx]; exact pre_get (g4.trans h3) hg⟩
theorem least_state (hf : formedA n rs m = true) {i : Nat} (hi : i < (leastM m).length) : ∃ s : Nat, (leastH m)[i]? = some (s : Int) ∧ s < m.length ∧ firstA m s = s := by
  have hil : i < (leastH m).length := by rw [← leastM_len hf]; exact hi
  have hx : (leastH m)[i]? = some (leastH m)[i] := List.getElem?_eq_getElem hil
  obtain ⟨h1, h2⟩ := (leastH_ok hf).all _ (List.mem_of_getElem? hx)
  obtain ⟨s, hs⟩ := Int.eq_ofNat_of_zero_le h1.1
  rw [hs] at hx h1 h2
  refine ⟨s, hx, by omega, ?_⟩
  unfold fsT at h2
  rw [Int.toNat_natCast] at h2
  omega
/-- A state of the least machine says what those say whose class it is. -/
theorem least_bis (hf : formedA n rs m = true) : Bis (leastM m) m (fun k s => s < m.length ∧ (leastH m)[k]? = some (firstA m s : Int)) := by
  refine ⟨?_, ?_, ?_⟩
  · rintro k s ⟨h1, h2⟩
    exact ⟨by rw [leastM_len hf]; exact (List.getElem?_eq_some_iff.1 h2).1, h1⟩
  · rintro k s ⟨h1, h2⟩ c x y hx hy
    obtain ⟨_, hr⟩ := least_row hf h2
    obtain ⟨a, ha, hrule, _⟩ := hr c x hx
    rw [Int.toNat_natCast] at ha
    rw [hrule]
    exact (firstA_sim hf h1).rule c a y ha hy
  · rintro k s ⟨h1, h2⟩ c x y j p q hx hy hp hq
    obtain ⟨_, hr⟩ := least_row hf h2
    obtain ⟨a, ha, _, _, hn⟩ := hr c x hx
    rw [Int.toNat_natCast] at ha
    obtain ⟨h0, p', hp', hH⟩ := hn j p hp
    have hs := (firstA_sim hf h1).next ha hy hp' hq
    refine ⟨hs.lt.2, ?_⟩
    rw [hH]
    unfold fsT
    rw [(first_iff hf hs.lt.1 hs.lt.2).1 hs]
theorem least_formed (hf : formedA n rs m = true) : formedA n rs (leastM m) = true := by
  have hg := formed_grp hf
  have hlen := leastM_len hf
  have hle := leastM_le hf
  have hm := formed_len hf
  have h1 : 1 ≤ (leastM m).length := by
    rw [hlen]
    have := (List.getElem?_eq_some_iff.1 (leastH_zero (m := m))).1
    omega
  unfold formedA
  simp only [Bool.and_eq_true, decide_eq_true_eq]
  refine ⟨⟨⟨hg, h1⟩, by omega⟩, ?_⟩
  rw [List.all_eq_true]
  intro acts hmem
  obtain ⟨i, hi⟩ := List.getElem?_of_mem hmem
  have hil := (List.getElem?_eq_some_iff.1 hi).1
  obtain ⟨s, hs, hsm, _⟩ := least_state hf hil
  have e : rowM (leastM m) i = acts := by unfold rowM; simp [List.getD, hi]
  obtain ⟨hl, hr⟩ := least_row hf hs
  rw [e, Int.toNat_natCast] at hl
  rw [e] at hr
  have hrl := rowM_len hf hsm
  unfold rowOkA
  rw [Bool.and_eq_true]
  refine ⟨by rw [decide_eq_true_eq]; omega, ?_⟩
  unfold allTo
  rw [List.all_eq_true]
  intro c hc
  have hcl := List.mem_range.1 hc
  rw [List.getElem?_eq_getElem hcl]
  simp only [Option.all_some]
  obtain ⟨a, ha, hrule, hnl, hn⟩ := hr c _ (List.getElem?_eq_getElem hcl)
  rw [Int.toNat_natCast] at ha
  have hok := act_ok hf hsm ha
  unfold actOkA at hok ⊢
  simp only [Bool.and_eq_true, decide_eq_true_eq] at hok ⊢
  refine ⟨⟨by rw [hrule]; exact hok.1.1, by rw [hrule, hnl]; exact hok.1.2⟩, ?_⟩
  rw [List.all_eq_true]
  intro q hq
  obtain ⟨j, hj⟩ := List.getElem?_of_mem hq
  obtain ⟨h0, p, _, hH⟩ := hn j q hj
  have := (List.getElem?_eq_some_iff.1 hH).1
  unfold nextOk
  simp only [Bool.and_eq_true, decide_eq_true_eq]
  omega
theorem others_len5 {r : Int} {c : Nat} (hr : isB r) (hc : c < 6) : (othersA r c).length ≤ 5 := by
  have h : ((List.range 6).filter fun i : Nat => inI (bits BinOp.andNot .i64 r (2 ^ ((c : Int)).toNat)) i).length < (List.range 6).length := by
    rw [List.length_filter_lt_length_iff_exists]
    refine ⟨c, List.mem_range.2 hc, ?_⟩
    rw [Int.toNat_natCast, in_clr hr hc hc]
    simp
  have e : (othersA r c).length = ((List.range 6).filter fun i : Nat => inI (bits BinOp.andNot .i64 r (2 ^ ((c : Int)).toNat)) i).length := by
    show (List.map _ _).length = _
    rw [List.length_map]
  rw [e]
  simp at h ⊢
  omega
theorem formed_compact (hf : formedA n rs m = true) : compactB m = true := by
  have hm := formed_len hf
  have h6 := (grpOk_true (formed_grp hf)).2.1
  unfold compactB
  rw [Bool.and_eq_true]
  refine ⟨by rw [decide_eq_true_eq]; omega, ?_⟩
  rw [List.all_eq_true]
  intro acts hmem
  obtain ⟨i, hi⟩ := List.getElem?_of_mem hmem
  have hil := (List.getElem?_eq_some_iff.1 hi).1
  have e : rowM m i = acts := by unfold rowM; simp [List.getD, hi]
  have hl := rowM_len hf hil
  rw [e] at hl
  unfold rowC
  simp only [Bool.and_eq_true, decide_eq_true_eq, List.all_eq_true]
  refine ⟨by omega, fun a ha => ?_⟩
  obtain ⟨c, hc⟩ := List.getElem?_of_mem ha
  have hcl := (List.getElem?_eq_some_iff.1 hc).1
  have hok := act_ok hf hil (by rw [e]; exact hc)
  unfold actC
  rw [decide_eq_true_eq, next_many hok]
  unfold manyA
  have h5 := others_len5 (r := rs.getD a.rule.toNat 0) (c := c) (getB0 (bAll_of (formed_grp hf)) _) (by omega)
  have hp : 2 ^ (othersA (rs.getD a.rule.toNat 0) (c : Int)).length ≤ 2 ^ 5 := Nat.pow_le_pow_right (by decide) h5
  split
  · omega
  · omega

/-! ### runs with machines that say the same -/
def idxN (rs : List Int) (rule : Int) (x : Lt) : Nat := if rule < 0 then 0 else (placeI (othersA (rs.getD rule.toNat 0) x.ch) x.keep).toNat
theorem nextI_idx (rs : List Int) (a : AAct) (x : Lt) : nextI rs a x = a.next.getD (idxN rs a.rule x) 0 := by
  unfold nextI idxN
  split <;> rfl
theorem idxN_lt {len : Nat} {a : AAct} {x : Lt} (ha : actOkA rs len x.ch a = true) : idxN rs a.rule x < a.next.length := by
  have hlen := next_many ha
  simp only [actOkA, ruleOk, Bool.and_eq_true, Bool.or_eq_true, decide_eq_true_eq] at ha
  unfold idxN
  split
  · rename_i hneg
    have h1 : a.rule = -1 := by
      rcases ha.1.1 with h | h
      · exact h
      · have := h.1.1; omega
    rw [hlen, manyA, if_pos h1]
    omega
  · exact next_lt (by omega) hlen
/-- The acts of two states that say the same, at one letter. -/
theorem Bis.step (hf : formedA n rs m = true) (hf' : formedA n rs m' = true) {R : Nat → Nat → Prop} (hB : Bis m m' R) {s t : Int} (hs : 0 ≤ s) (ht : 0 ≤ t) (hR : R s.toNat t.toNat) {c : Nat} (hc : (c : Int) < n) (keep : Int) :
    (actAt m s c).rule = (actAt m' t c).rule ∧ 0 ≤ nextI rs (actAt m s c) ⟨c, keep⟩ ∧ 0 ≤ nextI rs (actAt m' t c) ⟨c, keep⟩ ∧ R (nextI rs (actAt m s c) ⟨c, keep⟩).toNat (nextI rs (actAt m' t c) ⟨c, keep⟩).toNat := by
  obtain ⟨h1, h2⟩ := hB.lt _ _ hR
  have hl := rowM_len hf h1
  have hx : (rowM m s.toNat)[c]? = some ((rowM m s.toNat)[c]'(by omega)) := List.getElem?_eq_getElem (by omega)
  obtain ⟨y, hy, hr, hn⟩ := hB.at_ hf hf' hR hx
  have e1 := actAt_row hx
  have e2 := actAt_row hy
  rw [Int.toNat_of_nonneg hs] at e1
  rw [Int.toNat_of_nonneg ht] at e2
  rw [e1, e2]
  have hi := idxN_lt (x := ⟨(c : Int), keep⟩) (act_ok hf h1 hx)
  have hi2 : idxN rs y.rule ⟨(c : Int), keep⟩ < y.next.length := by rw [← hr, ← hn]; exact hi
  have hp : ((rowM m s.toNat)[c]'(by omega)).next[idxN rs ((rowM m s.toNat)[c]'(by omega)).rule ⟨(c : Int), keep⟩]? = some (nextI rs ((rowM m s.toNat)[c]'(by omega)) ⟨(c : Int), keep⟩) := by
    rw [nextI_idx, List.getElem?_eq_getElem hi]
    simp [List.getD, List.getElem?_eq_getElem hi]
  have hq : y.next[idxN rs y.rule ⟨(c : Int), keep⟩]? = some (nextI rs y ⟨(c : Int), keep⟩) := by
    rw [nextI_idx, List.getElem?_eq_getElem hi2]
    simp [List.getD, List.getElem?_eq_getElem hi2]
  have hp0 := act_next hf h1 hx (List.mem_of_getElem? hp)
  have hq0 := act_next hf' h2 hy (List.mem_of_getElem? hq)
  rw [← hr] at hq
  exact ⟨hr, hp0.1, hq0.1, hB.next _ _ hR c _ y _ _ _ hx hy hp hq⟩
end
end Go.Proofs.Ytlnonadkdonhmaa

/- What tells says, plainly; the word of Apart tells. -/
namespace Go.Proofs.Ytlnonadkdonhmaa
open Go.RowKit Go.Maps

/-! ### what letters keep -/
set_option maxRecDepth 100000 in
theorem kp_all : ((List.range 64).all fun x => (List.range (2 ^ (memL (x : Int)).length)).all fun k =>
    decide (placeI (memL (x : Int)) (keepO (memL (x : Int)) (k : Int) (memL (x : Int)).length) = (k : Int)) && withinI (keepO (memL (x : Int)) (k : Int) (memL (x : Int)).length) (x : Int) && decide (0 ≤ keepO (memL (x : Int)) (k : Int) (memL (x : Int)).length) && decide (keepO (memL (x : Int)) (k : Int) (memL (x : Int)).length ≤ (x : Int))) = true := by kernel_rfl
theorem kp {x : Int} (hx : isB x) {k : Nat} (hk : k < 2 ^ (memL x).length) : placeI (memL x) (keepO (memL x) k (memL x).length) = (k : Int) ∧ withinI (keepO (memL x) k (memL x).length) x = true ∧ 0 ≤ keepO (memL x) k (memL x).length ∧ keepO (memL x) k (memL x).length ≤ x := by
  obtain ⟨y, rfl, hy⟩ := nat_of hx
  have h1 := List.all_eq_true.1 kp_all y (List.mem_range.2 hy)
  have h2 := List.all_eq_true.1 h1 k (List.mem_range.2 hk)
  simp only [Bool.and_eq_true, decide_eq_true_eq] at h2
  exact ⟨h2.1.1.1, h2.1.1.2, h2.1.2, h2.2⟩
theorem within_zero_all : ((List.range 64).all fun x => withinI 0 (x : Int)) = true := by kernel_rfl
theorem within_zero {x : Int} (hx : isB x) : withinI 0 x = true := by
  obtain ⟨y, rfl, hy⟩ := nat_of hx
  exact List.all_eq_true.1 within_zero_all y (List.mem_range.2 hy)

def keepT (rs : List Int) (r q ch : Int) : Int := if 0 ≤ r ∧ r = q then bits BinOp.andNot .i64 (rs.getD r.toNat 0) (2 ^ ch.toNat) else 0
theorem keepT_isB {rs : List Int} (hb : bAll rs) (r q ch : Int) : isB (keepT rs r q ch) := by
  unfold keepT
  split
  · exact andNot_isB (getB0 hb _)
  · exact ⟨by decide, by decide⟩
/-- Whether the rest of a word tells two states apart. -/
def tellL (n : Int) (rs : List Int) (m : Mach) : List Lt → Int → Int → Bool
  | [], _, _ => true
  | x :: t, a, b => letterB n x && (((actAt m a x.ch).rule != (actAt m b x.ch).rule) == t.isEmpty) && withinI x.keep (keepT rs (actAt m a x.ch).rule (actAt m b x.ch).rule x.ch) && tellL n rs m t (nextI rs (actAt m a x.ch) x) (nextI rs (actAt m b x.ch) x)
def tellsB (n : Int) (rs : List Int) (m : Mach) (word : List Lt) (a b : Int) : Bool := !word.isEmpty && decide (word.length ≤ 64) && (decide (60 < word.length) || wordB n word) && tellL n rs m word a b

/-! ### the least letter -/
theorem leastL_one (rs : List Int) (t : Tbl) : ∀ {xs ys : List AAct} (c0 : Nat), neRules xs ys = true →
    ∃ (i : Nat) (x y : AAct), leastL rs 1 t c0 xs ys = (⟨((c0 + i : Nat) : Int), 0⟩, 0) ∧ xs[i]? = some x ∧ ys[i]? = some y ∧ x.rule ≠ y.rule ∧ ∀ (i' : Nat) (x' y' : AAct), i' < i → xs[i']? = some x' → ys[i']? = some y' → x'.rule = y'.rule
  | [], _, _, h => by simp [neRules] at h
  | _ :: _, [], _, h => by simp [neRules] at h
  | a :: xs, b :: ys, c0, h => by
    by_cases hr : a.rule = b.rule
    · have h2 : neRules xs ys = true := by
        unfold neRules at h ⊢
        rw [List.zip_cons_cons, List.any_cons] at h
        have : (a.rule != b.rule) = false := by simpa using hr
        rw [this] at h
        simpa using h
      obtain ⟨i, x, y, h1, h3, h4, h5, h6⟩ := leastL_one rs t (c0 + 1) h2
      refine ⟨i + 1, x, y, ?_, by simpa using h3, by simpa using h4, h5, fun i' x' y' hi hx hy => ?_⟩
      · rw [leastL, if_pos rfl, if_pos hr, h1, show c0 + 1 + i = c0 + (i + 1) by omega]
      · cases i' with
        | zero =>
          simp at hx hy
          rw [← hx, ← hy]
          exact hr
        | succ i' => exact h6 i' x' y' (by omega) (by simpa using hx) (by simpa using hy)
    · exact ⟨0, a, b, by rw [leastL, if_pos rfl, if_neg hr]; rfl, rfl, rfl, hr, fun i' x' y' hi => by omega⟩
theorem leastL_more (rs : List Int) {left : Int} {t : Tbl} (hl : left ≠ 1) : ∀ {xs ys : List AAct} (c0 : Nat), hitAt t left xs ys →
    ∃ (i : Nat) (x y : AAct) (k : Nat) (p : Int × Int), leastL rs left t c0 xs ys = (⟨((c0 + i : Nat) : Int), keepX rs x (c0 + i) k⟩, k) ∧ xs[i]? = some x ∧ ys[i]? = some y ∧ (x.next.zip y.next)[k]? = some p ∧ tget t (bothI p.1 p.2) = some (left - 1) ∧
      (∀ (k' : Nat) (p' : Int × Int), k' < k → (x.next.zip y.next)[k']? = some p' → tget t (bothI p'.1 p'.2) ≠ some (left - 1)) ∧
      ∀ (i' : Nat) (x' y' : AAct) (k' : Nat) (p' : Int × Int), i' < i → xs[i']? = some x' → ys[i']? = some y' → (x'.next.zip y'.next)[k']? = some p' → tget t (bothI p'.1 p'.2) ≠ some (left - 1)
  | [], _, _, ⟨c, x, y, k, p, hx, _⟩ => by simp at hx
  | _ :: _, [], _, ⟨c, x, y, k, p, _, hy, _⟩ => by simp at hy
  | a :: xs, b :: ys, c0, h => by
    have hitL_iff : ∀ p : Int × Int, hitL left t p = true ↔ tget t (bothI p.1 p.2) = some (left - 1) := by
      intro p
      unfold hitL
      cases tget t (bothI p.1 p.2) <;> simp
    cases hf : (a.next.zip b.next).findIdx? (hitL left t) with
    | some k =>
      have e : leastL rs left t c0 (a :: xs) (b :: ys) = (⟨(c0 : Int), keepX rs a c0 k⟩, k) := by rw [leastL, if_neg hl, hf]
      rw [List.findIdx?_eq_some_iff_getElem] at hf
      obtain ⟨hk, hp, hmin⟩ := hf
      refine ⟨0, a, b, k, (a.next.zip b.next)[k], by simpa using e, rfl, rfl, List.getElem?_eq_getElem hk, (hitL_iff _).1 hp, fun k' p' hk' hp' hh => ?_, fun i' x' y' k' p' hi => by omega⟩
      have hkl := (List.getElem?_eq_some_iff.1 hp').1
      have h2 := hmin k' hk'
      have e2 : (a.next.zip b.next)[k'] = p' := by rw [List.getElem?_eq_getElem hkl] at hp'; injection hp'
      rw [e2] at h2
      exact h2 ((hitL_iff p').2 hh)
    | none =>
      have e : leastL rs left t c0 (a :: xs) (b :: ys) = leastL rs left t (c0 + 1) xs ys := by rw [leastL, if_neg hl, hf]
      have hno : ∀ (k' : Nat) (p' : Int × Int), (a.next.zip b.next)[k']? = some p' → tget t (bothI p'.1 p'.2) ≠ some (left - 1) := by
        intro k' p' hp' hh
        have h3 := List.findIdx?_eq_none_iff.1 hf p' (List.mem_of_getElem? hp')
        rw [(hitL_iff p').2 hh] at h3
        cases h3
      have ht : hitAt t left xs ys := by
        obtain ⟨c, x, y, k, p, hx, hy, hp, h1⟩ := h
        cases c with
        | zero =>
          simp at hx hy
          subst hx hy
          exact absurd h1 (hno k p hp)
        | succ c => exact ⟨c, x, y, k, p, by simpa using hx, by simpa using hy, hp, h1⟩
      obtain ⟨i, x, y, k, p, h1, h2, h3, h4, h5, h6, h7⟩ := leastL_more rs hl (c0 + 1) ht
      refine ⟨i + 1, x, y, k, p, ?_, by simpa using h2, by simpa using h3, h4, h5, h6, fun i' x' y' k' p' hi hx hy hp => ?_⟩
      · rw [e, h1, show c0 + 1 + i = c0 + (i + 1) by omega]
      · cases i' with
        | zero =>
          simp at hx hy
          subst hx hy
          exact hno k' p' hp
        | succ i' => exact h7 i' x' y' k' p' (by omega) (by simpa using hx) (by simpa using hy) hp

section
variable {n : Int} {rs : List Int} {m : Mach}
/-- An act leads where the number says that its letter keeps. -/
theorem act_keep (hf : formedA n rs m = true) {a i k : Nat} {x : AAct} {p : Int} (ha : a < m.length) (hx : (rowM m a)[i]? = some x) (hp : x.next[k]? = some p) :
    nextI rs x ⟨(i : Int), keepX rs x i k⟩ = p ∧ letterB n ⟨(i : Int), keepX rs x i k⟩ = true ∧ withinI (keepX rs x i k) (keepT rs x.rule x.rule i) = true := by
  have hg := formed_grp hf
  obtain ⟨hn1, hn6, _, hgood⟩ := grpOk_true hg
  have hba := bAll_of hg
  have hok := act_ok hf ha hx
  have hmany := next_many hok
  have hil := (List.getElem?_eq_some_iff.1 hx).1
  have hrl := rowM_len hf ha
  have hkl := (List.getElem?_eq_some_iff.1 hp).1
  have hpg : x.next.getD k 0 = p := by simp [List.getD, hp]
  have hok' := hok
  simp only [actOkA, ruleOk, Bool.and_eq_true, Bool.or_eq_true, decide_eq_true_eq] at hok'
  by_cases hr : 0 ≤ x.rule
  · have hne : x.rule ≠ -1 := by omega
    have hmany2 : x.next.length = 2 ^ (othersA (rs.getD x.rule.toNat 0) i).length := by rw [hmany, manyA, if_neg hne]
    have hX : isB (bits BinOp.andNot .i64 (rs.getD x.rule.toNat 0) (2 ^ ((i : Int)).toNat)) := andNot_isB (getB0 hba _)
    have hkk : k < 2 ^ (memL (bits BinOp.andNot .i64 (rs.getD x.rule.toNat 0) (2 ^ ((i : Int)).toNat))).length := by
      have : k < 2 ^ (othersA (rs.getD x.rule.toNat 0) i).length := by rw [← hmany2]; exact hkl
      exact this
    obtain ⟨h1, h2, h3, h4⟩ := kp hX hkk
    have hkx : keepX rs x i k = keepO (memL (bits BinOp.andNot .i64 (rs.getD x.rule.toNat 0) (2 ^ ((i : Int)).toNat))) k (memL (bits BinOp.andNot .i64 (rs.getD x.rule.toNat 0) (2 ^ ((i : Int)).toNat))).length := by
      unfold keepX
      rw [if_pos hr]
      rfl
    rw [← hkx] at h1 h2 h3 h4
    refine ⟨?_, ?_, ?_⟩
    · unfold nextI
      rw [if_neg (by omega)]
      have e : placeI (othersA (rs.getD x.rule.toNat 0) (i : Int)) (keepX rs x i k) = (k : Int) := h1
      simp only [e, Int.toNat_natCast]
      exact hpg
    · have hrr : rs.getD x.rule.toNat 0 ∈ rs := by
        have h5 := hok'.1.1.resolve_left hne
        have hlt : x.rule.toNat < rs.length := by omega
        rw [show rs.getD x.rule.toNat 0 = rs[x.rule.toNat] by simp [List.getD, List.getElem?_eq_getElem hlt]]
        exact List.getElem_mem hlt
      have hgr := List.all_eq_true.1 hgood _ hrr
      simp only [goodR, setI, Bool.and_eq_true, decide_eq_true_eq] at hgr
      have hle := (andNot_le (b := 2 ^ ((i : Int)).toNat) hgr.2.1 (by have := (getB0 hba x.rule.toNat).2; omega)).2
      unfold letterB setI
      simp only [Bool.and_eq_true, decide_eq_true_eq]
      exact ⟨⟨by omega, by omega⟩, h3, by omega⟩
    · unfold keepT
      rw [if_pos ⟨hr, rfl⟩]
      exact h2
  · have h1 : x.rule = -1 := by
      rcases hok'.1.1 with h | h
      · exact h
      · exact absurd h.1.1 hr
    have hk0 : k = 0 := by rw [hmany, manyA, if_pos h1] at hkl; omega
    subst hk0
    have hkx : keepX rs x i 0 = 0 := by unfold keepX; rw [if_neg hr]
    rw [hkx]
    refine ⟨?_, ?_, within_zero (keepT_isB hba _ _ _)⟩
    · unfold nextI
      rw [if_pos (by omega)]
      exact hpg
    · unfold letterB setI
      simp only [Bool.and_eq_true, decide_eq_true_eq]
      have hpow : (0 : Int) < 2 ^ n.toNat := by
        have : (0 : Nat) < 2 ^ n.toNat := Nat.pow_pos (by decide)
        exact_mod_cast this
      exact ⟨⟨by omega, by omega⟩, by omega, hpow⟩

/-- The word of Apart tells. -/
theorem word_tells (hf : formedA n rs m = true) : ∀ (L : Nat) (a b : Nat), a < m.length → b < m.length → tget (roundsA m) (bothI a b) = some (L : Int) → tellL n rs m (wordA rs m (roundsA m) L a b) a b = true
  | 0, a, b, ha, hb, h => by
    have := (val_bd hf ha hb h).1
    omega
  | L + 1, a, b, ha, hb, h => by
    obtain ⟨hn1, hn6, _, _⟩ := grpOk_true (formed_grp hf)
    have hba := bAll_of (formed_grp hf)
    obtain ⟨_, hE, hN⟩ := val_EQ hf ha hb h
    have eL : ((L + 1 : Nat) : Int) = (L : Int) + 1 := by push_cast; rfl
    cases L with
    | zero =>
      have hne : neRules (rowM m a) (rowM m b) = true := one_known ha hb (by rw [h]; rfl)
      obtain ⟨i, x, y, h1, hx, hy, hr, _⟩ := leastL_one rs (roundsA m) 0 hne
      have hw : wordA rs m (roundsA m) (0 + 1) a b = [⟨(i : Int), 0⟩] := by
        unfold wordA leastI
        have e1 : leastL rs (((0 : Nat) : Int) + 1) (roundsA m) 0 (m.getD a []) (m.getD b []) = (⟨((0 + i : Nat) : Int), 0⟩, 0) := h1
        simp only [e1]
        simp [wordA]
      rw [hw]
      have hil := (List.getElem?_eq_some_iff.1 hx).1
      have hrl := rowM_len hf ha
      have e1 := actAt_row hx
      have e2 := actAt_row hy
      unfold tellL
      simp only [e1, e2]
      have hlt : letterB n ⟨(i : Int), 0⟩ = true := by
        unfold letterB setI
        simp only [Bool.and_eq_true, decide_eq_true_eq]
        have hpow : (0 : Int) < 2 ^ n.toNat := by
          have : (0 : Nat) < 2 ^ n.toNat := Nat.pow_pos (by decide)
          exact_mod_cast this
        exact ⟨⟨by omega, by omega⟩, by omega, hpow⟩
      have hrr : (x.rule != y.rule) = true := by simpa using hr
      rw [hlt, hrr, within_zero (keepT_isB hba _ _ _)]
      rfl
    | succ L =>
      have hrule : rulesEq (rowM m a) (rowM m b) := by
        rw [show ((L + 1 + 1 : Nat) : Int) - 1 = ((L + 1 : Nat) : Int) by push_cast; omega, Int.toNat_natCast] at hE
        exact hE.1
      have hv : ((L + 1 + 1 : Nat) : Int) ≠ 1 := by omega
      obtain ⟨_, _, hk⟩ := pair_known ha hb (.inr trivial) h (roundsA_ok m)
      obtain ⟨i, x, y, k, p, h1, hx, hy, hz, ht, _, _⟩ := leastL_more rs hv 0 (hk hv).2
      obtain ⟨p1, p2⟩ := p
      rw [List.getElem?_zip_eq_some] at hz
      simp only at ht hz
      have hp1 := act_next hf ha hx (List.mem_of_getElem? hz.1)
      have hp2 := act_next hf hb hy (List.mem_of_getElem? hz.2)
      obtain ⟨q1, rfl⟩ := Int.eq_ofNat_of_zero_le hp1.1
      obtain ⟨q2, rfl⟩ := Int.eq_ofNat_of_zero_le hp2.1
      rw [Nat.zero_add] at h1
      have hr := hrule i x y hx hy
      have hs1 : stepS m a (⟨(i : Int), keepX rs x i k⟩, k) = q1 := by
        unfold stepS
        simp only [Int.toNat_natCast]
        simp [List.getD, hx, hz.1]
      have hs2 : stepS m b (⟨(i : Int), keepX rs x i k⟩, k) = q2 := by
        unfold stepS
        simp only [Int.toNat_natCast]
        simp [List.getD, hy, hz.2]
      have hw : wordA rs m (roundsA m) (L + 1 + 1) a b = ⟨(i : Int), keepX rs x i k⟩ :: wordA rs m (roundsA m) (L + 1) q1 q2 := by
        rw [wordA]
        have e1 : leastI rs m a b (((L + 1 : Nat) : Int) + 1) (roundsA m) = (⟨(i : Int), keepX rs x i k⟩, k) := by
          unfold leastI
          have : ((L + 1 : Nat) : Int) + 1 = ((L + 1 + 1 : Nat) : Int) := by push_cast; rfl
          rw [this]
          exact h1
        simp only [e1, hs1, hs2]
      rw [hw]
      have ea := actAt_row hx
      have eb := actAt_row hy
      obtain ⟨k1, k2, k3⟩ := act_keep hf ha hx hz.1
      have hkxy : keepX rs x i k = keepX rs y i k := by unfold keepX; rw [hr]
      obtain ⟨k4, _, _⟩ := act_keep hf hb hy hz.2
      rw [← hkxy] at k4
      have ih := word_tells hf (L + 1) q1 q2 (by omega) (by omega) (by rw [ht]; congr 1; push_cast; omega)
      unfold tellL
      simp only [ea, eb, k1, k4, k2, ih]
      have hne : (x.rule != y.rule) = false := by simpa using hr
      rw [hne, ← hr, k3]
      have hemp : (wordA rs m (roundsA m) (L + 1) q1 q2).isEmpty = false := by
        cases hh : wordA rs m (roundsA m) (L + 1) q1 q2 with
        | nil =>
          have := wordA_len rs m (roundsA m) (L + 1) q1 q2
          rw [hh] at this
          simp at this
        | cons _ _ => rfl
      rw [hemp]
      rfl
theorem tellL_letters : ∀ {word : List Lt} {a b : Int}, tellL n rs m word a b = true → word.all (letterB n) = true
  | [], _, _, _ => rfl
  | x :: t, a, b, h => by
    unfold tellL at h
    simp only [Bool.and_eq_true] at h
    rw [List.all_cons, h.1.1.1, tellL_letters h.2]
    rfl
theorem word_tellsB (hf : formedA n rs m = true) {L a b : Nat} (ha : a < m.length) (hb : b < m.length) (h : tget (roundsA m) (bothI a b) = some (L : Int)) : tellsB n rs m (wordA rs m (roundsA m) L a b) a b = true := by
  have h1 := word_tells hf L a b ha hb h
  have h2 := val_bd hf ha hb h
  have h3 := (formed_len hf).2
  have hl := wordA_len rs m (roundsA m) L a b
  have hne : (wordA rs m (roundsA m) L a b).isEmpty = false := by
    cases hh : wordA rs m (roundsA m) L a b with
    | nil => rw [hh] at hl; simp at hl; omega
    | cons _ _ => rfl
  unfold tellsB
  rw [hne, h1, hl, decide_eq_true (show L ≤ 64 by omega)]
  unfold wordB
  rw [tellL_letters h1, hl]
  by_cases h6 : 60 < L
  · rw [decide_eq_true h6]; rfl
  · rw [decide_eq_true (show L ≤ 60 by omega)]; simp
end
end Go.Proofs.Ytlnonadkdonhmaa

/- Contracts: tells, less. -/
namespace Go.Proofs.Ytlnonadkdonhmaa
open Go.RowKit Go.Maps


set_option maxRecDepth 100000 in
set_option maxHeartbeats 16000000 in
theorem tells_any (n : Int) (A : Option Addr) (c : Nat) (rs : List Int) (B : Option Addr) (d : Nat) (m : Mach) (D : Option Addr) (f : Nat) (word : List Lt) (a b : Nat) (w : World) (hA : Cells w A (ints rs)) (hM : MachAt w B m) (hD : Cells w D (lts word)) (hf : formedA n rs m = true) (ha : a < m.length) (hb : b < m.length) :
    Calls Try.prog 43 #[.agg #[.int .i64 n, .slice A rs.length c], .agg #[.slice B m.length d], .slice D word.length f, .int .i64 (a : Int), .int .i64 (b : Int)] w fun e w' => e = .returned (.bool (tellsB n rs m word a b)) ∧ Below w.heap.size w w' := by
  obtain ⟨hn1, hn6, _, _⟩ := grpOk_true (formed_grp hf)
  have HF := Lib.hid hf
  clear hf
  have hlw : word.length ≤ 17592186043904 := by have := hD.1; simp [lts, flat_len ltCells_len] at this; omega
  by_cases h0 : word.length = 0
  · have hz : ((word.length : Int) == 0) = true := by rw [h0]; rfl
    have HTB : Hid (tellsB n rs m word a b = false) := by
      have : word = [] := List.eq_nil_of_length_eq_zero h0
      subst this
      rfl
    have HB0 : Hid (Below w.heap.size w (gbox w n A rs.length c B m.length d)) := gbox_below w n A rs.length c B m.length d
    clear h0
    go_enter Try.func43, Try.ntmps43
    go_wp2
    go_ret
    exact ⟨by rw [HTB.out]; rfl, HB0.out⟩
  · have hz : ((word.length : Int) == 0) = false := by rw [beq_eq_false_iff_ne]; omega
    have HNE : Hid (word.isEmpty = false) := by
      cases word with
      | nil => exact absurd rfl h0
      | cons _ _ => rfl
    clear h0
    by_cases h64 : 64 < word.length
    · have hd1 : decide (64 < word.length) = true := by simpa using h64
      have hd2 : decide ((64 : Int) < (word.length : Int)) = true := by simp; omega
      have HTB : Hid (tellsB n rs m word a b = false) := by
        show _ = _
        unfold tellsB
        rw [decide_eq_false (show ¬ word.length ≤ 64 by omega), Bool.and_false]
        rfl
      have HB0 : Hid (Below w.heap.size w (gbox w n A rs.length c B m.length d)) := gbox_below w n A rs.length c B m.length d
      go_enter Try.func43, Try.ntmps43
      go_wp2
      go_ret
      exact ⟨by rw [HTB.out]; rfl, HB0.out⟩
    · have hd1 : decide (64 < word.length) = false := by simpa using h64
      have hd2 : decide ((64 : Int) < (word.length : Int)) = false := by simp; omega
      have HB0 : Hid (Below w.heap.size w (gbox w n A rs.length c B m.length d)) := gbox_below w n A rs.length c B m.length d
      have HA0 := Lib.hid (hA.below HB0.out (Nat.le_refl _))
      have HM0 := Lib.hid (hM.below HB0.out (Nat.le_refl _))
      have hgm := gm_new w n A rs.length c B m.length d
      by_cases h60 : word.length ≤ 60
      · have hd3 : decide (word.length ≤ 60) = true := by simpa using h60
        have hd4 : decide ((word.length : Int) ≤ 60) = true := by simp; omega
        cases hwb : wordB n word with
        | false =>
          have HWB := Lib.hid hwb
          have HTB : Hid (tellsB n rs m word a b = false) := by
            show _ = _
            unfold tellsB
            rw [HWB.out, decide_eq_false (show ¬ 60 < word.length by omega), Bool.or_false, Bool.and_false]
            rfl
          clear hwb
          go_enter Try.func43, Try.ntmps43
          go_wp2_with fail
          obtain ⟨W, hW⟩ : ∃ W, gbox w n A rs.length c B m.length d = W := ⟨_, rfl⟩
          have hW' : (w.alloc (.cells #[.int .i64 n, .slice A rs.length c] 24)).alloc (.cells #[.slice B m.length d] 27) = W := hW
          rw [hW] at HB0 HA0 HM0 hgm
          rw [hW']
          have c0 := hgm.g.cell 0 (v := .int .i64 n) rfl
          have c1 := hgm.g.cell 1 (v := .slice A rs.length c) rfl
          have c2 := hgm.m.cell 0 (v := .slice B m.length d) rfl
          have hl0 := hgm.g.lt
          have hl1 := hgm.m.lt
          clear hW hW' hgm
          have HD0 := Lib.hid (hD.below HB0.out (Nat.le_refl _))
          refine (word_any n A rs.length c D f word W (by omega) (by omega) HD0.out).mono ?_
          rintro e w1 ⟨rfl, hB1⟩
          rw [HWB.out]
          go_wp2
          go_ret
          exact ⟨by rw [HTB.out]; rfl, below_in HB0.out hB1⟩
        | true =>
          have HWB := Lib.hid hwb
          have HTB : Hid (tellsB n rs m word a b = tellL n rs m word a b) := by
            show _ = _
            unfold tellsB
            rw [HWB.out, HNE.out, decide_eq_true (show word.length ≤ 64 by omega), Bool.or_true]
            rfl
          clear hwb
          go_enter Try.func43, Try.ntmps43
          go_wp2_with fail
          obtain ⟨W, hW⟩ : ∃ W, gbox w n A rs.length c B m.length d = W := ⟨_, rfl⟩
          have hW' : (w.alloc (.cells #[.int .i64 n, .slice A rs.length c] 24)).alloc (.cells #[.slice B m.length d] 27) = W := hW
          rw [hW] at HB0 HA0 HM0 hgm
          rw [hW']
          have c0 := hgm.g.cell 0 (v := .int .i64 n) rfl
          have c1 := hgm.g.cell 1 (v := .slice A rs.length c) rfl
          have c2 := hgm.m.cell 0 (v := .slice B m.length d) rfl
          have hl0 := hgm.g.lt
          have hl1 := hgm.m.lt
          clear hW hW' hgm
          have HD0 := Lib.hid (hD.below HB0.out (Nat.le_refl _))
          refine (word_any n A rs.length c D f word W (by omega) (by omega) HD0.out).mono ?_
          rintro e V ⟨rfl, hBV⟩
          rw [HWB.out]
          have HBV := Lib.hid hBV
          clear hBV
          go_wp2
          go_loopw [3, 4, 39] (fun av bv i wr => ∃ k p q : Nat, k ≤ word.length ∧ av = .int .i64 (p : Int) ∧ bv = .int .i64 (q : Int) ∧ i = .int .i64 k ∧ p < m.length ∧ q < m.length ∧ tellL n rs m word a b = tellL n rs m (word.drop k) p q ∧ Below V.heap.size V wr)
            (fun _ _ i _ => word.length - (intOf i).toNat)
          case atStart => exact ⟨0, a, b, Nat.zero_le _, rfl, rfl, rfl, ha, hb, by rw [List.drop_zero], Below.refl _ _⟩
          case round =>
            obtain ⟨k, p, q, hk, rfl, rfl, rfl, hp, hq, htl, hB⟩ := hrel
            have HTL := Lib.hid htl
            have HB := Lib.hid hB
            have HBr : Hid (Below W.heap.size W wr) := HBV.out.trans (hB.mono HBV.out.size)
            have HWr : Hid (Below w.heap.size w wr) := below_in HB0.out HBr.out
            have hszr := HBr.out.size
            have g0 := cell_chain HBr.out hl0 c0
            have g1 := cell_chain HBr.out hl0 c1
            have g2 := cell_chain HBr.out hl1 c2
            have n1 : w.heap.size < wr.heap.size := Nat.lt_of_lt_of_le hl0 hszr
            have n2 : w.heap.size + 1 < wr.heap.size := Nat.lt_of_lt_of_le hl1 hszr
            clear htl hB
            by_cases hkt : k < word.length
            · obtain ⟨x, b5, o5, hx, hb5, hix, hcell⟩ := flat_at (c := f) (hD.below HWr.out (Nat.le_refl _)) (f := ltCells) (fun _ => rfl) Try.underlying38 rLt.size_eq (by decide) hkt
              have HDR : Hid (word.drop k = x :: word.drop (k + 1)) := drop_cons hx
              obtain ⟨ch, keep⟩ := x
              have d0 := hcell 0 (.int .i64 ch) rfl
              have d1 := hcell 1 (.int .i64 keep) rfl
              rw [Nat.add_zero] at d0
              obtain ⟨WX, hWX⟩ : ∃ WX, wr.alloc (.cells #[.int .i64 ch, .int .i64 keep] 118) = WX := ⟨_, rfl⟩
              have hBX : Below wr.heap.size wr WX := by rw [← hWX]; exact (Below.refl _ wr).alloc (Nat.le_refl _) _
              have bX : Blk WX wr.heap.size (.cells #[.int .i64 ch, .int .i64 keep] 118) := by rw [← hWX]; exact Blk.new _ _
              have HBX := Lib.hid hBX
              have HbX := Lib.hid bX
              have e0 := bX.cell 0 (v := .int .i64 ch) rfl
              have e1 := bX.cell 1 (v := .int .i64 keep) rfl
              have xl := bX.lt
              have x0 := cell_chain hBX n1 g0
              have x1 := cell_chain hBX n1 g1
              have nx1 : w.heap.size < WX.heap.size := Nat.lt_of_lt_of_le n1 hBX.size
              have HWX : Hid (Below w.heap.size w WX) := below_in HWr.out hBX
              have HIX : Hid (Below W.heap.size W WX) := below_in HBr.out hBX
              have HVX : Hid (Below V.heap.size V WX) := below_in HB.out hBX
              clear hx hcell hBX bX g0 g1
              cases hlb : letterB n ⟨ch, keep⟩ with
              | false =>
                have HLB := Lib.hid hlb
                have HT : Hid (tellL n rs m word a b = false) := by show _ = _; rw [HTL.out, HDR.out]; unfold tellL; rw [HLB.out]; rfl
                clear hlb
                go_wp2_with fail
                refine (letter_any n A rs.length c ch keep WX (by omega) (by omega)).mono ?_
                rintro e w1 ⟨rfl, hB1⟩
                rw [HLB.out]
                go_wp2
                go_ret
                exact ⟨by rw [HTB.out, HT.out]; rfl, below_in HWX.out hB1⟩
              | true =>
                have HLB := Lib.hid hlb
                have hlb' := hlb
                simp only [letterB, Bool.and_eq_true, decide_eq_true_eq] at hlb'
                have hx0 := hlb'.1.1
                have hx1 := hlb'.1.2
                have hSP : Hid (stateB m (p : Int) = true) := by simp only [stateB, Bool.and_eq_true, decide_eq_true_eq]; exact ⟨by omega, by omega⟩
                have hSQ : Hid (stateB m (q : Int) = true) := by simp only [stateB, Bool.and_eq_true, decide_eq_true_eq]; exact ⟨by omega, by omega⟩
                obtain ⟨_, _, _, _, hokp⟩ := actAt_ok HF.out hSP.out hx0 hx1
                obtain ⟨_, _, _, _, hokq⟩ := actAt_ok HF.out hSQ.out hx0 hx1
                have hnp := nextI_ok (x := ⟨ch, keep⟩) hokp
                have hnq := nextI_ok (x := ⟨ch, keep⟩) hokq
                have hrp : (actAt m (p : Int) ch).rule = -1 ∨ (0 ≤ (actAt m (p : Int) ch).rule ∧ (actAt m (p : Int) ch).rule < (rs.length : Int)) := by
                  simp only [actOkA, ruleOk, Bool.and_eq_true, Bool.or_eq_true, decide_eq_true_eq] at hokp
                  rcases hokp.1.1 with h | h
                  · exact .inl h
                  · exact .inr h.1
                obtain ⟨r, HR⟩ : ∃ r, Hid ((actAt m (p : Int) ch).rule = r) := ⟨_, rfl⟩
                obtain ⟨r', HR'⟩ : ∃ r', Hid ((actAt m (q : Int) ch).rule = r') := ⟨_, rfl⟩
                obtain ⟨np, hnpe⟩ := Int.eq_ofNat_of_zero_le hnp.1
                obtain ⟨nq, hnqe⟩ := Int.eq_ofNat_of_zero_le hnq.1
                have HNP : Hid (nextI rs (actAt m (p : Int) ch) ⟨ch, keep⟩ = (np : Int)) := hnpe
                have HNQ : Hid (nextI rs (actAt m (q : Int) ch) ⟨ch, keep⟩ = (nq : Int)) := hnqe
                have hnpl : np < m.length := by omega
                have hnql : nq < m.length := by omega
                have e83p := fun V1 h1 h2 => Move_any n A c rs B d m (p : Int) ⟨ch, keep⟩ V1 h1 h2 HF.out hSP.out hx0 hx1
                have e83q := fun V1 h1 h2 => Move_any n A c rs B d m (q : Int) ⟨ch, keep⟩ V1 h1 h2 HF.out hSQ.out hx0 hx1
                simp only [HR.out, HNP.out] at e83p
                simp only [HR'.out, HNQ.out] at e83q
                have H83P := Lib.hid e83p
                have H83Q := Lib.hid e83q
                rw [HR.out] at hrp
                obtain ⟨lst, HLS⟩ : ∃ lst : Bool, Hid (((k : Int) == (word.length : Int) - 1) = lst) := ⟨_, rfl⟩
                have HEM : Hid ((word.drop (k + 1)).isEmpty = lst) := by
                  show _ = _
                  rw [← HLS.out]
                  by_cases hl : k + 1 = word.length
                  · rw [show word.drop (k + 1) = [] from List.drop_eq_nil_iff.2 (by omega)]
                    have : ((k : Int) == (word.length : Int) - 1) = true := by rw [beq_iff_eq]; omega
                    rw [this]; rfl
                  · have : ((k : Int) == (word.length : Int) - 1) = false := by rw [beq_eq_false_iff_ne]; omega
                    rw [this]
                    cases hd : word.drop (k + 1) with
                    | nil => have := List.drop_eq_nil_iff.1 hd; omega
                    | cons _ _ => rfl
                have HST : Hid (tellL n rs m word a b = (((r != r') == lst) && withinI keep (keepT rs r r' ch) && tellL n rs m (word.drop (k + 1)) (np : Int) (nq : Int))) := by
                  show _ = _
                  rw [HTL.out, HDR.out]
                  conv => lhs; unfold tellL
                  simp only [HLB.out, HR.out, HR'.out, HNP.out, HNQ.out, HEM.out, Bool.true_and]
                have hls := HLS.out
                have hp1 := p2_wrap hx0 (by omega)
                have hp1' := p2_wrap' hx0 (by omega)
                clear hlb hlb' hokp hokq hnp hnq hnpe hnqe e83p e83q
                go_wp2_with fail
                refine (letter_any n A rs.length c ch keep WX (by omega) (by omega)).mono ?_
                rintro e w1 ⟨rfl, hB1⟩
                rw [HLB.out]
                have y0 := cell_chain hB1 nx1 x0
                have y1 := cell_chain hB1 nx1 x1
                have y2 := cell_chain (below_in HIX.out hB1) hl1 c2
                have ye0 := cell_chain hB1 xl e0
                have ye1 := cell_chain hB1 xl e1
                have yn1 : w.heap.size < w1.heap.size := Nat.lt_of_lt_of_le nx1 hB1.size
                have yn2 : w.heap.size + 1 < w1.heap.size := by have := hB1.size; have := HIX.out.size; omega
                have yxl : wr.heap.size < w1.heap.size := Nat.lt_of_lt_of_le xl hB1.size
                have HB1 := Lib.hid hB1
                clear hB1 x0 x1 e0 e1
                go_wp2_with fail
                refine (H83P.out w1 (hA.below (below_in HWX.out HB1.out) (Nat.le_refl _)) (hM.below (below_in HWX.out HB1.out) (Nat.le_refl _))).mono ?_
                rintro e w2 ⟨rfl, hB2⟩
                have z0 := cell_chain hB2 yn1 y0
                have z1 := cell_chain hB2 yn1 y1
                have z2 := cell_chain hB2 yn2 y2
                have ze0 := cell_chain hB2 yxl ye0
                have ze1 := cell_chain hB2 yxl ye1
                have zn1 : w.heap.size < w2.heap.size := Nat.lt_of_lt_of_le yn1 hB2.size
                have zn2 : w.heap.size + 1 < w2.heap.size := Nat.lt_of_lt_of_le yn2 hB2.size
                have zxl : wr.heap.size < w2.heap.size := Nat.lt_of_lt_of_le yxl hB2.size
                have HB2 : Hid (Below WX.heap.size WX w2) := below_in HB1.out hB2
                clear hB2 y0 y1 y2 ye0 ye1
                go_wp2_with fail
                refine (H83Q.out w2 (hA.below (below_in HWX.out HB2.out) (Nat.le_refl _)) (hM.below (below_in HWX.out HB2.out) (Nat.le_refl _))).mono ?_
                rintro e w3 ⟨rfl, hB3⟩
                have u0 := cell_chain hB3 zn1 z0
                have u1 := cell_chain hB3 zn1 z1
                have ue0 := cell_chain hB3 zxl ze0
                have ue1 := cell_chain hB3 zxl ze1
                have un1 : w.heap.size < w3.heap.size := Nat.lt_of_lt_of_le zn1 hB3.size
                have uxl : wr.heap.size < w3.heap.size := Nat.lt_of_lt_of_le zxl hB3.size
                have HB3 : Hid (Below WX.heap.size WX w3) := below_in HB2.out hB3
                have HW3 : Hid (Below w.heap.size w w3) := below_in HWX.out HB3.out
                have HV3 : Hid (Below V.heap.size V w3) := below_in HVX.out HB3.out
                clear hB3 z0 z1 z2 ze0 ze1
                cases hne : (r != r') with
                | true =>
                  cases lst with
                  | false =>
                    have HT : Hid (tellL n rs m word a b = false) := by show _ = _; rw [HST.out, hne]; rfl
                    go_wp2
                    go_ret
                    exact ⟨by rw [HTB.out, HT.out]; rfl, HW3.out⟩
                  | true =>
                    have hrr : ((r == r') : Bool) = false := by simpa using hne
                    have HKT : Hid (keepT rs r r' ch = 0) := by
                      show _ = _
                      unfold keepT
                      rw [if_neg]
                      rintro ⟨_, h⟩
                      rw [h] at hrr
                      simp at hrr
                    rw [hne, HKT.out] at HST
                    by_cases hr0 : 0 ≤ r
                    · have hr0' : decide (0 ≤ r) = true := by simpa using hr0
                      clear hr0 hrp
                      cases hwi : withinI keep 0 with
                      | false =>
                        have HWI := Lib.hid hwi
                        have HT : Hid (tellL n rs m word a b = false) := by show _ = _; rw [HST.out, HWI.out]; rfl
                        clear hwi
                        go_wp2_with (go_at_call 96; go_must (refine (within_any _ _ _).mono ?_); rintro e w4 ⟨rfl, rfl⟩; rw [HWI.out])
                        go_ret
                        exact ⟨by rw [HTB.out, HT.out]; rfl, HW3.out⟩
                      | true =>
                        have HWI := Lib.hid hwi
                        have HT : Hid (tellL n rs m word a b = tellL n rs m (word.drop (k + 1)) (np : Int) (nq : Int)) := by show _ = _; rw [HST.out, HWI.out]; rfl
                        clear hwi
                        go_wp2_with (go_at_call 96; go_must (refine (within_any _ _ _).mono ?_); rintro e w4 ⟨rfl, rfl⟩; rw [HWI.out])
                        go_roundw
                        case rel => exact ⟨k + 1, np, nq, by omega, rfl, rfl, by go_num, hnpl, hnql, HT.out, HV3.out⟩
                        case measure => simp [intOf]; omega
                    · have hr0' : decide (0 ≤ r) = false := by simpa using hr0
                      clear hr0 hrp
                      cases hwi : withinI keep 0 with
                      | false =>
                        have HWI := Lib.hid hwi
                        have HT : Hid (tellL n rs m word a b = false) := by show _ = _; rw [HST.out, HWI.out]; rfl
                        clear hwi
                        go_wp2_with (go_at_call 96; go_must (refine (within_any _ _ _).mono ?_); rintro e w4 ⟨rfl, rfl⟩; rw [HWI.out])
                        go_ret
                        exact ⟨by rw [HTB.out, HT.out]; rfl, HW3.out⟩
                      | true =>
                        have HWI := Lib.hid hwi
                        have HT : Hid (tellL n rs m word a b = tellL n rs m (word.drop (k + 1)) (np : Int) (nq : Int)) := by show _ = _; rw [HST.out, HWI.out]; rfl
                        clear hwi
                        go_wp2_with (go_at_call 96; go_must (refine (within_any _ _ _).mono ?_); rintro e w4 ⟨rfl, rfl⟩; rw [HWI.out])
                        go_roundw
                        case rel => exact ⟨k + 1, np, nq, by omega, rfl, rfl, by go_num, hnpl, hnql, HT.out, HV3.out⟩
                        case measure => simp [intOf]; omega
                | false =>
                  cases lst with
                  | true =>
                    have HT : Hid (tellL n rs m word a b = false) := by show _ = _; rw [HST.out, hne]; rfl
                    go_wp2
                    go_ret
                    exact ⟨by rw [HTB.out, HT.out]; rfl, HW3.out⟩
                  | false =>
                    have hrr : r = r' := by simpa using hne
                    rw [hne] at HST
                    subst hrr
                    by_cases hr0 : 0 ≤ r
                    · have hrb := hrp.resolve_left (by omega)
                      obtain ⟨r, rfl⟩ := Int.eq_ofNat_of_zero_le hrb.1
                      have hrl : r < rs.length := by omega
                      obtain ⟨z, b6, o6, hz6, hb6, hix6, hc6⟩ := ints_at (c := c) (hA.below HW3.out (Nat.le_refl _)) Try.underlying22 szInt hrl
                      have HKT : Hid (keepT rs (r : Int) (r : Int) ch = bits BinOp.andNot .i64 z (2 ^ ch.toNat)) := by
                        show _ = _
                        unfold keepT
                        rw [if_pos ⟨by omega, rfl⟩, Int.toNat_natCast]
                        simp [List.getD, hz6]
                      have hrr2 : (((r : Int) == (r : Int)) : Bool) = true := by simp
                      rw [HKT.out] at HST
                      clear hr0 hrp hrb hz6 hne
                      go_wp2
                      refine sall (by kernel_rfl) (by kernel_rfl) (fun Kq hKq => ?_)
                      repeat still_step
                      refine wpStill_nil (hKq _ ?_)
                      clear hKq Kq
                      have HW4 : Hid (Below w.heap.size w w3.drew) := HW3.out.drew
                      have HV4 : Hid (Below V.heap.size V w3.drew) := HV3.out.drew
                      have u0' : w3.drew.cell? ⟨wr.heap.size, 1, none⟩ = some (.int .i64 keep) := ue1
                      cases hwi : withinI keep (bits BinOp.andNot .i64 z (2 ^ ch.toNat)) with
                      | false =>
                        have HWI := Lib.hid hwi
                        have HT : Hid (tellL n rs m word a b = false) := by show _ = _; rw [HST.out, HWI.out]; rfl
                        clear hwi
                        go_wp2_with (go_at_call 96; go_must (refine (within_any _ _ _).mono ?_); rintro e w4 ⟨rfl, rfl⟩; rw [HWI.out])
                        go_ret
                        exact ⟨by rw [HTB.out, HT.out]; rfl, HW4.out⟩
                      | true =>
                        have HWI := Lib.hid hwi
                        have HT : Hid (tellL n rs m word a b = tellL n rs m (word.drop (k + 1)) (np : Int) (nq : Int)) := by show _ = _; rw [HST.out, HWI.out]; rfl
                        clear hwi
                        go_wp2_with (go_at_call 96; go_must (refine (within_any _ _ _).mono ?_); rintro e w4 ⟨rfl, rfl⟩; rw [HWI.out])
                        go_roundw
                        case rel => exact ⟨k + 1, np, nq, by omega, rfl, rfl, by go_num, hnpl, hnql, HT.out, HV4.out⟩
                        case measure => simp [intOf]; omega
                    · have hr0' : decide (0 ≤ r) = false := by simpa using hr0
                      have HKT : Hid (keepT rs r r ch = 0) := by
                        show _ = _
                        unfold keepT
                        rw [if_neg]
                        exact fun h => hr0 h.1
                      rw [HKT.out] at HST
                      clear hr0 hrp hne
                      cases hwi : withinI keep 0 with
                      | false =>
                        have HWI := Lib.hid hwi
                        have HT : Hid (tellL n rs m word a b = false) := by show _ = _; rw [HST.out, HWI.out]; rfl
                        clear hwi
                        go_wp2_with (go_at_call 96; go_must (refine (within_any _ _ _).mono ?_); rintro e w4 ⟨rfl, rfl⟩; rw [HWI.out])
                        go_ret
                        exact ⟨by rw [HTB.out, HT.out]; rfl, HW3.out⟩
                      | true =>
                        have HWI := Lib.hid hwi
                        have HT : Hid (tellL n rs m word a b = tellL n rs m (word.drop (k + 1)) (np : Int) (nq : Int)) := by show _ = _; rw [HST.out, HWI.out]; rfl
                        clear hwi
                        go_wp2_with (go_at_call 96; go_must (refine (within_any _ _ _).mono ?_); rintro e w4 ⟨rfl, rfl⟩; rw [HWI.out])
                        go_roundw
                        case rel => exact ⟨k + 1, np, nq, by omega, rfl, rfl, by go_num, hnpl, hnql, HT.out, HV3.out⟩
                        case measure => simp [intOf]; omega
            · obtain rfl : k = word.length := by omega
              have HT : Hid (tellL n rs m word a b = true) := by show _ = _; rw [HTL.out, List.drop_length]; rfl
              go_wp2
              go_ret
              exact ⟨by rw [HTB.out, HT.out]; rfl, HWr.out⟩
      · have hd3 : decide (word.length ≤ 60) = false := by simpa using h60
        have hd4 : decide ((word.length : Int) ≤ 60) = false := by simp; omega
        have HTB : Hid (tellsB n rs m word a b = tellL n rs m word a b) := by
          show _ = _
          unfold tellsB
          rw [HNE.out, decide_eq_true (show word.length ≤ 64 by omega), decide_eq_true (show 60 < word.length by omega), Bool.true_or]
          rfl
        go_enter Try.func43, Try.ntmps43
        go_wp2
        obtain ⟨W, hW⟩ : ∃ W, gbox w n A rs.length c B m.length d = W := ⟨_, rfl⟩
        have hW' : (w.alloc (.cells #[.int .i64 n, .slice A rs.length c] 24)).alloc (.cells #[.slice B m.length d] 27) = W := hW
        rw [hW] at HB0 HA0 HM0 hgm
        rw [hW']
        have c0 := hgm.g.cell 0 (v := .int .i64 n) rfl
        have c1 := hgm.g.cell 1 (v := .slice A rs.length c) rfl
        have c2 := hgm.m.cell 0 (v := .slice B m.length d) rfl
        have hl0 := hgm.g.lt
        have hl1 := hgm.m.lt
        clear hW hW' hgm
        obtain ⟨V, HVW⟩ : ∃ V : World, Hid (V = W) := ⟨W, rfl⟩
        have HBV : Hid (Below W.heap.size W V) := by show Below _ _ _; rw [HVW.out]; exact Below.refl _ _
        rw [← HVW.out]
        go_loopw [3, 4, 39] (fun av bv i wr => ∃ k p q : Nat, k ≤ word.length ∧ av = .int .i64 (p : Int) ∧ bv = .int .i64 (q : Int) ∧ i = .int .i64 k ∧ p < m.length ∧ q < m.length ∧ tellL n rs m word a b = tellL n rs m (word.drop k) p q ∧ Below V.heap.size V wr)
          (fun _ _ i _ => word.length - (intOf i).toNat)
        case atStart => exact ⟨0, a, b, Nat.zero_le _, rfl, rfl, rfl, ha, hb, by rw [List.drop_zero], Below.refl _ _⟩
        case round =>
          obtain ⟨k, p, q, hk, rfl, rfl, rfl, hp, hq, htl, hB⟩ := hrel
          have HTL := Lib.hid htl
          have HB := Lib.hid hB
          have HBr : Hid (Below W.heap.size W wr) := HBV.out.trans (hB.mono HBV.out.size)
          have HWr : Hid (Below w.heap.size w wr) := below_in HB0.out HBr.out
          have hszr := HBr.out.size
          have g0 := cell_chain HBr.out hl0 c0
          have g1 := cell_chain HBr.out hl0 c1
          have g2 := cell_chain HBr.out hl1 c2
          have n1 : w.heap.size < wr.heap.size := Nat.lt_of_lt_of_le hl0 hszr
          have n2 : w.heap.size + 1 < wr.heap.size := Nat.lt_of_lt_of_le hl1 hszr
          clear htl hB
          by_cases hkt : k < word.length
          · obtain ⟨x, b5, o5, hx, hb5, hix, hcell⟩ := flat_at (c := f) (hD.below HWr.out (Nat.le_refl _)) (f := ltCells) (fun _ => rfl) Try.underlying38 rLt.size_eq (by decide) hkt
            have HDR : Hid (word.drop k = x :: word.drop (k + 1)) := drop_cons hx
            obtain ⟨ch, keep⟩ := x
            have d0 := hcell 0 (.int .i64 ch) rfl
            have d1 := hcell 1 (.int .i64 keep) rfl
            rw [Nat.add_zero] at d0
            obtain ⟨WX, hWX⟩ : ∃ WX, wr.alloc (.cells #[.int .i64 ch, .int .i64 keep] 118) = WX := ⟨_, rfl⟩
            have hBX : Below wr.heap.size wr WX := by rw [← hWX]; exact (Below.refl _ wr).alloc (Nat.le_refl _) _
            have bX : Blk WX wr.heap.size (.cells #[.int .i64 ch, .int .i64 keep] 118) := by rw [← hWX]; exact Blk.new _ _
            have HBX := Lib.hid hBX
            have HbX := Lib.hid bX
            have e0 := bX.cell 0 (v := .int .i64 ch) rfl
            have e1 := bX.cell 1 (v := .int .i64 keep) rfl
            have xl := bX.lt
            have x0 := cell_chain hBX n1 g0
            have x1 := cell_chain hBX n1 g1
            have nx1 : w.heap.size < WX.heap.size := Nat.lt_of_lt_of_le n1 hBX.size
            have HWX : Hid (Below w.heap.size w WX) := below_in HWr.out hBX
            have HIX : Hid (Below W.heap.size W WX) := below_in HBr.out hBX
            have HVX : Hid (Below V.heap.size V WX) := below_in HB.out hBX
            clear hx hcell hBX bX g0 g1
            cases hlb : letterB n ⟨ch, keep⟩ with
            | false =>
              have HLB := Lib.hid hlb
              have HT : Hid (tellL n rs m word a b = false) := by show _ = _; rw [HTL.out, HDR.out]; unfold tellL; rw [HLB.out]; rfl
              clear hlb
              go_wp2_with fail
              refine (letter_any n A rs.length c ch keep WX (by omega) (by omega)).mono ?_
              rintro e w1 ⟨rfl, hB1⟩
              rw [HLB.out]
              go_wp2
              go_ret
              exact ⟨by rw [HTB.out, HT.out]; rfl, below_in HWX.out hB1⟩
            | true =>
              have HLB := Lib.hid hlb
              have hlb' := hlb
              simp only [letterB, Bool.and_eq_true, decide_eq_true_eq] at hlb'
              have hx0 := hlb'.1.1
              have hx1 := hlb'.1.2
              have hSP : Hid (stateB m (p : Int) = true) := by simp only [stateB, Bool.and_eq_true, decide_eq_true_eq]; exact ⟨by omega, by omega⟩
              have hSQ : Hid (stateB m (q : Int) = true) := by simp only [stateB, Bool.and_eq_true, decide_eq_true_eq]; exact ⟨by omega, by omega⟩
              obtain ⟨_, _, _, _, hokp⟩ := actAt_ok HF.out hSP.out hx0 hx1
              obtain ⟨_, _, _, _, hokq⟩ := actAt_ok HF.out hSQ.out hx0 hx1
              have hnp := nextI_ok (x := ⟨ch, keep⟩) hokp
              have hnq := nextI_ok (x := ⟨ch, keep⟩) hokq
              have hrp : (actAt m (p : Int) ch).rule = -1 ∨ (0 ≤ (actAt m (p : Int) ch).rule ∧ (actAt m (p : Int) ch).rule < (rs.length : Int)) := by
                simp only [actOkA, ruleOk, Bool.and_eq_true, Bool.or_eq_true, decide_eq_true_eq] at hokp
                rcases hokp.1.1 with h | h
                · exact .inl h
                · exact .inr h.1
              obtain ⟨r, HR⟩ : ∃ r, Hid ((actAt m (p : Int) ch).rule = r) := ⟨_, rfl⟩
              obtain ⟨r', HR'⟩ : ∃ r', Hid ((actAt m (q : Int) ch).rule = r') := ⟨_, rfl⟩
              obtain ⟨np, hnpe⟩ := Int.eq_ofNat_of_zero_le hnp.1
              obtain ⟨nq, hnqe⟩ := Int.eq_ofNat_of_zero_le hnq.1
              have HNP : Hid (nextI rs (actAt m (p : Int) ch) ⟨ch, keep⟩ = (np : Int)) := hnpe
              have HNQ : Hid (nextI rs (actAt m (q : Int) ch) ⟨ch, keep⟩ = (nq : Int)) := hnqe
              have hnpl : np < m.length := by omega
              have hnql : nq < m.length := by omega
              have e83p := fun V1 h1 h2 => Move_any n A c rs B d m (p : Int) ⟨ch, keep⟩ V1 h1 h2 HF.out hSP.out hx0 hx1
              have e83q := fun V1 h1 h2 => Move_any n A c rs B d m (q : Int) ⟨ch, keep⟩ V1 h1 h2 HF.out hSQ.out hx0 hx1
              simp only [HR.out, HNP.out] at e83p
              simp only [HR'.out, HNQ.out] at e83q
              have H83P := Lib.hid e83p
              have H83Q := Lib.hid e83q
              rw [HR.out] at hrp
              obtain ⟨lst, HLS⟩ : ∃ lst : Bool, Hid (((k : Int) == (word.length : Int) - 1) = lst) := ⟨_, rfl⟩
              have HEM : Hid ((word.drop (k + 1)).isEmpty = lst) := by
                show _ = _
                rw [← HLS.out]
                by_cases hl : k + 1 = word.length
                · rw [show word.drop (k + 1) = [] from List.drop_eq_nil_iff.2 (by omega)]
                  have : ((k : Int) == (word.length : Int) - 1) = true := by rw [beq_iff_eq]; omega
                  rw [this]; rfl
                · have : ((k : Int) == (word.length : Int) - 1) = false := by rw [beq_eq_false_iff_ne]; omega
                  rw [this]
                  cases hd : word.drop (k + 1) with
                  | nil => have := List.drop_eq_nil_iff.1 hd; omega
                  | cons _ _ => rfl
              have HST : Hid (tellL n rs m word a b = (((r != r') == lst) && withinI keep (keepT rs r r' ch) && tellL n rs m (word.drop (k + 1)) (np : Int) (nq : Int))) := by
                show _ = _
                rw [HTL.out, HDR.out]
                conv => lhs; unfold tellL
                simp only [HLB.out, HR.out, HR'.out, HNP.out, HNQ.out, HEM.out, Bool.true_and]
              have hls := HLS.out
              have hp1 := p2_wrap hx0 (by omega)
              have hp1' := p2_wrap' hx0 (by omega)
              clear hlb hlb' hokp hokq hnp hnq hnpe hnqe e83p e83q
              go_wp2_with fail
              refine (letter_any n A rs.length c ch keep WX (by omega) (by omega)).mono ?_
              rintro e w1 ⟨rfl, hB1⟩
              rw [HLB.out]
              have y0 := cell_chain hB1 nx1 x0
              have y1 := cell_chain hB1 nx1 x1
              have y2 := cell_chain (below_in HIX.out hB1) hl1 c2
              have ye0 := cell_chain hB1 xl e0
              have ye1 := cell_chain hB1 xl e1
              have yn1 : w.heap.size < w1.heap.size := Nat.lt_of_lt_of_le nx1 hB1.size
              have yn2 : w.heap.size + 1 < w1.heap.size := by have := hB1.size; have := HIX.out.size; omega
              have yxl : wr.heap.size < w1.heap.size := Nat.lt_of_lt_of_le xl hB1.size
              have HB1 := Lib.hid hB1
              clear hB1 x0 x1 e0 e1
              go_wp2_with fail
              refine (H83P.out w1 (hA.below (below_in HWX.out HB1.out) (Nat.le_refl _)) (hM.below (below_in HWX.out HB1.out) (Nat.le_refl _))).mono ?_
              rintro e w2 ⟨rfl, hB2⟩
              have z0 := cell_chain hB2 yn1 y0
              have z1 := cell_chain hB2 yn1 y1
              have z2 := cell_chain hB2 yn2 y2
              have ze0 := cell_chain hB2 yxl ye0
              have ze1 := cell_chain hB2 yxl ye1
              have zn1 : w.heap.size < w2.heap.size := Nat.lt_of_lt_of_le yn1 hB2.size
              have zn2 : w.heap.size + 1 < w2.heap.size := Nat.lt_of_lt_of_le yn2 hB2.size
              have zxl : wr.heap.size < w2.heap.size := Nat.lt_of_lt_of_le yxl hB2.size
              have HB2 : Hid (Below WX.heap.size WX w2) := below_in HB1.out hB2
              clear hB2 y0 y1 y2 ye0 ye1
              go_wp2_with fail
              refine (H83Q.out w2 (hA.below (below_in HWX.out HB2.out) (Nat.le_refl _)) (hM.below (below_in HWX.out HB2.out) (Nat.le_refl _))).mono ?_
              rintro e w3 ⟨rfl, hB3⟩
              have u0 := cell_chain hB3 zn1 z0
              have u1 := cell_chain hB3 zn1 z1
              have ue0 := cell_chain hB3 zxl ze0
              have ue1 := cell_chain hB3 zxl ze1
              have un1 : w.heap.size < w3.heap.size := Nat.lt_of_lt_of_le zn1 hB3.size
              have uxl : wr.heap.size < w3.heap.size := Nat.lt_of_lt_of_le zxl hB3.size
              have HB3 : Hid (Below WX.heap.size WX w3) := below_in HB2.out hB3
              have HW3 : Hid (Below w.heap.size w w3) := below_in HWX.out HB3.out
              have HV3 : Hid (Below V.heap.size V w3) := below_in HVX.out HB3.out
              clear hB3 z0 z1 z2 ze0 ze1
              cases hne : (r != r') with
              | true =>
                cases lst with
                | false =>
                  have HT : Hid (tellL n rs m word a b = false) := by show _ = _; rw [HST.out, hne]; rfl
                  go_wp2
                  go_ret
                  exact ⟨by rw [HTB.out, HT.out]; rfl, HW3.out⟩
                | true =>
                  have hrr : ((r == r') : Bool) = false := by simpa using hne
                  have HKT : Hid (keepT rs r r' ch = 0) := by
                    show _ = _
                    unfold keepT
                    rw [if_neg]
                    rintro ⟨_, h⟩
                    rw [h] at hrr
                    simp at hrr
                  rw [hne, HKT.out] at HST
                  by_cases hr0 : 0 ≤ r
                  · have hr0' : decide (0 ≤ r) = true := by simpa using hr0
                    clear hr0 hrp
                    cases hwi : withinI keep 0 with
                    | false =>
                      have HWI := Lib.hid hwi
                      have HT : Hid (tellL n rs m word a b = false) := by show _ = _; rw [HST.out, HWI.out]; rfl
                      clear hwi
                      go_wp2_with (go_at_call 96; go_must (refine (within_any _ _ _).mono ?_); rintro e w4 ⟨rfl, rfl⟩; rw [HWI.out])
                      go_ret
                      exact ⟨by rw [HTB.out, HT.out]; rfl, HW3.out⟩
                    | true =>
                      have HWI := Lib.hid hwi
                      have HT : Hid (tellL n rs m word a b = tellL n rs m (word.drop (k + 1)) (np : Int) (nq : Int)) := by show _ = _; rw [HST.out, HWI.out]; rfl
                      clear hwi
                      go_wp2_with (go_at_call 96; go_must (refine (within_any _ _ _).mono ?_); rintro e w4 ⟨rfl, rfl⟩; rw [HWI.out])
                      go_roundw
                      case rel => exact ⟨k + 1, np, nq, by omega, rfl, rfl, by go_num, hnpl, hnql, HT.out, HV3.out⟩
                      case measure => simp [intOf]; omega
                  · have hr0' : decide (0 ≤ r) = false := by simpa using hr0
                    clear hr0 hrp
                    cases hwi : withinI keep 0 with
                    | false =>
                      have HWI := Lib.hid hwi
                      have HT : Hid (tellL n rs m word a b = false) := by show _ = _; rw [HST.out, HWI.out]; rfl
                      clear hwi
                      go_wp2_with (go_at_call 96; go_must (refine (within_any _ _ _).mono ?_); rintro e w4 ⟨rfl, rfl⟩; rw [HWI.out])
                      go_ret
                      exact ⟨by rw [HTB.out, HT.out]; rfl, HW3.out⟩
                    | true =>
                      have HWI := Lib.hid hwi
                      have HT : Hid (tellL n rs m word a b = tellL n rs m (word.drop (k + 1)) (np : Int) (nq : Int)) := by show _ = _; rw [HST.out, HWI.out]; rfl
                      clear hwi
                      go_wp2_with (go_at_call 96; go_must (refine (within_any _ _ _).mono ?_); rintro e w4 ⟨rfl, rfl⟩; rw [HWI.out])
                      go_roundw
                      case rel => exact ⟨k + 1, np, nq, by omega, rfl, rfl, by go_num, hnpl, hnql, HT.out, HV3.out⟩
                      case measure => simp [intOf]; omega
              | false =>
                cases lst with
                | true =>
                  have HT : Hid (tellL n rs m word a b = false) := by show _ = _; rw [HST.out, hne]; rfl
                  go_wp2
                  go_ret
                  exact ⟨by rw [HTB.out, HT.out]; rfl, HW3.out⟩
                | false =>
                  have hrr : r = r' := by simpa using hne
                  rw [hne] at HST
                  subst hrr
                  by_cases hr0 : 0 ≤ r
                  · have hrb := hrp.resolve_left (by omega)
                    obtain ⟨r, rfl⟩ := Int.eq_ofNat_of_zero_le hrb.1
                    have hrl : r < rs.length := by omega
                    obtain ⟨z, b6, o6, hz6, hb6, hix6, hc6⟩ := ints_at (c := c) (hA.below HW3.out (Nat.le_refl _)) Try.underlying22 szInt hrl
                    have HKT : Hid (keepT rs (r : Int) (r : Int) ch = bits BinOp.andNot .i64 z (2 ^ ch.toNat)) := by
                      show _ = _
                      unfold keepT
                      rw [if_pos ⟨by omega, rfl⟩, Int.toNat_natCast]
                      simp [List.getD, hz6]
                    have hrr2 : (((r : Int) == (r : Int)) : Bool) = true := by simp
                    rw [HKT.out] at HST
                    clear hr0 hrp hrb hz6 hne
                    go_wp2
                    refine sall (by kernel_rfl) (by kernel_rfl) (fun Kq hKq => ?_)
                    repeat still_step
                    refine wpStill_nil (hKq _ ?_)
                    clear hKq Kq
                    have HW4 : Hid (Below w.heap.size w w3.drew) := HW3.out.drew
                    have HV4 : Hid (Below V.heap.size V w3.drew) := HV3.out.drew
                    have u0' : w3.drew.cell? ⟨wr.heap.size, 1, none⟩ = some (.int .i64 keep) := ue1
                    cases hwi : withinI keep (bits BinOp.andNot .i64 z (2 ^ ch.toNat)) with
                    | false =>
                      have HWI := Lib.hid hwi
                      have HT : Hid (tellL n rs m word a b = false) := by show _ = _; rw [HST.out, HWI.out]; rfl
                      clear hwi
                      go_wp2_with (go_at_call 96; go_must (refine (within_any _ _ _).mono ?_); rintro e w4 ⟨rfl, rfl⟩; rw [HWI.out])
                      go_ret
                      exact ⟨by rw [HTB.out, HT.out]; rfl, HW4.out⟩
                    | true =>
                      have HWI := Lib.hid hwi
                      have HT : Hid (tellL n rs m word a b = tellL n rs m (word.drop (k + 1)) (np : Int) (nq : Int)) := by show _ = _; rw [HST.out, HWI.out]; rfl
                      clear hwi
                      go_wp2_with (go_at_call 96; go_must (refine (within_any _ _ _).mono ?_); rintro e w4 ⟨rfl, rfl⟩; rw [HWI.out])
                      go_roundw
                      case rel => exact ⟨k + 1, np, nq, by omega, rfl, rfl, by go_num, hnpl, hnql, HT.out, HV4.out⟩
                      case measure => simp [intOf]; omega
                  · have hr0' : decide (0 ≤ r) = false := by simpa using hr0
                    have HKT : Hid (keepT rs r r ch = 0) := by
                      show _ = _
                      unfold keepT
                      rw [if_neg]
                      exact fun h => hr0 h.1
                    rw [HKT.out] at HST
                    clear hr0 hrp hne
                    cases hwi : withinI keep 0 with
                    | false =>
                      have HWI := Lib.hid hwi
                      have HT : Hid (tellL n rs m word a b = false) := by show _ = _; rw [HST.out, HWI.out]; rfl
                      clear hwi
                      go_wp2_with (go_at_call 96; go_must (refine (within_any _ _ _).mono ?_); rintro e w4 ⟨rfl, rfl⟩; rw [HWI.out])
                      go_ret
                      exact ⟨by rw [HTB.out, HT.out]; rfl, HW3.out⟩
                    | true =>
                      have HWI := Lib.hid hwi
                      have HT : Hid (tellL n rs m word a b = tellL n rs m (word.drop (k + 1)) (np : Int) (nq : Int)) := by show _ = _; rw [HST.out, HWI.out]; rfl
                      clear hwi
                      go_wp2_with (go_at_call 96; go_must (refine (within_any _ _ _).mono ?_); rintro e w4 ⟨rfl, rfl⟩; rw [HWI.out])
                      go_roundw
                      case rel => exact ⟨k + 1, np, nq, by omega, rfl, rfl, by go_num, hnpl, hnql, HT.out, HV3.out⟩
                      case measure => simp [intOf]; omega
          · obtain rfl : k = word.length := by omega
            have HT : Hid (tellL n rs m word a b = true) := by show _ = _; rw [HTL.out, List.drop_length]; rfl
            go_wp2
            go_ret
            exact ⟨by rw [HTB.out, HT.out]; rfl, HWr.out⟩
end Go.Proofs.Ytlnonadkdonhmaa
