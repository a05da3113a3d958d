/- Contracts and lemmas that a claim of this seat uses. -/
import Derived.Test.YtlnonadkdonhmaaL1
import Derived.Test.YtlnonadkdonhmaaL32
import Derived.Test.YtlnonadkdonhmaaL11

/- Two lists of the same integers are told to be the same. -/
namespace Go.Proofs.Ytlnonadkdonhmaa
open Go.RowKit

theorem Ints_refl (xs : List Int) (A B : Option Addr) (c d : Nat) (w : World) (hA : Cells w A (ints xs)) (hB : Cells w B (ints xs)) : Calls Try.prog 32 #[.slice A xs.length c, .slice B xs.length d] w fun e w' => e = .returned (.bool true) ∧ Below w.heap.size w w' := by
  have h := Ints_any xs xs A B c d w hA hB
  rw [decide_eq_true rfl] at h
  exact h
end Go.Proofs.Ytlnonadkdonhmaa

/- The least machine has no more states than any machine that says the same; runs by words with it. -/
namespace Go.Proofs.Ytlnonadkdonhmaa
open Go.RowKit Go.Maps

theorem foldNum_new (l : List Int) : ∀ (n : Nat) (xs : List Int), xs.length = n → ∀ j : Nat, l.length ≤ j → j < (foldNum l xs).2.length → (j : Int) ∈ (foldNum l xs).1
  | 0, xs, hn, j, h1, h2 => by
    obtain rfl := List.eq_nil_of_length_eq_zero hn
    have : (foldNum l []).2 = l := rfl
    rw [this] at h2
    omega
  | n + 1, xs, hn, j, h1, h2 => by
    obtain ⟨ys, x, rfl⟩ : ∃ ys x, xs = ys ++ [x] := ⟨xs.dropLast, xs.getLast (by intro h; rw [h] at hn; simp at hn), (List.dropLast_concat_getLast _).symm⟩
    rw [foldNum_snoc] at h2 ⊢
    by_cases hj : j < (foldNum l ys).2.length
    · exact List.mem_append_left _ (foldNum_new l n ys (by simpa using hn) j h1 hj)
    · simp only at h2
      unfold addNum at h2
      split at h2
      · omega
      · rename_i hx
        simp at h2
        have e : j = (foldNum l ys).2.length := by omega
        refine List.mem_append_right _ ?_
        simp only [List.mem_singleton]
        rw [e]
        congr 1
        exact (List.idxOf_eq_length hx).symm
section
variable {n : Int} {rs : List Int} {m : Mach}
theorem lactsTo_new {row : List AAct} {l : List Int} : ∀ (k j : Nat), k ≤ row.length → l.length ≤ j → j < (lactsTo m row l k).2.length → ∃ (c : Nat) (a' : AAct), (lactsTo m row l k).1[c]? = some a' ∧ (j : Int) ∈ a'.next
  | 0, j, _, h1, h2 => by
    have : (lactsTo m row l 0).2 = l := rfl
    rw [this] at h2
    omega
  | k + 1, j, hk, h1, h2 => by
    have hl := lactsTo_len (m := m) (row := row) (l := l) k (by omega)
    have hx : row[k]? = some row[k] := List.getElem?_eq_getElem (by omega)
    rw [lactsTo, hx] at h2 ⊢
    simp only at h2 ⊢
    by_cases hj : j < (lactsTo m row l k).2.length
    · obtain ⟨c, a', h3, h4⟩ := lactsTo_new k j (by omega) h1 hj
      refine ⟨c, a', ?_, h4⟩
      rw [List.getElem?_append_left (List.getElem?_eq_some_iff.1 h3).1]
      exact h3
    · refine ⟨k, ⟨row[k].rule, (foldNum (lactsTo m row l k).2 (row[k].next.map (fsT m))).1⟩, ?_, foldNum_new _ _ _ rfl j (by omega) h2⟩
      rw [List.getElem?_append_right (by omega), hl, Nat.sub_self]
      rfl
theorem leastTo_new : ∀ (k j : Nat), j < (leastTo m k).2.length → j = 0 ∨ ∃ (i : Nat) (acts : List AAct) (c : Nat) (a' : AAct), i < j ∧ (leastTo m k).1[i]? = some acts ∧ acts[c]? = some a' ∧ (j : Int) ∈ a'.next
  | 0, j, h => .inl (by simp [leastTo] at h; exact h)
  | k + 1, j, h => by
    rw [leastTo] at h ⊢
    cases hs : (leastTo m k).2[k]? with
    | none =>
      rw [hs] at h
      exact leastTo_new k j h
    | some s =>
      rw [hs] at h
      simp only at h ⊢
      have hk := (List.getElem?_eq_some_iff.1 hs).1
      have hl := leastTo_len (m := m) (k := k) (by omega)
      by_cases hj : j < (leastTo m k).2.length
      · rcases leastTo_new k j hj with h0 | ⟨i, acts, c, a', h1, h2, h3, h4⟩
        · exact .inl h0
        · refine .inr ⟨i, acts, c, a', h1, ?_, h3, h4⟩
          rw [List.getElem?_append_left (List.getElem?_eq_some_iff.1 h2).1]
          exact h2
      · obtain ⟨c, a', h3, h4⟩ := lactsTo_new (m := m) (row := rowM m s.toNat) (l := (leastTo m k).2) _ j (Nat.le_refl _) (by omega) h
        refine .inr ⟨k, _, c, a', by omega, ?_, h3, h4⟩
        rw [List.getElem?_append_right (by omega), hl, Nat.sub_self]
        rfl
theorem leastM_new (hf : formedA n rs m = true) {j : Nat} (hj : j < (leastM m).length) : j = 0 ∨ ∃ (i c : Nat) (a' : AAct), i < j ∧ (rowM (leastM m) i)[c]? = some a' ∧ (j : Int) ∈ a'.next := by
  rw [leastM_len hf] at hj
  rcases leastTo_new (m := m) 64 j hj with h0 | ⟨i, acts, c, a', h1, h2, h3, h4⟩
  · exact .inl h0
  · refine .inr ⟨i, c, a', h1, ?_, h4⟩
    have e : rowM (leastM m) i = acts := by
      unfold rowM leastM
      simp [List.getD, h2]
    rw [e]
    exact h3
/-- No two states of the least machine say the same. -/
theorem least_apart (hf : formedA n rs m = true) {i k : Nat} (h : Sim (leastM m) (leastM m) i k) : i = k := by
  have hF := least_formed hf
  obtain ⟨s, hs, hsl, hs1⟩ := least_state hf h.lt.1
  obtain ⟨t, ht, htl, ht1⟩ := least_state hf h.lt.2
  have h1 : Sim (leastM m) m i s := ⟨_, least_bis hf, hsl, by rw [hs1]; exact hs⟩
  have h2 : Sim (leastM m) m k t := ⟨_, least_bis hf, htl, by rw [ht1]; exact ht⟩
  have h3 : Sim m m s t := (h1.swap.trans hf hF h).trans hf hF h2
  have h4 := (first_iff hf hsl htl).1 h3
  rw [hs1, ht1] at h4
  subst h4
  have hi := (List.getElem?_eq_some_iff.1 hs).1
  have e := hs.trans ht.symm
  exact (List.getElem?_inj hi (leastH_ok hf).nodup).1 e
theorem least_small (hf : formedA n rs m = true) {o : Mach} (ho : formedA n rs o = true) (h0 : Sim (leastM m) o 0 0) : (leastM m).length ≤ o.length := by
  have hF := least_formed hf
  have key : ∀ (N j : Nat), j ≤ N → j < (leastM m).length → ∃ b, Sim (leastM m) o j b := by
    intro N
    induction N with
    | zero => intro j hj _; obtain rfl : j = 0 := by omega
              exact ⟨0, h0⟩
    | succ N ih =>
      intro j hj hjl
      rcases leastM_new hf hjl with h | ⟨i, c, a', hi, ha, hm⟩
      · subst h; exact ⟨0, h0⟩
      · obtain ⟨b, hb⟩ := ih i (by omega) (by omega)
        obtain ⟨y, hy, _, hl⟩ := hb.at_ hF ho ha
        obtain ⟨t, ht⟩ := List.getElem?_of_mem hm
        have htl := (List.getElem?_eq_some_iff.1 ht).1
        have hq : y.next[t]? = some y.next[t] := List.getElem?_eq_getElem (by omega)
        have := hb.next ha hy ht hq
        rw [Int.toNat_natCast] at this
        exact ⟨_, this⟩
  have hex : ∀ j : Nat, ∃ b, j < (leastM m).length → Sim (leastM m) o j b := by
    intro j
    by_cases hj : j < (leastM m).length
    · obtain ⟨b, hb⟩ := key j j (Nat.le_refl _) hj
      exact ⟨b, fun _ => hb⟩
    · exact ⟨0, fun h => absurd h hj⟩
  have hch := Classical.axiomOfChoice hex
  obtain ⟨g, hg⟩ := hch
  have hnd : ((List.range (leastM m).length).map fun j : Nat => (g j : Int)).Nodup := by
    rw [List.Nodup, List.pairwise_map]
    refine List.Pairwise.imp_of_mem ?_ (List.nodup_range (n := (leastM m).length))
    intro x y hx hy hne he
    have hx' := List.mem_range.1 hx
    have hy' := List.mem_range.1 hy
    have e : g x = g y := Int.ofNat.inj he
    have h1 := hg x hx'
    have h2 := hg y hy'
    rw [← e] at h2
    exact hne (least_apart hf (h1.trans hF ho h2.swap))
  have := nodup_below o.length _ hnd fun x hx => by
    obtain ⟨j, hj, rfl⟩ := List.mem_map.1 hx
    have := (hg j (List.mem_range.1 hj)).lt.2
    omega
  simpa using this

/-- Runs by a word with machines that say the same. -/
theorem go_bis {m m' : Mach} (hf : formedA n rs m = true) (hf' : formedA n rs m' = true) {R : Nat → Nat → Prop} (hB : Bis m m' R) (h0 : R 0 0) {word : List Lt} (hw : word.all (letterB n) = true) : ∀ k, k ≤ word.length →
    (goTo rs m 0 word k).1 = (goTo rs m' 0 word k).1 ∧ 0 ≤ (goTo rs m 0 word k).2 ∧ 0 ≤ (goTo rs m' 0 word k).2 ∧ R (goTo rs m 0 word k).2.toNat (goTo rs m' 0 word k).2.toNat
  | 0, _ => ⟨rfl, Int.le_refl _, Int.le_refl _, h0⟩
  | k + 1, hk => by
    obtain ⟨h1, h2, h3, h4⟩ := go_bis hf hf' hB h0 hw k (by omega)
    have hx : word[k]? = some word[k] := List.getElem?_eq_getElem (by omega)
    have hl := List.all_eq_true.1 hw _ (List.mem_of_getElem? hx)
    simp only [letterB, Bool.and_eq_true, decide_eq_true_eq] at hl
    obtain ⟨c, hc⟩ := Int.eq_ofNat_of_zero_le hl.1.1
    obtain ⟨g1, g2, g3, g4⟩ := hB.step hf hf' h2 h3 h4 (c := c) (by omega) word[k].keep
    have e : word.getD k ⟨0, 0⟩ = ⟨(c : Int), word[k].keep⟩ := by
      rw [← hc]
      simp [List.getD, hx]
    rw [goTo, goTo]
    simp only [e]
    exact ⟨by rw [h1, g1], g2, g3, g4⟩
theorem least_go (hf : formedA n rs m = true) {word : List Lt} (hw : word.all (letterB n) = true) :
    (goTo rs (leastM m) 0 word word.length).1 = (goTo rs m 0 word word.length).1 ∧ 0 ≤ (goTo rs m 0 word word.length).2 ∧ (leastC m)[(goTo rs m 0 word word.length).2.toNat]? = some (goTo rs (leastM m) 0 word word.length).2 := by
  have hF := least_formed hf
  have hm := formed_len hf
  obtain ⟨h1, h2, h3, h4, h5⟩ := go_bis hF hf (least_bis hf) ⟨by omega, by rw [firstA_zero]; exact leastH_zero⟩ hw word.length (Nat.le_refl _)
  refine ⟨h1, h3, ?_⟩
  unfold leastC
  rw [List.getElem?_map, List.getElem?_range h4]
  have hin := List.mem_of_getElem? h5
  have hc : clsN (leastH m) (firstA m (goTo rs m 0 word word.length).2.toNat : Int) = (goTo rs (leastM m) 0 word word.length).2 := by
    unfold clsN
    rw [if_pos hin]
    have e := idxOf_get hin
    have hl := (List.getElem?_eq_some_iff.1 h5).1
    have := (List.getElem?_inj hl (leastH_ok hf).nodup).1 (h5.trans e.symm)
    omega
  rw [← hc]
  rfl

theorem leastC_len (m : Mach) : (leastC m).length = m.length := by simp [leastC]
end
end Go.Proofs.Ytlnonadkdonhmaa
