/- Contracts and lemmas that a claim of this seat uses. -/
import Derived.Test.YtlnonadkdonhmaaL32

/- Contract: less. -/
namespace Go.Proofs.Ytlnonadkdonhmaa
open Go.RowKit Go.Maps

def lexL : List Lt → List Lt → Bool
  | x :: s, y :: t => if x.ch = y.ch then (if x.keep = y.keep then lexL s t else decide (x.keep < y.keep)) else decide (x.ch < y.ch)
  | _, _ => false
def lessL (v w : List Lt) : Bool := if v.length = w.length then lexL v w else decide (v.length < w.length)

set_option maxRecDepth 100000 in
set_option maxHeartbeats 16000000 in
theorem less_any (A : Option Addr) (c : Nat) (B : Option Addr) (d : Nat) (v u : List Lt) (w : World) (hA : Cells w A (lts v)) (hB : Cells w B (lts u)) :
    Calls Try.prog 44 #[.slice A v.length c, .slice B u.length d] w fun e w' => e = .returned (.bool (lessL v u)) ∧ Below w.heap.size w w' := by
  have hlv : v.length ≤ 17592186043904 := by have := hA.1; simp [lts, flat_len ltCells_len] at this; omega
  have hlu : u.length ≤ 17592186043904 := by have := hB.1; simp [lts, flat_len ltCells_len] at this; omega
  by_cases hl : v.length = u.length
  · have hq : ((v.length : Int) != (u.length : Int)) = false := by rw [hl]; exact bne_self_eq_false _
    have HLL : Hid (lessL v u = lexL v u) := by show _ = _; unfold lessL; rw [if_pos hl]
    have HL := Lib.hid hl
    have hl1 : v.length ≤ u.length := by omega
    clear hl
    go_enter Try.func44, Try.ntmps44
    go_wp2
    go_loopw [18] (fun i wr => ∃ k : Nat, i = .int .i64 k ∧ k ≤ v.length ∧ lexL v u = lexL (v.drop k) (u.drop k) ∧ Below w.heap.size w wr) (fun i _ => v.length - (intOf i).toNat)
    case atStart => exact ⟨0, rfl, Nat.zero_le _, by rw [List.drop_zero, List.drop_zero], Below.refl _ _⟩
    case round =>
      obtain ⟨k, rfl, hk, hs, hBw⟩ := hrel
      have HS := Lib.hid hs
      have HBw := Lib.hid hBw
      clear hs hBw
      by_cases hkt : k < v.length
      · have hku : k < u.length := by omega
        obtain ⟨x, b5, o5, hx, hb5, hix, hcell⟩ := flat_at (c := c) (hA.below HBw.out (Nat.le_refl _)) (f := ltCells) (fun _ => rfl) Try.underlying38 rLt.size_eq (by decide) hkt
        obtain ⟨y, b6, o6, hy, hb6, hiy, hdell⟩ := flat_at (c := d) (hB.below HBw.out (Nat.le_refl _)) (f := ltCells) (fun _ => rfl) Try.underlying38 rLt.size_eq (by decide) hku
        have HDV : Hid (v.drop k = x :: v.drop (k + 1)) := drop_cons hx
        have HDU : Hid (u.drop k = y :: u.drop (k + 1)) := drop_cons hy
        obtain ⟨ch, keep⟩ := x
        obtain ⟨ch2, keep2⟩ := y
        have d0 := hcell 0 (.int .i64 ch) rfl
        have d1 := hcell 1 (.int .i64 keep) rfl
        have e0 := hdell 0 (.int .i64 ch2) rfl
        have e1 := hdell 1 (.int .i64 keep2) rfl
        rw [Nat.add_zero] at d0 e0
        clear hx hy hcell hdell
        by_cases h1 : ch = ch2
        · have hc1 : (ch != ch2) = false := by rw [h1]; exact bne_self_eq_false _
          by_cases h2 : keep = keep2
          · have hc2 : (keep != keep2) = false := by rw [h2]; exact bne_self_eq_false _
            have HT : Hid (lexL v u = lexL (v.drop (k + 1)) (u.drop (k + 1))) := by
              show _ = _
              rw [HS.out, HDV.out, HDU.out]
              rw [lexL, if_pos h1, if_pos h2]
            clear h1 h2
            go_wp2
            refine sall (by kernel_rfl) (by kernel_rfl) (fun Kq hKq => ?_)
            repeat still_step
            refine wpStill_nil (hKq _ ?_)
            clear hKq Kq
            go_wp2
            refine sall (by kernel_rfl) (by kernel_rfl) (fun Kq hKq => ?_)
            repeat still_step
            refine wpStill_nil (hKq _ ?_)
            clear hKq Kq
            go_wp2
            go_roundw
            case rel => exact ⟨k + 1, by go_num, by omega, HT.out, HBw.out.drew.drew⟩
            case measure => simp [intOf]; omega
          · have hc2 : (keep != keep2) = true := by simpa using h2
            have HT : Hid (lexL v u = decide (keep < keep2)) := by
              show _ = _
              rw [HS.out, HDV.out, HDU.out]
              rw [lexL, if_pos h1, if_neg h2]
            clear h1 h2
            go_wp2
            refine sall (by kernel_rfl) (by kernel_rfl) (fun Kq hKq => ?_)
            repeat still_step
            refine wpStill_nil (hKq _ ?_)
            clear hKq Kq
            go_wp2
            refine sall (by kernel_rfl) (by kernel_rfl) (fun Kq hKq => ?_)
            repeat still_step
            refine wpStill_nil (hKq _ ?_)
            clear hKq Kq
            go_wp2
            refine sall (by kernel_rfl) (by kernel_rfl) (fun Kq hKq => ?_)
            repeat still_step
            refine wpStill_nil (hKq _ ?_)
            clear hKq Kq
            go_wp2
            go_ret
            exact ⟨by rw [HLL.out, HT.out]; rfl, HBw.out.drew.drew.drew⟩
        · have hc1 : (ch != ch2) = true := by simpa using h1
          have HT : Hid (lexL v u = decide (ch < ch2)) := by
            show _ = _
            rw [HS.out, HDV.out, HDU.out]
            rw [lexL, if_neg h1]
          clear h1
          go_wp2
          refine sall (by kernel_rfl) (by kernel_rfl) (fun Kq hKq => ?_)
          repeat still_step
          refine wpStill_nil (hKq _ ?_)
          clear hKq Kq
          go_wp2
          refine sall (by kernel_rfl) (by kernel_rfl) (fun Kq hKq => ?_)
          repeat still_step
          refine wpStill_nil (hKq _ ?_)
          clear hKq Kq
          go_wp2
          go_ret
          exact ⟨by rw [HLL.out, HT.out]; rfl, HBw.out.drew.drew⟩
      · obtain rfl : k = v.length := by omega
        have HT : Hid (lexL v u = false) := by show _ = _; rw [HS.out, List.drop_length]; rfl
        go_wp2
        go_ret
        exact ⟨by rw [HLL.out, HT.out]; rfl, HBw.out⟩
  · have hq : ((v.length : Int) != (u.length : Int)) = true := by rw [bne_iff_ne]; omega
    have HLL : Hid (lessL v u = decide (v.length < u.length)) := by show _ = _; unfold lessL; rw [if_neg hl]
    clear hl
    go_enter Try.func44, Try.ntmps44
    go_wp2
    go_ret
    exact ⟨by rw [HLL.out]; first | rfl | simp, Below.refl _ _⟩
end Go.Proofs.Ytlnonadkdonhmaa

/- No word that tells lies ahead of the word of Apart. -/
namespace Go.Proofs.Ytlnonadkdonhmaa
open Go.RowKit Go.Maps

set_option maxRecDepth 100000 in
theorem keepO_all : ((List.range 64).all fun X => (List.range 64).all fun y => !(withinI (y : Int) (X : Int)) || ((List.range (2 ^ (memL (X : Int)).length)).all fun k =>
    decide ((k : Int) < placeI (memL (X : Int)) (y : Int) → keepO (memL (X : Int)) (k : Int) (memL (X : Int)).length < (y : Int)) && decide ((k : Int) = placeI (memL (X : Int)) (y : Int) → keepO (memL (X : Int)) (k : Int) (memL (X : Int)).length = (y : Int)))) = true := by kernel_rfl
theorem keepO_le {X y : Int} (hX : isB X) (hy : isB y) (hw : withinI y X = true) {k : Nat} (hk : k < 2 ^ (memL X).length) :
    ((k : Int) < placeI (memL X) y → keepO (memL X) k (memL X).length < y) ∧ ((k : Int) = placeI (memL X) y → keepO (memL X) k (memL X).length = y) := by
  obtain ⟨X, rfl, hX'⟩ := nat_of hX
  obtain ⟨y, rfl, hy'⟩ := nat_of hy
  have h1 := List.all_eq_true.1 keepO_all X (List.mem_range.2 hX')
  have h2 := List.all_eq_true.1 h1 y (List.mem_range.2 hy')
  rw [hw] at h2
  simp only [Bool.not_true, Bool.false_or] at h2
  have h3 := List.all_eq_true.1 h2 k (List.mem_range.2 hk)
  simp only [Bool.and_eq_true, decide_eq_true_eq] at h3
  exact h3
theorem within_none_all : ((List.range 64).all fun y => !(withinI (y : Int) 0) || decide ((y : Int) = 0)) = true := by kernel_rfl
theorem within_none {y : Int} (hy : isB y) (hw : withinI y 0 = true) : y = 0 := by
  obtain ⟨y, rfl, hy'⟩ := nat_of hy
  have h1 := List.all_eq_true.1 within_none_all y (List.mem_range.2 hy')
  rw [hw] at h1
  simpa using h1

section
variable {n : Int} {rs : List Int} {m : Mach}
theorem EQ.le {r i k : Nat} (d : Nat) (h : EQ m (r + d) i k) : EQ m r i k := by
  induction d with
  | zero => exact h
  | succ d ih => exact ih h.mono
theorem sim_EQ (hf : formedA n rs m = true) : ∀ (r a b : Nat), a < m.length → b < m.length → Sim m m a b → EQ m r a b
  | 0, _, _, _, _, _ => trivial
  | r + 1, a, b, ha, hb, h => ⟨h.rule, fun c x y j p q hx hy hp hq => by
      have h1 := act_next hf ha hx (List.mem_of_getElem? hp)
      have h2 := act_next hf hb hy (List.mem_of_getElem? hq)
      exact sim_EQ hf r _ _ (by omega) (by omega) (h.next hx hy hp hq)⟩

/-- A letter of the machine: the acts that it takes in two states with equal rules. -/
theorem letter_acts (hf : formedA n rs m = true) {a b : Nat} (ha : a < m.length) (hb : b < m.length) {x : Lt} (hx : letterB n x = true) :
    ∃ (i : Nat) (xa ya : AAct), x.ch = (i : Int) ∧ (rowM m a)[i]? = some xa ∧ (rowM m b)[i]? = some ya ∧ actAt m a x.ch = xa ∧ actAt m b x.ch = ya ∧ actOkA rs m.length i xa = true ∧ actOkA rs m.length i ya = true ∧ isB x.keep := by
  obtain ⟨_, hn6, _, _⟩ := grpOk_true (formed_grp hf)
  simp only [letterB, setI, Bool.and_eq_true, decide_eq_true_eq] at hx
  obtain ⟨i, hi⟩ := Int.eq_ofNat_of_zero_le hx.1.1
  have h1 := rowM_len hf ha
  have h2 := rowM_len hf hb
  obtain ⟨xa, hxa⟩ : ∃ y, (rowM m a)[i]? = some y := ⟨_, List.getElem?_eq_getElem (by omega)⟩
  obtain ⟨ya, hya⟩ : ∃ y, (rowM m b)[i]? = some y := ⟨_, List.getElem?_eq_getElem (by omega)⟩
  have hlt : (2 : Int) ^ n.toNat ≤ 64 := by
    have h3 : (2 : Nat) ^ n.toNat ≤ 2 ^ 6 := Nat.pow_le_pow_right (by decide) (by omega)
    exact_mod_cast h3
  refine ⟨i, xa, ya, hi, hxa, hya, ?_, ?_, act_ok hf ha hxa, act_ok hf hb hya, hx.2.1, by have := hx.2.2; omega⟩
  · rw [hi]; exact actAt_row hxa
  · rw [hi]; exact actAt_row hya

theorem tellL_not_EQ (hf : formedA n rs m = true) : ∀ (word : List Lt) (a b : Nat), word ≠ [] → a < m.length → b < m.length → tellL n rs m word a b = true → ¬ EQ m word.length a b
  | [], _, _, h, _, _, _ => absurd rfl h
  | x :: t, a, b, _, ha, hb, h => by
    unfold tellL at h
    simp only [Bool.and_eq_true] at h
    obtain ⟨⟨⟨h1, h2⟩, h3⟩, h4⟩ := h
    obtain ⟨i, xa, ya, hi, hxa, hya, ea, eb, oka, okb, hk⟩ := letter_acts hf ha hb h1
    rw [ea, eb] at h2 h3 h4
    rintro ⟨hr, hn⟩
    have hrr := hr i xa ya hxa hya
    have hne : (xa.rule != ya.rule) = false := by simpa using hrr
    rw [hne] at h2
    cases t with
    | nil => simp at h2
    | cons y t =>
      rw [nextI_idx, nextI_idx, ← hrr] at h4
      have l1 := idxN_lt (rs := rs) (x := x) (a := xa) (by rw [hi]; exact oka)
      have l2 := idxN_lt (rs := rs) (x := x) (a := ya) (by rw [hi]; exact okb)
      rw [← hrr] at l2
      have g1 : xa.next[idxN rs xa.rule x]? = some (xa.next.getD (idxN rs xa.rule x) 0) := by simp [List.getD, List.getElem?_eq_getElem l1]
      have g2 : ya.next[idxN rs xa.rule x]? = some (ya.next.getD (idxN rs xa.rule x) 0) := by simp [List.getD, List.getElem?_eq_getElem l2]
      have b1 := act_next hf ha hxa (List.mem_of_getElem? g1)
      have b2 := act_next hf hb hya (List.mem_of_getElem? g2)
      have hE := hn i xa ya _ _ _ hxa hya g1 g2
      obtain ⟨p, hp⟩ := Int.eq_ofNat_of_zero_le b1.1
      obtain ⟨q, hq⟩ := Int.eq_ofNat_of_zero_le b2.1
      rw [hp, hq] at h4 hE
      rw [hp] at b1
      rw [hq] at b2
      exact tellL_not_EQ hf (y :: t) p q (by simp) (by omega) (by omega) h4 hE

/-- A word that tells: the table knows the two states, and it is no shorter than the table says. -/
theorem tellL_known (hf : formedA n rs m = true) {word : List Lt} {a b : Nat} (hne : word ≠ []) (ha : a < m.length) (hb : b < m.length) (h : tellL n rs m word a b = true) :
    ∃ L : Nat, tget (roundsA m) (bothI a b) = some (L : Int) ∧ 1 ≤ L ∧ L ≤ word.length := by
  have hN := tellL_not_EQ hf word a b hne ha hb h
  cases ht : tget (roundsA m) (bothI a b) with
  | none => exact absurd (sim_EQ hf _ a b ha hb ((sim_iff hf ha hb).2 ht)) hN
  | some v =>
    obtain ⟨h1, h2, h3⟩ := val_EQ hf ha hb ht
    refine ⟨v.toNat, by congr 1; omega, by omega, ?_⟩
    apply Classical.byContradiction
    intro hc
    exact hN (EQ.le ((v - 1).toNat - word.length) (by rw [show word.length + ((v - 1).toNat - word.length) = (v - 1).toNat by omega]; exact h2))

/-- Of the words of the least length that tell, none lies ahead of the word of Apart. -/
theorem lex_word (hf : formedA n rs m = true) : ∀ (L : Nat) (word : List Lt) (a b : Nat), word.length = L → a < m.length → b < m.length → tellL n rs m word a b = true → tget (roundsA m) (bothI a b) = some (L : Int) → lexL word (wordA rs m (roundsA m) L a b) = false
  | 0, [], _, _, _, _, _, _, _ => rfl
  | 0, _ :: _, _, _, h, _, _, _, _ => by simp at h
  | L + 1, [], _, _, h, _, _, _, _ => by simp at h
  | L + 1, x :: t, a, b, hl, ha, hb, h, ht => by
    have hba := bAll_of (formed_grp hf)
    have hlt : t.length = L := by simpa using hl
    obtain ⟨_, hE, hN⟩ := val_EQ hf ha hb ht
    unfold tellL at h
    simp only [Bool.and_eq_true] at h
    obtain ⟨⟨⟨h1, h2⟩, h3⟩, h4⟩ := h
    obtain ⟨c, xa, ya, hc, hxa, hya, ea, eb, oka, okb, hk⟩ := letter_acts hf ha hb h1
    rw [ea, eb] at h2 h3 h4
    obtain ⟨ch, keep⟩ := x
    simp only at hc h3 hk
    subst hc
    cases L with
    | zero =>
      obtain rfl : t = [] := List.eq_nil_of_length_eq_zero hlt
      have hne : neRules (rowM m a) (rowM m b) = true := one_known ha hb (by rw [ht]; rfl)
      obtain ⟨i, x, y, e1, hx, hy, hr, hmin⟩ := leastL_one rs (roundsA m) 0 hne
      have hw : wordA rs m (roundsA m) (0 + 1) a b = [⟨(i : Int), 0⟩] := by
        unfold wordA leastI
        have e2 : leastL rs (((0 : Nat) : Int) + 1) (roundsA m) 0 (m.getD a []) (m.getD b []) = (⟨((0 + i : Nat) : Int), 0⟩, 0) := e1
        simp only [e2]
        simp [wordA]
      rw [hw]
      have hnr : xa.rule ≠ ya.rule := by
        intro hh
        have : (xa.rule != ya.rule) = false := by simpa using hh
        rw [this] at h2
        simp at h2
      rw [lexL]
      by_cases hci : c = i
      · rw [if_pos (by rw [hci])]
        by_cases hk0 : keep = 0
        · rw [if_pos hk0]; rfl
        · rw [if_neg hk0]
          exact decide_eq_false (by have := hk.1; simp only; omega)
      · rw [if_neg (by intro hh; exact hci (Int.ofNat.inj hh))]
        refine decide_eq_false fun hh => ?_
        simp only at hh
        exact hnr (hmin c xa ya (by omega) hxa hya)
    | succ L =>
      have hrule : rulesEq (rowM m a) (rowM m b) := by
        rw [show ((L + 1 + 1 : Nat) : Int) - 1 = ((L + 1 : Nat) : Int) by push_cast; omega, Int.toNat_natCast] at hE
        exact hE.1
      have hv : ((L + 1 + 1 : Nat) : Int) ≠ 1 := by omega
      obtain ⟨_, _, hkn⟩ := pair_known ha hb (.inr trivial) ht (roundsA_ok m)
      obtain ⟨i, x, y, k, p, e1, hx, hy, hz, htp, hmin1, hmin2⟩ := leastL_more rs hv 0 (hkn hv).2
      obtain ⟨p1, p2⟩ := p
      have hz0 := hz
      rw [List.getElem?_zip_eq_some] at hz
      simp only at htp hz
      have hp1 := act_next hf ha hx (List.mem_of_getElem? hz.1)
      have hp2 := act_next hf hb hy (List.mem_of_getElem? hz.2)
      obtain ⟨q1, rfl⟩ := Int.eq_ofNat_of_zero_le hp1.1
      obtain ⟨q2, rfl⟩ := Int.eq_ofNat_of_zero_le hp2.1
      rw [Nat.zero_add] at e1
      have hs1 : stepS m a (⟨(i : Int), keepX rs x i k⟩, k) = q1 := by
        unfold stepS
        simp only [Int.toNat_natCast]
        simp [List.getD, hx, hz.1]
      have hs2 : stepS m b (⟨(i : Int), keepX rs x i k⟩, k) = q2 := by
        unfold stepS
        simp only [Int.toNat_natCast]
        simp [List.getD, hy, hz.2]
      have hw : wordA rs m (roundsA m) (L + 1 + 1) a b = ⟨(i : Int), keepX rs x i k⟩ :: wordA rs m (roundsA m) (L + 1) q1 q2 := by
        rw [wordA]
        have e2 : leastI rs m a b (((L + 1 : Nat) : Int) + 1) (roundsA m) = (⟨(i : Int), keepX rs x i k⟩, k) := by
          unfold leastI
          have : ((L + 1 : Nat) : Int) + 1 = ((L + 1 + 1 : Nat) : Int) := by push_cast; rfl
          rw [this]
          exact e1
        simp only [e2, hs1, hs2]
      rw [hw]
      -- the letter of the word at hand
      have hrr := hrule c xa ya hxa hya
      have hl1 := idxN_lt (rs := rs) (x := ⟨(c : Int), keep⟩) (a := xa) oka
      have hl2 := idxN_lt (rs := rs) (x := ⟨(c : Int), keep⟩) (a := ya) okb
      rw [← hrr] at hl2
      have n1 := nextI_idx rs xa ⟨(c : Int), keep⟩
      have n2 := nextI_idx rs ya ⟨(c : Int), keep⟩
      rw [← hrr] at n2
      obtain ⟨j, hj⟩ : ∃ j, idxN rs xa.rule ⟨(c : Int), keep⟩ = j := ⟨_, rfl⟩
      rw [hj] at hl1 hl2 n1 n2
      have g1 : xa.next[j]? = some (nextI rs xa ⟨(c : Int), keep⟩) := by rw [n1]; simp [List.getD, List.getElem?_eq_getElem hl1]
      have g2 : ya.next[j]? = some (nextI rs ya ⟨(c : Int), keep⟩) := by rw [n2]; simp [List.getD, List.getElem?_eq_getElem hl2]
      have b1 := act_next hf ha hxa (List.mem_of_getElem? g1)
      have b2 := act_next hf hb hya (List.mem_of_getElem? g2)
      obtain ⟨r1, hr1⟩ := Int.eq_ofNat_of_zero_le b1.1
      obtain ⟨r2, hr2⟩ := Int.eq_ofNat_of_zero_le b2.1
      rw [hr1] at g1 h4 b1
      rw [hr2] at g2 h4 b2
      have hr1l : r1 < m.length := by omega
      have hr2l : r2 < m.length := by omega
      have htne : t ≠ [] := by intro hh; rw [hh] at hlt; simp at hlt
      have hNr := tellL_not_EQ hf t r1 r2 htne hr1l hr2l h4
      rw [hlt] at hNr
      have hEr : EQ m L r1 r2 := by
        rw [show ((L + 1 + 1 : Nat) : Int) - 1 = ((L + 1 : Nat) : Int) by push_cast; omega, Int.toNat_natCast] at hE
        exact hE.2 c xa ya j _ _ hxa hya g1 g2
      have hval : tget (roundsA m) (bothI r1 r2) = some ((L + 1 : Nat) : Int) := by
        obtain ⟨v, hv1, hv2, hv3⟩ := tellL_known hf htne hr1l hr2l h4
        obtain ⟨_, _, hNv⟩ := val_EQ hf hr1l hr2l hv1
        have : ¬ v ≤ L := by
          intro hh
          rw [Int.toNat_natCast] at hNv
          exact hNv (EQ.le (L - v) (by rw [show v + (L - v) = L by omega]; exact hEr))
        rw [hv1, show v = L + 1 by omega]
      have hzz : (xa.next.zip ya.next)[j]? = some ((r1 : Int), (r2 : Int)) := List.getElem?_zip_eq_some.2 ⟨g1, g2⟩
      have hleft : ((L + 1 + 1 : Nat) : Int) - 1 = ((L + 1 : Nat) : Int) := by push_cast; omega
      rw [lexL]
      by_cases hci : c = i
      · subst hci
        rw [if_pos rfl]
        rw [hx] at hxa
        injection hxa with hxa
        subst hxa
        rw [hy] at hya
        injection hya with hya
        subst hya
        have hkj : k ≤ j := by
          apply Classical.byContradiction
          intro hh
          exact hmin1 j _ (by omega) hzz (by rw [hleft]; exact hval)
        obtain ⟨k1, k2, k3⟩ := act_keep hf ha hx hz.1
        have hcmp : (k < j → keepX rs x c k < keep) ∧ (k = j → keepX rs x c k = keep) := by
          have hok := oka
          simp only [actOkA, ruleOk, Bool.and_eq_true, Bool.or_eq_true, decide_eq_true_eq] at hok
          by_cases hr : 0 ≤ x.rule
          · have hkl := (List.getElem?_eq_some_iff.1 hz.1).1
            have hmany := next_many oka
            have hne : x.rule ≠ -1 := by omega
            rw [manyA, if_neg hne] at hmany
            have hX : isB (bits BinOp.andNot .i64 (rs.getD x.rule.toNat 0) (2 ^ ((c : Int)).toNat)) := andNot_isB (getB0 hba _)
            have hkk : k < 2 ^ (memL (bits BinOp.andNot .i64 (rs.getD x.rule.toNat 0) (2 ^ ((c : Int)).toNat))).length := by
              rw [hmany] at hkl
              exact hkl
            have hwi : withinI keep (bits BinOp.andNot .i64 (rs.getD x.rule.toNat 0) (2 ^ ((c : Int)).toNat)) = true := by
              rw [keepT, if_pos ⟨hr, hrr⟩] at h3
              exact h3
            have h5 := keepO_le hX hk hwi hkk
            have hkx : keepX rs x c k = keepO (memL (bits BinOp.andNot .i64 (rs.getD x.rule.toNat 0) (2 ^ ((c : Int)).toNat))) k (memL (bits BinOp.andNot .i64 (rs.getD x.rule.toNat 0) (2 ^ ((c : Int)).toNat))).length := by
              unfold keepX
              rw [if_pos hr]
              rfl
            have hjp : j = (placeI (memL (bits BinOp.andNot .i64 (rs.getD x.rule.toNat 0) (2 ^ ((c : Int)).toNat))) keep).toNat := by
              rw [← hj]
              unfold idxN
              rw [if_neg (by omega)]
              rfl
            rw [hkx]
            exact ⟨fun hh => h5.1 (by omega), fun hh => by
              by_cases hp0 : 0 ≤ placeI (memL (bits BinOp.andNot .i64 (rs.getD x.rule.toNat 0) (2 ^ ((c : Int)).toNat))) keep
              · exact h5.2 (by omega)
              · exact absurd (place_lt _ _ _).1 hp0⟩
          · have hj0 : j = 0 := by rw [← hj]; unfold idxN; rw [if_pos (by omega)]
            have hkx : keepX rs x c k = 0 := by unfold keepX; rw [if_neg hr]
            have hk0 : keep = 0 := by
              refine within_none hk ?_
              rw [keepT, if_neg (by intro hh; exact hr hh.1)] at h3
              exact h3
            rw [hkx, hk0]
            exact ⟨fun hh => by omega, fun _ => rfl⟩
        by_cases hke : keep = keepX rs x c k
        · rw [if_pos hke]
          have hkj' : k = j := by
            apply Classical.byContradiction
            intro hh
            have := hcmp.1 (by omega)
            omega
          subst hkj'
          rw [hz.1] at g1
          rw [hz.2] at g2
          injection g1 with g1
          injection g2 with g2
          obtain rfl : q1 = r1 := by omega
          obtain rfl : q2 = r2 := by omega
          exact lex_word hf (L + 1) t q1 q2 hlt hr1l hr2l h4 hval
        · rw [if_neg hke]
          refine decide_eq_false fun hh => ?_
          by_cases hkj' : k = j
          · exact hke (hcmp.2 hkj').symm
          · have := hcmp.1 (by omega)
            simp only at hh
            omega
      · rw [if_neg (by intro hh; exact hci (Int.ofNat.inj hh))]
        refine decide_eq_false fun hh => ?_
        simp only at hh
        exact hmin2 c xa ya j _ (by omega) hxa hya hzz (by rw [hleft]; exact hval)

/-- What AutoShort asks. -/
theorem short_law (hf : formedA n rs m = true) {word : List Lt} {a b : Nat} (ha : a < m.length) (hb : b < m.length) (h : tellsB n rs m word a b = true) :
    ∃ L : Nat, tget (roundsA m) (bothI a b) = some (L : Int) ∧ lessL word (wordA rs m (roundsA m) L a b) = false := by
  unfold tellsB at h
  simp only [Bool.and_eq_true] at h
  have hne : word ≠ [] := by
    intro hh
    rw [hh] at h
    simp at h
  obtain ⟨L, h1, h2, h3⟩ := tellL_known hf hne ha hb h.2
  refine ⟨L, h1, ?_⟩
  unfold lessL
  rw [wordA_len]
  by_cases hl : word.length = L
  · rw [if_pos hl]
    exact lex_word hf L word a b hl ha hb h.2 h1
  · rw [if_neg hl]
    exact decide_eq_false (by omega)
end
end Go.Proofs.Ytlnonadkdonhmaa

/- What Apart answers of two states, as AutoShort and AutoSmall ask it. -/
namespace Go.Proofs.Ytlnonadkdonhmaa
open Go.RowKit Go.Maps

/-- What Apart answers of two states. -/
structure ShortOk (n : Int) (rs : List Int) (m : Mach) (a b : Nat) (R : List Lt) (I : Bool) : Prop where
  ap : apartA n rs m a b = (R, I, 0)
  sim : I = true ↔ ¬ Sim m m a b
  tells : I = true → tellsB n rs m R a b = true
  none : I = false → R = []
  law : ∀ word, tellsB n rs m word a b = true → I = true ∧ lessL word R = false
theorem short_ok {n : Int} {rs : List Int} {m : Mach} {a b : Nat} (hf : formedA n rs m = true) (ha : a < m.length) (hb : b < m.length) : ∃ R I, ShortOk n rs m a b R I := by
  have ho : (isStateA n rs m a && isStateA n rs m b) = true := by
    simp only [isStateA, stateB, Bool.and_eq_true, decide_eq_true_eq]
    exact ⟨⟨hf, by omega, by omega⟩, hf, by omega, by omega⟩
  have hap : apartA n rs m a b = apartA n rs m a b := rfl
  conv at hap => rhs; unfold apartA; rw [ho]
  simp only [Int.toNat_natCast] at hap
  cases ht : tget (roundsA m) (bothI a b) with
  | none =>
    rw [ht] at hap
    refine ⟨_, _, hap, ⟨fun h => by simp at h, fun h => absurd ((sim_iff hf ha hb).2 ht) h⟩, fun h => by simp at h, fun _ => rfl, fun word h => ?_⟩
    obtain ⟨L, h1, _⟩ := short_law hf ha hb h
    rw [ht] at h1
    cases h1
  | some v =>
    rw [ht] at hap
    have hv := (val_bd hf ha hb ht).1
    obtain ⟨L, rfl⟩ := Int.eq_ofNat_of_zero_le (a := v) (by omega)
    refine ⟨_, _, hap, ⟨fun _ h => (by rw [(sim_iff hf ha hb).1 h] at ht; cases ht), fun _ => rfl⟩, fun _ => word_tellsB hf ha hb ht, fun h => by simp at h, fun word h => ⟨rfl, ?_⟩⟩
    obtain ⟨L', h1, h2⟩ := short_law hf ha hb h
    rw [ht] at h1
    injection h1 with h1
    obtain rfl : L = L' := by omega
    exact h2

end Go.Proofs.Ytlnonadkdonhmaa
