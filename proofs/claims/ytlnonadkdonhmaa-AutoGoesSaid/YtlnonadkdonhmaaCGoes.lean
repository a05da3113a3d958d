/- AutoGoes returns true for every group, machine, state and word, and leaves its arguments as they were. No condition. -/
import Derived.Test.YtlnonadkdonhmaaL11
import Derived.Test.YtlnonadkdonhmaaL10
import Derived.Test.YtlnonadkdonhmaaRows

/- The walk of AutoGoes. -/
namespace Go.Proofs.Ytlnonadkdonhmaa
open Go.RowKit Go.Maps

theorem goA_no {n : Int} {rs : List Int} {m : Mach} {s : Int} {word : List Lt} (h : (formedA n rs m && stateB m s && wordB n word) = false) : goA n rs m s word = ([], 0, 2) := by
  unfold goA isStateA; rw [h]; rfl
theorem goA_yes {n : Int} {rs : List Int} {m : Mach} {s : Int} {word : List Lt} (h : (formedA n rs m && stateB m s && wordB n word) = true) : goA n rs m s word = ((goTo rs m s word word.length).1, (goTo rs m s word word.length).2, 0) := by
  unfold goA isStateA; rw [h]; rfl
theorem Ints_self (xs : List Int) (A B : Option Addr) (c d : Nat) (w : World) (hA : Cells w A (ints xs)) (hB : Cells w B (ints xs)) : Calls Try.prog 32 #[.slice A xs.length c, .slice B xs.length d] w fun e w' => e = .returned (.bool true) ∧ Below w.heap.size w w' := by
  have h := Ints_any xs xs A B c d w hA hB
  rw [decide_eq_true rfl] at h
  exact h

set_option maxRecDepth 100000 in
set_option maxHeartbeats 4000000 in
theorem goes_big (n : Int) (A : Option Addr) (c : Nat) (rs : List Int) (B : Option Addr) (d : Nat) (m : Mach) (s : Int) (D : Option Addr) (f : Nat) (word : List Lt) (w : World) (hA : Cells w A (ints rs)) (hM : MachAt w B m) (h : (decide (rs.length ≤ 30) && compactB m && decide (word.length ≤ 80)) = false) :
    Calls Try.prog 4 #[.agg #[.int .i64 n, .slice A rs.length c], .agg #[.slice B m.length d], .int .i64 s, .slice D word.length f] w fun e w' => e = .returned (.bool true) ∧ Below w.heap.size w w' := by
  have HB0 : Hid (Below w.heap.size w (gbox w n A rs.length c B m.length d)) := gbox_below w n A rs.length c B m.length d
  have HA0 := Lib.hid (hA.below HB0.out (Nat.le_refl _))
  have HM0 := Lib.hid (hM.below HB0.out (Nat.le_refl _))
  have hgm := gm_new w n A rs.length c B m.length d
  cases hs : decide (rs.length ≤ 30) with
  | false =>
    have HS := Lib.hid hs
    clear h hs
    go_enter Try.func4, Try.ntmps4
    go_wp2_with fail
    obtain ⟨W, hW⟩ : ∃ W, gbox w n A rs.length c B m.length d = W := ⟨_, rfl⟩
    have hW' : (w.alloc (.cells #[.int .i64 n, .slice A rs.length c] 24)).alloc (.cells #[.slice B m.length d] 27) = W := hW
    rw [hW] at HB0 HA0 HM0 hgm
    rw [hW']
    have c0 := hgm.g.cell 0 (v := .int .i64 n) rfl
    have c1 := hgm.g.cell 1 (v := .slice A rs.length c) rfl
    have c2 := hgm.m.cell 0 (v := .slice B m.length d) rfl
    have hl0 := hgm.g.lt
    have hl1 := hgm.m.lt
    clear hW hW' hgm
    refine (small_any n A rs.length c W).mono ?_
    rintro e w1 ⟨rfl, hB1⟩
    rw [HS.out]
    go_wp2_with (go_at_call 20; go_must (refine (known_any _).mono ?_); rintro e w2 ⟨rfl, hB2⟩)
    go_ret
    exact ⟨rfl, below_in HB0.out (below_in hB1 hB2)⟩
  | true =>
    cases hc : compactB m with
    | false =>
      have HS := Lib.hid hs
      have HC := Lib.hid hc
      clear h hs hc
      go_enter Try.func4, Try.ntmps4
      go_wp2_with fail
      obtain ⟨W, hW⟩ : ∃ W, gbox w n A rs.length c B m.length d = W := ⟨_, rfl⟩
      have hW' : (w.alloc (.cells #[.int .i64 n, .slice A rs.length c] 24)).alloc (.cells #[.slice B m.length d] 27) = W := hW
      rw [hW] at HB0 HA0 HM0 hgm
      rw [hW']
      have c0 := hgm.g.cell 0 (v := .int .i64 n) rfl
      have c1 := hgm.g.cell 1 (v := .slice A rs.length c) rfl
      have c2 := hgm.m.cell 0 (v := .slice B m.length d) rfl
      have hl0 := hgm.g.lt
      have hl1 := hgm.m.lt
      clear hW hW' hgm
      refine (small_any n A rs.length c W).mono ?_
      rintro e w1 ⟨rfl, hB1⟩
      rw [HS.out]
      have d2 := cell_chain hB1 hl1 c2
      go_wp2_with (first
        | (go_at_call 19; go_must (refine (compact_any B d m w1 (HM0.out.below hB1 (Nat.le_refl _))).mono ?_); rintro e w2 ⟨rfl, hB2⟩; rw [HC.out])
        | (go_at_call 20; go_must (refine (known_any _).mono ?_); rintro e w3 ⟨rfl, hB3⟩))
      go_ret
      exact ⟨rfl, below_in HB0.out (below_in hB1 (below_in hB2 hB3))⟩
    | true =>
      have hw : ¬ word.length ≤ 80 := by rw [hs, hc] at h; simpa using h
      have hd : decide ((80 : Int) < (word.length : Int)) = true := by simp <;> omega
      have HS := Lib.hid hs
      have HC := Lib.hid hc
      clear h hs hc
      go_enter Try.func4, Try.ntmps4
      go_wp2_with fail
      obtain ⟨W, hW⟩ : ∃ W, gbox w n A rs.length c B m.length d = W := ⟨_, rfl⟩
      have hW' : (w.alloc (.cells #[.int .i64 n, .slice A rs.length c] 24)).alloc (.cells #[.slice B m.length d] 27) = W := hW
      rw [hW] at HB0 HA0 HM0 hgm
      rw [hW']
      have c0 := hgm.g.cell 0 (v := .int .i64 n) rfl
      have c1 := hgm.g.cell 1 (v := .slice A rs.length c) rfl
      have c2 := hgm.m.cell 0 (v := .slice B m.length d) rfl
      have hl0 := hgm.g.lt
      have hl1 := hgm.m.lt
      clear hW hW' hgm
      refine (small_any n A rs.length c W).mono ?_
      rintro e w1 ⟨rfl, hB1⟩
      rw [HS.out]
      have d2 := cell_chain hB1 hl1 c2
      go_wp2_with (first
        | (go_at_call 19; go_must (refine (compact_any B d m w1 (HM0.out.below hB1 (Nat.le_refl _))).mono ?_); rintro e w2 ⟨rfl, hB2⟩; rw [HC.out])
        | (go_at_call 20; go_must (refine (known_any _).mono ?_); rintro e w3 ⟨rfl, hB3⟩))
      go_ret
      exact ⟨rfl, below_in HB0.out (below_in hB1 (below_in hB2 hB3))⟩



set_option maxRecDepth 100000 in
set_option maxHeartbeats 8000000 in
theorem goes_no (n : Int) (A : Option Addr) (c : Nat) (rs : List Int) (B : Option Addr) (d : Nat) (m : Mach) (s : Int) (D : Option Addr) (f : Nat) (word : List Lt) (w : World) (hA : Cells w A (ints rs)) (hM : MachAt w B m) (hD : Cells w D (lts word)) (h : (decide (rs.length ≤ 30) && compactB m && decide (word.length ≤ 80)) = true)
    (ho : (formedA n rs m && stateB m s && wordB n word) = false) :
    Calls Try.prog 4 #[.agg #[.int .i64 n, .slice A rs.length c], .agg #[.slice B m.length d], .int .i64 s, .slice D word.length f] w fun e w' => e = .returned (.bool true) ∧ Below w.heap.size w w' := by
  have HGO := Lib.hid (goA_no ho)
  cases hf : formedA n rs m with
  | false =>
    have HF := Lib.hid hf
    have hn0 : 0 ≤ n ∨ True := .inr trivial
    clear ho hf
    have hs : decide (rs.length ≤ 30) = true := by simp only [Bool.and_eq_true] at h; exact h.1.1
    have hc : compactB m = true := by simp only [Bool.and_eq_true] at h; exact h.1.2
    have hw80 : word.length ≤ 80 := by simp only [Bool.and_eq_true, decide_eq_true_eq] at h; exact h.2
    have hd : decide ((80 : Int) < (word.length : Int)) = false := by simp <;> omega
    have HS := Lib.hid hs
    have HC := Lib.hid hc
    clear h hs hc
    have HB0 : Hid (Below w.heap.size w (gbox w n A rs.length c B m.length d)) := gbox_below w n A rs.length c B m.length d
    have HA0 := Lib.hid (hA.below HB0.out (Nat.le_refl _))
    have HM0 := Lib.hid (hM.below HB0.out (Nat.le_refl _))
    have hgm := gm_new w n A rs.length c B m.length d
    go_enter Try.func4, Try.ntmps4
    go_wp2_with fail
    obtain ⟨W, hW⟩ : ∃ W, gbox w n A rs.length c B m.length d = W := ⟨_, rfl⟩
    have hW' : (w.alloc (.cells #[.int .i64 n, .slice A rs.length c] 24)).alloc (.cells #[.slice B m.length d] 27) = W := hW
    rw [hW] at HB0 HA0 HM0 hgm
    rw [hW']
    have c0 := hgm.g.cell 0 (v := .int .i64 n) rfl
    have c1 := hgm.g.cell 1 (v := .slice A rs.length c) rfl
    have c2 := hgm.m.cell 0 (v := .slice B m.length d) rfl
    have hl0 := hgm.g.lt
    have hl1 := hgm.m.lt
    clear hW hW' hgm
    have HD0 := Lib.hid (hD.below HB0.out (Nat.le_refl _))
    refine (small_any n A rs.length c W).mono ?_
    rintro e w1 ⟨rfl, hB1⟩
    rw [HS.out]
    have d2 := cell_chain hB1 hl1 c2
    go_wp2_with (first
      | (go_at_call 19; go_must (refine (compact_any B d m w1 (HM0.out.below hB1 (Nat.le_refl _))).mono ?_); rintro e w2 ⟨rfl, hB2⟩; rw [HC.out]; have hI2 := below_in hB1 hB2; have e0 := cell_chain hI2 hl0 c0; have e1 := cell_chain hI2 hl0 c1; have e2 := cell_chain hI2 hl1 c2)
      | fail)
    clear d2 hB1
    refine (Go_any n A c rs B d m s D f word w2 (HA0.out.below hI2 (Nat.le_refl _)) (HM0.out.below hI2 (Nat.le_refl _)) (HD0.out.below hI2 (Nat.le_refl _))).mono ?_
    rintro e w3 ⟨A3, c3, rfl, hC3, hB3⟩
    have hI3 := below_in hI2 hB3
    have f0 := cell_chain hI3 hl0 c0
    have f1 := cell_chain hI3 hl0 c1
    have f2 := cell_chain hI3 hl1 c2
    have hl3 : w.heap.size < w3.heap.size := Nat.lt_of_lt_of_le hl0 hI3.size
    have hl3' : w.heap.size + 1 < w3.heap.size := Nat.lt_of_lt_of_le hl1 hI3.size
    clear e0 e1 e2
    rw [HGO.out] at hC3 ⊢
    go_wp2_with (first
      | (go_at_call 28; go_must (refine (lawFormed_any n A c rs B d m w3 (HA0.out.below hI3 (Nat.le_refl _)) (HM0.out.below hI3 (Nat.le_refl _))).mono ?_); rintro e w4 ⟨rfl, hB4⟩; rw [HF.out]; have hI4 := below_in hI3 hB4)
      | (go_at_call 20; go_must (refine (known_any _).mono ?_); rintro e w9 ⟨rfl, hB9⟩))
    go_ret
    exact ⟨rfl, below_in HB0.out (below_in hI4 hB9)⟩
  | true =>
    have hgr : grpOk n rs = true := by simp only [formedA, Bool.and_eq_true] at hf; exact hf.1.1.1
    have hn0 : 0 ≤ n := by have := (grpOk_true hgr).1; omega
    have hn62 : n ≤ 62 := by have := (grpOk_true hgr).2.1; omega
    cases hst : stateB m s with
    | false =>
      have HF := Lib.hid hf
      have HST := Lib.hid hst
      clear ho hf hst hgr
      have hs : decide (rs.length ≤ 30) = true := by simp only [Bool.and_eq_true] at h; exact h.1.1
      have hc : compactB m = true := by simp only [Bool.and_eq_true] at h; exact h.1.2
      have hw80 : word.length ≤ 80 := by simp only [Bool.and_eq_true, decide_eq_true_eq] at h; exact h.2
      have hd : decide ((80 : Int) < (word.length : Int)) = false := by simp <;> omega
      have HS := Lib.hid hs
      have HC := Lib.hid hc
      clear h hs hc
      have HB0 : Hid (Below w.heap.size w (gbox w n A rs.length c B m.length d)) := gbox_below w n A rs.length c B m.length d
      have HA0 := Lib.hid (hA.below HB0.out (Nat.le_refl _))
      have HM0 := Lib.hid (hM.below HB0.out (Nat.le_refl _))
      have hgm := gm_new w n A rs.length c B m.length d
      go_enter Try.func4, Try.ntmps4
      go_wp2_with fail
      obtain ⟨W, hW⟩ : ∃ W, gbox w n A rs.length c B m.length d = W := ⟨_, rfl⟩
      have hW' : (w.alloc (.cells #[.int .i64 n, .slice A rs.length c] 24)).alloc (.cells #[.slice B m.length d] 27) = W := hW
      rw [hW] at HB0 HA0 HM0 hgm
      rw [hW']
      have c0 := hgm.g.cell 0 (v := .int .i64 n) rfl
      have c1 := hgm.g.cell 1 (v := .slice A rs.length c) rfl
      have c2 := hgm.m.cell 0 (v := .slice B m.length d) rfl
      have hl0 := hgm.g.lt
      have hl1 := hgm.m.lt
      clear hW hW' hgm
      have HD0 := Lib.hid (hD.below HB0.out (Nat.le_refl _))
      refine (small_any n A rs.length c W).mono ?_
      rintro e w1 ⟨rfl, hB1⟩
      rw [HS.out]
      have d2 := cell_chain hB1 hl1 c2
      go_wp2_with (first
        | (go_at_call 19; go_must (refine (compact_any B d m w1 (HM0.out.below hB1 (Nat.le_refl _))).mono ?_); rintro e w2 ⟨rfl, hB2⟩; rw [HC.out]; have hI2 := below_in hB1 hB2; have e0 := cell_chain hI2 hl0 c0; have e1 := cell_chain hI2 hl0 c1; have e2 := cell_chain hI2 hl1 c2)
        | fail)
      clear d2 hB1
      refine (Go_any n A c rs B d m s D f word w2 (HA0.out.below hI2 (Nat.le_refl _)) (HM0.out.below hI2 (Nat.le_refl _)) (HD0.out.below hI2 (Nat.le_refl _))).mono ?_
      rintro e w3 ⟨A3, c3, rfl, hC3, hB3⟩
      have hI3 := below_in hI2 hB3
      have f0 := cell_chain hI3 hl0 c0
      have f1 := cell_chain hI3 hl0 c1
      have f2 := cell_chain hI3 hl1 c2
      have hl3 : w.heap.size < w3.heap.size := Nat.lt_of_lt_of_le hl0 hI3.size
      have hl3' : w.heap.size + 1 < w3.heap.size := Nat.lt_of_lt_of_le hl1 hI3.size
      clear e0 e1 e2
      rw [HGO.out] at hC3 ⊢
      go_wp2_with (first
        | (go_at_call 28; go_must (refine (lawFormed_any n A c rs B d m w3 (HA0.out.below hI3 (Nat.le_refl _)) (HM0.out.below hI3 (Nat.le_refl _))).mono ?_); rintro e w4 ⟨rfl, hB4⟩; rw [HF.out]; have hI4 := below_in hI3 hB4; have h2 := cell_chain hB4 hl3' f2)
        | (go_at_call 29; go_must (refine (state_any B d m s w4).mono ?_); rintro e w5 ⟨rfl, hB5⟩; rw [HST.out]; have hI5 := below_in hI4 hB5)
        | (go_at_call 20; go_must (refine (known_any _).mono ?_); rintro e w9 ⟨rfl, hB9⟩))
      go_ret
      exact ⟨rfl, below_in HB0.out (below_in hI5 hB9)⟩
    | true =>
      have hw : wordB n word = false := by rw [hf, hst] at ho; simpa using ho
      have HF := Lib.hid hf
      have HST := Lib.hid hst
      have HW := Lib.hid hw
      clear ho hf hst hw hgr
      have hs : decide (rs.length ≤ 30) = true := by simp only [Bool.and_eq_true] at h; exact h.1.1
      have hc : compactB m = true := by simp only [Bool.and_eq_true] at h; exact h.1.2
      have hw80 : word.length ≤ 80 := by simp only [Bool.and_eq_true, decide_eq_true_eq] at h; exact h.2
      have hd : decide ((80 : Int) < (word.length : Int)) = false := by simp <;> omega
      have HS := Lib.hid hs
      have HC := Lib.hid hc
      clear h hs hc
      have HB0 : Hid (Below w.heap.size w (gbox w n A rs.length c B m.length d)) := gbox_below w n A rs.length c B m.length d
      have HA0 := Lib.hid (hA.below HB0.out (Nat.le_refl _))
      have HM0 := Lib.hid (hM.below HB0.out (Nat.le_refl _))
      have hgm := gm_new w n A rs.length c B m.length d
      go_enter Try.func4, Try.ntmps4
      go_wp2_with fail
      obtain ⟨W, hW⟩ : ∃ W, gbox w n A rs.length c B m.length d = W := ⟨_, rfl⟩
      have hW' : (w.alloc (.cells #[.int .i64 n, .slice A rs.length c] 24)).alloc (.cells #[.slice B m.length d] 27) = W := hW
      rw [hW] at HB0 HA0 HM0 hgm
      rw [hW']
      have c0 := hgm.g.cell 0 (v := .int .i64 n) rfl
      have c1 := hgm.g.cell 1 (v := .slice A rs.length c) rfl
      have c2 := hgm.m.cell 0 (v := .slice B m.length d) rfl
      have hl0 := hgm.g.lt
      have hl1 := hgm.m.lt
      clear hW hW' hgm
      have HD0 := Lib.hid (hD.below HB0.out (Nat.le_refl _))
      refine (small_any n A rs.length c W).mono ?_
      rintro e w1 ⟨rfl, hB1⟩
      rw [HS.out]
      have d2 := cell_chain hB1 hl1 c2
      go_wp2_with (first
        | (go_at_call 19; go_must (refine (compact_any B d m w1 (HM0.out.below hB1 (Nat.le_refl _))).mono ?_); rintro e w2 ⟨rfl, hB2⟩; rw [HC.out]; have hI2 := below_in hB1 hB2; have e0 := cell_chain hI2 hl0 c0; have e1 := cell_chain hI2 hl0 c1; have e2 := cell_chain hI2 hl1 c2)
        | fail)
      clear d2 hB1
      refine (Go_any n A c rs B d m s D f word w2 (HA0.out.below hI2 (Nat.le_refl _)) (HM0.out.below hI2 (Nat.le_refl _)) (HD0.out.below hI2 (Nat.le_refl _))).mono ?_
      rintro e w3 ⟨A3, c3, rfl, hC3, hB3⟩
      have hI3 := below_in hI2 hB3
      have f0 := cell_chain hI3 hl0 c0
      have f1 := cell_chain hI3 hl0 c1
      have f2 := cell_chain hI3 hl1 c2
      have hl3 : w.heap.size < w3.heap.size := Nat.lt_of_lt_of_le hl0 hI3.size
      have hl3' : w.heap.size + 1 < w3.heap.size := Nat.lt_of_lt_of_le hl1 hI3.size
      clear e0 e1 e2
      rw [HGO.out] at hC3 ⊢
      go_wp2_with (first
        | (go_at_call 28; go_must (refine (lawFormed_any n A c rs B d m w3 (HA0.out.below hI3 (Nat.le_refl _)) (HM0.out.below hI3 (Nat.le_refl _))).mono ?_); rintro e w4 ⟨rfl, hB4⟩; rw [HF.out]; have hI4 := below_in hI3 hB4; have h0 := cell_chain hB4 hl3 f0; have h1 := cell_chain hB4 hl3 f1; have h2 := cell_chain hB4 hl3' f2)
        | (go_at_call 29; go_must (refine (state_any B d m s w4).mono ?_); rintro e w5 ⟨rfl, hB5⟩; rw [HST.out]; have hI5 := below_in hI4 hB5; have i0 := cell_chain hI5 hl0 c0; have i1 := cell_chain hI5 hl0 c1)
        | (go_at_call 30; go_must (refine (word_any n A rs.length c D f word w5 hn0 hn62 (HD0.out.below hI5 (Nat.le_refl _))).mono ?_); rintro e w6 ⟨rfl, hB6⟩; rw [HW.out]; have hI6 := below_in hI5 hB6)
        | (go_at_call 20; go_must (refine (known_any _).mono ?_); rintro e w9 ⟨rfl, hB9⟩))
      go_ret
      exact ⟨rfl, below_in HB0.out (below_in hI6 hB9)⟩

set_option maxRecDepth 100000 in
set_option maxHeartbeats 8000000 in
theorem goes_yes (n : Int) (A : Option Addr) (c : Nat) (rs : List Int) (B : Option Addr) (d : Nat) (m : Mach) (s : Int) (D : Option Addr) (f : Nat) (word : List Lt) (w : World) (hA : Cells w A (ints rs)) (hM : MachAt w B m) (hD : Cells w D (lts word)) (h : (decide (rs.length ≤ 30) && compactB m && decide (word.length ≤ 80)) = true)
    (ho : (formedA n rs m && stateB m s && wordB n word) = true) :
    Calls Try.prog 4 #[.agg #[.int .i64 n, .slice A rs.length c], .agg #[.slice B m.length d], .int .i64 s, .slice D word.length f] w fun e w' => e = .returned (.bool true) ∧ Below w.heap.size w w' := by
  have HGO := Lib.hid (goA_yes ho)
  have ho' := ho
  simp only [Bool.and_eq_true] at ho'
  obtain ⟨⟨hf, hst⟩, hw⟩ := ho'
  have hgr : grpOk n rs = true := by simp only [formedA, Bool.and_eq_true] at hf; exact hf.1.1.1
  have hn0 : 0 ≤ n := by have := (grpOk_true hgr).1; omega
  have hn62 : n ≤ 62 := by have := (grpOk_true hgr).2.1; omega
  have HWA : Hid (word.all (letterB n) = true) := by show _ = _; simp only [wordB, Bool.and_eq_true] at hw; exact hw.1
  have HF := Lib.hid hf
  have HST := Lib.hid hst
  have HW := Lib.hid hw
  obtain ⟨R, HR⟩ : ∃ R, Hid (goTo rs m s word word.length = R) := ⟨_, rfl⟩
  have HRL : Hid (R.1.length = word.length) := by rw [← HR.out]; exact goTo_len _ _ _ _ _
  clear ho hf hst hw hgr
  have hs : decide (rs.length ≤ 30) = true := by simp only [Bool.and_eq_true] at h; exact h.1.1
  have hc : compactB m = true := by simp only [Bool.and_eq_true] at h; exact h.1.2
  have hw80 : word.length ≤ 80 := by simp only [Bool.and_eq_true, decide_eq_true_eq] at h; exact h.2
  have hd : decide ((80 : Int) < (word.length : Int)) = false := by simp <;> omega
  have HS := Lib.hid hs
  have HC := Lib.hid hc
  clear h hs hc
  have HB0 : Hid (Below w.heap.size w (gbox w n A rs.length c B m.length d)) := gbox_below w n A rs.length c B m.length d
  have HA0 := Lib.hid (hA.below HB0.out (Nat.le_refl _))
  have HM0 := Lib.hid (hM.below HB0.out (Nat.le_refl _))
  have hgm := gm_new w n A rs.length c B m.length d
  go_enter Try.func4, Try.ntmps4
  go_wp2_with fail
  obtain ⟨W, hW⟩ : ∃ W, gbox w n A rs.length c B m.length d = W := ⟨_, rfl⟩
  have hW' : (w.alloc (.cells #[.int .i64 n, .slice A rs.length c] 24)).alloc (.cells #[.slice B m.length d] 27) = W := hW
  rw [hW] at HB0 HA0 HM0 hgm
  rw [hW']
  have c0 := hgm.g.cell 0 (v := .int .i64 n) rfl
  have c1 := hgm.g.cell 1 (v := .slice A rs.length c) rfl
  have c2 := hgm.m.cell 0 (v := .slice B m.length d) rfl
  have hl0 := hgm.g.lt
  have hl1 := hgm.m.lt
  clear hW hW' hgm
  have HD0 := Lib.hid (hD.below HB0.out (Nat.le_refl _))
  refine (small_any n A rs.length c W).mono ?_
  rintro e w1 ⟨rfl, hB1⟩
  rw [HS.out]
  have d2 := cell_chain hB1 hl1 c2
  go_wp2_with (first
    | (go_at_call 19; go_must (refine (compact_any B d m w1 (HM0.out.below hB1 (Nat.le_refl _))).mono ?_); rintro e w2 ⟨rfl, hB2⟩; rw [HC.out]; have hI2 := below_in hB1 hB2; have e0 := cell_chain hI2 hl0 c0; have e1 := cell_chain hI2 hl0 c1; have e2 := cell_chain hI2 hl1 c2)
    | fail)
  clear d2 hB1
  refine (Go_any n A c rs B d m s D f word w2 (HA0.out.below hI2 (Nat.le_refl _)) (HM0.out.below hI2 (Nat.le_refl _)) (HD0.out.below hI2 (Nat.le_refl _))).mono ?_
  rintro e w3 ⟨A3, c3, rfl, hC3, hB3⟩
  have hI3 := below_in hI2 hB3
  have f0 := cell_chain hI3 hl0 c0
  have f1 := cell_chain hI3 hl0 c1
  have f2 := cell_chain hI3 hl1 c2
  have hl3 : w.heap.size < w3.heap.size := Nat.lt_of_lt_of_le hl0 hI3.size
  have hl3' : w.heap.size + 1 < w3.heap.size := Nat.lt_of_lt_of_le hl1 hI3.size
  clear e0 e1 e2
  rw [HGO.out] at hC3 ⊢
  rw [HR.out] at hC3 ⊢
  simp only at hC3 ⊢
  have HC3 := Lib.hid hC3
  clear hC3
  go_wp2_with (first
    | (go_at_call 28; go_must (refine (lawFormed_any n A c rs B d m w3 (HA0.out.below hI3 (Nat.le_refl _)) (HM0.out.below hI3 (Nat.le_refl _))).mono ?_); rintro e w4 ⟨rfl, hB4⟩; rw [HF.out]; have hI4 := below_in hI3 hB4; have h0 := cell_chain hB4 hl3 f0; have h1 := cell_chain hB4 hl3 f1; have h2 := cell_chain hB4 hl3' f2)
    | (go_at_call 29; go_must (refine (state_any B d m s w4).mono ?_); rintro e w5 ⟨rfl, hB5⟩; rw [HST.out]; have hI5 := below_in hI4 hB5; have i0 := cell_chain hI5 hl0 c0; have i1 := cell_chain hI5 hl0 c1)
    | (go_at_call 30; go_must (refine (word_any n A rs.length c D f word w5 hn0 hn62 (HD0.out.below hI5 (Nat.le_refl _))).mono ?_); rintro e w6 ⟨rfl, hB6⟩; rw [HW.out]; have hI6 := below_in hI5 hB6; have j0 := cell_chain hI6 hl0 c0; have j1 := cell_chain hI6 hl0 c1; have j2 := cell_chain hI6 hl1 c2)
    | fail)
  refine (RefGo_any n A c rs B d m s D f word w6 (HA0.out.below hI6 (Nat.le_refl _)) (HM0.out.below hI6 (Nat.le_refl _)) (HD0.out.below hI6 (Nat.le_refl _)) HF.out HST.out HWA.out (by omega)).mono ?_
  rintro e w7 ⟨A7, c7, rfl, hC7, hB7⟩
  rw [HR.out] at hC7 ⊢
  have hI7 := below_in hI6 hB7
  have hb37 : Below w3.heap.size w3 w7 := below_in (below_in hB4 (below_in hB5 hB6)) hB7
  have HC37 := Lib.hid (HC3.out.below hb37 (Nat.le_refl _))
  have HC7 := Lib.hid hC7
  rw [← HRL.out]
  clear hC7 f0 f1 f2 h0 h1 h2 i0 i1 j0 j1 j2
  go_wp2_with (first
    | (go_at_call 32; go_must (refine (Ints_self R.1 A3 A7 c3 c7 w7 HC37.out HC7.out).mono ?_); rintro e w8 ⟨rfl, hB8⟩)
    | (go_at_call 20; go_must (refine (known_any _).mono ?_); rintro e w9 ⟨rfl, hB9⟩))
  go_ret
  exact ⟨rfl, below_in HB0.out (below_in (below_in hI7 hB8) hB9)⟩

theorem walk_goes (n : Int) (A : Option Addr) (c : Nat) (rs : List Int) (B : Option Addr) (d : Nat) (m : Mach) (s : Int) (D : Option Addr) (f : Nat) (word : List Lt) (w : World) (hA : Cells w A (ints rs)) (hM : MachAt w B m) (hD : Cells w D (lts word)) :
    Calls Try.prog 4 #[.agg #[.int .i64 n, .slice A rs.length c], .agg #[.slice B m.length d], .int .i64 s, .slice D word.length f] w fun e w' => e = .returned (.bool true) ∧ Below w.heap.size w w' := by
  cases h : (decide (rs.length ≤ 30) && compactB m && decide (word.length ≤ 80)) with
  | false => exact goes_big n A c rs B d m s D f word w hA hM h
  | true =>
    cases ho : (formedA n rs m && stateB m s && wordB n word) with
    | false => exact goes_no n A c rs B d m s D f word w hA hM hD h ho
    | true => exact goes_yes n A c rs B d m s D f word w hA hM hD h ho
end Go.Proofs.Ytlnonadkdonhmaa

/- AutoGoes returns true for every group, machine, state and word, and leaves its arguments as they were. No condition. -/
namespace Go.Proofs.Ytlnonadkdonhmaa
open Go.ChangeShapes Go.WideShapes Go.ChangeAt Go.RowKit

theorem own_goes : ownKnob Try.prog.godebug = none := by kernel_rfl
theorem laid_goes : laidOutB Try.prog = true := by kernel_rfl

set_option maxRecDepth 100000 in
theorem lifted_goes (os : Os) (started : os.Started) (H : Type) (enc : TypeId × Value → H) :
    ReturnsInHanded {} Try.checked os 4 .any (Rows.autoGoesSpec.pre6 enc Try.prog Try.f4 Rows.autoGoesRow.domain false) (Rows.autoGoesSpec.post enc Try.prog Try.f4 false true false false) := by
  refine returnsInHanded_of_change_sized (C := Try.checked) own_goes started (by kernel_rfl) Try.func4
    (ChangeSpec.witness6 (enc := enc) (C := Try.checked) false ⟨#[], #[.agg #[.int .i64 0, .slice none 0 0], .agg #[.slice none 0 0], .int .i64 0, .slice none 0 0], []⟩ 8 (by kernel_rfl) (by kernel_rfl) (by kernel_rfl) (by kernel_rfl)) ?_
  intro W base args ds gs before hval0 hW hcnd hsz0 _
  have hval : ∀ (j : Nat) t v, Try.f4.params[j]? = some t → args[j]? = some v → Value.okWide Try.prog W .any base t v := hval0
  have hsz : (DataW.weightsEach Try.prog (Try.f4.params.toList ++ Rows.autoGoesSpec.plain.varTypes Try.prog) (ds ++ gs)).all (· ≤ reachBytes) = true := hsz0
  have hW' := hW
  obtain ⟨p, q, hA0, hV, rfl, hfz, hnd⟩ := hW
  have hA : DataW.TrodAll enc Try.prog W 0 (fun _ => true) true Try.f4.params.toList args.toList ds p := hA0
  rw [Try.params4] at hA hval hsz
  obtain ⟨v0, vs0, d0, ds0, p0, q0, hargs, rfl, rfl, h0, r0⟩ := trodAll_cons hA
  obtain ⟨v1, vs1, d1, ds1, p1, q1, rfl, rfl, rfl, h1, r1⟩ := trodAll_cons r0
  obtain ⟨v2, vs2, d2, ds2, p2, q2, rfl, rfl, rfl, h2, r2⟩ := trodAll_cons r1
  obtain ⟨v3, vs3, d3, ds3, p3, q3, rfl, rfl, rfl, h3, r3⟩ := trodAll_cons r2
  obtain ⟨rfl, rfl, rfl⟩ := trodAll_nil r3
  obtain rfl : args = #[v0, v1, v2, v3] := by cases args; simp_all
  obtain ⟨rfl, rfl⟩ := trodVars_none hV
  have s0 : sz Try.prog 24 d0 := sz_arg hsz (j := 0) rfl rfl
  obtain ⟨n0, A0, rs0, c0, rfl, hC0, hw0⟩ := arg_group (hval 0 24 v0 rfl rfl) h0 s0
  have k0 := h0
  have lt0 : ∀ x ∈ p0, x.block < W.heap.size := by obtain ⟨m, hm⟩ := k0; exact DataW.trod_lt m _ _ _ hm
  have s1 : sz Try.prog 27 d1 := sz_arg hsz (j := 1) rfl rfl
  obtain ⟨B1, m1, e1, rfl, hC1⟩ := arg_mach (hval 1 27 v1 rfl rfl) h1 s1
  have k1 := h1
  have lt1 : ∀ x ∈ p1, x.block < W.heap.size := by obtain ⟨m, hm⟩ := k1; exact DataW.trod_lt m _ _ _ hm
  obtain ⟨i2, rfl, rfl, rfl, hw2⟩ := open_int Try.underlying3 (hval 2 3 v2 rfl rfl) h2
  have s3 : sz Try.prog 38 d3 := sz_arg hsz (j := 3) rfl rfl
  obtain ⟨D3, xs3, f3, rfl, hC3⟩ := arg_word (hval 3 38 v3 rfl rfl) h3 s3
  have k3 := h3
  have lt3 : ∀ x ∈ p3, x.block < W.heap.size := by obtain ⟨m, hm⟩ := k3; exact DataW.trod_lt m _ _ _ hm
  clear hA0 hval0
  refine (walk_goes n0 A0 c0 rs0 B1 e1 m1 i2 D3 f3 xs3 W hC0 hC1 hC3).mono fun e W' ⟨he, bel⟩ => ?_
  subst he
  exact ⟨_, rfl, _, _, _, [], _, [], hW', trodAll_mk1 (shut_bool Try.underlying4 _), (trodAll_cons_mk (Below.trod laid_goes (by kernel_rfl) (of_decide_eq_true (by kernel_rfl)) k0 bel lt0) (trodAll_cons_mk (Below.trod laid_goes (by kernel_rfl) (of_decide_eq_true (by kernel_rfl)) k1 bel lt1) (trodAll_cons_mk (shut_int Try.underlying3 hw2) (trodAll_cons_mk (Below.trod laid_goes (by kernel_rfl) (of_decide_eq_true (by kernel_rfl)) k3 bel lt3) trodAll_mk0)))), rfl, bel.frame _, fun h => by cases h⟩

theorem goes_holds : Rows.AutoGoesSaid :=
  OpenClaim.holds_of_wide 4 Try.f4 rfl rfl rfl rfl rfl rfl rfl ⟨rfl, rfl, rfl, rfl, rfl⟩ rfl rfl rfl rfl rfl (by kernel_rfl) Try.func4 (by kernel_rfl)
    (of_decide_eq_true (by kernel_rfl)) (by unfold Func.isWrapper; first | (rw [if_pos (by decide +kernel)]; kernel_rfl) | (rw [if_neg (by decide +kernel)]; exact ⟨rfl, rfl⟩))
    (fun os started H enc _ => lifted_goes os started H enc)
#print axioms goes_holds
end Go.Proofs.Ytlnonadkdonhmaa
