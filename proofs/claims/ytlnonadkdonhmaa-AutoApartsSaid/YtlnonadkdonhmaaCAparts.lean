/- AutoAparts returns true for every group, machine and two states, and leaves its arguments as they were. No condition. -/
import Derived.Test.YtlnonadkdonhmaaL15
import Derived.Test.YtlnonadkdonhmaaL11
import Derived.Test.YtlnonadkdonhmaaL1
import Derived.Test.YtlnonadkdonhmaaL9
import Derived.Test.YtlnonadkdonhmaaL10
import Derived.Test.YtlnonadkdonhmaaRows

/- The walk of AutoAparts. -/
namespace Go.Proofs.Ytlnonadkdonhmaa
open Go.RowKit Go.Maps

theorem apartA_no {n : Int} {rs : List Int} {m : Mach} {a b : Int} (h : (formedA n rs m && stateB m a && stateB m b) = false) : apartA n rs m a b = ([], false, 2) := by
  have e : (isStateA n rs m a && isStateA n rs m b) = false := by
    unfold isStateA
    cases h1 : formedA n rs m <;> cases h2 : stateB m a <;> cases h3 : stateB m b <;> simp_all
  unfold apartA
  rw [e]
  rfl
theorem apartA_yes {n : Int} {rs : List Int} {m : Mach} {a b : Nat} (h : (formedA n rs m && stateB m a && stateB m b) = true) : apartA n rs m a b = (apW rs m a b, apB m a b, 0) := by
  have e : (isStateA n rs m a && isStateA n rs m b) = true := by
    unfold isStateA
    cases h1 : formedA n rs m <;> cases h2 : stateB m a <;> cases h3 : stateB m b <;> simp_all
  unfold apartA apW apB
  rw [e]
  cases tget (roundsA m) (bothI a b) <;> rfl
theorem Letters_self (xs : List Lt) (A B : Option Addr) (c d : Nat) (w : World) (hA : Cells w A (lts xs)) (hB : Cells w B (lts xs)) : Calls Try.prog 35 #[.slice A xs.length c, .slice B xs.length d] w fun e w' => e = .returned (.bool true) ∧ Below w.heap.size w w' := by
  have h := Letters_any xs xs A B c d w hA hB
  rw [decide_eq_true rfl] at h
  exact h


set_option maxRecDepth 100000 in
set_option maxHeartbeats 4000000 in
theorem aparts_big (n : Int) (A : Option Addr) (c : Nat) (rs : List Int) (B : Option Addr) (d : Nat) (m : Mach) (a b : Int) (w : World) (hA : Cells w A (ints rs)) (hM : MachAt w B m) (h : (decide (rs.length ≤ 30) && compactB m) = false) :
    Calls Try.prog 5 #[.agg #[.int .i64 n, .slice A rs.length c], .agg #[.slice B m.length d], .int .i64 a, .int .i64 b] w fun e w' => e = .returned (.bool true) ∧ Below w.heap.size w w' := by
  have HB0 : Hid (Below w.heap.size w (gbox w n A rs.length c B m.length d)) := gbox_below w n A rs.length c B m.length d
  have HA0 := Lib.hid (hA.below HB0.out (Nat.le_refl _))
  have HM0 := Lib.hid (hM.below HB0.out (Nat.le_refl _))
  have hgm := gm_new w n A rs.length c B m.length d
  cases hs : decide (rs.length ≤ 30) with
  | false =>
    have HS := Lib.hid hs
    clear h hs
    go_enter Try.func5, Try.ntmps5
    go_wp2_with fail
    obtain ⟨W, hW⟩ : ∃ W, gbox w n A rs.length c B m.length d = W := ⟨_, rfl⟩
    have hW' : (w.alloc (.cells #[.int .i64 n, .slice A rs.length c] 24)).alloc (.cells #[.slice B m.length d] 27) = W := hW
    rw [hW] at HB0 HA0 HM0 hgm
    rw [hW']
    have c0 := hgm.g.cell 0 (v := .int .i64 n) rfl
    have c1 := hgm.g.cell 1 (v := .slice A rs.length c) rfl
    have c2 := hgm.m.cell 0 (v := .slice B m.length d) rfl
    have hl0 := hgm.g.lt
    have hl1 := hgm.m.lt
    clear hW hW' hgm
    refine (small_any n A rs.length c W).mono ?_
    rintro e w1 ⟨rfl, hB1⟩
    rw [HS.out]
    go_wp2_with (go_at_call 20; go_must (refine (known_any _).mono ?_); rintro e wz ⟨rfl, hBz⟩)
    go_ret
    exact ⟨rfl, below_in HB0.out (below_in hB1 hBz)⟩
  | true =>
    have hc : compactB m = false := by rw [hs] at h; simpa using h
    have HS := Lib.hid hs
    have HC := Lib.hid hc
    clear h hs hc
    go_enter Try.func5, Try.ntmps5
    go_wp2_with fail
    obtain ⟨W, hW⟩ : ∃ W, gbox w n A rs.length c B m.length d = W := ⟨_, rfl⟩
    have hW' : (w.alloc (.cells #[.int .i64 n, .slice A rs.length c] 24)).alloc (.cells #[.slice B m.length d] 27) = W := hW
    rw [hW] at HB0 HA0 HM0 hgm
    rw [hW']
    have c0 := hgm.g.cell 0 (v := .int .i64 n) rfl
    have c1 := hgm.g.cell 1 (v := .slice A rs.length c) rfl
    have c2 := hgm.m.cell 0 (v := .slice B m.length d) rfl
    have hl0 := hgm.g.lt
    have hl1 := hgm.m.lt
    clear hW hW' hgm
    refine (small_any n A rs.length c W).mono ?_
    rintro e w1 ⟨rfl, hB1⟩
    rw [HS.out]
    have d2 := cell_chain hB1 hl1 c2
    go_wp2_with fail
    refine (compact_any B d m w1 (HM0.out.below hB1 (Nat.le_refl _))).mono ?_
    rintro e w2 ⟨rfl, hB2⟩
    rw [HC.out]
    have hI2 := below_in hB1 hB2
    clear d2
    go_wp2_with (go_at_call 20; go_must (refine (known_any _).mono ?_); rintro e wz ⟨rfl, hBz⟩)
    go_ret
    exact ⟨rfl, below_in HB0.out (below_in hI2 hBz)⟩


set_option maxRecDepth 100000 in
set_option maxHeartbeats 8000000 in
theorem aparts_no (n : Int) (A : Option Addr) (c : Nat) (rs : List Int) (B : Option Addr) (d : Nat) (m : Mach) (a b : Int) (w : World) (hA : Cells w A (ints rs)) (hM : MachAt w B m) (h : (decide (rs.length ≤ 30) && compactB m) = true) (ho : (formedA n rs m && stateB m a && stateB m b) = false) :
    Calls Try.prog 5 #[.agg #[.int .i64 n, .slice A rs.length c], .agg #[.slice B m.length d], .int .i64 a, .int .i64 b] w fun e w' => e = .returned (.bool true) ∧ Below w.heap.size w w' := by
  have HAP := Lib.hid (apartA_no ho)
  cases hf : formedA n rs m with
  | false =>
    have HF := Lib.hid hf
    clear ho hf
    have hs : decide (rs.length ≤ 30) = true := by simp only [Bool.and_eq_true] at h; exact h.1
    have hc : compactB m = true := by simp only [Bool.and_eq_true] at h; exact h.2
    have HS := Lib.hid hs
    have HC := Lib.hid hc
    clear h hs hc
    have HB0 : Hid (Below w.heap.size w (gbox w n A rs.length c B m.length d)) := gbox_below w n A rs.length c B m.length d
    have HA0 := Lib.hid (hA.below HB0.out (Nat.le_refl _))
    have HM0 := Lib.hid (hM.below HB0.out (Nat.le_refl _))
    have hgm := gm_new w n A rs.length c B m.length d
    go_enter Try.func5, Try.ntmps5
    go_wp2_with fail
    obtain ⟨W, hW⟩ : ∃ W, gbox w n A rs.length c B m.length d = W := ⟨_, rfl⟩
    have hW' : (w.alloc (.cells #[.int .i64 n, .slice A rs.length c] 24)).alloc (.cells #[.slice B m.length d] 27) = W := hW
    rw [hW] at HB0 HA0 HM0 hgm
    rw [hW']
    have c0 := hgm.g.cell 0 (v := .int .i64 n) rfl
    have c1 := hgm.g.cell 1 (v := .slice A rs.length c) rfl
    have c2 := hgm.m.cell 0 (v := .slice B m.length d) rfl
    have hl0 := hgm.g.lt
    have hl1 := hgm.m.lt
    clear hW hW' hgm
    refine (small_any n A rs.length c W).mono ?_
    rintro e w1 ⟨rfl, hB1⟩
    rw [HS.out]
    have d2 := cell_chain hB1 hl1 c2
    go_wp2_with fail
    refine (compact_any B d m w1 (HM0.out.below hB1 (Nat.le_refl _))).mono ?_
    rintro e w2 ⟨rfl, hB2⟩
    rw [HC.out]
    have hI2 := below_in hB1 hB2
    have e0 := cell_chain hI2 hl0 c0
    have e1 := cell_chain hI2 hl0 c1
    have e2 := cell_chain hI2 hl1 c2
    clear d2 hB1 hB2
    go_wp2_with fail
    refine (Apart_any n A c rs B d m a b w2 (HA0.out.below hI2 (Nat.le_refl _)) (HM0.out.below hI2 (Nat.le_refl _))).mono ?_
    rintro e w3 ⟨A3, c3, rfl, hC3, hB3⟩
    rw [HAP.out] at hC3 ⊢
    simp only at hC3 ⊢
    have hI3 := below_in hI2 hB3
    have HC3 := Lib.hid hC3
    clear e0 e1 e2 hB3 hC3
    have x0 := cell_chain hI3 hl0 c0
    have x1 := cell_chain hI3 hl0 c1
    have x2 := cell_chain hI3 hl1 c2
    go_wp2_with fail
    clear x0 x1 x2
    refine (lawFormed_any n A c rs B d m w3 (HA0.out.below hI3 (Nat.le_refl _)) (HM0.out.below hI3 (Nat.le_refl _))).mono ?_
    rintro e w4 ⟨rfl, hB4⟩
    rw [HF.out]
    have hI4 := below_in hI3 hB4
    have hJ4 : Below w3.heap.size w3 w4 := hB4
    go_wp2_with (go_at_call 20; go_must (refine (known_any _).mono ?_); rintro e wz ⟨rfl, hBz⟩)
    go_ret
    exact ⟨rfl, below_in HB0.out (below_in hI4 hBz)⟩
  | true =>
    have HF := Lib.hid hf
    cases hsa : stateB m a with
    | false =>
      have HSA := Lib.hid hsa
      clear ho hf hsa
      have hs : decide (rs.length ≤ 30) = true := by simp only [Bool.and_eq_true] at h; exact h.1
      have hc : compactB m = true := by simp only [Bool.and_eq_true] at h; exact h.2
      have HS := Lib.hid hs
      have HC := Lib.hid hc
      clear h hs hc
      have HB0 : Hid (Below w.heap.size w (gbox w n A rs.length c B m.length d)) := gbox_below w n A rs.length c B m.length d
      have HA0 := Lib.hid (hA.below HB0.out (Nat.le_refl _))
      have HM0 := Lib.hid (hM.below HB0.out (Nat.le_refl _))
      have hgm := gm_new w n A rs.length c B m.length d
      go_enter Try.func5, Try.ntmps5
      go_wp2_with fail
      obtain ⟨W, hW⟩ : ∃ W, gbox w n A rs.length c B m.length d = W := ⟨_, rfl⟩
      have hW' : (w.alloc (.cells #[.int .i64 n, .slice A rs.length c] 24)).alloc (.cells #[.slice B m.length d] 27) = W := hW
      rw [hW] at HB0 HA0 HM0 hgm
      rw [hW']
      have c0 := hgm.g.cell 0 (v := .int .i64 n) rfl
      have c1 := hgm.g.cell 1 (v := .slice A rs.length c) rfl
      have c2 := hgm.m.cell 0 (v := .slice B m.length d) rfl
      have hl0 := hgm.g.lt
      have hl1 := hgm.m.lt
      clear hW hW' hgm
      refine (small_any n A rs.length c W).mono ?_
      rintro e w1 ⟨rfl, hB1⟩
      rw [HS.out]
      have d2 := cell_chain hB1 hl1 c2
      go_wp2_with fail
      refine (compact_any B d m w1 (HM0.out.below hB1 (Nat.le_refl _))).mono ?_
      rintro e w2 ⟨rfl, hB2⟩
      rw [HC.out]
      have hI2 := below_in hB1 hB2
      have e0 := cell_chain hI2 hl0 c0
      have e1 := cell_chain hI2 hl0 c1
      have e2 := cell_chain hI2 hl1 c2
      clear d2 hB1 hB2
      go_wp2_with fail
      refine (Apart_any n A c rs B d m a b w2 (HA0.out.below hI2 (Nat.le_refl _)) (HM0.out.below hI2 (Nat.le_refl _))).mono ?_
      rintro e w3 ⟨A3, c3, rfl, hC3, hB3⟩
      rw [HAP.out] at hC3 ⊢
      simp only at hC3 ⊢
      have hI3 := below_in hI2 hB3
      have HC3 := Lib.hid hC3
      clear e0 e1 e2 hB3 hC3
      have x0 := cell_chain hI3 hl0 c0
      have x1 := cell_chain hI3 hl0 c1
      have x2 := cell_chain hI3 hl1 c2
      go_wp2_with fail
      clear x0 x1 x2
      refine (lawFormed_any n A c rs B d m w3 (HA0.out.below hI3 (Nat.le_refl _)) (HM0.out.below hI3 (Nat.le_refl _))).mono ?_
      rintro e w4 ⟨rfl, hB4⟩
      rw [HF.out]
      have hI4 := below_in hI3 hB4
      have hJ4 : Below w3.heap.size w3 w4 := hB4
      have x2 := cell_chain hI4 hl1 c2
      go_wp2_with fail
      refine (state_any B d m a w4).mono ?_
      rintro e w5 ⟨rfl, hB5⟩
      rw [HSA.out]
      have hI5 := below_in hI4 hB5
      have hJ5 := below_in hJ4 hB5
      clear x2
      go_wp2_with (go_at_call 20; go_must (refine (known_any _).mono ?_); rintro e wz ⟨rfl, hBz⟩)
      go_ret
      exact ⟨rfl, below_in HB0.out (below_in hI5 hBz)⟩
    | true =>
      have hsb : stateB m b = false := by rw [hf, hsa] at ho; simpa using ho
      have HSA := Lib.hid hsa
      have HSB := Lib.hid hsb
      clear ho hf hsa hsb
      have hs : decide (rs.length ≤ 30) = true := by simp only [Bool.and_eq_true] at h; exact h.1
      have hc : compactB m = true := by simp only [Bool.and_eq_true] at h; exact h.2
      have HS := Lib.hid hs
      have HC := Lib.hid hc
      clear h hs hc
      have HB0 : Hid (Below w.heap.size w (gbox w n A rs.length c B m.length d)) := gbox_below w n A rs.length c B m.length d
      have HA0 := Lib.hid (hA.below HB0.out (Nat.le_refl _))
      have HM0 := Lib.hid (hM.below HB0.out (Nat.le_refl _))
      have hgm := gm_new w n A rs.length c B m.length d
      go_enter Try.func5, Try.ntmps5
      go_wp2_with fail
      obtain ⟨W, hW⟩ : ∃ W, gbox w n A rs.length c B m.length d = W := ⟨_, rfl⟩
      have hW' : (w.alloc (.cells #[.int .i64 n, .slice A rs.length c] 24)).alloc (.cells #[.slice B m.length d] 27) = W := hW
      rw [hW] at HB0 HA0 HM0 hgm
      rw [hW']
      have c0 := hgm.g.cell 0 (v := .int .i64 n) rfl
      have c1 := hgm.g.cell 1 (v := .slice A rs.length c) rfl
      have c2 := hgm.m.cell 0 (v := .slice B m.length d) rfl
      have hl0 := hgm.g.lt
      have hl1 := hgm.m.lt
      clear hW hW' hgm
      refine (small_any n A rs.length c W).mono ?_
      rintro e w1 ⟨rfl, hB1⟩
      rw [HS.out]
      have d2 := cell_chain hB1 hl1 c2
      go_wp2_with fail
      refine (compact_any B d m w1 (HM0.out.below hB1 (Nat.le_refl _))).mono ?_
      rintro e w2 ⟨rfl, hB2⟩
      rw [HC.out]
      have hI2 := below_in hB1 hB2
      have e0 := cell_chain hI2 hl0 c0
      have e1 := cell_chain hI2 hl0 c1
      have e2 := cell_chain hI2 hl1 c2
      clear d2 hB1 hB2
      go_wp2_with fail
      refine (Apart_any n A c rs B d m a b w2 (HA0.out.below hI2 (Nat.le_refl _)) (HM0.out.below hI2 (Nat.le_refl _))).mono ?_
      rintro e w3 ⟨A3, c3, rfl, hC3, hB3⟩
      rw [HAP.out] at hC3 ⊢
      simp only at hC3 ⊢
      have hI3 := below_in hI2 hB3
      have HC3 := Lib.hid hC3
      clear e0 e1 e2 hB3 hC3
      have x0 := cell_chain hI3 hl0 c0
      have x1 := cell_chain hI3 hl0 c1
      have x2 := cell_chain hI3 hl1 c2
      go_wp2_with fail
      clear x0 x1 x2
      refine (lawFormed_any n A c rs B d m w3 (HA0.out.below hI3 (Nat.le_refl _)) (HM0.out.below hI3 (Nat.le_refl _))).mono ?_
      rintro e w4 ⟨rfl, hB4⟩
      rw [HF.out]
      have hI4 := below_in hI3 hB4
      have hJ4 : Below w3.heap.size w3 w4 := hB4
      have x2 := cell_chain hI4 hl1 c2
      go_wp2_with fail
      refine (state_any B d m a w4).mono ?_
      rintro e w5 ⟨rfl, hB5⟩
      rw [HSA.out]
      have hI5 := below_in hI4 hB5
      have hJ5 := below_in hJ4 hB5
      clear x2
      have x2 := cell_chain hI5 hl1 c2
      go_wp2_with fail
      refine (state_any B d m b w5).mono ?_
      rintro e w6 ⟨rfl, hB6⟩
      rw [HSB.out]
      have hI6 := below_in hI5 hB6
      have hJ6 := below_in hJ5 hB6
      clear x2
      go_wp2_with (go_at_call 20; go_must (refine (known_any _).mono ?_); rintro e wz ⟨rfl, hBz⟩)
      go_ret
      exact ⟨rfl, below_in HB0.out (below_in hI6 hBz)⟩

set_option maxRecDepth 100000 in
set_option maxHeartbeats 8000000 in
theorem aparts_yes (n : Int) (A : Option Addr) (c : Nat) (rs : List Int) (B : Option Addr) (d : Nat) (m : Mach) (a b : Nat) (w : World) (hA : Cells w A (ints rs)) (hM : MachAt w B m) (h : (decide (rs.length ≤ 30) && compactB m) = true) (ho : (formedA n rs m && stateB m a && stateB m b) = true) :
    Calls Try.prog 5 #[.agg #[.int .i64 n, .slice A rs.length c], .agg #[.slice B m.length d], .int .i64 a, .int .i64 b] w fun e w' => e = .returned (.bool true) ∧ Below w.heap.size w w' := by
  have HAP := Lib.hid (apartA_yes ho)
  have ho' := ho
  simp only [Bool.and_eq_true] at ho'
  obtain ⟨⟨hf, hsa⟩, hsb⟩ := ho'
  have HF := Lib.hid hf
  have HSA := Lib.hid hsa
  have HSB := Lib.hid hsb
  have hal : a < m.length := by simp only [stateB, Bool.and_eq_true, decide_eq_true_eq] at hsa; omega
  have hbl : b < m.length := by simp only [stateB, Bool.and_eq_true, decide_eq_true_eq] at hsb; omega
  have HRA := fun w1 h1 h2 => RefApart_any n A c rs B d m a b w1 h1 h2 hf hal hbl
  obtain ⟨R, hR⟩ : ∃ R, apW rs m a b = R := ⟨_, rfl⟩
  obtain ⟨I, hI⟩ : ∃ I, apB m a b = I := ⟨_, rfl⟩
  rw [hR, hI] at HAP HRA
  have HRA := Lib.hid HRA
  clear ho hf hsa hsb hR hI
  have hs : decide (rs.length ≤ 30) = true := by simp only [Bool.and_eq_true] at h; exact h.1
  have hc : compactB m = true := by simp only [Bool.and_eq_true] at h; exact h.2
  have HS := Lib.hid hs
  have HC := Lib.hid hc
  clear h hs hc
  have HB0 : Hid (Below w.heap.size w (gbox w n A rs.length c B m.length d)) := gbox_below w n A rs.length c B m.length d
  have HA0 := Lib.hid (hA.below HB0.out (Nat.le_refl _))
  have HM0 := Lib.hid (hM.below HB0.out (Nat.le_refl _))
  have hgm := gm_new w n A rs.length c B m.length d
  go_enter Try.func5, Try.ntmps5
  go_wp2_with fail
  obtain ⟨W, hW⟩ : ∃ W, gbox w n A rs.length c B m.length d = W := ⟨_, rfl⟩
  have hW' : (w.alloc (.cells #[.int .i64 n, .slice A rs.length c] 24)).alloc (.cells #[.slice B m.length d] 27) = W := hW
  rw [hW] at HB0 HA0 HM0 hgm
  rw [hW']
  have c0 := hgm.g.cell 0 (v := .int .i64 n) rfl
  have c1 := hgm.g.cell 1 (v := .slice A rs.length c) rfl
  have c2 := hgm.m.cell 0 (v := .slice B m.length d) rfl
  have hl0 := hgm.g.lt
  have hl1 := hgm.m.lt
  clear hW hW' hgm
  refine (small_any n A rs.length c W).mono ?_
  rintro e w1 ⟨rfl, hB1⟩
  rw [HS.out]
  have d2 := cell_chain hB1 hl1 c2
  go_wp2_with fail
  refine (compact_any B d m w1 (HM0.out.below hB1 (Nat.le_refl _))).mono ?_
  rintro e w2 ⟨rfl, hB2⟩
  rw [HC.out]
  have hI2 := below_in hB1 hB2
  have e0 := cell_chain hI2 hl0 c0
  have e1 := cell_chain hI2 hl0 c1
  have e2 := cell_chain hI2 hl1 c2
  clear d2 hB1 hB2
  go_wp2_with fail
  refine (Apart_any n A c rs B d m a b w2 (HA0.out.below hI2 (Nat.le_refl _)) (HM0.out.below hI2 (Nat.le_refl _))).mono ?_
  rintro e w3 ⟨A3, c3, rfl, hC3, hB3⟩
  rw [HAP.out] at hC3 ⊢
  simp only at hC3 ⊢
  have hI3 := below_in hI2 hB3
  have HC3 := Lib.hid hC3
  clear e0 e1 e2 hB3 hC3
  have x0 := cell_chain hI3 hl0 c0
  have x1 := cell_chain hI3 hl0 c1
  have x2 := cell_chain hI3 hl1 c2
  go_wp2_with fail
  clear x0 x1 x2
  refine (lawFormed_any n A c rs B d m w3 (HA0.out.below hI3 (Nat.le_refl _)) (HM0.out.below hI3 (Nat.le_refl _))).mono ?_
  rintro e w4 ⟨rfl, hB4⟩
  rw [HF.out]
  have hI4 := below_in hI3 hB4
  have hJ4 : Below w3.heap.size w3 w4 := hB4
  have x2 := cell_chain hI4 hl1 c2
  go_wp2_with fail
  refine (state_any B d m a w4).mono ?_
  rintro e w5 ⟨rfl, hB5⟩
  rw [HSA.out]
  have hI5 := below_in hI4 hB5
  have hJ5 := below_in hJ4 hB5
  clear x2
  have x2 := cell_chain hI5 hl1 c2
  go_wp2_with fail
  refine (state_any B d m b w5).mono ?_
  rintro e w6 ⟨rfl, hB6⟩
  rw [HSB.out]
  have hI6 := below_in hI5 hB6
  have hJ6 := below_in hJ5 hB6
  clear x2
  have x0 := cell_chain hI6 hl0 c0
  have x1 := cell_chain hI6 hl0 c1
  have x2 := cell_chain hI6 hl1 c2
  go_wp2_with fail
  clear x0 x1 x2
  refine (HRA.out w6 (HA0.out.below hI6 (Nat.le_refl _)) (HM0.out.below hI6 (Nat.le_refl _))).mono ?_
  rintro e w7 ⟨A7, c7, rfl, hC7, hB7⟩
  have hI7 := below_in hI6 hB7
  have HC37 := Lib.hid (HC3.out.below (below_in hJ6 hB7) (Nat.le_refl _))
  have HC7 := Lib.hid hC7
  clear hC7
  have hii : (I == I) = true := by simp
  go_wp2_with fail
  refine (Letters_self R A3 A7 c3 c7 w7 HC37.out HC7.out).mono ?_
  rintro e w8 ⟨rfl, hB8⟩
  go_wp2_with (go_at_call 20; go_must (refine (known_any _).mono ?_); rintro e wz ⟨rfl, hBz⟩)
  go_ret
  exact ⟨rfl, below_in HB0.out (below_in (below_in hI7 hB8) hBz)⟩

theorem walk_aparts (n : Int) (A : Option Addr) (c : Nat) (rs : List Int) (B : Option Addr) (d : Nat) (m : Mach) (a b : Int) (w : World) (hA : Cells w A (ints rs)) (hM : MachAt w B m) :
    Calls Try.prog 5 #[.agg #[.int .i64 n, .slice A rs.length c], .agg #[.slice B m.length d], .int .i64 a, .int .i64 b] w fun e w' => e = .returned (.bool true) ∧ Below w.heap.size w w' := by
  cases h : (decide (rs.length ≤ 30) && compactB m) with
  | false => exact aparts_big n A c rs B d m a b w hA hM h
  | true =>
    cases ho : (formedA n rs m && stateB m a && stateB m b) with
    | false => exact aparts_no n A c rs B d m a b w hA hM h ho
    | true =>
      have ho' := ho
      simp only [stateB, Bool.and_eq_true, decide_eq_true_eq] at ho'
      obtain ⟨x, rfl⟩ := Int.eq_ofNat_of_zero_le (a := a) (by omega)
      obtain ⟨y, rfl⟩ := Int.eq_ofNat_of_zero_le (a := b) (by omega)
      exact aparts_yes n A c rs B d m x y w hA hM h ho
end Go.Proofs.Ytlnonadkdonhmaa

/- AutoAparts returns true for every group, machine and two states, and leaves its arguments as they were. No condition. -/
namespace Go.Proofs.Ytlnonadkdonhmaa
open Go.ChangeShapes Go.WideShapes Go.ChangeAt Go.RowKit

theorem own_aparts : ownKnob Try.prog.godebug = none := by kernel_rfl
theorem laid_aparts : laidOutB Try.prog = true := by kernel_rfl

set_option maxRecDepth 100000 in
theorem lifted_aparts (os : Os) (started : os.Started) (H : Type) (enc : TypeId × Value → H) :
    ReturnsInHanded {} Try.checked os 5 .any (Rows.autoApartsSpec.pre6 enc Try.prog Try.f5 Rows.autoApartsRow.domain false) (Rows.autoApartsSpec.post enc Try.prog Try.f5 false true false false) := by
  refine returnsInHanded_of_change_sized (C := Try.checked) own_aparts started (by kernel_rfl) Try.func5
    (ChangeSpec.witness6 (enc := enc) (C := Try.checked) false ⟨#[], #[.agg #[.int .i64 0, .slice none 0 0], .agg #[.slice none 0 0], .int .i64 0, .int .i64 0], []⟩ 8 (by kernel_rfl) (by kernel_rfl) (by kernel_rfl) (by kernel_rfl)) ?_
  intro W base args ds gs before hval0 hW hcnd hsz0 _
  have hval : ∀ (j : Nat) t v, Try.f5.params[j]? = some t → args[j]? = some v → Value.okWide Try.prog W .any base t v := hval0
  have hsz : (DataW.weightsEach Try.prog (Try.f5.params.toList ++ Rows.autoApartsSpec.plain.varTypes Try.prog) (ds ++ gs)).all (· ≤ reachBytes) = true := hsz0
  have hW' := hW
  obtain ⟨p, q, hA0, hV, rfl, hfz, hnd⟩ := hW
  have hA : DataW.TrodAll enc Try.prog W 0 (fun _ => true) true Try.f5.params.toList args.toList ds p := hA0
  rw [Try.params5] at hA hval hsz
  obtain ⟨v0, vs0, d0, ds0, p0, q0, hargs, rfl, rfl, h0, r0⟩ := trodAll_cons hA
  obtain ⟨v1, vs1, d1, ds1, p1, q1, rfl, rfl, rfl, h1, r1⟩ := trodAll_cons r0
  obtain ⟨v2, vs2, d2, ds2, p2, q2, rfl, rfl, rfl, h2, r2⟩ := trodAll_cons r1
  obtain ⟨v3, vs3, d3, ds3, p3, q3, rfl, rfl, rfl, h3, r3⟩ := trodAll_cons r2
  obtain ⟨rfl, rfl, rfl⟩ := trodAll_nil r3
  obtain rfl : args = #[v0, v1, v2, v3] := by cases args; simp_all
  obtain ⟨rfl, rfl⟩ := trodVars_none hV
  have s0 : sz Try.prog 24 d0 := sz_arg hsz (j := 0) rfl rfl
  obtain ⟨n0, A0, rs0, c0, rfl, hC0, hw0⟩ := arg_group (hval 0 24 v0 rfl rfl) h0 s0
  have k0 := h0
  have lt0 : ∀ x ∈ p0, x.block < W.heap.size := by obtain ⟨m, hm⟩ := k0; exact DataW.trod_lt m _ _ _ hm
  have s1 : sz Try.prog 27 d1 := sz_arg hsz (j := 1) rfl rfl
  obtain ⟨B1, m1, e1, rfl, hC1⟩ := arg_mach (hval 1 27 v1 rfl rfl) h1 s1
  have k1 := h1
  have lt1 : ∀ x ∈ p1, x.block < W.heap.size := by obtain ⟨m, hm⟩ := k1; exact DataW.trod_lt m _ _ _ hm
  obtain ⟨i2, rfl, rfl, rfl, hw2⟩ := open_int Try.underlying3 (hval 2 3 v2 rfl rfl) h2
  obtain ⟨i3, rfl, rfl, rfl, hw3⟩ := open_int Try.underlying3 (hval 3 3 v3 rfl rfl) h3
  clear hA0 hval0
  refine (walk_aparts n0 A0 c0 rs0 B1 e1 m1 i2 i3 W hC0 hC1).mono fun e W' ⟨he, bel⟩ => ?_
  subst he
  exact ⟨_, rfl, _, _, _, [], _, [], hW', trodAll_mk1 (shut_bool Try.underlying4 _), (trodAll_cons_mk (Below.trod laid_aparts (by kernel_rfl) (of_decide_eq_true (by kernel_rfl)) k0 bel lt0) (trodAll_cons_mk (Below.trod laid_aparts (by kernel_rfl) (of_decide_eq_true (by kernel_rfl)) k1 bel lt1) (trodAll_cons_mk (shut_int Try.underlying3 hw2) (trodAll_cons_mk (shut_int Try.underlying3 hw3) trodAll_mk0)))), rfl, bel.frame _, fun h => by cases h⟩

theorem aparts_holds : Rows.AutoApartsSaid :=
  OpenClaim.holds_of_wide 5 Try.f5 rfl rfl rfl rfl rfl rfl rfl ⟨rfl, rfl, rfl, rfl, rfl⟩ rfl rfl rfl rfl rfl (by kernel_rfl) Try.func5 (by kernel_rfl)
    (of_decide_eq_true (by kernel_rfl)) (by unfold Func.isWrapper; first | (rw [if_pos (by decide +kernel)]; kernel_rfl) | (rw [if_neg (by decide +kernel)]; exact ⟨rfl, rfl⟩))
    (fun os started H enc _ => lifted_aparts os started H enc)
#print axioms aparts_holds
end Go.Proofs.Ytlnonadkdonhmaa
