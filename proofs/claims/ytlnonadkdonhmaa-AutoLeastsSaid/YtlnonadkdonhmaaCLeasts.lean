/- AutoLeasts returns true for every group and machine, and leaves its arguments as they were. No condition. -/
import Derived.Test.YtlnonadkdonhmaaL17
import Derived.Test.YtlnonadkdonhmaaL18
import Derived.Test.YtlnonadkdonhmaaL11
import Derived.Test.YtlnonadkdonhmaaL12
import Derived.Test.YtlnonadkdonhmaaL9
import Derived.Test.YtlnonadkdonhmaaL10
import Derived.Test.YtlnonadkdonhmaaRows

/- The walk of AutoLeasts. -/
namespace Go.Proofs.Ytlnonadkdonhmaa
open Go.RowKit Go.Maps


set_option maxRecDepth 100000 in
set_option maxHeartbeats 4000000 in
theorem leasts_big (n : Int) (A : Option Addr) (c : Nat) (rs : List Int) (B : Option Addr) (d : Nat) (m : Mach) (w : World) (hA : Cells w A (ints rs)) (hM : MachAt w B m) (h : (decide (rs.length ≤ 30) && compactB m) = false) :
    Calls Try.prog 15 #[.agg #[.int .i64 n, .slice A rs.length c], .agg #[.slice B m.length d]] w fun e w' => e = .returned (.bool true) ∧ Below w.heap.size w w' := by
  have HB0 : Hid (Below w.heap.size w (gbox w n A rs.length c B m.length d)) := gbox_below w n A rs.length c B m.length d
  have HA0 := Lib.hid (hA.below HB0.out (Nat.le_refl _))
  have HM0 := Lib.hid (hM.below HB0.out (Nat.le_refl _))
  have hgm := gm_new w n A rs.length c B m.length d
  cases hs : decide (rs.length ≤ 30) with
  | false =>
    have HS := Lib.hid hs
    clear h hs
    go_enter Try.func15, Try.ntmps15
    go_wp2_with fail
    obtain ⟨W, hW⟩ : ∃ W, gbox w n A rs.length c B m.length d = W := ⟨_, rfl⟩
    have hW' : (w.alloc (.cells #[.int .i64 n, .slice A rs.length c] 24)).alloc (.cells #[.slice B m.length d] 27) = W := hW
    rw [hW] at HB0 HA0 HM0 hgm
    rw [hW']
    have c0 := hgm.g.cell 0 (v := .int .i64 n) rfl
    have c1 := hgm.g.cell 1 (v := .slice A rs.length c) rfl
    have c2 := hgm.m.cell 0 (v := .slice B m.length d) rfl
    have hl0 := hgm.g.lt
    have hl1 := hgm.m.lt
    clear hW hW' hgm
    refine (small_any n A rs.length c W).mono ?_
    rintro e w1 ⟨rfl, hB1⟩
    rw [HS.out]
    go_wp2_with (go_at_call 20; go_must (refine (known_any _).mono ?_); rintro e wz ⟨rfl, hBz⟩)
    go_ret
    exact ⟨rfl, below_in HB0.out (below_in hB1 hBz)⟩
  | true =>
    have hc : compactB m = false := by rw [hs] at h; simpa using h
    have HS := Lib.hid hs
    have HC := Lib.hid hc
    clear h hs hc
    go_enter Try.func15, Try.ntmps15
    go_wp2_with fail
    obtain ⟨W, hW⟩ : ∃ W, gbox w n A rs.length c B m.length d = W := ⟨_, rfl⟩
    have hW' : (w.alloc (.cells #[.int .i64 n, .slice A rs.length c] 24)).alloc (.cells #[.slice B m.length d] 27) = W := hW
    rw [hW] at HB0 HA0 HM0 hgm
    rw [hW']
    have c0 := hgm.g.cell 0 (v := .int .i64 n) rfl
    have c1 := hgm.g.cell 1 (v := .slice A rs.length c) rfl
    have c2 := hgm.m.cell 0 (v := .slice B m.length d) rfl
    have hl0 := hgm.g.lt
    have hl1 := hgm.m.lt
    clear hW hW' hgm
    refine (small_any n A rs.length c W).mono ?_
    rintro e w1 ⟨rfl, hB1⟩
    rw [HS.out]
    have d2 := cell_chain hB1 hl1 c2
    go_wp2_with fail
    refine (compact_any B d m w1 (HM0.out.below hB1 (Nat.le_refl _))).mono ?_
    rintro e w2 ⟨rfl, hB2⟩
    rw [HC.out]
    have hI2 := below_in hB1 hB2
    clear d2
    go_wp2_with (go_at_call 20; go_must (refine (known_any _).mono ?_); rintro e wz ⟨rfl, hBz⟩)
    go_ret
    exact ⟨rfl, below_in HB0.out (below_in hI2 hBz)⟩


set_option maxRecDepth 100000 in
set_option maxHeartbeats 8000000 in
theorem leasts_no (n : Int) (A : Option Addr) (c : Nat) (rs : List Int) (B : Option Addr) (d : Nat) (m : Mach) (w : World) (hA : Cells w A (ints rs)) (hM : MachAt w B m) (h : (decide (rs.length ≤ 30) && compactB m) = true) (hf : formedA n rs m = false) :
    Calls Try.prog 15 #[.agg #[.int .i64 n, .slice A rs.length c], .agg #[.slice B m.length d]] w fun e w' => e = .returned (.bool true) ∧ Below w.heap.size w w' := by
  have HER : Hid (errI (formedA n rs m) = 2) := by show _ = _; rw [hf]; rfl
  obtain ⟨LM, HLM⟩ : ∃ LM, Hid (leastMR n rs m = LM) := ⟨_, rfl⟩
  obtain ⟨LC, HLC⟩ : ∃ LC, Hid (leastCR n rs m = LC) := ⟨_, rfl⟩
  have hlm : LM = [] := by rw [← HLM.out]; unfold leastMR; rw [hf]; rfl
  have hlc : LC = [] := by rw [← HLC.out]; unfold leastCR; rw [hf]; rfl
  have hzl : ((LM.length : Int) == 0) = true := by rw [hlm]; rfl
  have hzc : ((LC.length : Int) == 0) = true := by rw [hlc]; rfl
  clear hlm hlc
  have HF := Lib.hid hf
  clear hf
  have hs : decide (rs.length ≤ 30) = true := by simp only [Bool.and_eq_true] at h; exact h.1
  have hc : compactB m = true := by simp only [Bool.and_eq_true] at h; exact h.2
  have HS := Lib.hid hs
  have HC := Lib.hid hc
  clear h hs hc
  have HB0 : Hid (Below w.heap.size w (gbox w n A rs.length c B m.length d)) := gbox_below w n A rs.length c B m.length d
  have HA0 := Lib.hid (hA.below HB0.out (Nat.le_refl _))
  have HM0 := Lib.hid (hM.below HB0.out (Nat.le_refl _))
  have hgm := gm_new w n A rs.length c B m.length d
  go_enter Try.func15, Try.ntmps15
  go_wp2_with fail
  obtain ⟨W, hW⟩ : ∃ W, gbox w n A rs.length c B m.length d = W := ⟨_, rfl⟩
  have hW' : (w.alloc (.cells #[.int .i64 n, .slice A rs.length c] 24)).alloc (.cells #[.slice B m.length d] 27) = W := hW
  rw [hW] at HB0 HA0 HM0 hgm
  rw [hW']
  have c0 := hgm.g.cell 0 (v := .int .i64 n) rfl
  have c1 := hgm.g.cell 1 (v := .slice A rs.length c) rfl
  have c2 := hgm.m.cell 0 (v := .slice B m.length d) rfl
  have hl0 := hgm.g.lt
  have hl1 := hgm.m.lt
  clear hW hW' hgm
  refine (small_any n A rs.length c W).mono ?_
  rintro e w1 ⟨rfl, hB1⟩
  rw [HS.out]
  have d2 := cell_chain hB1 hl1 c2
  go_wp2_with fail
  refine (compact_any B d m w1 (HM0.out.below hB1 (Nat.le_refl _))).mono ?_
  rintro e w2 ⟨rfl, hB2⟩
  rw [HC.out]
  have hI2 := below_in hB1 hB2
  have e0 := cell_chain hI2 hl0 c0
  have e1 := cell_chain hI2 hl0 c1
  have e2 := cell_chain hI2 hl1 c2
  clear d2 hB1 hB2
  go_wp2_with fail
  refine (Least_any n A c rs B d m w2 (HA0.out.below hI2 (Nat.le_refl _)) (HM0.out.below hI2 (Nat.le_refl _))).mono ?_
  rintro e w3 ⟨A3, c3, C3, d3, rfl, hM3, hC3, hB3⟩
  rw [HLM.out] at hM3 ⊢
  rw [HLC.out] at hC3 ⊢
  rw [HER.out]
  have hI3 := below_in hI2 hB3
  have HM3 := Lib.hid hM3
  have HC3 := Lib.hid hC3
  clear e0 e1 e2 hB3 hC3 hM3
  have x0 := cell_chain hI3 hl0 c0
  have x1 := cell_chain hI3 hl0 c1
  have x2 := cell_chain hI3 hl1 c2
  have hl3 := Nat.lt_of_lt_of_le hl0 hI3.size
  have hl3' := Nat.lt_of_lt_of_le hl1 hI3.size
  go_wp2_with fail
  clear x0 x1 x2
  obtain ⟨w4, hw4⟩ : ∃ w4, w3.alloc (.cells #[.slice A3 LM.length c3] 27) = w4 := ⟨_, rfl⟩
  rw [hw4]
  have hJ4 : Below w3.heap.size w3 w4 := by rw [← hw4]; exact (Below.refl _ w3).alloc (Nat.le_refl _) _
  have hI4 := below_in hI3 hJ4
  have b4 : Blk w4 w3.heap.size (.cells #[.slice A3 LM.length c3] 27) := by rw [← hw4]; exact Blk.new _ _
  have f2 := b4.cell 0 (v := .slice A3 LM.length c3) rfl
  have hl4 := b4.lt
  clear hw4 b4
  refine (lawFormed_any n A c rs B d m w4 (HA0.out.below hI4 (Nat.le_refl _)) (HM0.out.below hI4 (Nat.le_refl _))).mono ?_
  rintro e w5 ⟨rfl, hB5⟩
  rw [HF.out]
  have hI5 := below_in hI4 hB5
  have hJ5 := below_in hJ4 hB5
  have g2 := cell_chain hB5 hl4 f2
  go_wp2_with (go_at_call 20; go_must (refine (known_any _).mono ?_); rintro e wz ⟨rfl, hBz⟩)
  go_ret
  exact ⟨rfl, below_in HB0.out (below_in hI5 hBz)⟩

set_option maxRecDepth 100000 in
set_option maxHeartbeats 8000000 in
theorem leasts_yes (n : Int) (A : Option Addr) (c : Nat) (rs : List Int) (B : Option Addr) (d : Nat) (m : Mach) (w : World) (hA : Cells w A (ints rs)) (hM : MachAt w B m) (h : (decide (rs.length ≤ 30) && compactB m) = true) (hf : formedA n rs m = true) :
    Calls Try.prog 15 #[.agg #[.int .i64 n, .slice A rs.length c], .agg #[.slice B m.length d]] w fun e w' => e = .returned (.bool true) ∧ Below w.heap.size w w' := by
  have HER : Hid (errI (formedA n rs m) = 0) := by show _ = _; rw [hf]; rfl
  have HRL : Hid _ := fun w1 h1 => RefLeast_any n rs B d m w1 h1 hf
  obtain ⟨LM, hLM⟩ : ∃ LM, leastM m = LM := ⟨_, rfl⟩
  obtain ⟨LC, hLC⟩ : ∃ LC, leastC m = LC := ⟨_, rfl⟩
  have HLM : Hid (leastMR n rs m = LM) := by show _ = _; unfold leastMR; rw [hf]; exact hLM
  have HLC : Hid (leastCR n rs m = LC) := by show _ = _; unfold leastCR; rw [hf]; exact hLC
  rw [hLM, hLC] at HRL
  have HF := Lib.hid hf
  clear hf hLM hLC
  have hs : decide (rs.length ≤ 30) = true := by simp only [Bool.and_eq_true] at h; exact h.1
  have hc : compactB m = true := by simp only [Bool.and_eq_true] at h; exact h.2
  have HS := Lib.hid hs
  have HC := Lib.hid hc
  clear h hs hc
  have HB0 : Hid (Below w.heap.size w (gbox w n A rs.length c B m.length d)) := gbox_below w n A rs.length c B m.length d
  have HA0 := Lib.hid (hA.below HB0.out (Nat.le_refl _))
  have HM0 := Lib.hid (hM.below HB0.out (Nat.le_refl _))
  have hgm := gm_new w n A rs.length c B m.length d
  go_enter Try.func15, Try.ntmps15
  go_wp2_with fail
  obtain ⟨W, hW⟩ : ∃ W, gbox w n A rs.length c B m.length d = W := ⟨_, rfl⟩
  have hW' : (w.alloc (.cells #[.int .i64 n, .slice A rs.length c] 24)).alloc (.cells #[.slice B m.length d] 27) = W := hW
  rw [hW] at HB0 HA0 HM0 hgm
  rw [hW']
  have c0 := hgm.g.cell 0 (v := .int .i64 n) rfl
  have c1 := hgm.g.cell 1 (v := .slice A rs.length c) rfl
  have c2 := hgm.m.cell 0 (v := .slice B m.length d) rfl
  have hl0 := hgm.g.lt
  have hl1 := hgm.m.lt
  clear hW hW' hgm
  refine (small_any n A rs.length c W).mono ?_
  rintro e w1 ⟨rfl, hB1⟩
  rw [HS.out]
  have d2 := cell_chain hB1 hl1 c2
  go_wp2_with fail
  refine (compact_any B d m w1 (HM0.out.below hB1 (Nat.le_refl _))).mono ?_
  rintro e w2 ⟨rfl, hB2⟩
  rw [HC.out]
  have hI2 := below_in hB1 hB2
  have e0 := cell_chain hI2 hl0 c0
  have e1 := cell_chain hI2 hl0 c1
  have e2 := cell_chain hI2 hl1 c2
  clear d2 hB1 hB2
  go_wp2_with fail
  refine (Least_any n A c rs B d m w2 (HA0.out.below hI2 (Nat.le_refl _)) (HM0.out.below hI2 (Nat.le_refl _))).mono ?_
  rintro e w3 ⟨A3, c3, C3, d3, rfl, hM3, hC3, hB3⟩
  rw [HLM.out] at hM3 ⊢
  rw [HLC.out] at hC3 ⊢
  rw [HER.out]
  have hI3 := below_in hI2 hB3
  have HM3 := Lib.hid hM3
  have HC3 := Lib.hid hC3
  clear e0 e1 e2 hB3 hC3 hM3
  have x0 := cell_chain hI3 hl0 c0
  have x1 := cell_chain hI3 hl0 c1
  have x2 := cell_chain hI3 hl1 c2
  have hl3 := Nat.lt_of_lt_of_le hl0 hI3.size
  have hl3' := Nat.lt_of_lt_of_le hl1 hI3.size
  go_wp2_with fail
  clear x0 x1 x2
  obtain ⟨w4, hw4⟩ : ∃ w4, w3.alloc (.cells #[.slice A3 LM.length c3] 27) = w4 := ⟨_, rfl⟩
  rw [hw4]
  have hJ4 : Below w3.heap.size w3 w4 := by rw [← hw4]; exact (Below.refl _ w3).alloc (Nat.le_refl _) _
  have hI4 := below_in hI3 hJ4
  have b4 : Blk w4 w3.heap.size (.cells #[.slice A3 LM.length c3] 27) := by rw [← hw4]; exact Blk.new _ _
  have f2 := b4.cell 0 (v := .slice A3 LM.length c3) rfl
  have hl4 := b4.lt
  clear hw4 b4
  refine (lawFormed_any n A c rs B d m w4 (HA0.out.below hI4 (Nat.le_refl _)) (HM0.out.below hI4 (Nat.le_refl _))).mono ?_
  rintro e w5 ⟨rfl, hB5⟩
  rw [HF.out]
  have hI5 := below_in hI4 hB5
  have hJ5 := below_in hJ4 hB5
  have g2 := cell_chain hB5 hl4 f2
  have g3 : w3.heap.size < w5.heap.size := Nat.lt_of_lt_of_le hl4 hB5.size
  have x2 := cell_chain hI5 hl1 c2
  go_wp2_with fail
  clear x2
  refine (HRL.out w5 (HM0.out.below hI5 (Nat.le_refl _))).mono ?_
  rintro e w6 ⟨A6, c6, C6, d6, rfl, hM6, hC6, hB6⟩
  have hI6 := below_in hI5 hB6
  have hJ6 := below_in hJ5 hB6
  have k2 := cell_chain hB6 g3 g2
  have k3 : w3.heap.size < w6.heap.size := Nat.lt_of_lt_of_le g3 hB6.size
  have HM6 := Lib.hid hM6
  have HC6 := Lib.hid hC6
  clear hM6 hC6 g2 f2
  go_wp2_with fail
  obtain ⟨w7, hw7⟩ : ∃ w7, w6.alloc (.cells #[.slice A6 LM.length c6] 27) = w7 := ⟨_, rfl⟩
  rw [hw7]
  have hB67 : Below w6.heap.size w6 w7 := by rw [← hw7]; exact (Below.refl _ w6).alloc (Nat.le_refl _) _
  have hI7 := below_in hI6 hB67
  have hJ7 := below_in hJ6 hB67
  clear hw7
  refine (Same_self A3 A6 c3 c6 LM w7 (HM3.out.below hJ7 (Nat.le_refl _)) (HM6.out.below hB67 (Nat.le_refl _))).mono ?_
  rintro e w8 ⟨rfl, hB8⟩
  have hI8 := below_in hI7 hB8
  have hJ8 := below_in hJ7 hB8
  have hB68 := below_in hB67 hB8
  go_wp2_with fail
  refine (Ints_refl LC C3 C6 d3 d6 w8 (HC3.out.below hJ8 (Nat.le_refl _)) (HC6.out.below hB68 (Nat.le_refl _))).mono ?_
  rintro e w9 ⟨rfl, hB9⟩
  go_wp2_with (go_at_call 20; go_must (refine (known_any _).mono ?_); rintro e wz ⟨rfl, hBz⟩)
  go_ret
  exact ⟨rfl, below_in HB0.out (below_in (below_in hI8 hB9) hBz)⟩

theorem walk_leasts (n : Int) (A : Option Addr) (c : Nat) (rs : List Int) (B : Option Addr) (d : Nat) (m : Mach) (w : World) (hA : Cells w A (ints rs)) (hM : MachAt w B m) :
    Calls Try.prog 15 #[.agg #[.int .i64 n, .slice A rs.length c], .agg #[.slice B m.length d]] w fun e w' => e = .returned (.bool true) ∧ Below w.heap.size w w' := by
  cases h : (decide (rs.length ≤ 30) && compactB m) with
  | false => exact leasts_big n A c rs B d m w hA hM h
  | true =>
    cases hf : formedA n rs m with
    | false => exact leasts_no n A c rs B d m w hA hM h hf
    | true => exact leasts_yes n A c rs B d m w hA hM h hf
end Go.Proofs.Ytlnonadkdonhmaa

/- AutoLeasts returns true for every group and machine, and leaves its arguments as they were. No condition. -/
namespace Go.Proofs.Ytlnonadkdonhmaa
open Go.ChangeShapes Go.WideShapes Go.ChangeAt Go.RowKit

theorem own_leasts : ownKnob Try.prog.godebug = none := by kernel_rfl
theorem laid_leasts : laidOutB Try.prog = true := by kernel_rfl

set_option maxRecDepth 100000 in
theorem lifted_leasts (os : Os) (started : os.Started) (H : Type) (enc : TypeId × Value → H) :
    ReturnsInHanded {} Try.checked os 15 .any (Rows.autoLeastsSpec.pre6 enc Try.prog Try.f15 Rows.autoLeastsRow.domain false) (Rows.autoLeastsSpec.post enc Try.prog Try.f15 false true false false) := by
  refine returnsInHanded_of_change_sized (C := Try.checked) own_leasts started (by kernel_rfl) Try.func15
    (ChangeSpec.witness6 (enc := enc) (C := Try.checked) false ⟨#[], #[.agg #[.int .i64 0, .slice none 0 0], .agg #[.slice none 0 0]], []⟩ 8 (by kernel_rfl) (by kernel_rfl) (by kernel_rfl) (by kernel_rfl)) ?_
  intro W base args ds gs before hval0 hW hcnd hsz0 _
  have hval : ∀ (j : Nat) t v, Try.f15.params[j]? = some t → args[j]? = some v → Value.okWide Try.prog W .any base t v := hval0
  have hsz : (DataW.weightsEach Try.prog (Try.f15.params.toList ++ Rows.autoLeastsSpec.plain.varTypes Try.prog) (ds ++ gs)).all (· ≤ reachBytes) = true := hsz0
  have hW' := hW
  obtain ⟨p, q, hA0, hV, rfl, hfz, hnd⟩ := hW
  have hA : DataW.TrodAll enc Try.prog W 0 (fun _ => true) true Try.f15.params.toList args.toList ds p := hA0
  rw [Try.params15] at hA hval hsz
  obtain ⟨v0, vs0, d0, ds0, p0, q0, hargs, rfl, rfl, h0, r0⟩ := trodAll_cons hA
  obtain ⟨v1, vs1, d1, ds1, p1, q1, rfl, rfl, rfl, h1, r1⟩ := trodAll_cons r0
  obtain ⟨rfl, rfl, rfl⟩ := trodAll_nil r1
  obtain rfl : args = #[v0, v1] := by cases args; simp_all
  obtain ⟨rfl, rfl⟩ := trodVars_none hV
  have s0 : sz Try.prog 24 d0 := sz_arg hsz (j := 0) rfl rfl
  obtain ⟨n0, A0, rs0, c0, rfl, hC0, hw0⟩ := arg_group (hval 0 24 v0 rfl rfl) h0 s0
  have k0 := h0
  have lt0 : ∀ x ∈ p0, x.block < W.heap.size := by obtain ⟨m, hm⟩ := k0; exact DataW.trod_lt m _ _ _ hm
  have s1 : sz Try.prog 27 d1 := sz_arg hsz (j := 1) rfl rfl
  obtain ⟨B1, m1, e1, rfl, hC1⟩ := arg_mach (hval 1 27 v1 rfl rfl) h1 s1
  have k1 := h1
  have lt1 : ∀ x ∈ p1, x.block < W.heap.size := by obtain ⟨m, hm⟩ := k1; exact DataW.trod_lt m _ _ _ hm
  clear hA0 hval0
  refine (walk_leasts n0 A0 c0 rs0 B1 e1 m1 W hC0 hC1).mono fun e W' ⟨he, bel⟩ => ?_
  subst he
  exact ⟨_, rfl, _, _, _, [], _, [], hW', trodAll_mk1 (shut_bool Try.underlying4 _), (trodAll_cons_mk (Below.trod laid_leasts (by kernel_rfl) (of_decide_eq_true (by kernel_rfl)) k0 bel lt0) (trodAll_cons_mk (Below.trod laid_leasts (by kernel_rfl) (of_decide_eq_true (by kernel_rfl)) k1 bel lt1) trodAll_mk0)), rfl, bel.frame _, fun h => by cases h⟩

theorem leasts_holds : Rows.AutoLeastsSaid :=
  OpenClaim.holds_of_wide 15 Try.f15 rfl rfl rfl rfl rfl rfl rfl ⟨rfl, rfl, rfl, rfl, rfl⟩ rfl rfl rfl rfl rfl (by kernel_rfl) Try.func15 (by kernel_rfl)
    (of_decide_eq_true (by kernel_rfl)) (by unfold Func.isWrapper; first | (rw [if_pos (by decide +kernel)]; kernel_rfl) | (rw [if_neg (by decide +kernel)]; exact ⟨rfl, rfl⟩))
    (fun os started H enc _ => lifted_leasts os started H enc)
#print axioms leasts_holds
end Go.Proofs.Ytlnonadkdonhmaa
