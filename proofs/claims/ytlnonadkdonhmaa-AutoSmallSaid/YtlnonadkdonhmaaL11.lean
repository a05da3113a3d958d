/- Contracts and lemmas that a claim of this seat uses. -/
import Derived.Test.YtlnonadkdonhmaaL9
import Derived.Test.YtlnonadkdonhmaaL10
import Derived.Test.YtlnonadkdonhmaaL3
import Derived.Test.YtlnonadkdonhmaaL4
import Derived.Test.YtlnonadkdonhmaaL2
import Derived.Test.YtlnonadkdonhmaaL7
import Derived.Test.YtlnonadkdonhmaaL8

/- The walk of AutoMachines. -/
namespace Go.Proofs.Ytlnonadkdonhmaa
open Go.RowKit Go.Maps

/-- The boxes of a group and a machine. -/
structure GM (W : World) (bg bm : Nat) (n : Int) (A : Option Addr) (l c : Nat) (B : Option Addr) (k d : Nat) : Prop where
  g : Blk W bg (.cells #[.int .i64 n, .slice A l c] 24)
  m : Blk W bm (.cells #[.slice B k d] 27)
theorem gm_new (w : World) (n : Int) (A : Option Addr) (l c : Nat) (B : Option Addr) (k d : Nat) : GM (gbox w n A l c B k d) w.heap.size (w.heap.size + 1) n A l c B k d := by
  refine ⟨(Blk.new _ _).alloc _, ?_⟩
  have e := Blk.new (w.alloc (.cells #[.int .i64 n, .slice A l c] 24)) (.cells #[.slice B k d] 27)
  rw [World.size_alloc] at e
  exact e


set_option maxRecDepth 100000 in
set_option maxHeartbeats 4000000 in
theorem machines_big (n : Int) (A : Option Addr) (c : Nat) (rs : List Int) (B : Option Addr) (d : Nat) (m : Mach) (w : World) (hA : Cells w A (ints rs)) (hM : MachAt w B m) (h : (decide (rs.length ≤ 30) && compactB m) = false) :
    Calls Try.prog 3 #[.agg #[.int .i64 n, .slice A rs.length c], .agg #[.slice B m.length d]] w fun e w' => e = .returned (.bool true) ∧ Below w.heap.size w w' := by
  have HB0 : Hid (Below w.heap.size w (gbox w n A rs.length c B m.length d)) := gbox_below w n A rs.length c B m.length d
  have HA0 := Lib.hid (hA.below HB0.out (Nat.le_refl _))
  have HM0 := Lib.hid (hM.below HB0.out (Nat.le_refl _))
  have hgm := gm_new w n A rs.length c B m.length d
  cases hs : decide (rs.length ≤ 30) with
  | false =>
    have HS := Lib.hid hs
    clear h hs
    go_enter Try.func3, Try.ntmps3
    go_wp2_with fail
    obtain ⟨W, hW⟩ : ∃ W, gbox w n A rs.length c B m.length d = W := ⟨_, rfl⟩
    have hW' : (w.alloc (.cells #[.int .i64 n, .slice A rs.length c] 24)).alloc (.cells #[.slice B m.length d] 27) = W := hW
    rw [hW] at HB0 HA0 HM0 hgm
    rw [hW']
    have c0 := hgm.g.cell 0 (v := .int .i64 n) rfl
    have c1 := hgm.g.cell 1 (v := .slice A rs.length c) rfl
    have c2 := hgm.m.cell 0 (v := .slice B m.length d) rfl
    have hl0 := hgm.g.lt
    have hl1 := hgm.m.lt
    clear hW hW' hgm
    refine (small_any n A rs.length c W).mono ?_
    rintro e w1 ⟨rfl, hB1⟩
    rw [HS.out]
    go_wp2_with (go_at_call 20; go_must (refine (known_any _).mono ?_); rintro e w2 ⟨rfl, hB2⟩)
    go_ret
    exact ⟨rfl, below_in HB0.out (below_in hB1 hB2)⟩
  | true =>
    have hc : compactB m = false := by rw [hs] at h; simpa using h
    have HS := Lib.hid hs
    have HC := Lib.hid hc
    clear h hs hc
    go_enter Try.func3, Try.ntmps3
    go_wp2_with fail
    obtain ⟨W, hW⟩ : ∃ W, gbox w n A rs.length c B m.length d = W := ⟨_, rfl⟩
    have hW' : (w.alloc (.cells #[.int .i64 n, .slice A rs.length c] 24)).alloc (.cells #[.slice B m.length d] 27) = W := hW
    rw [hW] at HB0 HA0 HM0 hgm
    rw [hW']
    have c0 := hgm.g.cell 0 (v := .int .i64 n) rfl
    have c1 := hgm.g.cell 1 (v := .slice A rs.length c) rfl
    have c2 := hgm.m.cell 0 (v := .slice B m.length d) rfl
    have hl0 := hgm.g.lt
    have hl1 := hgm.m.lt
    clear hW hW' hgm
    refine (small_any n A rs.length c W).mono ?_
    rintro e w1 ⟨rfl, hB1⟩
    rw [HS.out]
    have d2 := cell_chain hB1 hl1 c2
    go_wp2_with (first
      | (go_at_call 19; go_must (refine (compact_any B d m w1 (HM0.out.below hB1 (Nat.le_refl _))).mono ?_); rintro e w2 ⟨rfl, hB2⟩; rw [HC.out])
      | (go_at_call 20; go_must (refine (known_any _).mono ?_); rintro e w3 ⟨rfl, hB3⟩))
    go_ret
    exact ⟨rfl, below_in HB0.out (below_in hB1 (below_in hB2 hB3))⟩

theorem Same_self (A B : Option Addr) (c d : Nat) (M : Mach) (w : World) (hA : MachAt w A M) (hB : MachAt w B M) : Calls Try.prog 24 #[.agg #[.slice A M.length c], .agg #[.slice B M.length d]] w fun e w' => e = .returned (.bool true) ∧ Below w.heap.size w w' := by
  have h := Same_any A B c d M M w hA hB
  rw [decide_eq_true rfl] at h
  exact h
theorem machR_no {n : Int} {rs : List Int} (h : grpOk n rs = false) : machR n rs = [] := by unfold machR; rw [h]; rfl
theorem machR_yes {n : Int} {rs : List Int} (h : grpOk n rs = true) : machR n rs = machI n rs := by unfold machR; rw [h]; rfl


set_option maxRecDepth 100000 in
set_option maxHeartbeats 8000000 in
theorem machines_no (n : Int) (A : Option Addr) (c : Nat) (rs : List Int) (B : Option Addr) (d : Nat) (m : Mach) (w : World) (hA : Cells w A (ints rs)) (hM : MachAt w B m) (h : (decide (rs.length ≤ 30) && compactB m) = true) (hg : grpOk n rs = false) :
    Calls Try.prog 3 #[.agg #[.int .i64 n, .slice A rs.length c], .agg #[.slice B m.length d]] w fun e w' => e = .returned (.bool true) ∧ Below w.heap.size w w' := by
  have HG := Lib.hid hg
  have HGE : Hid (errI (grpOk n rs) = 2) := by show _ = _; rw [hg]; rfl
  have HMR := Lib.hid (machR_no hg)
  have HF : Hid (errI (formedA n rs m) = 2) := by show _ = _; rw [formedA_false m hg]; rfl
  clear hg
  have hs : decide (rs.length ≤ 30) = true := by simp only [Bool.and_eq_true] at h; exact h.1
  have hc : compactB m = true := by simp only [Bool.and_eq_true] at h; exact h.2
  have HS := Lib.hid hs
  have HC := Lib.hid hc
  clear h hs hc
  have HB0 : Hid (Below w.heap.size w (gbox w n A rs.length c B m.length d)) := gbox_below w n A rs.length c B m.length d
  have HA0 := Lib.hid (hA.below HB0.out (Nat.le_refl _))
  have HM0 := Lib.hid (hM.below HB0.out (Nat.le_refl _))
  have hgm := gm_new w n A rs.length c B m.length d
  go_enter Try.func3, Try.ntmps3
  go_wp2_with fail
  obtain ⟨W, hW⟩ : ∃ W, gbox w n A rs.length c B m.length d = W := ⟨_, rfl⟩
  have hW' : (w.alloc (.cells #[.int .i64 n, .slice A rs.length c] 24)).alloc (.cells #[.slice B m.length d] 27) = W := hW
  rw [hW] at HB0 HA0 HM0 hgm
  rw [hW']
  have c0 := hgm.g.cell 0 (v := .int .i64 n) rfl
  have c1 := hgm.g.cell 1 (v := .slice A rs.length c) rfl
  have c2 := hgm.m.cell 0 (v := .slice B m.length d) rfl
  have hl0 := hgm.g.lt
  have hl1 := hgm.m.lt
  clear hW hW' hgm
  refine (small_any n A rs.length c W).mono ?_
  rintro e w1 ⟨rfl, hB1⟩
  rw [HS.out]
  have d2 := cell_chain hB1 hl1 c2
  have hI1 := hB1
  go_wp2_with (first
    | (go_at_call 19; go_must (refine (compact_any B d m w1 (HM0.out.below hB1 (Nat.le_refl _))).mono ?_); rintro e w2 ⟨rfl, hB2⟩; rw [HC.out]; have hI2 := below_in hB1 hB2; have e0 := cell_chain hI2 hl0 c0; have e1 := cell_chain hI2 hl0 c1)
    | fail)
  clear d2 hB1
  refine (Machine_any n A c rs w2 (HA0.out.below hI2 (Nat.le_refl _))).mono ?_
  rintro e w3 ⟨A3, c3, rfl, hm3, hB3⟩
  rw [HGE.out, HMR.out]
  have hI3 := below_in hI2 hB3
  have f0 := cell_chain hI3 hl0 c0
  have f1 := cell_chain hI3 hl0 c1
  have f2 := cell_chain hI3 hl1 c2
  have hl3 : w.heap.size < w3.heap.size := Nat.lt_of_lt_of_le hl0 hI3.size
  have hl3' : w.heap.size + 1 < w3.heap.size := Nat.lt_of_lt_of_le hl1 hI3.size
  clear e0 e1
  go_wp2_with fail
  obtain ⟨Y, hY⟩ : ∃ Y, w3.alloc (.cells #[.slice A3 0 c3] 27) = Y := ⟨_, rfl⟩
  have hb3 : Blk Y w3.heap.size (.cells #[.slice A3 0 c3] 27) := by rw [← hY]; exact Blk.new _ _
  have h3Y : Below w3.heap.size w3 Y := by rw [← hY]; exact (Below.refl _ w3).alloc (Nat.le_refl _) _
  have hIY := below_in hI3 h3Y
  have HA3 := Lib.hid (HA0.out.below hIY (Nat.le_refl _))
  have HM3 := Lib.hid (HM0.out.below hIY (Nat.le_refl _))
  have HIY := Lib.hid hIY
  have x0 := hb3.cell 0 (v := .slice A3 0 c3) rfl
  have hlY := hb3.lt
  have z0 := cell_chain hIY hl0 c0
  have z1 := cell_chain hIY hl0 c1
  change Calls _ _ _ (w3.alloc (.cells #[.slice A3 0 c3] 27)) _
  rw [hY]
  have hly0 : w.heap.size < Y.heap.size := Nat.lt_of_lt_of_le hl0 hIY.size
  clear f0 f1 f2 hl3 hl3' hY hb3 h3Y hI3 hIY hB3 hm3
  refine (Formed_any n A c rs B d m Y HA3.out HM3.out).mono ?_
  rintro e w4 ⟨rfl, hB4⟩
  rw [HF.out]
  have hI4 := below_in HIY.out hB4
  have y0 := cell_chain hB4 hly0 z0
  have y1 := cell_chain hB4 hly0 z1
  have x1 := cell_chain hB4 hlY x0
  have hl4 : w3.heap.size < w4.heap.size := Nat.lt_of_lt_of_le hlY hB4.size
  clear z0 z1 x0
  go_wp2_with (first
    | (go_at_call 23; go_must (refine (group_any n A c rs w4 (HA0.out.below hI4 (Nat.le_refl _))).mono ?_); rintro e w5 ⟨rfl, hB5⟩; rw [HG.out]; have x2 := cell_chain hB5 hl4 x1)
    | (go_at_call 20; go_must (refine (known_any _).mono ?_); rintro e w6 ⟨rfl, hB6⟩))
  go_ret
  exact ⟨rfl, below_in HB0.out (below_in (below_in hI4 hB5) hB6)⟩

set_option maxRecDepth 100000 in
set_option maxHeartbeats 8000000 in
theorem machines_yes (N : Nat) (A : Option Addr) (c : Nat) (rs : List Int) (B : Option Addr) (d : Nat) (m : Mach) (w : World) (hA : Cells w A (ints rs)) (hM : MachAt w B m) (h : (decide (rs.length ≤ 30) && compactB m) = true) (hg : grpOk N rs = true) :
    Calls Try.prog 3 #[.agg #[.int .i64 (N : Int), .slice A rs.length c], .agg #[.slice B m.length d]] w fun e w' => e = .returned (.bool true) ∧ Below w.heap.size w w' := by
  obtain ⟨n, hn⟩ : ∃ n : Int, n = (N : Int) := ⟨_, rfl⟩
  rw [← hn] at hg ⊢
  have HN := Lib.hid hn
  have HG := Lib.hid hg
  have hn6 := (grpOk_true hg).2.1
  have HGE : Hid (errI (grpOk n rs) = 0) := by show _ = _; rw [hg]; rfl
  have HMR := Lib.hid (machR_yes hg)
  have HFM : Hid (errI (formedA n rs (machI n rs)) = 0) := by show _ = _; rw [formedA_machI hg]; rfl
  have HFE := Lib.hid (formed_eq m hg)
  have HMR2 : Hid (∀ (A : Option Addr) (c : Nat) (w : World), Cells w A (ints rs) → Calls Try.prog 25 #[.agg #[.int .i64 n, .slice A rs.length c]] w fun e w' => ∃ A' c', e = .returned (.agg #[.slice A' (machI n rs).length c']) ∧ MachAt w' A' (machI n rs) ∧ Below w.heap.size w w') := by
    rw [hn] at hg ⊢
    exact Lib.hid fun A c w hA => MachineR_any N A c rs w hA hg
  clear hg hn
  have hs : decide (rs.length ≤ 30) = true := by simp only [Bool.and_eq_true] at h; exact h.1
  have hc : compactB m = true := by simp only [Bool.and_eq_true] at h; exact h.2
  have HS := Lib.hid hs
  have HC := Lib.hid hc
  clear h hs hc
  have HB0 : Hid (Below w.heap.size w (gbox w n A rs.length c B m.length d)) := gbox_below w n A rs.length c B m.length d
  have HA0 := Lib.hid (hA.below HB0.out (Nat.le_refl _))
  have HM0 := Lib.hid (hM.below HB0.out (Nat.le_refl _))
  have hgm := gm_new w n A rs.length c B m.length d
  go_enter Try.func3, Try.ntmps3
  go_wp2_with fail
  obtain ⟨W, hW⟩ : ∃ W, gbox w n A rs.length c B m.length d = W := ⟨_, rfl⟩
  have hW' : (w.alloc (.cells #[.int .i64 n, .slice A rs.length c] 24)).alloc (.cells #[.slice B m.length d] 27) = W := hW
  rw [hW] at HB0 HA0 HM0 hgm
  rw [hW']
  have c0 := hgm.g.cell 0 (v := .int .i64 n) rfl
  have c1 := hgm.g.cell 1 (v := .slice A rs.length c) rfl
  have c2 := hgm.m.cell 0 (v := .slice B m.length d) rfl
  have hl0 := hgm.g.lt
  have hl1 := hgm.m.lt
  clear hW hW' hgm
  refine (small_any n A rs.length c W).mono ?_
  rintro e w1 ⟨rfl, hB1⟩
  rw [HS.out]
  have d2 := cell_chain hB1 hl1 c2
  have hI1 := hB1
  go_wp2_with (first
    | (go_at_call 19; go_must (refine (compact_any B d m w1 (HM0.out.below hB1 (Nat.le_refl _))).mono ?_); rintro e w2 ⟨rfl, hB2⟩; rw [HC.out]; have hI2 := below_in hB1 hB2; have e0 := cell_chain hI2 hl0 c0; have e1 := cell_chain hI2 hl0 c1)
    | fail)
  clear d2 hB1
  refine (Machine_any n A c rs w2 (HA0.out.below hI2 (Nat.le_refl _))).mono ?_
  rintro e w3 ⟨A3, c3, rfl, hm3, hB3⟩
  rw [HGE.out]
  rw [HMR.out] at hm3 ⊢
  obtain ⟨M, HMM⟩ : ∃ M, Hid (machI n rs = M) := ⟨_, rfl⟩
  rw [HMM.out] at hm3 HFM HMR2 ⊢
  have hI3 := below_in hI2 hB3
  have f0 := cell_chain hI3 hl0 c0
  have f1 := cell_chain hI3 hl0 c1
  have f2 := cell_chain hI3 hl1 c2
  have hl3 : w.heap.size < w3.heap.size := Nat.lt_of_lt_of_le hl0 hI3.size
  have hl3' : w.heap.size + 1 < w3.heap.size := Nat.lt_of_lt_of_le hl1 hI3.size
  clear e0 e1
  go_wp2_with fail
  obtain ⟨Y, hY⟩ : ∃ Y, w3.alloc (.cells #[.slice A3 M.length c3] 27) = Y := ⟨_, rfl⟩
  have hb3 : Blk Y w3.heap.size (.cells #[.slice A3 M.length c3] 27) := by rw [← hY]; exact Blk.new _ _
  have h3Y : Below w3.heap.size w3 Y := by rw [← hY]; exact (Below.refl _ w3).alloc (Nat.le_refl _) _
  have hIY := below_in hI3 h3Y
  have HA3 := Lib.hid (HA0.out.below hIY (Nat.le_refl _))
  have HM3 := Lib.hid (HM0.out.below hIY (Nat.le_refl _))
  have HMY := Lib.hid (hm3.below h3Y (Nat.le_refl _))
  have HIY := Lib.hid hIY
  have x0 := hb3.cell 0 (v := .slice A3 M.length c3) rfl
  have hlY := hb3.lt
  have z0 := cell_chain hIY hl0 c0
  have z1 := cell_chain hIY hl0 c1
  have z2 := cell_chain hIY hl1 c2
  change Calls _ _ _ (w3.alloc (.cells #[.slice A3 M.length c3] 27)) _
  rw [hY]
  have hly0 : w.heap.size < Y.heap.size := Nat.lt_of_lt_of_le hl0 hIY.size
  have hly1 : w.heap.size + 1 < Y.heap.size := Nat.lt_of_lt_of_le hl1 hIY.size
  clear f0 f1 f2 hl3 hl3' hY hb3 h3Y hI3 hIY hB3 hm3
  refine (Formed_any n A c rs B d m Y HA3.out HM3.out).mono ?_
  rintro e w4 ⟨rfl, hB4⟩
  have y0 := cell_chain hB4 hly0 z0
  have y1 := cell_chain hB4 hly0 z1
  go_wp2_with (go_at_call 23; go_must (refine (group_any n A c rs w4 (HA3.out.below hB4 (Nat.le_refl _))).mono ?_); rintro e w5 ⟨rfl, hB5⟩; rw [HG.out])
  have hI5 : Below Y.heap.size Y w5 := below_in hB4 hB5
  clear y0 y1 hB4 hB5
  refine draw (fun w' => Below Y.heap.size Y w') 16 rfl (by kernel_rfl) (fun Qd hQd => ?_)
  apply anyI_step 0 rfl (by kernel_rfl)
  focus (intro wI hI Kv hKv; have t0 := cell_chain hI hlY x0; have t1 := cell_chain hI hly0 z0; have t2 := cell_chain hI hly0 z1; go_simp; exact hKv)
  intro Kd hKd
  go_simp
  refine hKd _ ?_
  clear hKd Kd
  apply anyI_step 1 rfl (by kernel_rfl)
  focus (intro wI hI Kv hKv; have t0 := cell_chain hI hlY x0; have t1 := cell_chain hI hly0 z0; have t2 := cell_chain hI hly0 z1; go_simp; exact hKv)
  intro Kd hKd
  go_simp
  refine hKd _ ?_
  clear hKd Kd
  apply anyI_step 2 rfl (by kernel_rfl)
  focus (intro wI hI Kv hKv; have t0 := cell_chain hI hlY x0; have t1 := cell_chain hI hly0 z0; have t2 := cell_chain hI hly0 z1; go_simp; exact hKv)
  intro Kd hKd
  go_simp
  refine hKd _ ?_
  clear hKd Kd
  apply anyI_step 3 rfl (by kernel_rfl)
  focus (intro wI hI Kv hKv; have t0 := cell_chain hI hlY x0; have t1 := cell_chain hI hly0 z0; have t2 := cell_chain hI hly0 z1; go_simp; exact hKv)
  intro Kd hKd
  go_simp
  refine hKd _ ?_
  clear hKd Kd
  apply anyI_step 4 rfl (by kernel_rfl)
  focus (intro wI hI Kv hKv; have t0 := cell_chain hI hlY x0; have t1 := cell_chain hI hly0 z0; have t2 := cell_chain hI hly0 z1; go_simp; exact hKv)
  intro Kd hKd
  go_simp
  refine hKd _ ?_
  clear hKd Kd
  refine anyI_one' 5 rfl (by kernel_rfl) (hI5.drew) (fun Kd hKd => ?_)
  go_wp2_with (go_at_call 25; go_must (refine (HMR2.out A c _ (by exact HA3.out.below hI5.drew (Nat.le_refl _))).mono ?_); rintro e w6 ⟨A6, c6, rfl, hm6, hB6⟩)
  have hI6 : Below Y.heap.size Y w6 := below_in hI5.drew hB6
  refine anyI_one' 6 rfl (by kernel_rfl) (hI6) (fun Kd hKd => ?_)
  go_wp2_with (go_at_call 24; go_must (refine (Same_self A3 A6 c3 c6 M w6 (HMY.out.below hI6 (Nat.le_refl _)) hm6).mono ?_); rintro e w7 ⟨rfl, hB7⟩)
  have hI7 : Below Y.heap.size Y w7 := below_in hI6 hB7
  apply anyI_step 7 rfl (by kernel_rfl)
  focus (intro wI hI Kv hKv; have t0 := cell_chain hI hlY x0; have t1 := cell_chain hI hly0 z0; have t2 := cell_chain hI hly0 z1; go_simp; exact hKv)
  intro Kd hKd
  go_simp
  refine hKd _ ?_
  clear hKd Kd
  apply anyI_step 8 rfl (by kernel_rfl)
  focus (intro wI hI Kv hKv; have t0 := cell_chain hI hlY x0; have t1 := cell_chain hI hly0 z0; have t2 := cell_chain hI hly0 z1; go_simp; exact hKv)
  intro Kd hKd
  go_simp
  refine hKd _ ?_
  clear hKd Kd
  apply anyI_step 9 rfl (by kernel_rfl)
  focus (intro wI hI Kv hKv; have t0 := cell_chain hI hlY x0; have t1 := cell_chain hI hly0 z0; have t2 := cell_chain hI hly0 z1; go_simp; exact hKv)
  intro Kd hKd
  go_simp
  refine hKd _ ?_
  clear hKd Kd
  apply anyI_step 10 rfl (by kernel_rfl)
  focus (intro wI hI Kv hKv; have t0 := cell_chain hI hlY x0; have t1 := cell_chain hI hly0 z0; have t2 := cell_chain hI hly0 z1; go_simp; exact hKv)
  intro Kd hKd
  go_simp
  refine hKd _ ?_
  clear hKd Kd
  apply anyI_step 11 rfl (by kernel_rfl)
  focus (intro wI hI Kv hKv; have t0 := cell_chain hI hlY x0; have t1 := cell_chain hI hly0 z0; have t2 := cell_chain hI hly0 z1; go_simp; exact hKv)
  intro Kd hKd
  go_simp
  refine hKd _ ?_
  clear hKd Kd
  refine anyI_one' 12 rfl (by kernel_rfl) (hI7) (fun Kd hKd => ?_)
  go_wp2_with (go_at_call 25; go_must (refine (HMR2.out A c _ (HA3.out.below hI7 (Nat.le_refl _))).mono ?_); rintro e w8 ⟨A8, c8, rfl, hm8, hB8⟩)
  have hI8 : Below Y.heap.size Y w8 := below_in hI7 hB8
  refine anyI_one' 13 rfl (by kernel_rfl) (hI8) (fun Kd hKd => ?_)
  go_wp2_with (go_at_call 22; go_must (refine (Formed_any n A c rs A8 c8 M w8 (HA3.out.below hI8 (Nat.le_refl _)) hm8).mono ?_); rintro e w9 ⟨rfl, hB9⟩; rw [HFM.out])
  have hI9 : Below Y.heap.size Y w9 := below_in hI8 hB9
  apply anyI_step 14 rfl (by kernel_rfl)
  focus (intro wI hI Kv hKv; go_simp; exact hKv)
  intro Kd hKd
  go_simp
  refine hKd _ ?_
  clear hKd Kd
  apply anyI_step 15 rfl (by kernel_rfl)
  focus (intro wI hI Kv hKv; go_simp; exact hKv)
  intro Kd hKd
  go_simp
  refine hKd _ ?_
  clear hKd Kd
  refine anyI_end (by kernel_rfl) (hI9) (hQd _ _ ?_)
  clear hQd Qd
  have HI9 := Lib.hid hI9
  have v0 := cell_chain hI9 hly0 z0
  have v1 := cell_chain hI9 hly0 z1
  have v2 := cell_chain hI9 hly1 z2
  clear hI5 hI6 hI7 hI8 hI9 hB6 hB7 hB8 hB9 hm6 hm8 z0 z1 z2 x0
  cases hfm : formedA n rs m with
  | false =>
    have HE1 : Hid (errI false = 2) := rfl
    have HE2 : Hid (formedR n rs m = false) := by show _ = _; rw [← HFE.out]; exact hfm
    clear hfm
    rw [HE1.out]
    go_wp2_with (first
      | (go_at_call 26; go_must (refine (FormedR_any n A c rs B d m w9 (HA3.out.below HI9.out (Nat.le_refl _)) (HM3.out.below HI9.out (Nat.le_refl _)) (by omega)).mono ?_); rintro e w10 ⟨rfl, hB10⟩; rw [HE2.out])
      | (go_at_call 20; go_must (refine (known_any _).mono ?_); rintro e w11 ⟨rfl, hB11⟩))
    go_ret
    exact ⟨rfl, below_in HB0.out (below_in HIY.out (below_in (below_in HI9.out hB10) hB11))⟩
  | true =>
    have HE1 : Hid (errI true = 0) := rfl
    have HE2 : Hid (formedR n rs m = true) := by show _ = _; rw [← HFE.out]; exact hfm
    clear hfm
    rw [HE1.out]
    go_wp2_with (first
      | (go_at_call 26; go_must (refine (FormedR_any n A c rs B d m w9 (HA3.out.below HI9.out (Nat.le_refl _)) (HM3.out.below HI9.out (Nat.le_refl _)) (by omega)).mono ?_); rintro e w10 ⟨rfl, hB10⟩; rw [HE2.out])
      | (go_at_call 20; go_must (refine (known_any _).mono ?_); rintro e w11 ⟨rfl, hB11⟩))
    go_ret
    exact ⟨rfl, below_in HB0.out (below_in HIY.out (below_in (below_in HI9.out hB10) hB11))⟩

theorem walk_machines (n : Int) (A : Option Addr) (c : Nat) (rs : List Int) (B : Option Addr) (d : Nat) (m : Mach) (w : World) (hA : Cells w A (ints rs)) (hM : MachAt w B m) :
    Calls Try.prog 3 #[.agg #[.int .i64 n, .slice A rs.length c], .agg #[.slice B m.length d]] w fun e w' => e = .returned (.bool true) ∧ Below w.heap.size w w' := by
  cases h : (decide (rs.length ≤ 30) && compactB m) with
  | false => exact machines_big n A c rs B d m w hA hM h
  | true =>
    cases hg : grpOk n rs with
    | false => exact machines_no n A c rs B d m w hA hM h hg
    | true =>
      obtain ⟨N, rfl⟩ := Int.eq_ofNat_of_zero_le (a := n) (by have := (grpOk_true hg).1; omega)
      exact machines_yes N A c rs B d m w hA hM h hg
end Go.Proofs.Ytlnonadkdonhmaa

/- Contracts: Move, Go of the reference; formed of the laws. -/
namespace Go.Proofs.Ytlnonadkdonhmaa
open Go.RowKit Go.Maps

set_option maxRecDepth 100000 in
set_option maxHeartbeats 4000000 in
theorem Move_any (n : Int) (A : Option Addr) (c : Nat) (rs : List Int) (B : Option Addr) (d : Nat) (m : Mach) (s : Int) (x : Lt) (w : World) (hA : Cells w A (ints rs)) (hM : MachAt w B m) (hf : formedA n rs m = true) (hs : stateB m s = true) (h0 : 0 ≤ x.ch) (h1 : x.ch < n) :
    Calls Try.prog 83 #[.agg #[.int .i64 n, .slice A rs.length c], .agg #[.slice B m.length d], .int .i64 s, .agg #[.int .i64 x.ch, .int .i64 x.keep]] w fun e w' => e = .returned (.tuple #[.int .i64 (actAt m s x.ch).rule, .int .i64 (nextI rs (actAt m s x.ch) x)]) ∧ Below w.heap.size w w' := by
  have hg : grpOk n rs = true := by simp only [formedA, Bool.and_eq_true] at hf; exact hf.1.1.1
  obtain ⟨hn1, hn6, _, _⟩ := grpOk_true hg
  obtain ⟨acts, hacts, hal, hact, hok⟩ := actAt_ok hf hs h0 h1
  have hs' := hs
  simp only [stateB, Bool.and_eq_true, decide_eq_true_eq] at hs'
  obtain ⟨S, rfl⟩ := Int.eq_ofNat_of_zero_le hs'.1
  obtain ⟨ch, keep⟩ := x
  simp only at h0 h1 hact hok ⊢
  obtain ⟨C, rfl⟩ := Int.eq_ofNat_of_zero_le h0
  have hsl : S < m.length := by omega
  rw [Int.toNat_natCast] at hacts hact
  obtain ⟨acts', D, d', b, o, hx, hb, hix, hc, hActs⟩ := mach_at (c := d) (k := S) hM hsl
  obtain rfl : acts = acts' := by rw [hacts] at hx; injection hx
  obtain ⟨a, E, e', b', o', hy, hb', hiy, hr, hn, hE⟩ := acts_at (c := d') (k := C) hActs (by omega)
  obtain ⟨act, HACT⟩ : ∃ act, Hid (actAt m S C = act) := ⟨_, rfl⟩
  rw [HACT.out] at hact hok ⊢
  obtain rfl : act = a := by rw [hact] at hy; injection hy
  obtain ⟨rule, next⟩ := act
  simp only [actOkA, ruleOk, Bool.and_eq_true, Bool.or_eq_true, decide_eq_true_eq] at hok
  obtain ⟨⟨hrule, hlen⟩, _⟩ := hok
  simp only at hr hn hE hrule hlen ⊢
  have HB0 : Hid (Below w.heap.size w (((w.alloc (.cells #[.int .i64 n, .slice A rs.length c] 24)).alloc (.cells #[.slice B m.length d] 27)).alloc (.cells #[.int .i64 (C : Int), .int .i64 keep] 118))) := (((Below.refl _ w).alloc (Nat.le_refl _) _).alloc (by simp) _).alloc (by simp; omega) _
  have HBAll := Lib.hid (bAll_of hg)
  have hlw : ∀ o : Obj, w.heap.size < (w.alloc o).heap.size := fun o => by simp
  by_cases hneg : rule = -1
  · subst hneg
    have hl1 : 0 < next.length := by rw [hlen, manyA, if_pos rfl]; omega
    obtain ⟨y, b2, o2, hy2, hb2, hix2, hc2⟩ := ints_at (c := e') (k := 0) hE Try.underlying22 szInt hl1
    have HN : Hid (nextI rs ⟨-1, next⟩ ⟨(C : Int), keep⟩ = y) := by show _ = _; simp [nextI, List.getD, hy2]
    rw [HN.out]
    simp only [Int.natCast_zero] at hix2
    clear hy2 hrule hlen hal hacts hx hy hact hf hs
    go_enter Try.func83, Try.ntmps83
    go_wp2
    obtain ⟨W, hW⟩ : ∃ W, ((w.alloc (.cells #[.int .i64 n, .slice A rs.length c] 24)).alloc (.cells #[.slice B m.length d] 27)).alloc (.cells #[.int .i64 (C : Int), .int .i64 keep] 118) = W := ⟨_, rfl⟩
    have g1 := (((Blk.new w (.cells #[.int .i64 n, .slice A rs.length c] 24)).alloc (.cells #[.slice B m.length d] 27)).alloc (.cells #[.int .i64 (C : Int), .int .i64 keep] 118))
    have g2 := ((Blk.new (w.alloc (.cells #[.int .i64 n, .slice A rs.length c] 24)) (.cells #[.slice B m.length d] 27)).alloc (.cells #[.int .i64 (C : Int), .int .i64 keep] 118))
    have g3 := (Blk.new ((w.alloc (.cells #[.int .i64 n, .slice A rs.length c] 24)).alloc (.cells #[.slice B m.length d] 27)) (.cells #[.int .i64 (C : Int), .int .i64 keep] 118))
    simp only [World.size_alloc] at g1 g2 g3
    rw [hW] at g1 g2 g3 HB0 ⊢
    have c1 := g1.cell 1 (v := .slice A rs.length c) rfl
    have c2 := g2.cell 0 (v := .slice B m.length d) rfl
    have c3 := g3.cell 0 (v := .int .i64 (C : Int)) rfl
    have c4 := g3.cell 1 (v := .int .i64 keep) rfl
    have l1 := g1.lt
    have l2 := g2.lt
    have l3 := g3.lt
    have k1 := cell_chain HB0.out hb hc
    have k2 := cell_chain HB0.out hb' hr
    have k3 := cell_chain HB0.out hb' hn
    have hsW := HB0.out.size
    have hbW : b < W.heap.size := Nat.lt_of_lt_of_le hb hsW
    have hbW' : b' < W.heap.size := Nat.lt_of_lt_of_le hb' hsW
    clear hW g1 g2 g3
    refine draw (fun w' => Below W.heap.size W w') 11 rfl (by kernel_rfl) (fun Qd hQd => ?_)
    apply anyI_step 0 rfl (by kernel_rfl)
    focus (intro wI hI Kv hKv; have t1 := cell_chain hI l2 c2; have t2 := cell_chain hI hbW k1; have t3 := cell_chain hI l3 c3; have t4 := cell_chain hI hbW' k2; have t5 := cell_chain hI hbW' k3; go_simp; exact hKv)
    intro Kd hKd
    go_simp
    refine hKd _ ?_
    clear hKd Kd
    apply anyI_step 2 rfl (by kernel_rfl)
    focus (intro wI hI Kv hKv; have t1 := cell_chain hI l2 c2; have t2 := cell_chain hI hbW k1; have t3 := cell_chain hI l3 c3; have t4 := cell_chain hI hbW' k2; have t5 := cell_chain hI hbW' k3; go_simp; exact hKv)
    intro Kd hKd
    go_simp
    refine hKd _ ?_
    clear hKd Kd
    apply anyI_step 5 rfl (by kernel_rfl)
    focus (intro wI hI Kv hKv; have t1 := cell_chain hI l2 c2; have t2 := cell_chain hI hbW k1; have t3 := cell_chain hI l3 c3; have t4 := cell_chain hI hbW' k2; have t5 := cell_chain hI hbW' k3; go_simp; exact hKv)
    intro Kd hKd
    go_simp
    refine hKd _ ?_
    clear hKd Kd
    apply anyI_step 1 rfl (by kernel_rfl)
    focus (intro wI hI Kv hKv; have t1 := cell_chain hI l2 c2; have t2 := cell_chain hI hbW k1; have t3 := cell_chain hI l3 c3; have t4 := cell_chain hI hbW' k2; have t5 := cell_chain hI hbW' k3; go_simp; exact hKv)
    intro Kd hKd
    go_simp
    refine hKd _ ?_
    clear hKd Kd
    apply anyI_step 6 rfl (by kernel_rfl)
    focus (intro wI hI Kv hKv; have t1 := cell_chain hI l2 c2; have t2 := cell_chain hI hbW k1; have t3 := cell_chain hI l3 c3; have t4 := cell_chain hI hbW' k2; have t5 := cell_chain hI hbW' k3; go_simp; exact hKv)
    intro Kd hKd
    go_simp
    refine hKd _ ?_
    clear hKd Kd
    apply anyI_step 3 rfl (by kernel_rfl)
    focus (intro wI hI Kv hKv; have t1 := cell_chain hI l2 c2; have t2 := cell_chain hI hbW k1; have t3 := cell_chain hI l3 c3; have t4 := cell_chain hI hbW' k2; have t5 := cell_chain hI hbW' k3; go_simp; exact hKv)
    intro Kd hKd
    go_simp
    refine hKd _ ?_
    clear hKd Kd
    apply anyI_step 4 rfl (by kernel_rfl)
    focus (intro wI hI Kv hKv; have t1 := cell_chain hI l2 c2; have t2 := cell_chain hI hbW k1; have t3 := cell_chain hI l3 c3; have t4 := cell_chain hI hbW' k2; have t5 := cell_chain hI hbW' k3; go_simp; exact hKv)
    intro Kd hKd
    go_simp
    refine hKd _ ?_
    clear hKd Kd
    apply anyI_step 7 rfl (by kernel_rfl)
    focus (intro wI hI Kv hKv; have t1 := cell_chain hI l2 c2; have t2 := cell_chain hI hbW k1; have t3 := cell_chain hI l3 c3; have t4 := cell_chain hI hbW' k2; have t5 := cell_chain hI hbW' k3; go_simp; exact hKv)
    intro Kd hKd
    go_simp
    refine hKd _ ?_
    clear hKd Kd
    apply anyI_step 8 rfl (by kernel_rfl)
    focus (intro wI hI Kv hKv; have t1 := cell_chain hI l2 c2; have t2 := cell_chain hI hbW k1; have t3 := cell_chain hI l3 c3; have t4 := cell_chain hI hbW' k2; have t5 := cell_chain hI hbW' k3; go_simp; exact hKv)
    intro Kd hKd
    go_simp
    refine hKd _ ?_
    clear hKd Kd
    refine anyI_one' 9 rfl (by kernel_rfl) ((Below.refl _ _).drew) (fun Kd hKd => ?_)
    go_wp2
    refine anyI_one' 10 rfl (by kernel_rfl) ((((Below.refl _ W).alloc (Nat.le_refl _) _).drew)) (fun Kd hKd => ?_)
    go_wp2
    refine anyI_end (by kernel_rfl) ((((Below.refl _ W).alloc (Nat.le_refl _) _).drew)) (hQd _ _ ?_)
    clear hQd Qd
    have HBY : Hid (Below w.heap.size w (W.alloc (.cells #[.int .i64 (-1), .slice E next.length e'] 103)).drew) := HB0.out.trans (((Below.refl _ W).alloc (Nat.le_refl _) _).drew.mono hsW)
    have q2 := cell_chain HBY.out hb2 hc2
    clear c1 c2 c3 c4 k1 k2 k3
    go_wp2
    refine sall (by kernel_rfl) (by kernel_rfl) (fun Kq hKq => ?_)
    repeat still_step
    refine wpStill_nil (hKq _ ?_)
    clear hKq Kq
    go_wp2
    refine bodyPost_ret (v := .tuple #[.int .i64 (-1), .int .i64 y]) (results_tt rfl rfl rfl) rfl ⟨rfl, HBY.out.drew⟩
  · obtain ⟨⟨hr0, hr1⟩, hin⟩ := hrule.resolve_left hneg
    obtain ⟨r, rfl⟩ := Int.eq_ofNat_of_zero_le hr0
    have hrl : r < rs.length := by omega
    obtain ⟨rr, b3, o3, hrr, hb3, hix3, hc3⟩ := ints_at (c := c) hA Try.underlying22 szInt hrl
    have hg2 : rs.getD r 0 = rr := by simp only [List.getD, hrr, Option.getD_some]
    have hoe : othersA rr C = othersI rr C := othersA_eq (HBAll.out rr (List.mem_of_getElem? hrr)) h0 (by omega)
    obtain ⟨os, HO⟩ : ∃ os, Hid (othersI rr C = os) := ⟨_, rfl⟩
    have hol : os.length ≤ 6 := by rw [← HO.out, ← hoe]; exact othersA_len _ _
    have HOB : Hid (∀ x ∈ os, 0 ≤ x ∧ x < 6) := by rw [← HO.out, ← hoe]; exact fun x hx => othersA_bd hx
    obtain ⟨P, HP⟩ : ∃ P : Nat, Hid (placeI os keep = (P : Int)) := by
      have h := place_lt os keep os.length
      exact ⟨(placeI os keep).toNat, by show _ = _; rw [Int.toNat_of_nonneg]; exact h.1⟩
    have hPl : P < next.length := by
      have h := next_lt (x := ⟨(C : Int), keep⟩) (c := (C : Int)) (a := ⟨(r : Int), next⟩) hneg hlen
      rw [Int.toNat_natCast, hg2, hoe, HO.out] at h
      simp only [HP.out, Int.toNat_natCast] at h
      exact h
    obtain ⟨y, b2, o2, hy2, hb2, hix2, hc2⟩ := ints_at (c := e') hE Try.underlying22 szInt hPl
    have HN : Hid (nextI rs ⟨(r : Int), next⟩ ⟨(C : Int), keep⟩ = y) := by
      show _ = _
      unfold nextI
      rw [if_neg (by simp only; omega)]
      simp only [Int.toNat_natCast]
      rw [hg2, hoe, HO.out, HP.out, Int.toNat_natCast]
      simp [List.getD, hy2]
    rw [HN.out]
    have hd0 : decide ((r : Int) < 0) = false := by simp
    clear hy2 hrule hlen hal hacts hx hy hact hf hs hg2 hoe hrr hr0 hr1 hin hneg
    go_enter Try.func83, Try.ntmps83
    go_wp2
    obtain ⟨W, hW⟩ : ∃ W, ((w.alloc (.cells #[.int .i64 n, .slice A rs.length c] 24)).alloc (.cells #[.slice B m.length d] 27)).alloc (.cells #[.int .i64 (C : Int), .int .i64 keep] 118) = W := ⟨_, rfl⟩
    have g1 := (((Blk.new w (.cells #[.int .i64 n, .slice A rs.length c] 24)).alloc (.cells #[.slice B m.length d] 27)).alloc (.cells #[.int .i64 (C : Int), .int .i64 keep] 118))
    have g2 := ((Blk.new (w.alloc (.cells #[.int .i64 n, .slice A rs.length c] 24)) (.cells #[.slice B m.length d] 27)).alloc (.cells #[.int .i64 (C : Int), .int .i64 keep] 118))
    have g3 := (Blk.new ((w.alloc (.cells #[.int .i64 n, .slice A rs.length c] 24)).alloc (.cells #[.slice B m.length d] 27)) (.cells #[.int .i64 (C : Int), .int .i64 keep] 118))
    simp only [World.size_alloc] at g1 g2 g3
    rw [hW] at g1 g2 g3 HB0 ⊢
    have c1 := g1.cell 1 (v := .slice A rs.length c) rfl
    have c2 := g2.cell 0 (v := .slice B m.length d) rfl
    have c3 := g3.cell 0 (v := .int .i64 (C : Int)) rfl
    have c4 := g3.cell 1 (v := .int .i64 keep) rfl
    have l1 := g1.lt
    have l2 := g2.lt
    have l3 := g3.lt
    have k1 := cell_chain HB0.out hb hc
    have k2 := cell_chain HB0.out hb' hr
    have k3 := cell_chain HB0.out hb' hn
    have hsW := HB0.out.size
    have hbW : b < W.heap.size := Nat.lt_of_lt_of_le hb hsW
    have hbW' : b' < W.heap.size := Nat.lt_of_lt_of_le hb' hsW
    clear hW g1 g2 g3
    refine draw (fun w' => Below W.heap.size W w') 11 rfl (by kernel_rfl) (fun Qd hQd => ?_)
    apply anyI_step 0 rfl (by kernel_rfl)
    focus (intro wI hI Kv hKv; have t1 := cell_chain hI l2 c2; have t2 := cell_chain hI hbW k1; have t3 := cell_chain hI l3 c3; have t4 := cell_chain hI hbW' k2; have t5 := cell_chain hI hbW' k3; go_simp; exact hKv)
    intro Kd hKd
    go_simp
    refine hKd _ ?_
    clear hKd Kd
    apply anyI_step 2 rfl (by kernel_rfl)
    focus (intro wI hI Kv hKv; have t1 := cell_chain hI l2 c2; have t2 := cell_chain hI hbW k1; have t3 := cell_chain hI l3 c3; have t4 := cell_chain hI hbW' k2; have t5 := cell_chain hI hbW' k3; go_simp; exact hKv)
    intro Kd hKd
    go_simp
    refine hKd _ ?_
    clear hKd Kd
    apply anyI_step 5 rfl (by kernel_rfl)
    focus (intro wI hI Kv hKv; have t1 := cell_chain hI l2 c2; have t2 := cell_chain hI hbW k1; have t3 := cell_chain hI l3 c3; have t4 := cell_chain hI hbW' k2; have t5 := cell_chain hI hbW' k3; go_simp; exact hKv)
    intro Kd hKd
    go_simp
    refine hKd _ ?_
    clear hKd Kd
    apply anyI_step 1 rfl (by kernel_rfl)
    focus (intro wI hI Kv hKv; have t1 := cell_chain hI l2 c2; have t2 := cell_chain hI hbW k1; have t3 := cell_chain hI l3 c3; have t4 := cell_chain hI hbW' k2; have t5 := cell_chain hI hbW' k3; go_simp; exact hKv)
    intro Kd hKd
    go_simp
    refine hKd _ ?_
    clear hKd Kd
    apply anyI_step 6 rfl (by kernel_rfl)
    focus (intro wI hI Kv hKv; have t1 := cell_chain hI l2 c2; have t2 := cell_chain hI hbW k1; have t3 := cell_chain hI l3 c3; have t4 := cell_chain hI hbW' k2; have t5 := cell_chain hI hbW' k3; go_simp; exact hKv)
    intro Kd hKd
    go_simp
    refine hKd _ ?_
    clear hKd Kd
    apply anyI_step 3 rfl (by kernel_rfl)
    focus (intro wI hI Kv hKv; have t1 := cell_chain hI l2 c2; have t2 := cell_chain hI hbW k1; have t3 := cell_chain hI l3 c3; have t4 := cell_chain hI hbW' k2; have t5 := cell_chain hI hbW' k3; go_simp; exact hKv)
    intro Kd hKd
    go_simp
    refine hKd _ ?_
    clear hKd Kd
    apply anyI_step 4 rfl (by kernel_rfl)
    focus (intro wI hI Kv hKv; have t1 := cell_chain hI l2 c2; have t2 := cell_chain hI hbW k1; have t3 := cell_chain hI l3 c3; have t4 := cell_chain hI hbW' k2; have t5 := cell_chain hI hbW' k3; go_simp; exact hKv)
    intro Kd hKd
    go_simp
    refine hKd _ ?_
    clear hKd Kd
    apply anyI_step 7 rfl (by kernel_rfl)
    focus (intro wI hI Kv hKv; have t1 := cell_chain hI l2 c2; have t2 := cell_chain hI hbW k1; have t3 := cell_chain hI l3 c3; have t4 := cell_chain hI hbW' k2; have t5 := cell_chain hI hbW' k3; go_simp; exact hKv)
    intro Kd hKd
    go_simp
    refine hKd _ ?_
    clear hKd Kd
    apply anyI_step 8 rfl (by kernel_rfl)
    focus (intro wI hI Kv hKv; have t1 := cell_chain hI l2 c2; have t2 := cell_chain hI hbW k1; have t3 := cell_chain hI l3 c3; have t4 := cell_chain hI hbW' k2; have t5 := cell_chain hI hbW' k3; go_simp; exact hKv)
    intro Kd hKd
    go_simp
    refine hKd _ ?_
    clear hKd Kd
    refine anyI_one' 9 rfl (by kernel_rfl) ((Below.refl _ _).drew) (fun Kd hKd => ?_)
    go_wp2
    refine anyI_one' 10 rfl (by kernel_rfl) ((((Below.refl _ W).alloc (Nat.le_refl _) _).drew)) (fun Kd hKd => ?_)
    go_wp2
    refine anyI_end (by kernel_rfl) ((((Below.refl _ W).alloc (Nat.le_refl _) _).drew)) (hQd _ _ ?_)
    clear hQd Qd
    have HBY : Hid (Below w.heap.size w (W.alloc (.cells #[.int .i64 (r : Int), .slice E next.length e'] 103)).drew) := HB0.out.trans (((Below.refl _ W).alloc (Nat.le_refl _) _).drew.mono hsW)
    go_wp2
    obtain ⟨Y, hY⟩ : ∃ Y, (W.alloc (.cells #[.int .i64 (r : Int), .slice E next.length e'] 103)).drew = Y := ⟨_, rfl⟩
    have b9 : Blk Y W.heap.size (.cells #[.int .i64 (r : Int), .slice E next.length e'] 103) := by rw [← hY]; exact Blk.new _ _
    have hWY : Below W.heap.size W Y := by rw [← hY]; exact ((Below.refl _ W).alloc (Nat.le_refl _) _).drew
    rw [hY] at HBY ⊢
    have a0 := b9.cell 0 (v := .int .i64 (r : Int)) rfl
    have a1 := b9.cell 1 (v := .slice E next.length e') rfl
    have la := b9.lt
    have m1 := cell_chain hWY l1 c1
    have m3 := cell_chain hWY l3 c3
    have m4 := cell_chain hWY l3 c4
    have hsY := hWY.size
    have n1 : w.heap.size < Y.heap.size := Nat.lt_of_lt_of_le l1 hsY
    have n3 : w.heap.size + 1 + 1 < Y.heap.size := Nat.lt_of_lt_of_le l3 hsY
    have q2 := cell_chain HBY.out hb2 hc2
    have q3 := cell_chain HBY.out hb3 hc3
    have hsw := HBY.out.size
    have z2 : b2 < Y.heap.size := Nat.lt_of_lt_of_le hb2 hsw
    have z3 : b3 < Y.heap.size := Nat.lt_of_lt_of_le hb3 hsw
    clear c1 c2 c3 c4 k1 k2 k3 hY b9 hWY
    refine draw (fun w' => Below Y.heap.size Y w') 20 rfl (by kernel_rfl) (fun Qd hQd => ?_)
    apply anyI_step 0 rfl (by kernel_rfl)
    focus (intro wI hI Kv hKv; have t1 := cell_chain hI la a0; have t2 := cell_chain hI la a1; have t3 := cell_chain hI n1 m1; have t4 := cell_chain hI n3 m3; have t5 := cell_chain hI n3 m4; have t6 := cell_chain hI z3 q3; go_simp; exact hKv)
    intro Kd hKd
    go_simp
    refine hKd _ ?_
    clear hKd Kd
    apply anyI_step 2 rfl (by kernel_rfl)
    focus (intro wI hI Kv hKv; have t1 := cell_chain hI la a0; have t2 := cell_chain hI la a1; have t3 := cell_chain hI n1 m1; have t4 := cell_chain hI n3 m3; have t5 := cell_chain hI n3 m4; have t6 := cell_chain hI z3 q3; go_simp; exact hKv)
    intro Kd hKd
    go_simp
    refine hKd _ ?_
    clear hKd Kd
    apply anyI_step 4 rfl (by kernel_rfl)
    focus (intro wI hI Kv hKv; have t1 := cell_chain hI la a0; have t2 := cell_chain hI la a1; have t3 := cell_chain hI n1 m1; have t4 := cell_chain hI n3 m3; have t5 := cell_chain hI n3 m4; have t6 := cell_chain hI z3 q3; go_simp; exact hKv)
    intro Kd hKd
    go_simp
    refine hKd _ ?_
    clear hKd Kd
    apply anyI_step 6 rfl (by kernel_rfl)
    focus (intro wI hI Kv hKv; have t1 := cell_chain hI la a0; have t2 := cell_chain hI la a1; have t3 := cell_chain hI n1 m1; have t4 := cell_chain hI n3 m3; have t5 := cell_chain hI n3 m4; have t6 := cell_chain hI z3 q3; go_simp; exact hKv)
    intro Kd hKd
    go_simp
    refine hKd _ ?_
    clear hKd Kd
    apply anyI_step 10 rfl (by kernel_rfl)
    focus (intro wI hI Kv hKv; have t1 := cell_chain hI la a0; have t2 := cell_chain hI la a1; have t3 := cell_chain hI n1 m1; have t4 := cell_chain hI n3 m3; have t5 := cell_chain hI n3 m4; have t6 := cell_chain hI z3 q3; go_simp; exact hKv)
    intro Kd hKd
    go_simp
    refine hKd _ ?_
    clear hKd Kd
    apply anyI_step 13 rfl (by kernel_rfl)
    focus (intro wI hI Kv hKv; have t1 := cell_chain hI la a0; have t2 := cell_chain hI la a1; have t3 := cell_chain hI n1 m1; have t4 := cell_chain hI n3 m3; have t5 := cell_chain hI n3 m4; have t6 := cell_chain hI z3 q3; go_simp; exact hKv)
    intro Kd hKd
    go_simp
    refine hKd _ ?_
    clear hKd Kd
    apply anyI_step 1 rfl (by kernel_rfl)
    focus (intro wI hI Kv hKv; have t1 := cell_chain hI la a0; have t2 := cell_chain hI la a1; have t3 := cell_chain hI n1 m1; have t4 := cell_chain hI n3 m3; have t5 := cell_chain hI n3 m4; have t6 := cell_chain hI z3 q3; go_simp; exact hKv)
    intro Kd hKd
    go_simp
    refine hKd _ ?_
    clear hKd Kd
    apply anyI_step 3 rfl (by kernel_rfl)
    focus (intro wI hI Kv hKv; have t1 := cell_chain hI la a0; have t2 := cell_chain hI la a1; have t3 := cell_chain hI n1 m1; have t4 := cell_chain hI n3 m3; have t5 := cell_chain hI n3 m4; have t6 := cell_chain hI z3 q3; go_simp; exact hKv)
    intro Kd hKd
    go_simp
    refine hKd _ ?_
    clear hKd Kd
    apply anyI_step 5 rfl (by kernel_rfl)
    focus (intro wI hI Kv hKv; have t1 := cell_chain hI la a0; have t2 := cell_chain hI la a1; have t3 := cell_chain hI n1 m1; have t4 := cell_chain hI n3 m3; have t5 := cell_chain hI n3 m4; have t6 := cell_chain hI z3 q3; go_simp; exact hKv)
    intro Kd hKd
    go_simp
    refine hKd _ ?_
    clear hKd Kd
    apply anyI_step 7 rfl (by kernel_rfl)
    focus (intro wI hI Kv hKv; have t1 := cell_chain hI la a0; have t2 := cell_chain hI la a1; have t3 := cell_chain hI n1 m1; have t4 := cell_chain hI n3 m3; have t5 := cell_chain hI n3 m4; have t6 := cell_chain hI z3 q3; go_simp; exact hKv)
    intro Kd hKd
    go_simp
    refine hKd _ ?_
    clear hKd Kd
    apply anyI_step 11 rfl (by kernel_rfl)
    focus (intro wI hI Kv hKv; have t1 := cell_chain hI la a0; have t2 := cell_chain hI la a1; have t3 := cell_chain hI n1 m1; have t4 := cell_chain hI n3 m3; have t5 := cell_chain hI n3 m4; have t6 := cell_chain hI z3 q3; go_simp; exact hKv)
    intro Kd hKd
    go_simp
    refine hKd _ ?_
    clear hKd Kd
    apply anyI_step 14 rfl (by kernel_rfl)
    focus (intro wI hI Kv hKv; have t1 := cell_chain hI la a0; have t2 := cell_chain hI la a1; have t3 := cell_chain hI n1 m1; have t4 := cell_chain hI n3 m3; have t5 := cell_chain hI n3 m4; have t6 := cell_chain hI z3 q3; go_simp; exact hKv)
    intro Kd hKd
    go_simp
    refine hKd _ ?_
    clear hKd Kd
    apply anyI_step 8 rfl (by kernel_rfl)
    focus (intro wI hI Kv hKv; have t1 := cell_chain hI la a0; have t2 := cell_chain hI la a1; have t3 := cell_chain hI n1 m1; have t4 := cell_chain hI n3 m3; have t5 := cell_chain hI n3 m4; have t6 := cell_chain hI z3 q3; go_simp; exact hKv)
    intro Kd hKd
    go_simp
    refine hKd _ ?_
    clear hKd Kd
    apply anyI_step 9 rfl (by kernel_rfl)
    focus (intro wI hI Kv hKv; have t1 := cell_chain hI la a0; have t2 := cell_chain hI la a1; have t3 := cell_chain hI n1 m1; have t4 := cell_chain hI n3 m3; have t5 := cell_chain hI n3 m4; have t6 := cell_chain hI z3 q3; go_simp; exact hKv)
    intro Kd hKd
    go_simp
    refine hKd _ ?_
    clear hKd Kd
    refine anyI_one' 12 rfl (by kernel_rfl) ((Below.refl _ _).drew) (fun Kd hKd => ?_)
    go_wp2_with (go_at_call 78; go_must (refine (Others_any rr C _).mono ?_); rintro e w2 ⟨A2, c2, rfl, hos, hB2⟩; rw [HO.out] at hos; rw [HO.out])
    have hI2 : Below Y.heap.size Y w2 := (Below.refl _ Y).drew.trans hB2
    refine anyI_one' 15 rfl (by kernel_rfl) (hI2) (fun Kd hKd => ?_)
    go_wp2_with (go_at_call 116; go_must (refine (place_any os keep A2 c2 w2 hos hol HOB.out).mono ?_); rintro e w3 ⟨rfl, rfl⟩; rw [HP.out])
    apply anyI_step 16 rfl (by kernel_rfl)
    focus (intro wI hI Kv hKv; have t2 := cell_chain hI z2 q2; go_simp; exact hKv)
    intro Kd hKd
    go_simp
    refine hKd _ ?_
    clear hKd Kd
    apply anyI_step 18 rfl (by kernel_rfl)
    focus (intro wI hI Kv hKv; have t2 := cell_chain hI z2 q2; go_simp; exact hKv)
    intro Kd hKd
    go_simp
    refine hKd _ ?_
    clear hKd Kd
    apply anyI_step 17 rfl (by kernel_rfl)
    focus (intro wI hI Kv hKv; have t2 := cell_chain hI z2 q2; go_simp; exact hKv)
    intro Kd hKd
    go_simp
    refine hKd _ ?_
    clear hKd Kd
    apply anyI_step 19 rfl (by kernel_rfl)
    focus (intro wI hI Kv hKv; have t2 := cell_chain hI z2 q2; go_simp; exact hKv)
    intro Kd hKd
    go_simp
    refine hKd _ ?_
    clear hKd Kd
    refine anyI_end (by kernel_rfl) (hI2) (hQd _ _ ?_)
    clear hQd Qd
    go_wp2
    refine bodyPost_ret (v := .tuple #[.int .i64 (r : Int), .int .i64 y]) (results_tt rfl rfl rfl) rfl ⟨rfl, HBY.out.trans (hI2.mono hsw)⟩
end Go.Proofs.Ytlnonadkdonhmaa

/- Contracts: Go of the reference; formed of the laws. -/
namespace Go.Proofs.Ytlnonadkdonhmaa
open Go.RowKit Go.Maps

theorem below_on {W A B : World} (h : Below W.heap.size W A) (k : Below A.heap.size A B) : Below W.heap.size W B := h.trans (k.mono h.size)
theorem below_in2 {w W A B : World} (h : Below w.heap.size w W) (k : Below W.heap.size W A) (l : Below A.heap.size A B) : Below w.heap.size w B := (h.trans (k.mono h.size)).trans (l.mono (Nat.le_trans h.size k.size))

set_option maxRecDepth 100000 in
set_option maxHeartbeats 4000000 in
theorem lawFormed_any (n : Int) (A : Option Addr) (c : Nat) (rs : List Int) (B : Option Addr) (d : Nat) (m : Mach) (w : World) (hA : Cells w A (ints rs)) (hM : MachAt w B m) :
    Calls Try.prog 28 #[.agg #[.int .i64 n, .slice A rs.length c], .agg #[.slice B m.length d]] w fun e w' => e = .returned (.bool (formedA n rs m)) ∧ Below w.heap.size w w' := by
  have HB0 : Hid (Below w.heap.size w (gbox w n A rs.length c B m.length d)) := gbox_below w n A rs.length c B m.length d
  have HA0 := Lib.hid (hA.below HB0.out (Nat.le_refl _))
  have HM0 := Lib.hid (hM.below HB0.out (Nat.le_refl _))
  by_cases hg : grpOk n rs = true
  · have hn6 := (grpOk_true hg).2.1
    have HF := Lib.hid (formed_eq m hg)
    have HG := Lib.hid hg
    clear hg
    go_enter Try.func28, Try.ntmps28
    go_wp2_with (first
      | (go_at_call 23; go_must (refine (group_any n A c rs _ HA0.out).mono ?_); rintro e w1 ⟨rfl, hB1⟩; rw [HG.out]; have g0 := cell_chain (b := w.heap.size) (i := 0) (v := .int .i64 n) hB1 (by simp <;> omega) (by go_simp); have g1 := cell_chain (b := w.heap.size) (i := 1) (v := .slice A rs.length c) hB1 (by simp <;> omega) (by go_simp); have g2 := cell_chain (b := w.heap.size + 1) (i := 0) (v := .slice B m.length d) hB1 (by simp <;> omega) (by go_simp))
      | (go_at_call 26; go_must (refine (FormedR_any n A c rs B d m w1 (HA0.out.below hB1 (Nat.le_refl _)) (HM0.out.below hB1 (Nat.le_refl _)) (by omega)).mono ?_); rintro e w2 ⟨rfl, hB2⟩))
    go_ret
    rw [HF.out]
    exact ⟨rfl, below_in2 HB0.out hB1 hB2⟩
  · simp only [Bool.not_eq_true] at hg
    have HF := Lib.hid (formedA_false m hg)
    have HG := Lib.hid hg
    clear hg
    go_enter Try.func28, Try.ntmps28
    go_wp2_with (go_at_call 23; go_must (refine (group_any n A c rs _ HA0.out).mono ?_); rintro e w1 ⟨rfl, hB1⟩; rw [HG.out])
    go_ret
    rw [HF.out]
    exact ⟨rfl, HB0.out.trans (hB1.mono HB0.out.size)⟩

theorem goTo_snoc {rs : List Int} {m : Mach} {s : Int} {word : List Lt} {k : Nat} {x : Lt} (hx : word[k]? = some x) :
    goTo rs m s word (k + 1) = ((goTo rs m s word k).1 ++ [(actAt m (goTo rs m s word k).2 x.ch).rule], nextI rs (actAt m (goTo rs m s word k).2 x.ch) x) := by
  have e : word.getD k ⟨0, 0⟩ = x := by simp [List.getD, hx]
  simp only [goTo, e]

set_option maxRecDepth 100000 in
set_option maxHeartbeats 8000000 in
theorem RefGo_any (n : Int) (A : Option Addr) (c : Nat) (rs : List Int) (B : Option Addr) (d : Nat) (m : Mach) (s : Int) (D : Option Addr) (f : Nat) (word : List Lt) (w : World) (hA : Cells w A (ints rs)) (hM : MachAt w B m) (hD : Cells w D (lts word)) (hf : formedA n rs m = true) (hs : stateB m s = true) (hw : word.all (letterB n) = true) (hl : word.length ≤ 1000) :
    Calls Try.prog 31 #[.agg #[.int .i64 n, .slice A rs.length c], .agg #[.slice B m.length d], .int .i64 s, .slice D word.length f] w fun e w' => ∃ A' c', e = .returned (.tuple #[.slice A' word.length c', .int .i64 (goTo rs m s word word.length).2]) ∧ Cells w' A' (ints (goTo rs m s word word.length).1) ∧ Below w.heap.size w w' := by
  have HB0 : Hid (Below w.heap.size w (gbox w n A rs.length c B m.length d)) := gbox_below w n A rs.length c B m.length d
  have HF := Lib.hid hf
  have HS := Lib.hid hs
  have HW := Lib.hid hw
  have hgm1 := (Blk.new w (.cells #[.int .i64 n, .slice A rs.length c] 24)).alloc (.cells #[.slice B m.length d] 27)
  have hgm2 := Blk.new (w.alloc (.cells #[.int .i64 n, .slice A rs.length c] 24)) (.cells #[.slice B m.length d] 27)
  rw [World.size_alloc] at hgm2
  clear hf hs hw
  go_enter Try.func31, Try.ntmps31
  go_wp2
  obtain ⟨W, hW⟩ : ∃ W, gbox w n A rs.length c B m.length d = W := ⟨_, rfl⟩
  have hW' : (w.alloc (.cells #[.int .i64 n, .slice A rs.length c] 24)).alloc (.cells #[.slice B m.length d] 27) = W := hW
  rw [hW'] at hgm1 hgm2 ⊢
  rw [hW] at HB0
  have c0 := hgm1.cell 0 (v := .int .i64 n) rfl
  have c1 := hgm1.cell 1 (v := .slice A rs.length c) rfl
  have c2 := hgm2.cell 0 (v := .slice B m.length d) rfl
  have l1 := hgm1.lt
  have l2 := hgm2.lt
  clear hW hW' hgm1 hgm2
  go_loopw [2, 10, 16] (fun st v i wr => ∃ k : Nat, k ≤ word.length ∧ i = .int .i64 k ∧ st = .int .i64 (goTo rs m s word k).2 ∧ wr.ownsRow W.heap.size 3 1 v k (ints (goTo rs m s word k).1) ∧ Below W.heap.size W wr)
    (fun _ _ i _ => word.length - (intOf i).toNat)
  case atStart => exact ⟨0, Nat.zero_le _, rfl, rfl, World.ownsRow_nil _ _ _ _, Below.refl _ _⟩
  case round =>
    obtain ⟨k, hk, rfl, rfl, hown, hBW⟩ := hrel
    have hB : Below w.heap.size w wr := below_on HB0.out hBW
    have hgl := goTo_len rs m s word k
    have HST := Lib.hid (goTo_ok HF.out HS.out HW.out k hk)
    obtain ⟨⟨out, st⟩, HG⟩ : ∃ p, Hid (goTo rs m s word k = p) := ⟨_, rfl⟩
    rw [HG.out] at hown hgl HST ⊢
    simp only at hown hgl HST ⊢
    have HGL := Lib.hid hgl
    have g0 := cell_chain hBW l1 c0
    have g1 := cell_chain hBW l1 c1
    have g2 := cell_chain hBW l2 c2
    have hsz := hBW.size
    have n1 : w.heap.size < wr.heap.size := Nat.lt_of_lt_of_le l1 hsz
    have n2 : w.heap.size + 1 < wr.heap.size := Nat.lt_of_lt_of_le l2 hsz
    clear hgl
    by_cases hlt : k < word.length
    · obtain ⟨x, b, o, hx, hb, hix, hcell⟩ := flat_at (c := f) (hD.below hB (Nat.le_refl _)) (f := ltCells) (fun _ => rfl) Try.underlying38 rLt.size_eq (by decide) hlt
      have HX := Lib.hid hx
      have hxl := List.all_eq_true.1 HW.out x (List.mem_of_getElem? hx)
      simp only [letterB, Bool.and_eq_true, decide_eq_true_eq] at hxl
      have hx0 := hxl.1.1
      have hx1 := hxl.1.2
      obtain ⟨ch, keep⟩ := x
      have d0 := hcell 0 (.int .i64 ch) rfl
      have d1 := hcell 1 (.int .i64 keep) rfl
      rw [Nat.add_zero] at d0
      have HGS := Lib.hid (goTo_snoc (rs := rs) (m := m) (s := s) hx)
      have hAr := hA.below hB (Nat.le_refl _)
      have hMr := hM.below hB (Nat.le_refl _)
      simp only at hx0 hx1
      have HAR := Lib.hid hAr
      have HMR := Lib.hid hMr
      clear hx hxl hcell hAr hMr
      obtain ⟨y, HY⟩ : ∃ y, Hid (actAt m st ch = y) := ⟨_, rfl⟩
      go_wp2_with (first
        | (go_at_call 83; go_must (refine (Move_any n A c rs B d m st ⟨ch, keep⟩ _ (HAR.out.box0 _) (HMR.out.box0 _) HF.out HST.out hx0 hx1).mono ?_); rintro e w3 ⟨rfl, hB3⟩; simp only [HY.out]; have hown3 := own_frame (hown.alloc (.cells #[.int .i64 ch, .int .i64 keep] 118)) (Frame.of_all (S := fun _ => False) hB3) (fun _ _ h => h); have hs3 := hB3.size; simp only [World.size_alloc] at hs3)
        | (at_builtin; go_must (refine wpList_app1' rInt _ rfl _ _ rfl hown3 rfl [_] 1 rfl rfl (by simp [Value.oneCell']) (by omega) (by omega) ?_); intro v' w4 hown4 hB4 hg4 hloc4))
      go_roundw
      case rel =>
        have e3 : Below wr.heap.size wr w3 := ((Below.refl _ wr).alloc (Nat.le_refl _) _).trans (hB3.mono (by simp))
        refine ⟨k + 1, by omega, by go_num, ?_, ?_, hBW.trans ((e3.mono hBW.size).trans hB4)⟩
        · rw [HGS.out, HG.out]; simp only [HY.out]
        · rw [HGS.out, HG.out]; simp only [HY.out]; simpa [ints] using hown4
      case measure => simp [intOf]; omega
    · obtain rfl : k = word.length := by omega
      go_wp2
      obtain ⟨A', c', rfl, hcs⟩ := own_out hown (by simp [ints, HGL.out]; omega)
      refine bodyPost_ret (v := .tuple #[.slice A' word.length c', .int .i64 st]) (results_tt rfl rfl rfl) rfl ⟨A', c', ?_, ?_, hB⟩
      · rw [HG.out]
      · rw [HG.out]; exact hcs
end Go.Proofs.Ytlnonadkdonhmaa
