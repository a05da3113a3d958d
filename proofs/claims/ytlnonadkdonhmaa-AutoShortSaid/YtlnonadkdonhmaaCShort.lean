/- AutoShort returns true for every group, machine, two states and word, and leaves its arguments as they were. No condition. -/
import Derived.Test.YtlnonadkdonhmaaL33
import Derived.Test.YtlnonadkdonhmaaL35
import Derived.Test.YtlnonadkdonhmaaL34
import Derived.Test.YtlnonadkdonhmaaL9
import Derived.Test.YtlnonadkdonhmaaL11
import Derived.Test.YtlnonadkdonhmaaL1
import Derived.Test.YtlnonadkdonhmaaL10
import Derived.Test.YtlnonadkdonhmaaRows

/- The walk of AutoShort. -/
namespace Go.Proofs.Ytlnonadkdonhmaa
open Go.RowKit Go.Maps



set_option maxRecDepth 100000 in
set_option maxHeartbeats 16000000 in
theorem walk_short (n : Int) (A : Option Addr) (c : Nat) (rs : List Int) (B : Option Addr) (d : Nat) (m : Mach) (a b : Int) (D : Option Addr) (f : Nat) (word : List Lt) (w : World) (hA : Cells w A (ints rs)) (hM : MachAt w B m) (hD : Cells w D (lts word)) :
    Calls Try.prog 8 #[.agg #[.int .i64 n, .slice A rs.length c], .agg #[.slice B m.length d], .int .i64 a, .int .i64 b, .slice D word.length f] w fun e w' => e = .returned (.bool true) ∧ Below w.heap.size w w' := by
  have hlw : word.length ≤ 17592186043904 := by have := hD.1; simp [lts, flat_len ltCells_len] at this; omega
  obtain ⟨lw, HLW⟩ : ∃ lw : Bool, Hid (decide ((80 : Int) < (word.length : Int)) = lw) := ⟨_, rfl⟩
  have hlw' := HLW.out
  have HB0 : Hid (Below w.heap.size w (gbox w n A rs.length c B m.length d)) := gbox_below w n A rs.length c B m.length d
  have HA0 := Lib.hid (hA.below HB0.out (Nat.le_refl _))
  have HM0 := Lib.hid (hM.below HB0.out (Nat.le_refl _))
  have hgm := gm_new w n A rs.length c B m.length d
  have HD0 := Lib.hid (hD.below HB0.out (Nat.le_refl _))
  go_enter Try.func8, Try.ntmps8
  go_wp2_with fail
  obtain ⟨W, hW⟩ : ∃ W, gbox w n A rs.length c B m.length d = W := ⟨_, rfl⟩
  have hW' : (w.alloc (.cells #[.int .i64 n, .slice A rs.length c] 24)).alloc (.cells #[.slice B m.length d] 27) = W := hW
  rw [hW] at HB0 HA0 HM0 HD0 hgm
  rw [hW']
  have c0 := hgm.g.cell 0 (v := .int .i64 n) rfl
  have c1 := hgm.g.cell 1 (v := .slice A rs.length c) rfl
  have c2 := hgm.m.cell 0 (v := .slice B m.length d) rfl
  have hl0 := hgm.g.lt
  have hl1 := hgm.m.lt
  have HCG := Lib.hid (And.intro c0 c1)
  have HCM := Lib.hid c2
  have HL0 := Lib.hid hl0
  have HL1 := Lib.hid hl1
  clear hW hW' hgm c0 c1 c2 hl0 hl1
  refine (small_any n A rs.length c W).mono ?_
  rintro e w1 ⟨rfl, hB1⟩
  have HI1 := Lib.hid hB1
  obtain ⟨bs, HS⟩ : ∃ b, Hid (decide (rs.length ≤ 30) = b) := ⟨_, rfl⟩
  rw [HS.out]
  clear hB1
  cases bs with
  | false =>
    go_wp2_with (go_at_call 20; go_must (refine (known_any _).mono ?_); rintro e wz ⟨rfl, hBz⟩)
    go_ret
    exact ⟨rfl, below_in HB0.out (below_in HI1.out hBz)⟩
  | true =>
  have d2 := cell_chain HI1.out HL1.out HCM.out
  go_wp2_with fail
  refine (compact_any B d m w1 (HM0.out.below HI1.out (Nat.le_refl _))).mono ?_
  rintro e w2 ⟨rfl, hB2⟩
  have HI2 := Lib.hid (below_in HI1.out hB2)
  obtain ⟨bs, HC⟩ : ∃ b, Hid (compactB m = b) := ⟨_, rfl⟩
  rw [HC.out]
  clear hB2 d2
  cases bs with
  | false =>
    go_wp2_with (go_at_call 20; go_must (refine (known_any _).mono ?_); rintro e wz ⟨rfl, hBz⟩)
    go_ret
    exact ⟨rfl, below_in HB0.out (below_in HI2.out hBz)⟩
  | true =>
  have x0 := cell_chain HI2.out HL0.out HCG.out.1
  have x1 := cell_chain HI2.out HL0.out HCG.out.2
  have x2 := cell_chain HI2.out HL1.out HCM.out
  go_wp2_with fail
  refine (lawFormed_any n A c rs B d m w2 (HA0.out.below HI2.out (Nat.le_refl _)) (HM0.out.below HI2.out (Nat.le_refl _))).mono ?_
  rintro e w3 ⟨rfl, hB3⟩
  have HI3 := Lib.hid (below_in HI2.out hB3)
  obtain ⟨bs, HF⟩ : ∃ b, Hid (formedA n rs m = b) := ⟨_, rfl⟩
  rw [HF.out]
  clear hB3 x0 x1 x2
  cases bs with
  | false =>
    go_wp2_with (go_at_call 20; go_must (refine (known_any _).mono ?_); rintro e wz ⟨rfl, hBz⟩)
    go_ret
    exact ⟨rfl, below_in HB0.out (below_in HI3.out hBz)⟩
  | true =>
  have x2 := cell_chain HI3.out HL1.out HCM.out
  go_wp2_with fail
  refine (state_any B d m a w3).mono ?_
  rintro e w4 ⟨rfl, hB4⟩
  have HI4 := Lib.hid (below_in HI3.out hB4)
  obtain ⟨bs, HSA⟩ : ∃ b, Hid (stateB m a = b) := ⟨_, rfl⟩
  rw [HSA.out]
  clear hB4 x2
  cases bs with
  | false =>
    go_wp2_with (go_at_call 20; go_must (refine (known_any _).mono ?_); rintro e wz ⟨rfl, hBz⟩)
    go_ret
    exact ⟨rfl, below_in HB0.out (below_in HI4.out hBz)⟩
  | true =>
  have x2 := cell_chain HI4.out HL1.out HCM.out
  go_wp2_with fail
  refine (state_any B d m b w4).mono ?_
  rintro e w5 ⟨rfl, hB5⟩
  have HI5 := Lib.hid (below_in HI4.out hB5)
  obtain ⟨bs, HSB⟩ : ∃ z, Hid (stateB m b = z) := ⟨_, rfl⟩
  rw [HSB.out]
  clear hB5 x2
  cases bs with
  | false =>
    go_wp2_with (go_at_call 20; go_must (refine (known_any _).mono ?_); rintro e wz ⟨rfl, hBz⟩)
    go_ret
    exact ⟨rfl, below_in HB0.out (below_in HI5.out hBz)⟩
  | true =>
  cases lw with
  | true =>
    go_wp2_with (go_at_call 20; go_must (refine (known_any _).mono ?_); rintro e wz ⟨rfl, hBz⟩)
    go_ret
    exact ⟨rfl, below_in HB0.out (below_in HI5.out hBz)⟩
  | false =>
  have hsa := HSA.out
  have hsb := HSB.out
  simp only [stateB, Bool.and_eq_true, decide_eq_true_eq] at hsa hsb
  obtain ⟨a, rfl⟩ := Int.eq_ofNat_of_zero_le hsa.1
  obtain ⟨b, rfl⟩ := Int.eq_ofNat_of_zero_le hsb.1
  have hal : a < m.length := by omega
  have hbl : b < m.length := by omega
  clear hsa hsb
  obtain ⟨R, I, hOK⟩ := short_ok HF.out hal hbl
  have HAP := Lib.hid hOK.ap
  have HOK := Lib.hid hOK
  clear hOK
  have x0 := cell_chain HI5.out HL0.out HCG.out.1
  have x1 := cell_chain HI5.out HL0.out HCG.out.2
  have x2 := cell_chain HI5.out HL1.out HCM.out
  go_wp2_with fail
  refine (Apart_any n A c rs B d m a b w5 (HA0.out.below HI5.out (Nat.le_refl _)) (HM0.out.below HI5.out (Nat.le_refl _))).mono ?_
  rintro e w6 ⟨A6, c6, rfl, hC6, hB6⟩
  rw [HAP.out] at hC6 ⊢
  simp only at hC6 ⊢
  have HI6 := Lib.hid (below_in HI5.out hB6)
  have HC6 := Lib.hid hC6
  have hlR : R.length ≤ 17592186043904 := by have := hC6.1; simp [lts, flat_len ltCells_len] at this; omega
  clear x0 x1 x2 hB6 hC6
  have x0 := cell_chain HI6.out HL0.out HCG.out.1
  have x1 := cell_chain HI6.out HL0.out HCG.out.2
  have x2 := cell_chain HI6.out HL1.out HCM.out
  have lx0 := Nat.lt_of_lt_of_le HL0.out HI6.out.size
  have lx1 := Nat.lt_of_lt_of_le HL1.out HI6.out.size
  have HAS := Lib.hid (HA0.out.below HI6.out (Nat.le_refl _))
  have HMS := Lib.hid (HM0.out.below HI6.out (Nat.le_refl _))
  have HDS := Lib.hid (HD0.out.below HI6.out (Nat.le_refl _))
  cases I with
  | true =>
    go_wp2
    refine draw (fun w' => Below w6.heap.size w6 w') 36 rfl (by kernel_rfl) (fun Qd hQd => ?_)
    apply anyI_step 0 rfl (by kernel_rfl)
    focus (intro wI hI Kv hKv; have t0 := cell_chain hI lx0 x0; have t1 := cell_chain hI lx0 x1; have t2 := cell_chain hI lx1 x2; go_simp; exact hKv)
    intro Kd hKd
    go_simp
    refine hKd _ ?_
    clear hKd Kd
    apply anyI_step 1 rfl (by kernel_rfl)
    focus (intro wI hI Kv hKv; have t0 := cell_chain hI lx0 x0; have t1 := cell_chain hI lx0 x1; have t2 := cell_chain hI lx1 x2; go_simp; exact hKv)
    intro Kd hKd
    go_simp
    refine hKd _ ?_
    clear hKd Kd
    apply anyI_step 2 rfl (by kernel_rfl)
    focus (intro wI hI Kv hKv; have t0 := cell_chain hI lx0 x0; have t1 := cell_chain hI lx0 x1; have t2 := cell_chain hI lx1 x2; go_simp; exact hKv)
    intro Kd hKd
    go_simp
    refine hKd _ ?_
    clear hKd Kd
    apply anyI_step 3 rfl (by kernel_rfl)
    focus (intro wI hI Kv hKv; have t0 := cell_chain hI lx0 x0; have t1 := cell_chain hI lx0 x1; have t2 := cell_chain hI lx1 x2; go_simp; exact hKv)
    intro Kd hKd
    go_simp
    refine hKd _ ?_
    clear hKd Kd
    apply anyI_step 4 rfl (by kernel_rfl)
    focus (intro wI hI Kv hKv; have t0 := cell_chain hI lx0 x0; have t1 := cell_chain hI lx0 x1; have t2 := cell_chain hI lx1 x2; go_simp; exact hKv)
    intro Kd hKd
    go_simp
    refine hKd _ ?_
    clear hKd Kd
    apply anyI_step 5 rfl (by kernel_rfl)
    focus (intro wI hI Kv hKv; have t0 := cell_chain hI lx0 x0; have t1 := cell_chain hI lx0 x1; have t2 := cell_chain hI lx1 x2; go_simp; exact hKv)
    intro Kd hKd
    go_simp
    refine hKd _ ?_
    clear hKd Kd
    apply anyI_step 6 rfl (by kernel_rfl)
    focus (intro wI hI Kv hKv; have t0 := cell_chain hI lx0 x0; have t1 := cell_chain hI lx0 x1; have t2 := cell_chain hI lx1 x2; go_simp; exact hKv)
    intro Kd hKd
    go_simp
    refine hKd _ ?_
    clear hKd Kd
    apply anyI_step 8 rfl (by kernel_rfl)
    focus (intro wI hI Kv hKv; have t0 := cell_chain hI lx0 x0; have t1 := cell_chain hI lx0 x1; have t2 := cell_chain hI lx1 x2; go_simp; exact hKv)
    intro Kd hKd
    go_simp
    refine hKd _ ?_
    clear hKd Kd
    apply anyI_step 9 rfl (by kernel_rfl)
    focus (intro wI hI Kv hKv; have t0 := cell_chain hI lx0 x0; have t1 := cell_chain hI lx0 x1; have t2 := cell_chain hI lx1 x2; go_simp; exact hKv)
    intro Kd hKd
    go_simp
    refine hKd _ ?_
    clear hKd Kd
    refine anyI_one' 7 rfl (by kernel_rfl) ((Below.refl _ _).drew) (fun Kd hKd => ?_)
    go_wp2_with (go_at_call 42; go_must (refine (from_any n rs B d m a _ (by exact HMS.out.drew) HF.out hal).mono ?_); rintro e w7 ⟨A7, c7, rfl, hM7, hB7⟩)
    have HB7 : Hid (Below w6.heap.size w6 w7) := (Below.refl _ w6).drew.trans hB7
    have HM7 := Lib.hid hM7
    clear hB7 hM7
    refine anyI_one' 10 rfl (by kernel_rfl) (HB7.out) (fun Kd hKd => ?_)
    go_wp2_with (go_at_call 42; go_must (refine (from_any n rs B d m b _ (HMS.out.below HB7.out (Nat.le_refl _)) HF.out hbl).mono ?_); rintro e w8 ⟨A8, c8, rfl, hM8, hB8⟩)
    have HB8 : Hid (Below w6.heap.size w6 w8) := below_in HB7.out hB8
    have HM78 := Lib.hid (HM7.out.below hB8 (Nat.le_refl _))
    have HM8 := Lib.hid hM8
    clear hB8 hM8
    refine anyI_one' 11 rfl (by kernel_rfl) (HB8.out) (fun Kd hKd => ?_)
    go_wp2_with (go_at_call 41; go_must (refine (alike_any n A c rs A7 c7 (fromM m a) A8 c8 (fromM m b) _ HM78.out HM8.out (fromM_formed HF.out hal) (fromM_formed HF.out hbl)).mono ?_); rintro e w9 ⟨z, rfl, hz, hB9⟩)
    have hzf : z = false := by
      cases z with
      | false => rfl
      | true => exact absurd ((from_sim HF.out hal hbl).1 (hz.1 rfl)) (HOK.out.sim.1 rfl)
    subst hzf
    have HB9 : Hid (Below w6.heap.size w6 w9) := below_in HB8.out hB9
    clear hz hB9
    apply anyI_step 12 rfl (by kernel_rfl)
    focus (intro wI hI Kv hKv; have t0 := cell_chain hI lx0 x0; have t1 := cell_chain hI lx0 x1; have t2 := cell_chain hI lx1 x2; go_simp; exact hKv)
    intro Kd hKd
    go_simp
    refine hKd _ ?_
    clear hKd Kd
    apply anyI_step 13 rfl (by kernel_rfl)
    focus (intro wI hI Kv hKv; have t0 := cell_chain hI lx0 x0; have t1 := cell_chain hI lx0 x1; have t2 := cell_chain hI lx1 x2; go_simp; exact hKv)
    intro Kd hKd
    go_simp
    refine hKd _ ?_
    clear hKd Kd
    apply anyI_step 14 rfl (by kernel_rfl)
    focus (intro wI hI Kv hKv; have t0 := cell_chain hI lx0 x0; have t1 := cell_chain hI lx0 x1; have t2 := cell_chain hI lx1 x2; go_simp; exact hKv)
    intro Kd hKd
    go_simp
    refine hKd _ ?_
    clear hKd Kd
    apply anyI_step 15 rfl (by kernel_rfl)
    focus (intro wI hI Kv hKv; have t0 := cell_chain hI lx0 x0; have t1 := cell_chain hI lx0 x1; have t2 := cell_chain hI lx1 x2; go_simp; exact hKv)
    intro Kd hKd
    go_simp
    refine hKd _ ?_
    clear hKd Kd
    apply anyI_step 16 rfl (by kernel_rfl)
    focus (intro wI hI Kv hKv; have t0 := cell_chain hI lx0 x0; have t1 := cell_chain hI lx0 x1; have t2 := cell_chain hI lx1 x2; go_simp; exact hKv)
    intro Kd hKd
    go_simp
    refine hKd _ ?_
    clear hKd Kd
    apply anyI_step 17 rfl (by kernel_rfl)
    focus (intro wI hI Kv hKv; have t0 := cell_chain hI lx0 x0; have t1 := cell_chain hI lx0 x1; have t2 := cell_chain hI lx1 x2; go_simp; exact hKv)
    intro Kd hKd
    go_simp
    refine hKd _ ?_
    clear hKd Kd
    apply anyI_step 18 rfl (by kernel_rfl)
    focus (intro wI hI Kv hKv; have t0 := cell_chain hI lx0 x0; have t1 := cell_chain hI lx0 x1; have t2 := cell_chain hI lx1 x2; go_simp; exact hKv)
    intro Kd hKd
    go_simp
    refine hKd _ ?_
    clear hKd Kd
    apply anyI_step 19 rfl (by kernel_rfl)
    focus (intro wI hI Kv hKv; have t0 := cell_chain hI lx0 x0; have t1 := cell_chain hI lx0 x1; have t2 := cell_chain hI lx1 x2; go_simp; exact hKv)
    intro Kd hKd
    go_simp
    refine hKd _ ?_
    clear hKd Kd
    apply anyI_step 20 rfl (by kernel_rfl)
    focus (intro wI hI Kv hKv; have t0 := cell_chain hI lx0 x0; have t1 := cell_chain hI lx0 x1; have t2 := cell_chain hI lx1 x2; go_simp; exact hKv)
    intro Kd hKd
    go_simp
    refine hKd _ ?_
    clear hKd Kd
    apply anyI_step 21 rfl (by kernel_rfl)
    focus (intro wI hI Kv hKv; have t0 := cell_chain hI lx0 x0; have t1 := cell_chain hI lx0 x1; have t2 := cell_chain hI lx1 x2; go_simp; exact hKv)
    intro Kd hKd
    go_simp
    refine hKd _ ?_
    clear hKd Kd
    apply anyI_step 22 rfl (by kernel_rfl)
    focus (intro wI hI Kv hKv; have t0 := cell_chain hI lx0 x0; have t1 := cell_chain hI lx0 x1; have t2 := cell_chain hI lx1 x2; go_simp; exact hKv)
    intro Kd hKd
    go_simp
    refine hKd _ ?_
    clear hKd Kd
    refine anyI_one' 23 rfl (by kernel_rfl) (HB9.out) (fun Kd hKd => ?_)
    have HTR := Lib.hid (HOK.out.tells rfl)
    go_wp2_with (go_at_call 43; go_must (refine (tells_any n A c rs B d m A6 c6 R a b _ (HAS.out.below HB9.out (Nat.le_refl _)) (HMS.out.below HB9.out (Nat.le_refl _)) (HC6.out.below HB9.out (Nat.le_refl _)) HF.out hal hbl).mono ?_); rintro e w10 ⟨rfl, hB10⟩; rw [HTR.out])
    have HB10 : Hid (Below w6.heap.size w6 w10) := below_in HB9.out hB10
    clear hB10
    apply anyI_step 24 rfl (by kernel_rfl)
    focus (intro wI hI Kv hKv; go_simp; exact hKv)
    intro Kd hKd
    go_simp
    refine hKd _ ?_
    clear hKd Kd
    apply anyI_step 25 rfl (by kernel_rfl)
    focus (intro wI hI Kv hKv; go_simp; exact hKv)
    intro Kd hKd
    go_simp
    refine hKd _ ?_
    clear hKd Kd
    apply anyI_step 26 rfl (by kernel_rfl)
    focus (intro wI hI Kv hKv; go_simp; exact hKv)
    intro Kd hKd
    go_simp
    refine hKd _ ?_
    clear hKd Kd
    apply anyI_step 27 rfl (by kernel_rfl)
    focus (intro wI hI Kv hKv; go_simp; exact hKv)
    intro Kd hKd
    go_simp
    refine hKd _ ?_
    clear hKd Kd
    apply anyI_step 28 rfl (by kernel_rfl)
    focus (intro wI hI Kv hKv; go_simp; exact hKv)
    intro Kd hKd
    go_simp
    refine hKd _ ?_
    clear hKd Kd
    apply anyI_step 29 rfl (by kernel_rfl)
    focus (intro wI hI Kv hKv; go_simp; exact hKv)
    intro Kd hKd
    go_simp
    refine hKd _ ?_
    clear hKd Kd
    apply anyI_step 30 rfl (by kernel_rfl)
    focus (intro wI hI Kv hKv; go_simp; exact hKv)
    intro Kd hKd
    go_simp
    refine hKd _ ?_
    clear hKd Kd
    apply anyI_step 31 rfl (by kernel_rfl)
    focus (intro wI hI Kv hKv; go_simp; exact hKv)
    intro Kd hKd
    go_simp
    refine hKd _ ?_
    clear hKd Kd
    apply anyI_step 32 rfl (by kernel_rfl)
    focus (intro wI hI Kv hKv; go_simp; exact hKv)
    intro Kd hKd
    go_simp
    refine hKd _ ?_
    clear hKd Kd
    apply anyI_step 33 rfl (by kernel_rfl)
    focus (intro wI hI Kv hKv; go_simp; exact hKv)
    intro Kd hKd
    go_simp
    refine hKd _ ?_
    clear hKd Kd
    apply anyI_step 34 rfl (by kernel_rfl)
    focus (intro wI hI Kv hKv; go_simp; exact hKv)
    intro Kd hKd
    go_simp
    refine hKd _ ?_
    clear hKd Kd
    apply anyI_step 35 rfl (by kernel_rfl)
    focus (intro wI hI Kv hKv; go_simp; exact hKv)
    intro Kd hKd
    go_simp
    refine hKd _ ?_
    clear hKd Kd
    refine anyI_end (by kernel_rfl) (HB10.out) (hQd _ _ ?_)
    clear hQd Qd
    have HIE := Lib.hid (below_in HI6.out HB10.out)
    clear x0 x1 x2
    have x0 := cell_chain HIE.out HL0.out HCG.out.1
    have x1 := cell_chain HIE.out HL0.out HCG.out.2
    have x2 := cell_chain HIE.out HL1.out HCM.out
    go_wp2_with fail
    refine (tells_any n A c rs B d m D f word a b _ (HAS.out.below HB10.out (Nat.le_refl _)) (HMS.out.below HB10.out (Nat.le_refl _)) (HDS.out.below HB10.out (Nat.le_refl _)) HF.out hal hbl).mono ?_
    rintro e w11 ⟨rfl, hB11⟩
    have HI11 := Lib.hid (below_in HIE.out hB11)
    have HB11 := Lib.hid (below_in HB10.out hB11)
    clear hB11
    obtain ⟨tb, HTB⟩ : ∃ z, Hid (tellsB n rs m word a b = z) := ⟨_, rfl⟩
    rw [HTB.out]
    clear x0 x1 x2
    cases tb with
    | false =>
      go_wp2_with (go_at_call 20; go_must (refine (known_any _).mono ?_); rintro e wz ⟨rfl, hBz⟩)
      go_ret
      exact ⟨rfl, below_in HB0.out (below_in HI11.out hBz)⟩
    | true =>
    have hlaw := HOK.out.law word HTB.out
    have HLS := Lib.hid hlaw.2
    clear hlaw
    go_wp2_with fail
    refine (less_any D f A6 c6 word _ _ (HDS.out.below HB11.out (Nat.le_refl _)) (HC6.out.below HB11.out (Nat.le_refl _))).mono ?_
    rintro e w12 ⟨rfl, hB12⟩
    rw [HLS.out]
    have HI12 := Lib.hid (below_in HI11.out hB12)
    go_wp2_with (go_at_call 20; go_must (refine (known_any _).mono ?_); rintro e wz ⟨rfl, hBz⟩)
    go_ret
    exact ⟨rfl, below_in HB0.out (below_in HI12.out hBz)⟩
  | false =>
    have hR0 := HOK.out.none rfl
    subst hR0
    go_wp2
    refine draw (fun w' => Below w6.heap.size w6 w') 36 rfl (by kernel_rfl) (fun Qd hQd => ?_)
    apply anyI_step 0 rfl (by kernel_rfl)
    focus (intro wI hI Kv hKv; have t0 := cell_chain hI lx0 x0; have t1 := cell_chain hI lx0 x1; have t2 := cell_chain hI lx1 x2; go_simp; exact hKv)
    intro Kd hKd
    go_simp
    refine hKd _ ?_
    clear hKd Kd
    apply anyI_step 1 rfl (by kernel_rfl)
    focus (intro wI hI Kv hKv; have t0 := cell_chain hI lx0 x0; have t1 := cell_chain hI lx0 x1; have t2 := cell_chain hI lx1 x2; go_simp; exact hKv)
    intro Kd hKd
    go_simp
    refine hKd _ ?_
    clear hKd Kd
    apply anyI_step 2 rfl (by kernel_rfl)
    focus (intro wI hI Kv hKv; have t0 := cell_chain hI lx0 x0; have t1 := cell_chain hI lx0 x1; have t2 := cell_chain hI lx1 x2; go_simp; exact hKv)
    intro Kd hKd
    go_simp
    refine hKd _ ?_
    clear hKd Kd
    apply anyI_step 3 rfl (by kernel_rfl)
    focus (intro wI hI Kv hKv; have t0 := cell_chain hI lx0 x0; have t1 := cell_chain hI lx0 x1; have t2 := cell_chain hI lx1 x2; go_simp; exact hKv)
    intro Kd hKd
    go_simp
    refine hKd _ ?_
    clear hKd Kd
    apply anyI_step 4 rfl (by kernel_rfl)
    focus (intro wI hI Kv hKv; have t0 := cell_chain hI lx0 x0; have t1 := cell_chain hI lx0 x1; have t2 := cell_chain hI lx1 x2; go_simp; exact hKv)
    intro Kd hKd
    go_simp
    refine hKd _ ?_
    clear hKd Kd
    apply anyI_step 5 rfl (by kernel_rfl)
    focus (intro wI hI Kv hKv; have t0 := cell_chain hI lx0 x0; have t1 := cell_chain hI lx0 x1; have t2 := cell_chain hI lx1 x2; go_simp; exact hKv)
    intro Kd hKd
    go_simp
    refine hKd _ ?_
    clear hKd Kd
    apply anyI_step 6 rfl (by kernel_rfl)
    focus (intro wI hI Kv hKv; have t0 := cell_chain hI lx0 x0; have t1 := cell_chain hI lx0 x1; have t2 := cell_chain hI lx1 x2; go_simp; exact hKv)
    intro Kd hKd
    go_simp
    refine hKd _ ?_
    clear hKd Kd
    apply anyI_step 8 rfl (by kernel_rfl)
    focus (intro wI hI Kv hKv; have t0 := cell_chain hI lx0 x0; have t1 := cell_chain hI lx0 x1; have t2 := cell_chain hI lx1 x2; go_simp; exact hKv)
    intro Kd hKd
    go_simp
    refine hKd _ ?_
    clear hKd Kd
    apply anyI_step 9 rfl (by kernel_rfl)
    focus (intro wI hI Kv hKv; have t0 := cell_chain hI lx0 x0; have t1 := cell_chain hI lx0 x1; have t2 := cell_chain hI lx1 x2; go_simp; exact hKv)
    intro Kd hKd
    go_simp
    refine hKd _ ?_
    clear hKd Kd
    refine anyI_one' 7 rfl (by kernel_rfl) ((Below.refl _ _).drew) (fun Kd hKd => ?_)
    go_wp2_with (go_at_call 42; go_must (refine (from_any n rs B d m a _ (by exact HMS.out.drew) HF.out hal).mono ?_); rintro e w7 ⟨A7, c7, rfl, hM7, hB7⟩)
    have HB7 : Hid (Below w6.heap.size w6 w7) := (Below.refl _ w6).drew.trans hB7
    have HM7 := Lib.hid hM7
    clear hB7 hM7
    refine anyI_one' 10 rfl (by kernel_rfl) (HB7.out) (fun Kd hKd => ?_)
    go_wp2_with (go_at_call 42; go_must (refine (from_any n rs B d m b _ (HMS.out.below HB7.out (Nat.le_refl _)) HF.out hbl).mono ?_); rintro e w8 ⟨A8, c8, rfl, hM8, hB8⟩)
    have HB8 : Hid (Below w6.heap.size w6 w8) := below_in HB7.out hB8
    have HM78 := Lib.hid (HM7.out.below hB8 (Nat.le_refl _))
    have HM8 := Lib.hid hM8
    clear hB8 hM8
    refine anyI_one' 11 rfl (by kernel_rfl) (HB8.out) (fun Kd hKd => ?_)
    go_wp2_with (go_at_call 41; go_must (refine (alike_any n A c rs A7 c7 (fromM m a) A8 c8 (fromM m b) _ HM78.out HM8.out (fromM_formed HF.out hal) (fromM_formed HF.out hbl)).mono ?_); rintro e w9 ⟨z, rfl, hz, hB9⟩)
    have hzf : z = true := hz.2 ((from_sim HF.out hal hbl).2 (Classical.byContradiction fun hh => by have := HOK.out.sim.2 hh; cases this))
    subst hzf
    have HB10 : Hid (Below w6.heap.size w6 w9) := below_in HB8.out hB9
    clear hz hB9
    apply anyI_step 12 rfl (by kernel_rfl)
    focus (intro wI hI Kv hKv; go_simp; exact hKv)
    intro Kd hKd
    go_simp
    refine hKd _ ?_
    clear hKd Kd
    apply anyI_step 13 rfl (by kernel_rfl)
    focus (intro wI hI Kv hKv; go_simp; exact hKv)
    intro Kd hKd
    go_simp
    refine hKd _ ?_
    clear hKd Kd
    apply anyI_step 14 rfl (by kernel_rfl)
    focus (intro wI hI Kv hKv; go_simp; exact hKv)
    intro Kd hKd
    go_simp
    refine hKd _ ?_
    clear hKd Kd
    apply anyI_step 15 rfl (by kernel_rfl)
    focus (intro wI hI Kv hKv; go_simp; exact hKv)
    intro Kd hKd
    go_simp
    refine hKd _ ?_
    clear hKd Kd
    apply anyI_step 16 rfl (by kernel_rfl)
    focus (intro wI hI Kv hKv; go_simp; exact hKv)
    intro Kd hKd
    go_simp
    refine hKd _ ?_
    clear hKd Kd
    apply anyI_step 17 rfl (by kernel_rfl)
    focus (intro wI hI Kv hKv; go_simp; exact hKv)
    intro Kd hKd
    go_simp
    refine hKd _ ?_
    clear hKd Kd
    apply anyI_step 18 rfl (by kernel_rfl)
    focus (intro wI hI Kv hKv; go_simp; exact hKv)
    intro Kd hKd
    go_simp
    refine hKd _ ?_
    clear hKd Kd
    apply anyI_step 19 rfl (by kernel_rfl)
    focus (intro wI hI Kv hKv; go_simp; exact hKv)
    intro Kd hKd
    go_simp
    refine hKd _ ?_
    clear hKd Kd
    apply anyI_step 20 rfl (by kernel_rfl)
    focus (intro wI hI Kv hKv; go_simp; exact hKv)
    intro Kd hKd
    go_simp
    refine hKd _ ?_
    clear hKd Kd
    apply anyI_step 21 rfl (by kernel_rfl)
    focus (intro wI hI Kv hKv; go_simp; exact hKv)
    intro Kd hKd
    go_simp
    refine hKd _ ?_
    clear hKd Kd
    apply anyI_step 22 rfl (by kernel_rfl)
    focus (intro wI hI Kv hKv; go_simp; exact hKv)
    intro Kd hKd
    go_simp
    refine hKd _ ?_
    clear hKd Kd
    apply anyI_step 23 rfl (by kernel_rfl)
    focus (intro wI hI Kv hKv; go_simp; exact hKv)
    intro Kd hKd
    go_simp
    refine hKd _ ?_
    clear hKd Kd
    apply anyI_step 24 rfl (by kernel_rfl)
    focus (intro wI hI Kv hKv; go_simp; exact hKv)
    intro Kd hKd
    go_simp
    refine hKd _ ?_
    clear hKd Kd
    apply anyI_step 25 rfl (by kernel_rfl)
    focus (intro wI hI Kv hKv; go_simp; exact hKv)
    intro Kd hKd
    go_simp
    refine hKd _ ?_
    clear hKd Kd
    apply anyI_step 26 rfl (by kernel_rfl)
    focus (intro wI hI Kv hKv; go_simp; exact hKv)
    intro Kd hKd
    go_simp
    refine hKd _ ?_
    clear hKd Kd
    apply anyI_step 27 rfl (by kernel_rfl)
    focus (intro wI hI Kv hKv; go_simp; exact hKv)
    intro Kd hKd
    go_simp
    refine hKd _ ?_
    clear hKd Kd
    apply anyI_step 28 rfl (by kernel_rfl)
    focus (intro wI hI Kv hKv; go_simp; exact hKv)
    intro Kd hKd
    go_simp
    refine hKd _ ?_
    clear hKd Kd
    apply anyI_step 29 rfl (by kernel_rfl)
    focus (intro wI hI Kv hKv; go_simp; exact hKv)
    intro Kd hKd
    go_simp
    refine hKd _ ?_
    clear hKd Kd
    apply anyI_step 30 rfl (by kernel_rfl)
    focus (intro wI hI Kv hKv; go_simp; exact hKv)
    intro Kd hKd
    go_simp
    refine hKd _ ?_
    clear hKd Kd
    apply anyI_step 31 rfl (by kernel_rfl)
    focus (intro wI hI Kv hKv; go_simp; exact hKv)
    intro Kd hKd
    go_simp
    refine hKd _ ?_
    clear hKd Kd
    apply anyI_step 32 rfl (by kernel_rfl)
    focus (intro wI hI Kv hKv; go_simp; exact hKv)
    intro Kd hKd
    go_simp
    refine hKd _ ?_
    clear hKd Kd
    apply anyI_step 33 rfl (by kernel_rfl)
    focus (intro wI hI Kv hKv; go_simp; exact hKv)
    intro Kd hKd
    go_simp
    refine hKd _ ?_
    clear hKd Kd
    apply anyI_step 34 rfl (by kernel_rfl)
    focus (intro wI hI Kv hKv; go_simp; exact hKv)
    intro Kd hKd
    go_simp
    refine hKd _ ?_
    clear hKd Kd
    apply anyI_step 35 rfl (by kernel_rfl)
    focus (intro wI hI Kv hKv; go_simp; exact hKv)
    intro Kd hKd
    go_simp
    refine hKd _ ?_
    clear hKd Kd
    refine anyI_end (by kernel_rfl) (HB10.out) (hQd _ _ ?_)
    clear hQd Qd
    have HIE := Lib.hid (below_in HI6.out HB10.out)
    clear x0 x1 x2
    have x0 := cell_chain HIE.out HL0.out HCG.out.1
    have x1 := cell_chain HIE.out HL0.out HCG.out.2
    have x2 := cell_chain HIE.out HL1.out HCM.out
    go_wp2_with fail
    refine (tells_any n A c rs B d m D f word a b _ (HAS.out.below HB10.out (Nat.le_refl _)) (HMS.out.below HB10.out (Nat.le_refl _)) (HDS.out.below HB10.out (Nat.le_refl _)) HF.out hal hbl).mono ?_
    rintro e w11 ⟨rfl, hB11⟩
    have HI11 := Lib.hid (below_in HIE.out hB11)
    have HB11 := Lib.hid (below_in HB10.out hB11)
    clear hB11
    obtain ⟨tb, HTB⟩ : ∃ z, Hid (tellsB n rs m word a b = z) := ⟨_, rfl⟩
    rw [HTB.out]
    clear x0 x1 x2
    cases tb with
    | false =>
      go_wp2_with (go_at_call 20; go_must (refine (known_any _).mono ?_); rintro e wz ⟨rfl, hBz⟩)
      go_ret
      exact ⟨rfl, below_in HB0.out (below_in HI11.out hBz)⟩
    | true =>
    exact absurd (HOK.out.law word HTB.out).1 (by decide)
end Go.Proofs.Ytlnonadkdonhmaa

/- AutoShort returns true for every group, machine, two states and word, and leaves its arguments as they were. No condition. -/
namespace Go.Proofs.Ytlnonadkdonhmaa
open Go.ChangeShapes Go.WideShapes Go.ChangeAt Go.RowKit

theorem own_short : ownKnob Try.prog.godebug = none := by kernel_rfl
theorem laid_short : laidOutB Try.prog = true := by kernel_rfl

set_option maxRecDepth 100000 in
theorem lifted_short (os : Os) (started : os.Started) (H : Type) (enc : TypeId × Value → H) :
    ReturnsInHanded {} Try.checked os 8 .any (Rows.autoShortSpec.pre6 enc Try.prog Try.f8 Rows.autoShortRow.domain false) (Rows.autoShortSpec.post enc Try.prog Try.f8 false true false false) := by
  refine returnsInHanded_of_change_sized (C := Try.checked) own_short started (by kernel_rfl) Try.func8
    (ChangeSpec.witness6 (enc := enc) (C := Try.checked) false ⟨#[], #[.agg #[.int .i64 0, .slice none 0 0], .agg #[.slice none 0 0], .int .i64 0, .int .i64 0, .slice none 0 0], []⟩ 8 (by kernel_rfl) (by kernel_rfl) (by kernel_rfl) (by kernel_rfl)) ?_
  intro W base args ds gs before hval0 hW hcnd hsz0 _
  have hval : ∀ (j : Nat) t v, Try.f8.params[j]? = some t → args[j]? = some v → Value.okWide Try.prog W .any base t v := hval0
  have hsz : (DataW.weightsEach Try.prog (Try.f8.params.toList ++ Rows.autoShortSpec.plain.varTypes Try.prog) (ds ++ gs)).all (· ≤ reachBytes) = true := hsz0
  have hW' := hW
  obtain ⟨p, q, hA0, hV, rfl, hfz, hnd⟩ := hW
  have hA : DataW.TrodAll enc Try.prog W 0 (fun _ => true) true Try.f8.params.toList args.toList ds p := hA0
  rw [Try.params8] at hA hval hsz
  obtain ⟨v0, vs0, d0, ds0, p0, q0, hargs, rfl, rfl, h0, r0⟩ := trodAll_cons hA
  obtain ⟨v1, vs1, d1, ds1, p1, q1, rfl, rfl, rfl, h1, r1⟩ := trodAll_cons r0
  obtain ⟨v2, vs2, d2, ds2, p2, q2, rfl, rfl, rfl, h2, r2⟩ := trodAll_cons r1
  obtain ⟨v3, vs3, d3, ds3, p3, q3, rfl, rfl, rfl, h3, r3⟩ := trodAll_cons r2
  obtain ⟨v4, vs4, d4, ds4, p4, q4, rfl, rfl, rfl, h4, r4⟩ := trodAll_cons r3
  obtain ⟨rfl, rfl, rfl⟩ := trodAll_nil r4
  obtain rfl : args = #[v0, v1, v2, v3, v4] := by cases args; simp_all
  obtain ⟨rfl, rfl⟩ := trodVars_none hV
  have s0 : sz Try.prog 24 d0 := sz_arg hsz (j := 0) rfl rfl
  obtain ⟨n0, A0, rs0, c0, rfl, hC0, hw0⟩ := arg_group (hval 0 24 v0 rfl rfl) h0 s0
  have k0 := h0
  have lt0 : ∀ x ∈ p0, x.block < W.heap.size := by obtain ⟨m, hm⟩ := k0; exact DataW.trod_lt m _ _ _ hm
  have s1 : sz Try.prog 27 d1 := sz_arg hsz (j := 1) rfl rfl
  obtain ⟨B1, m1, e1, rfl, hC1⟩ := arg_mach (hval 1 27 v1 rfl rfl) h1 s1
  have k1 := h1
  have lt1 : ∀ x ∈ p1, x.block < W.heap.size := by obtain ⟨m, hm⟩ := k1; exact DataW.trod_lt m _ _ _ hm
  obtain ⟨i2, rfl, rfl, rfl, hw2⟩ := open_int Try.underlying3 (hval 2 3 v2 rfl rfl) h2
  obtain ⟨i3, rfl, rfl, rfl, hw3⟩ := open_int Try.underlying3 (hval 3 3 v3 rfl rfl) h3
  have s4 : sz Try.prog 38 d4 := sz_arg hsz (j := 4) rfl rfl
  obtain ⟨D4, xs4, f4, rfl, hC4⟩ := arg_word (hval 4 38 v4 rfl rfl) h4 s4
  have k4 := h4
  have lt4 : ∀ x ∈ p4, x.block < W.heap.size := by obtain ⟨m, hm⟩ := k4; exact DataW.trod_lt m _ _ _ hm
  clear hA0 hval0
  refine (walk_short n0 A0 c0 rs0 B1 e1 m1 i2 i3 D4 f4 xs4 W hC0 hC1 hC4).mono fun e W' ⟨he, bel⟩ => ?_
  subst he
  exact ⟨_, rfl, _, _, _, [], _, [], hW', trodAll_mk1 (shut_bool Try.underlying4 _), (trodAll_cons_mk (Below.trod laid_short (by kernel_rfl) (of_decide_eq_true (by kernel_rfl)) k0 bel lt0) (trodAll_cons_mk (Below.trod laid_short (by kernel_rfl) (of_decide_eq_true (by kernel_rfl)) k1 bel lt1) (trodAll_cons_mk (shut_int Try.underlying3 hw2) (trodAll_cons_mk (shut_int Try.underlying3 hw3) (trodAll_cons_mk (Below.trod laid_short (by kernel_rfl) (of_decide_eq_true (by kernel_rfl)) k4 bel lt4) trodAll_mk0))))), rfl, bel.frame _, fun h => by cases h⟩

theorem short_holds : Rows.AutoShortSaid :=
  OpenClaim.holds_of_wide 8 Try.f8 rfl rfl rfl rfl rfl rfl rfl ⟨rfl, rfl, rfl, rfl, rfl⟩ rfl rfl rfl rfl rfl (by kernel_rfl) Try.func8 (by kernel_rfl)
    (of_decide_eq_true (by kernel_rfl)) (by unfold Func.isWrapper; first | (rw [if_pos (by decide +kernel)]; kernel_rfl) | (rw [if_neg (by decide +kernel)]; exact ⟨rfl, rfl⟩))
    (fun os started H enc _ => lifted_short os started H enc)
#print axioms short_holds
end Go.Proofs.Ytlnonadkdonhmaa
