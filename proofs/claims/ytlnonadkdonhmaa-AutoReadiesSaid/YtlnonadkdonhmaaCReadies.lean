/- AutoReadies returns true for every group and set, and leaves its arguments as they were. No condition. -/
import Derived.Test.YtlnonadkdonhmaaL13
import Derived.Test.YtlnonadkdonhmaaL12
import Derived.Test.YtlnonadkdonhmaaL10
import Derived.Test.YtlnonadkdonhmaaRows

/- The walk of AutoReadies. -/
namespace Go.Proofs.Ytlnonadkdonhmaa
open Go.RowKit Go.Maps

set_option maxRecDepth 100000 in
set_option maxHeartbeats 4000000 in
theorem readies_big (n : Int) (A : Option Addr) (c : Nat) (rs : List Int) (s : Int) (w : World) (hA : Cells w A (ints rs)) (h : decide (rs.length ≤ 30) = false) :
    Calls Try.prog 11 #[.agg #[.int .i64 n, .slice A rs.length c], .int .i64 s] w fun e w' => e = .returned (.bool true) ∧ Below w.heap.size w w' := by
  have HB0 : Hid (Below w.heap.size w (w.alloc (.cells #[.int .i64 n, .slice A rs.length c] 24))) := (Below.refl _ w).alloc (Nat.le_refl _) _
  have HA0 := Lib.hid (hA.below HB0.out (Nat.le_refl _))
  have hgm := Blk.new w (.cells #[.int .i64 n, .slice A rs.length c] 24)
  have HS := Lib.hid h
  clear h
  go_enter Try.func11, Try.ntmps11
  go_wp2_with fail
  obtain ⟨W, hW⟩ : ∃ W, w.alloc (.cells #[.int .i64 n, .slice A rs.length c] 24) = W := ⟨_, rfl⟩
  rw [hW] at HB0 HA0 hgm
  rw [hW]
  have c0 := hgm.cell 0 (v := .int .i64 n) rfl
  have c1 := hgm.cell 1 (v := .slice A rs.length c) rfl
  have hl0 := hgm.lt
  clear hW hgm
  refine (small_any n A rs.length c W).mono ?_
  rintro e w1 ⟨rfl, hB1⟩
  rw [HS.out]
  go_wp2_with (go_at_call 20; go_must (refine (known_any _).mono ?_); rintro e w2 ⟨rfl, hB2⟩)
  go_ret
  exact ⟨rfl, below_in HB0.out (below_in hB1 hB2)⟩


set_option maxRecDepth 100000 in
set_option maxHeartbeats 8000000 in
theorem readies_no (n : Int) (A : Option Addr) (c : Nat) (rs : List Int) (s : Int) (w : World) (hA : Cells w A (ints rs)) (h : decide (rs.length ≤ 30) = true) (hg : grpOk n rs = false) :
    Calls Try.prog 11 #[.agg #[.int .i64 n, .slice A rs.length c], .int .i64 s] w fun e w' => e = .returned (.bool true) ∧ Below w.heap.size w w' := by
  have HE : Hid (errI false = 2) := rfl
  have HX : Hid (errI (false && setI n s) = 2) := rfl
  have HRY : Hid (rdyR n rs s = []) := by show _ = _; simp [rdyR, hg]
  have HRE : Hid (restsR n rs = []) := by show _ = _; simp [restsR, hg]
  have HG := Lib.hid hg
  clear hg
  have HSM := Lib.hid h
  clear h
  have HB0 : Hid (Below w.heap.size w (w.alloc (.cells #[.int .i64 n, .slice A rs.length c] 24))) := (Below.refl _ w).alloc (Nat.le_refl _) _
  have HA0 := Lib.hid (hA.below HB0.out (Nat.le_refl _))
  have hgm := Blk.new w (.cells #[.int .i64 n, .slice A rs.length c] 24)
  go_enter Try.func11, Try.ntmps11
  go_wp2_with fail
  obtain ⟨W, hW⟩ : ∃ W, w.alloc (.cells #[.int .i64 n, .slice A rs.length c] 24) = W := ⟨_, rfl⟩
  rw [hW] at HB0 HA0 hgm
  rw [hW]
  have c0 := hgm.cell 0 (v := .int .i64 n) rfl
  have c1 := hgm.cell 1 (v := .slice A rs.length c) rfl
  have hl0 := hgm.lt
  clear hW hgm
  refine (small_any n A rs.length c W).mono ?_
  rintro e w1 ⟨rfl, hB1⟩
  rw [HSM.out]
  have d0 := cell_chain hB1 hl0 c0
  have d1 := cell_chain hB1 hl0 c1
  go_wp2_with fail
  refine (check_any n A c rs w1 (HA0.out.below hB1 (Nat.le_refl _))).mono ?_
  rintro e w2 ⟨rfl, hB2⟩
  rw [HG.out, HE.out]
  have hI2 := below_in hB1 hB2
  have e0 := cell_chain hI2 hl0 c0
  have e1 := cell_chain hI2 hl0 c1
  clear d0 d1
  go_wp2_with fail
  refine (autoReady_any n s A c rs w2 (HA0.out.below hI2 (Nat.le_refl _))).mono ?_
  rintro e w3 ⟨A3, c3, rfl, hC3, hB3⟩
  rw [HRY.out] at hC3 ⊢
  rw [HG.out, HX.out]
  have HC3 := Lib.hid hC3
  have hI3 := below_in hI2 hB3
  have f0 := cell_chain hI3 hl0 c0
  have f1 := cell_chain hI3 hl0 c1
  clear e0 e1 hC3
  go_wp2_with fail
  refine (autoRests_any n A c rs w3 (HA0.out.below hI3 (Nat.le_refl _))).mono ?_
  rintro e w4 ⟨A4, c4, rfl, hC4, hB4⟩
  rw [HRE.out] at hC4 ⊢
  rw [HG.out, HE.out]
  have HC4 := Lib.hid hC4
  have hI4 := below_in hI3 hB4
  have g0 := cell_chain hI4 hl0 c0
  have g1 := cell_chain hI4 hl0 c1
  clear f0 f1 hC4
  go_wp2_with fail
  refine (group_any n A c rs w4 (HA0.out.below hI4 (Nat.le_refl _))).mono ?_
  rintro e w5 ⟨rfl, hB5⟩
  rw [HG.out]
  have hI5 := below_in hI4 hB5
  have h0 := cell_chain hI5 hl0 c0
  have h1 := cell_chain hI5 hl0 c1
  clear g0 g1
  go_wp2_with (go_at_call 20; go_must (refine (known_any _).mono ?_); rintro e w9 ⟨rfl, hB9⟩)
  go_ret
  exact ⟨rfl, below_in HB0.out (below_in hI5 hB9)⟩


set_option maxRecDepth 100000 in
set_option maxHeartbeats 8000000 in
theorem readies_unset (n : Int) (A : Option Addr) (c : Nat) (rs : List Int) (s : Int) (w : World) (hA : Cells w A (ints rs)) (h : decide (rs.length ≤ 30) = true) (hg : grpOk n rs = true) (hs : setI n s = false) :
    Calls Try.prog 11 #[.agg #[.int .i64 n, .slice A rs.length c], .int .i64 s] w fun e w' => e = .returned (.bool true) ∧ Below w.heap.size w w' := by
  have HE : Hid (errI true = 0) := rfl
  have HX : Hid (errI (true && setI n s) = 2) := by show _ = _; rw [hs]; rfl
  have HRY : Hid (rdyR n rs s = []) := by show _ = _; simp [rdyR, hs]
  obtain ⟨L, hL⟩ : ∃ L, restsA n rs = L := ⟨_, rfl⟩
  have HRE : Hid (restsR n rs = L) := by show _ = _; simp [restsR, hg, hL]
  have HRA := Lib.hid hL
  obtain ⟨hn1, hn6, -, -⟩ := grpOk_true hg
  have hn0 : 0 ≤ n := by omega
  have HG := Lib.hid hg
  have HS := Lib.hid hs
  clear hg hs hL
  have HSM := Lib.hid h
  clear h
  have HB0 : Hid (Below w.heap.size w (w.alloc (.cells #[.int .i64 n, .slice A rs.length c] 24))) := (Below.refl _ w).alloc (Nat.le_refl _) _
  have HA0 := Lib.hid (hA.below HB0.out (Nat.le_refl _))
  have hgm := Blk.new w (.cells #[.int .i64 n, .slice A rs.length c] 24)
  go_enter Try.func11, Try.ntmps11
  go_wp2_with fail
  obtain ⟨W, hW⟩ : ∃ W, w.alloc (.cells #[.int .i64 n, .slice A rs.length c] 24) = W := ⟨_, rfl⟩
  rw [hW] at HB0 HA0 hgm
  rw [hW]
  have c0 := hgm.cell 0 (v := .int .i64 n) rfl
  have c1 := hgm.cell 1 (v := .slice A rs.length c) rfl
  have hl0 := hgm.lt
  clear hW hgm
  refine (small_any n A rs.length c W).mono ?_
  rintro e w1 ⟨rfl, hB1⟩
  rw [HSM.out]
  have d0 := cell_chain hB1 hl0 c0
  have d1 := cell_chain hB1 hl0 c1
  go_wp2_with fail
  refine (check_any n A c rs w1 (HA0.out.below hB1 (Nat.le_refl _))).mono ?_
  rintro e w2 ⟨rfl, hB2⟩
  rw [HG.out, HE.out]
  have hI2 := below_in hB1 hB2
  have e0 := cell_chain hI2 hl0 c0
  have e1 := cell_chain hI2 hl0 c1
  clear d0 d1
  go_wp2_with fail
  refine (autoReady_any n s A c rs w2 (HA0.out.below hI2 (Nat.le_refl _))).mono ?_
  rintro e w3 ⟨A3, c3, rfl, hC3, hB3⟩
  rw [HRY.out] at hC3 ⊢
  rw [HG.out, HX.out]
  have HC3 := Lib.hid hC3
  have hI3 := below_in hI2 hB3
  have f0 := cell_chain hI3 hl0 c0
  have f1 := cell_chain hI3 hl0 c1
  clear e0 e1 hC3
  go_wp2_with fail
  refine (autoRests_any n A c rs w3 (HA0.out.below hI3 (Nat.le_refl _))).mono ?_
  rintro e w4 ⟨A4, c4, rfl, hC4, hB4⟩
  rw [HRE.out] at hC4 ⊢
  rw [HG.out, HE.out]
  have HC4 := Lib.hid hC4
  have hI4 := below_in hI3 hB4
  have g0 := cell_chain hI4 hl0 c0
  have g1 := cell_chain hI4 hl0 c1
  clear f0 f1 hC4
  go_wp2_with fail
  refine (group_any n A c rs w4 (HA0.out.below hI4 (Nat.le_refl _))).mono ?_
  rintro e w5 ⟨rfl, hB5⟩
  rw [HG.out]
  have hI5 := below_in hI4 hB5
  have h0 := cell_chain hI5 hl0 c0
  have h1 := cell_chain hI5 hl0 c1
  clear g0 g1
  have hb45 : Below w4.heap.size w4 w5 := hB5
  have HC45 := Lib.hid (HC4.out.below hb45 (Nat.le_refl _))
  have HC35 := Lib.hid (HC3.out.below (below_in hB4 hB5) (Nat.le_refl _))
  clear hb45
  go_wp2_with fail
  refine (RefRests_any n A c rs w5 (HA0.out.below hI5 (Nat.le_refl _)) hn0 hn6).mono ?_
  rintro e w6 ⟨A6, c6, rfl, hC6, hB6⟩
  rw [HRA.out] at hC6 ⊢
  have HC6 := Lib.hid hC6
  have hI6 := below_in hI5 hB6
  have i0 := cell_chain hI6 hl0 c0
  have i1 := cell_chain hI6 hl0 c1
  clear h0 h1 hC6
  go_wp2_with fail
  refine (Ints_refl L A4 A6 c4 c6 w6 (HC45.out.below hB6 (Nat.le_refl _)) HC6.out).mono ?_
  rintro e w7 ⟨rfl, hB7⟩
  have hI7 := below_in hI6 hB7
  have j0 := cell_chain hI7 hl0 c0
  have j1 := cell_chain hI7 hl0 c1
  clear i0 i1
  go_wp2_with fail
  refine (set_any n s A rs.length c w7 hn0 (by omega)).mono ?_
  rintro e w8 ⟨rfl, hB8⟩
  rw [HS.out]
  have hI8 := below_in hI7 hB8
  have k0 := cell_chain hI8 hl0 c0
  have k1 := cell_chain hI8 hl0 c1
  clear j0 j1
  go_wp2_with (go_at_call 20; go_must (refine (known_any _).mono ?_); rintro e w9 ⟨rfl, hB9⟩)
  go_ret
  exact ⟨rfl, below_in HB0.out (below_in hI8 hB9)⟩

set_option maxRecDepth 100000 in
set_option maxHeartbeats 8000000 in
theorem readies_set (n : Int) (A : Option Addr) (c : Nat) (rs : List Int) (s : Int) (w : World) (hA : Cells w A (ints rs)) (h : decide (rs.length ≤ 30) = true) (hg : grpOk n rs = true) (hs : setI n s = true) :
    Calls Try.prog 11 #[.agg #[.int .i64 n, .slice A rs.length c], .int .i64 s] w fun e w' => e = .returned (.bool true) ∧ Below w.heap.size w w' := by
  have HE : Hid (errI true = 0) := rfl
  have HX : Hid (errI (true && setI n s) = 0) := by show _ = _; rw [hs]; rfl
  obtain ⟨R, hR⟩ : ∃ R, readyL rs s = R := ⟨_, rfl⟩
  have HRY : Hid (rdyR n rs s = R) := by show _ = _; simp [rdyR, hg, hs, hR]
  have HRL := Lib.hid hR
  obtain ⟨L, hL⟩ : ∃ L, restsA n rs = L := ⟨_, rfl⟩
  have HRE : Hid (restsR n rs = L) := by show _ = _; simp [restsR, hg, hL]
  have HRA := Lib.hid hL
  obtain ⟨hn1, hn6, -, -⟩ := grpOk_true hg
  have hn0 : 0 ≤ n := by omega
  have HG := Lib.hid hg
  have HS := Lib.hid hs
  clear hg hs hL hR
  have HSM := Lib.hid h
  clear h
  have HB0 : Hid (Below w.heap.size w (w.alloc (.cells #[.int .i64 n, .slice A rs.length c] 24))) := (Below.refl _ w).alloc (Nat.le_refl _) _
  have HA0 := Lib.hid (hA.below HB0.out (Nat.le_refl _))
  have hgm := Blk.new w (.cells #[.int .i64 n, .slice A rs.length c] 24)
  go_enter Try.func11, Try.ntmps11
  go_wp2_with fail
  obtain ⟨W, hW⟩ : ∃ W, w.alloc (.cells #[.int .i64 n, .slice A rs.length c] 24) = W := ⟨_, rfl⟩
  rw [hW] at HB0 HA0 hgm
  rw [hW]
  have c0 := hgm.cell 0 (v := .int .i64 n) rfl
  have c1 := hgm.cell 1 (v := .slice A rs.length c) rfl
  have hl0 := hgm.lt
  clear hW hgm
  refine (small_any n A rs.length c W).mono ?_
  rintro e w1 ⟨rfl, hB1⟩
  rw [HSM.out]
  have d0 := cell_chain hB1 hl0 c0
  have d1 := cell_chain hB1 hl0 c1
  go_wp2_with fail
  refine (check_any n A c rs w1 (HA0.out.below hB1 (Nat.le_refl _))).mono ?_
  rintro e w2 ⟨rfl, hB2⟩
  rw [HG.out, HE.out]
  have hI2 := below_in hB1 hB2
  have e0 := cell_chain hI2 hl0 c0
  have e1 := cell_chain hI2 hl0 c1
  clear d0 d1
  go_wp2_with fail
  refine (autoReady_any n s A c rs w2 (HA0.out.below hI2 (Nat.le_refl _))).mono ?_
  rintro e w3 ⟨A3, c3, rfl, hC3, hB3⟩
  rw [HRY.out] at hC3 ⊢
  rw [HG.out, HX.out]
  have HC3 := Lib.hid hC3
  have hI3 := below_in hI2 hB3
  have f0 := cell_chain hI3 hl0 c0
  have f1 := cell_chain hI3 hl0 c1
  clear e0 e1 hC3
  go_wp2_with fail
  refine (autoRests_any n A c rs w3 (HA0.out.below hI3 (Nat.le_refl _))).mono ?_
  rintro e w4 ⟨A4, c4, rfl, hC4, hB4⟩
  rw [HRE.out] at hC4 ⊢
  rw [HG.out, HE.out]
  have HC4 := Lib.hid hC4
  have hI4 := below_in hI3 hB4
  have g0 := cell_chain hI4 hl0 c0
  have g1 := cell_chain hI4 hl0 c1
  clear f0 f1 hC4
  go_wp2_with fail
  refine (group_any n A c rs w4 (HA0.out.below hI4 (Nat.le_refl _))).mono ?_
  rintro e w5 ⟨rfl, hB5⟩
  rw [HG.out]
  have hI5 := below_in hI4 hB5
  have h0 := cell_chain hI5 hl0 c0
  have h1 := cell_chain hI5 hl0 c1
  clear g0 g1
  have hb45 : Below w4.heap.size w4 w5 := hB5
  have HC45 := Lib.hid (HC4.out.below hb45 (Nat.le_refl _))
  have HC35 := Lib.hid (HC3.out.below (below_in hB4 hB5) (Nat.le_refl _))
  clear hb45
  go_wp2_with fail
  refine (RefRests_any n A c rs w5 (HA0.out.below hI5 (Nat.le_refl _)) hn0 hn6).mono ?_
  rintro e w6 ⟨A6, c6, rfl, hC6, hB6⟩
  rw [HRA.out] at hC6 ⊢
  have HC6 := Lib.hid hC6
  have hI6 := below_in hI5 hB6
  have i0 := cell_chain hI6 hl0 c0
  have i1 := cell_chain hI6 hl0 c1
  clear h0 h1 hC6
  go_wp2_with fail
  refine (Ints_refl L A4 A6 c4 c6 w6 (HC45.out.below hB6 (Nat.le_refl _)) HC6.out).mono ?_
  rintro e w7 ⟨rfl, hB7⟩
  have hI7 := below_in hI6 hB7
  have j0 := cell_chain hI7 hl0 c0
  have j1 := cell_chain hI7 hl0 c1
  clear i0 i1
  go_wp2_with fail
  refine (set_any n s A rs.length c w7 hn0 (by omega)).mono ?_
  rintro e w8 ⟨rfl, hB8⟩
  rw [HS.out]
  have hI8 := below_in hI7 hB8
  have k0 := cell_chain hI8 hl0 c0
  have k1 := cell_chain hI8 hl0 c1
  clear j0 j1
  go_wp2_with fail
  refine (Ready_any n s A c rs w8 (HA0.out.below hI8 (Nat.le_refl _))).mono ?_
  rintro e w9 ⟨A9, c9, rfl, hC9, hB9⟩
  rw [HRL.out] at hC9 ⊢
  have HC9 := Lib.hid hC9
  clear hC9 k0 k1
  have hb59 : Below w5.heap.size w5 w9 := below_in (below_in (below_in hB6 hB7) hB8) hB9
  go_wp2_with fail
  refine (Ints_refl R A3 A9 c3 c9 w9 (HC35.out.below hb59 (Nat.le_refl _)) HC9.out).mono ?_
  rintro e w10 ⟨rfl, hB10⟩
  go_wp2_with (go_at_call 20; go_must (refine (known_any _).mono ?_); rintro e w11 ⟨rfl, hB11⟩)
  go_ret
  exact ⟨rfl, below_in HB0.out (below_in hI8 (below_in hB9 (below_in hB10 hB11)))⟩

theorem walk_readies (n : Int) (A : Option Addr) (c : Nat) (rs : List Int) (s : Int) (w : World) (hA : Cells w A (ints rs)) :
    Calls Try.prog 11 #[.agg #[.int .i64 n, .slice A rs.length c], .int .i64 s] w fun e w' => e = .returned (.bool true) ∧ Below w.heap.size w w' := by
  cases h : decide (rs.length ≤ 30) with
  | false => exact readies_big n A c rs s w hA h
  | true =>
    cases hg : grpOk n rs with
    | false => exact readies_no n A c rs s w hA h hg
    | true =>
      cases hs : setI n s with
      | false => exact readies_unset n A c rs s w hA h hg hs
      | true => exact readies_set n A c rs s w hA h hg hs
end Go.Proofs.Ytlnonadkdonhmaa

/- AutoReadies returns true for every group and set, and leaves its arguments as they were. No condition. -/
namespace Go.Proofs.Ytlnonadkdonhmaa
open Go.ChangeShapes Go.WideShapes Go.ChangeAt Go.RowKit

theorem own_readies : ownKnob Try.prog.godebug = none := by kernel_rfl
theorem laid_readies : laidOutB Try.prog = true := by kernel_rfl

set_option maxRecDepth 100000 in
theorem lifted_readies (os : Os) (started : os.Started) (H : Type) (enc : TypeId × Value → H) :
    ReturnsInHanded {} Try.checked os 11 .any (Rows.autoReadiesSpec.pre6 enc Try.prog Try.f11 Rows.autoReadiesRow.domain false) (Rows.autoReadiesSpec.post enc Try.prog Try.f11 false true false false) := by
  refine returnsInHanded_of_change_sized (C := Try.checked) own_readies started (by kernel_rfl) Try.func11
    (ChangeSpec.witness6 (enc := enc) (C := Try.checked) false ⟨#[], #[.agg #[.int .i64 0, .slice none 0 0], .int .i64 0], []⟩ 8 (by kernel_rfl) (by kernel_rfl) (by kernel_rfl) (by kernel_rfl)) ?_
  intro W base args ds gs before hval0 hW hcnd hsz0 _
  have hval : ∀ (j : Nat) t v, Try.f11.params[j]? = some t → args[j]? = some v → Value.okWide Try.prog W .any base t v := hval0
  have hsz : (DataW.weightsEach Try.prog (Try.f11.params.toList ++ Rows.autoReadiesSpec.plain.varTypes Try.prog) (ds ++ gs)).all (· ≤ reachBytes) = true := hsz0
  have hW' := hW
  obtain ⟨p, q, hA0, hV, rfl, hfz, hnd⟩ := hW
  have hA : DataW.TrodAll enc Try.prog W 0 (fun _ => true) true Try.f11.params.toList args.toList ds p := hA0
  rw [Try.params11] at hA hval hsz
  obtain ⟨v0, vs0, d0, ds0, p0, q0, hargs, rfl, rfl, h0, r0⟩ := trodAll_cons hA
  obtain ⟨v1, vs1, d1, ds1, p1, q1, rfl, rfl, rfl, h1, r1⟩ := trodAll_cons r0
  obtain ⟨rfl, rfl, rfl⟩ := trodAll_nil r1
  obtain rfl : args = #[v0, v1] := by cases args; simp_all
  obtain ⟨rfl, rfl⟩ := trodVars_none hV
  have s0 : sz Try.prog 24 d0 := sz_arg hsz (j := 0) rfl rfl
  obtain ⟨n0, A0, rs0, c0, rfl, hC0, hw0⟩ := arg_group (hval 0 24 v0 rfl rfl) h0 s0
  have k0 := h0
  have lt0 : ∀ x ∈ p0, x.block < W.heap.size := by obtain ⟨m, hm⟩ := k0; exact DataW.trod_lt m _ _ _ hm
  obtain ⟨i1, rfl, rfl, rfl, hw1⟩ := open_int Try.underlying3 (hval 1 3 v1 rfl rfl) h1
  clear hA0 hval0
  refine (walk_readies n0 A0 c0 rs0 i1 W hC0).mono fun e W' ⟨he, bel⟩ => ?_
  subst he
  exact ⟨_, rfl, _, _, _, [], _, [], hW', trodAll_mk1 (shut_bool Try.underlying4 _), (trodAll_cons_mk (Below.trod laid_readies (by kernel_rfl) (of_decide_eq_true (by kernel_rfl)) k0 bel lt0) (trodAll_cons_mk (shut_int Try.underlying3 hw1) trodAll_mk0)), rfl, bel.frame _, fun h => by cases h⟩

theorem readies_holds : Rows.AutoReadiesSaid :=
  OpenClaim.holds_of_wide 11 Try.f11 rfl rfl rfl rfl rfl rfl rfl ⟨rfl, rfl, rfl, rfl, rfl⟩ rfl rfl rfl rfl rfl (by kernel_rfl) Try.func11 (by kernel_rfl)
    (of_decide_eq_true (by kernel_rfl)) (by unfold Func.isWrapper; first | (rw [if_pos (by decide +kernel)]; kernel_rfl) | (rw [if_neg (by decide +kernel)]; exact ⟨rfl, rfl⟩))
    (fun os started H enc _ => lifted_readies os started H enc)
#print axioms readies_holds
end Go.Proofs.Ytlnonadkdonhmaa
