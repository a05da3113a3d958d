/- AutoFairs returns true for every group and list of colours, and leaves its arguments as they were. No condition. -/
import Derived.Test.YtlnonadkdonhmaaL12
import Derived.Test.YtlnonadkdonhmaaL6
import Derived.Test.YtlnonadkdonhmaaL11
import Derived.Test.YtlnonadkdonhmaaL9
import Derived.Test.YtlnonadkdonhmaaL10
import Derived.Test.YtlnonadkdonhmaaRows

/- The walk of AutoFairs. -/
namespace Go.Proofs.Ytlnonadkdonhmaa
open Go.RowKit Go.Maps

set_option maxRecDepth 100000 in
set_option maxHeartbeats 4000000 in
theorem fairs_big (n : Int) (A : Option Addr) (c : Nat) (rs : List Int) (D : Option Addr) (f : Nat) (l : List Int) (w : World) (hA : Cells w A (ints rs)) (h : (decide (rs.length ≤ 30) && decide (l.length ≤ 80)) = false) :
    Calls Try.prog 6 #[.agg #[.int .i64 n, .slice A rs.length c], .slice D l.length f] w fun e w' => e = .returned (.bool true) ∧ Below w.heap.size w w' := by
  have HB0 : Hid (Below w.heap.size w (w.alloc (.cells #[.int .i64 n, .slice A rs.length c] 24))) := (Below.refl _ w).alloc (Nat.le_refl _) _
  have HA0 := Lib.hid (hA.below HB0.out (Nat.le_refl _))
  have hgm := Blk.new w (.cells #[.int .i64 n, .slice A rs.length c] 24)
  cases hs : decide (rs.length ≤ 30) with
  | false =>
    have HS := Lib.hid hs
    clear h hs
    go_enter Try.func6, Try.ntmps6
    go_wp2_with fail
    obtain ⟨W, hW⟩ : ∃ W, w.alloc (.cells #[.int .i64 n, .slice A rs.length c] 24) = W := ⟨_, rfl⟩
    rw [hW] at HB0 HA0 hgm
    rw [hW]
    have c0 := hgm.cell 0 (v := .int .i64 n) rfl
    have c1 := hgm.cell 1 (v := .slice A rs.length c) rfl
    have hl0 := hgm.lt
    clear hW hgm
    refine (small_any n A rs.length c W).mono ?_
    rintro e w1 ⟨rfl, hB1⟩
    rw [HS.out]
    go_wp2_with (go_at_call 20; go_must (refine (known_any _).mono ?_); rintro e w2 ⟨rfl, hB2⟩)
    go_ret
    exact ⟨rfl, below_in HB0.out (below_in hB1 hB2)⟩
  | true =>
    have hd : decide ((80 : Int) < (l.length : Int)) = true := by rw [hs] at h; simp at h; simp <;> omega
    have HS := Lib.hid hs
    clear h hs
    go_enter Try.func6, Try.ntmps6
    go_wp2_with fail
    obtain ⟨W, hW⟩ : ∃ W, w.alloc (.cells #[.int .i64 n, .slice A rs.length c] 24) = W := ⟨_, rfl⟩
    rw [hW] at HB0 HA0 hgm
    rw [hW]
    have c0 := hgm.cell 0 (v := .int .i64 n) rfl
    have c1 := hgm.cell 1 (v := .slice A rs.length c) rfl
    have hl0 := hgm.lt
    clear hW hgm
    refine (small_any n A rs.length c W).mono ?_
    rintro e w1 ⟨rfl, hB1⟩
    rw [HS.out]
    go_wp2_with (go_at_call 20; go_must (refine (known_any _).mono ?_); rintro e w2 ⟨rfl, hB2⟩)
    go_ret
    exact ⟨rfl, below_in HB0.out (below_in hB1 hB2)⟩


set_option maxRecDepth 100000 in
set_option maxHeartbeats 8000000 in
theorem fairs_no (n : Int) (A : Option Addr) (c : Nat) (rs : List Int) (D : Option Addr) (f : Nat) (l : List Int) (w : World) (hA : Cells w A (ints rs)) (hD : Cells w D (ints l)) (h : (decide (rs.length ≤ 30) && decide (l.length ≤ 80)) = true) (ho : comeI n rs l = false) :
    Calls Try.prog 6 #[.agg #[.int .i64 n, .slice A rs.length c], .slice D l.length f] w fun e w' => e = .returned (.bool true) ∧ Below w.heap.size w w' := by
  have HR : Hid (fairR n rs l = []) := by show _ = _; simp [fairR, ho]
  have HL : Hid (fairL n rs l = []) := by show _ = _; simp [fairL, ho]
  have HE : Hid (errI (comeI n rs l) = 2) := by show _ = _; rw [ho]; rfl
  cases hg : grpOk n rs with
  | false =>
    have HG := Lib.hid hg
    clear ho hg
    have hs : decide (rs.length ≤ 30) = true := by simp only [Bool.and_eq_true] at h; exact h.1
    have hd : decide ((80 : Int) < (l.length : Int)) = false := by simp only [Bool.and_eq_true, decide_eq_true_eq] at h; simp <;> omega
    have HS := Lib.hid hs
    clear h hs
    have HB0 : Hid (Below w.heap.size w (w.alloc (.cells #[.int .i64 n, .slice A rs.length c] 24))) := (Below.refl _ w).alloc (Nat.le_refl _) _
    have HA0 := Lib.hid (hA.below HB0.out (Nat.le_refl _))
    have hgm := Blk.new w (.cells #[.int .i64 n, .slice A rs.length c] 24)
    have HD0 := Lib.hid (hD.below HB0.out (Nat.le_refl _))
    go_enter Try.func6, Try.ntmps6
    go_wp2_with fail
    obtain ⟨W, hW⟩ : ∃ W, w.alloc (.cells #[.int .i64 n, .slice A rs.length c] 24) = W := ⟨_, rfl⟩
    rw [hW] at HB0 HA0 HD0 hgm
    rw [hW]
    have c0 := hgm.cell 0 (v := .int .i64 n) rfl
    have c1 := hgm.cell 1 (v := .slice A rs.length c) rfl
    have hl0 := hgm.lt
    clear hW hgm
    refine (small_any n A rs.length c W).mono ?_
    rintro e w1 ⟨rfl, hB1⟩
    rw [HS.out]
    have d0 := cell_chain hB1 hl0 c0
    have d1 := cell_chain hB1 hl0 c1
    go_wp2_with fail
    clear d0 d1
    refine (Fair_any n A c rs D f l _ (HA0.out.below (by exact hB1) (Nat.le_refl _)) (HD0.out.below (by exact hB1) (Nat.le_refl _))).mono ?_
    rintro e w2 ⟨A2, c2, B2, e2, rfl, hC2, hE2, hB2⟩
    have hI2 := below_in hB1 hB2
    have f0 := cell_chain hI2 hl0 c0
    have f1 := cell_chain hI2 hl0 c1
    have hl2 : w.heap.size < w2.heap.size := Nat.lt_of_lt_of_le hl0 hI2.size
    rw [HR.out] at hC2 ⊢
    rw [HL.out] at hE2 ⊢
    rw [HE.out]
    go_wp2_with (first
      | (go_at_call 23; go_must (refine (group_any n A c rs w2 (HA0.out.below hI2 (Nat.le_refl _))).mono ?_); rintro e w3 ⟨rfl, hB3⟩; rw [HG.out]; have hI3 := below_in hI2 hB3)
      | (go_at_call 20; go_must (refine (known_any _).mono ?_); rintro e w9 ⟨rfl, hB9⟩))
    go_ret
    exact ⟨rfl, below_in HB0.out (below_in hI3 hB9)⟩
  | true =>
    have hr : comeR n l = false := by
      unfold comeI at ho
      rw [hg, Bool.true_and] at ho
      exact ho
    have HG := Lib.hid hg
    have HCR := Lib.hid hr
    clear ho hg hr
    have hs : decide (rs.length ≤ 30) = true := by simp only [Bool.and_eq_true] at h; exact h.1
    have hd : decide ((80 : Int) < (l.length : Int)) = false := by simp only [Bool.and_eq_true, decide_eq_true_eq] at h; simp <;> omega
    have HS := Lib.hid hs
    clear h hs
    have HB0 : Hid (Below w.heap.size w (w.alloc (.cells #[.int .i64 n, .slice A rs.length c] 24))) := (Below.refl _ w).alloc (Nat.le_refl _) _
    have HA0 := Lib.hid (hA.below HB0.out (Nat.le_refl _))
    have hgm := Blk.new w (.cells #[.int .i64 n, .slice A rs.length c] 24)
    have HD0 := Lib.hid (hD.below HB0.out (Nat.le_refl _))
    go_enter Try.func6, Try.ntmps6
    go_wp2_with fail
    obtain ⟨W, hW⟩ : ∃ W, w.alloc (.cells #[.int .i64 n, .slice A rs.length c] 24) = W := ⟨_, rfl⟩
    rw [hW] at HB0 HA0 HD0 hgm
    rw [hW]
    have c0 := hgm.cell 0 (v := .int .i64 n) rfl
    have c1 := hgm.cell 1 (v := .slice A rs.length c) rfl
    have hl0 := hgm.lt
    clear hW hgm
    refine (small_any n A rs.length c W).mono ?_
    rintro e w1 ⟨rfl, hB1⟩
    rw [HS.out]
    have d0 := cell_chain hB1 hl0 c0
    have d1 := cell_chain hB1 hl0 c1
    go_wp2_with fail
    clear d0 d1
    refine (Fair_any n A c rs D f l _ (HA0.out.below (by exact hB1) (Nat.le_refl _)) (HD0.out.below (by exact hB1) (Nat.le_refl _))).mono ?_
    rintro e w2 ⟨A2, c2, B2, e2, rfl, hC2, hE2, hB2⟩
    have hI2 := below_in hB1 hB2
    have f0 := cell_chain hI2 hl0 c0
    have f1 := cell_chain hI2 hl0 c1
    have hl2 : w.heap.size < w2.heap.size := Nat.lt_of_lt_of_le hl0 hI2.size
    rw [HR.out] at hC2 ⊢
    rw [HL.out] at hE2 ⊢
    rw [HE.out]
    go_wp2_with (first
      | (go_at_call 23; go_must (refine (group_any n A c rs w2 (HA0.out.below hI2 (Nat.le_refl _))).mono ?_); rintro e w3 ⟨rfl, hB3⟩; rw [HG.out]; have hI3 := below_in hI2 hB3; have g0 := cell_chain hB3 hl2 f0; have g1 := cell_chain hB3 hl2 f1)
      | (go_at_call 37; go_must (refine (Come_any n A c rs D f l w3 (HD0.out.below hI3 (Nat.le_refl _))).mono ?_); rintro e w4 ⟨rfl, hB4⟩; rw [HCR.out]; have hI4 := below_in hI3 hB4)
      | (go_at_call 20; go_must (refine (known_any _).mono ?_); rintro e w9 ⟨rfl, hB9⟩))
    go_ret
    exact ⟨rfl, below_in HB0.out (below_in hI4 hB9)⟩

set_option maxRecDepth 100000 in
set_option maxHeartbeats 8000000 in
theorem fairs_yes (n : Int) (A : Option Addr) (c : Nat) (rs : List Int) (D : Option Addr) (f : Nat) (l : List Int) (w : World) (hA : Cells w A (ints rs)) (hD : Cells w D (ints l)) (h : (decide (rs.length ≤ 30) && decide (l.length ≤ 80)) = true) (ho : comeI n rs l = true) :
    Calls Try.prog 6 #[.agg #[.int .i64 n, .slice A rs.length c], .slice D l.length f] w fun e w' => e = .returned (.bool true) ∧ Below w.heap.size w w' := by
  have ho' := ho
  unfold comeI at ho'
  simp only [Bool.and_eq_true, decide_eq_true_eq, Bool.not_eq_true'] at ho'
  obtain ⟨⟨hg, hl60⟩, hbad⟩ := ho'
  have hr : comeR n l = true := by unfold comeR; rw [hbad]; simpa using hl60
  obtain ⟨hn1, hn6, hrl, hgood⟩ := grpOk_true hg
  obtain ⟨N, rfl⟩ := Int.eq_ofNat_of_zero_le (show 0 ≤ n by omega)
  have hl : Hid (∀ x ∈ l, 0 ≤ x ∧ x < (N : Int)) := by
    intro x hx
    have hb : badC (N : Int) x = false := by
      rw [List.any_eq_false] at hbad
      simpa using hbad x hx
    simp [badC] at hb
    omega
  obtain ⟨Q, HQ⟩ : ∃ Q, Hid (qTo rs chFair N (List.replicate rs.length 0) l l.length = Q) := ⟨_, rfl⟩
  have HR : Hid (fairR (N : Int) rs l = Q.out) := by show _ = _; simp only [fairR, ho, if_true, ← HQ.out]; rfl
  have HL : Hid (fairL (N : Int) rs l = Q.many) := by show _ = _; simp only [fairL, ho, if_true, ← HQ.out]; rfl
  have HE : Hid (errI (comeI (N : Int) rs l) = 0) := by show _ = _; rw [ho]; rfl
  have HG := Lib.hid hg
  have HCR := Lib.hid hr
  clear ho hg hr hgood hbad
  obtain ⟨n, hn⟩ : ∃ n, (N : Int) = n := ⟨_, rfl⟩
  have HN := Lib.hid hn
  rw [hn] at HR HL HE HG HCR ⊢
  clear hn hn1 hn6
  have hs : decide (rs.length ≤ 30) = true := by simp only [Bool.and_eq_true] at h; exact h.1
  have hd : decide ((80 : Int) < (l.length : Int)) = false := by simp only [Bool.and_eq_true, decide_eq_true_eq] at h; simp <;> omega
  have HS := Lib.hid hs
  clear h hs
  have HB0 : Hid (Below w.heap.size w (w.alloc (.cells #[.int .i64 n, .slice A rs.length c] 24))) := (Below.refl _ w).alloc (Nat.le_refl _) _
  have HA0 := Lib.hid (hA.below HB0.out (Nat.le_refl _))
  have hgm := Blk.new w (.cells #[.int .i64 n, .slice A rs.length c] 24)
  have HD0 := Lib.hid (hD.below HB0.out (Nat.le_refl _))
  go_enter Try.func6, Try.ntmps6
  go_wp2_with fail
  obtain ⟨W, hW⟩ : ∃ W, w.alloc (.cells #[.int .i64 n, .slice A rs.length c] 24) = W := ⟨_, rfl⟩
  rw [hW] at HB0 HA0 HD0 hgm
  rw [hW]
  have c0 := hgm.cell 0 (v := .int .i64 n) rfl
  have c1 := hgm.cell 1 (v := .slice A rs.length c) rfl
  have hl0 := hgm.lt
  clear hW hgm
  refine (small_any n A rs.length c W).mono ?_
  rintro e w1 ⟨rfl, hB1⟩
  rw [HS.out]
  have d0 := cell_chain hB1 hl0 c0
  have d1 := cell_chain hB1 hl0 c1
  go_wp2_with fail
  clear d0 d1
  refine (Fair_any n A c rs D f l _ (HA0.out.below (by exact hB1) (Nat.le_refl _)) (HD0.out.below (by exact hB1) (Nat.le_refl _))).mono ?_
  rintro e w2 ⟨A2, c2, B2, e2, rfl, hC2, hE2, hB2⟩
  have hI2 := below_in hB1 hB2
  have f0 := cell_chain hI2 hl0 c0
  have f1 := cell_chain hI2 hl0 c1
  have hl2 : w.heap.size < w2.heap.size := Nat.lt_of_lt_of_le hl0 hI2.size
  rw [HR.out] at hC2 ⊢
  rw [HL.out] at hE2 ⊢
  rw [HE.out]
  have HC2 := Lib.hid hC2
  have HE2 := Lib.hid hE2
  clear hC2 hE2
  go_wp2_with (first
    | (go_at_call 23; go_must (refine (group_any n A c rs w2 (HA0.out.below hI2 (Nat.le_refl _))).mono ?_); rintro e w3 ⟨rfl, hB3⟩; rw [HG.out]; have hI3 := below_in hI2 hB3; have g0 := cell_chain hB3 hl2 f0; have g1 := cell_chain hB3 hl2 f1)
    | (go_at_call 37; go_must (refine (Come_any n A c rs D f l w3 (HD0.out.below hI3 (Nat.le_refl _))).mono ?_); rintro e w4 ⟨rfl, hB4⟩; rw [HCR.out]; have hI4 := below_in hI3 hB4; have i0 := cell_chain hI4 hl0 c0; have i1 := cell_chain hI4 hl0 c1)
    | fail)
  have e38 := RefFair_any N A c rs D f l w4 (HA0.out.below hI4 (Nat.le_refl _)) (HD0.out.below hI4 (Nat.le_refl _)) (by rw [HN.out]; exact HG.out) hl hl60
  rw [HN.out, HQ.out] at e38
  refine e38.mono ?_
  rintro e w5 ⟨A5, c5, B5, d5, rfl, hC5, hE5, hB5⟩
  have hI5 := below_in hI4 hB5
  have hb25 : Below w2.heap.size w2 w5 := below_in (below_in hB3 hB4) hB5
  have HC25 := Lib.hid (HC2.out.below hb25 (Nat.le_refl _))
  have HE25 := Lib.hid (HE2.out.below hb25 (Nat.le_refl _))
  have HC5 := Lib.hid hC5
  have HE5 := Lib.hid hE5
  clear hC5 hE5 f0 f1 g0 g1 i0 i1 e38
  go_wp2_with (first
    | (go_at_call 32; refine (Ints_refl Q.many B2 B5 e2 d5 w6 (HE25.out.below hB6 (Nat.le_refl _)) (HE5.out.below hB6 (Nat.le_refl _))).mono ?_; rintro e w7 ⟨rfl, hB7⟩)
    | (go_at_call 32; refine (Ints_refl Q.out A2 A5 c2 c5 w5 HC25.out HC5.out).mono ?_; rintro e w6 ⟨rfl, hB6⟩)
    | (go_at_call 20; go_must (refine (known_any _).mono ?_); rintro e w9 ⟨rfl, hB9⟩))
  go_ret
  exact ⟨rfl, below_in HB0.out (below_in hI5 (below_in hB6 (below_in hB7 hB9)))⟩

theorem walk_fairs (n : Int) (A : Option Addr) (c : Nat) (rs : List Int) (D : Option Addr) (f : Nat) (l : List Int) (w : World) (hA : Cells w A (ints rs)) (hD : Cells w D (ints l)) :
    Calls Try.prog 6 #[.agg #[.int .i64 n, .slice A rs.length c], .slice D l.length f] w fun e w' => e = .returned (.bool true) ∧ Below w.heap.size w w' := by
  cases h : (decide (rs.length ≤ 30) && decide (l.length ≤ 80)) with
  | false => exact fairs_big n A c rs D f l w hA h
  | true =>
    cases ho : comeI n rs l with
    | false => exact fairs_no n A c rs D f l w hA hD h ho
    | true => exact fairs_yes n A c rs D f l w hA hD h ho
end Go.Proofs.Ytlnonadkdonhmaa

/- AutoFairs returns true for every group and list, and leaves its arguments as they were. No condition. -/
namespace Go.Proofs.Ytlnonadkdonhmaa
open Go.ChangeShapes Go.WideShapes Go.ChangeAt Go.RowKit

theorem own_fairs : ownKnob Try.prog.godebug = none := by kernel_rfl
theorem laid_fairs : laidOutB Try.prog = true := by kernel_rfl

set_option maxRecDepth 100000 in
theorem lifted_fairs (os : Os) (started : os.Started) (H : Type) (enc : TypeId × Value → H) :
    ReturnsInHanded {} Try.checked os 6 .any (Rows.autoFairsSpec.pre6 enc Try.prog Try.f6 Rows.autoFairsRow.domain false) (Rows.autoFairsSpec.post enc Try.prog Try.f6 false true false false) := by
  refine returnsInHanded_of_change_sized (C := Try.checked) own_fairs started (by kernel_rfl) Try.func6
    (ChangeSpec.witness6 (enc := enc) (C := Try.checked) false ⟨#[], #[.agg #[.int .i64 0, .slice none 0 0], .slice none 0 0], []⟩ 8 (by kernel_rfl) (by kernel_rfl) (by kernel_rfl) (by kernel_rfl)) ?_
  intro W base args ds gs before hval0 hW hcnd hsz0 _
  have hval : ∀ (j : Nat) t v, Try.f6.params[j]? = some t → args[j]? = some v → Value.okWide Try.prog W .any base t v := hval0
  have hsz : (DataW.weightsEach Try.prog (Try.f6.params.toList ++ Rows.autoFairsSpec.plain.varTypes Try.prog) (ds ++ gs)).all (· ≤ reachBytes) = true := hsz0
  have hW' := hW
  obtain ⟨p, q, hA0, hV, rfl, hfz, hnd⟩ := hW
  have hA : DataW.TrodAll enc Try.prog W 0 (fun _ => true) true Try.f6.params.toList args.toList ds p := hA0
  rw [Try.params6] at hA hval hsz
  obtain ⟨v0, vs0, d0, ds0, p0, q0, hargs, rfl, rfl, h0, r0⟩ := trodAll_cons hA
  obtain ⟨v1, vs1, d1, ds1, p1, q1, rfl, rfl, rfl, h1, r1⟩ := trodAll_cons r0
  obtain ⟨rfl, rfl, rfl⟩ := trodAll_nil r1
  obtain rfl : args = #[v0, v1] := by cases args; simp_all
  obtain ⟨rfl, rfl⟩ := trodVars_none hV
  have s0 : sz Try.prog 24 d0 := sz_arg hsz (j := 0) rfl rfl
  obtain ⟨n0, A0, rs0, c0, rfl, hC0, hw0⟩ := arg_group (hval 0 24 v0 rfl rfl) h0 s0
  have k0 := h0
  have lt0 : ∀ x ∈ p0, x.block < W.heap.size := by obtain ⟨m, hm⟩ := k0; exact DataW.trod_lt m _ _ _ hm
  have s1 : sz Try.prog 22 d1 := sz_arg hsz (j := 1) rfl rfl
  obtain ⟨D1, xs1, f1, rfl, hC1⟩ := arg_slI (hval 1 22 v1 rfl rfl) h1 s1
  have k1 := h1
  have lt1 : ∀ x ∈ p1, x.block < W.heap.size := by obtain ⟨m, hm⟩ := k1; exact DataW.trod_lt m _ _ _ hm
  clear hA0 hval0
  refine (walk_fairs n0 A0 c0 rs0 D1 f1 xs1 W hC0 hC1).mono fun e W' ⟨he, bel⟩ => ?_
  subst he
  exact ⟨_, rfl, _, _, _, [], _, [], hW', trodAll_mk1 (shut_bool Try.underlying4 _), (trodAll_cons_mk (Below.trod laid_fairs (by kernel_rfl) (of_decide_eq_true (by kernel_rfl)) k0 bel lt0) (trodAll_cons_mk (Below.trod laid_fairs (by kernel_rfl) (of_decide_eq_true (by kernel_rfl)) k1 bel lt1) trodAll_mk0)), rfl, bel.frame _, fun h => by cases h⟩

theorem fairs_holds : Rows.AutoFairsSaid :=
  OpenClaim.holds_of_wide 6 Try.f6 rfl rfl rfl rfl rfl rfl rfl ⟨rfl, rfl, rfl, rfl, rfl⟩ rfl rfl rfl rfl rfl (by kernel_rfl) Try.func6 (by kernel_rfl)
    (of_decide_eq_true (by kernel_rfl)) (by unfold Func.isWrapper; first | (rw [if_pos (by decide +kernel)]; kernel_rfl) | (rw [if_neg (by decide +kernel)]; exact ⟨rfl, rfl⟩))
    (fun os started H enc _ => lifted_fairs os started H enc)
#print axioms fairs_holds
end Go.Proofs.Ytlnonadkdonhmaa
