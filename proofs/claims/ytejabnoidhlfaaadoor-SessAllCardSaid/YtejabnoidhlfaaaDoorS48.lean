/- Contract: works. -/
import Derived.Test.YtejabnoidhlfaaaDoorS43

/- Contract: works. -/
namespace Go.Proofs.YtejabnoidhlfaaaDoor
open Go.RowKit Go.Maps

theorem ez_at {w : World} {A : Option Addr} {l : List Ez} {c k : Nat} (h : Cells w A (ezs l)) (hk : k < l.length) : ∃ z b o, l[k]? = some z ∧ b < w.heap.size ∧ (∀ w', (Instr.indexAt 24 (.slice A l.length c) (.int .i64 (k : Int))).run Tryd.prog w' = .ok (.pointer (some ⟨b, o, none⟩)) w') ∧
  w.cell? ⟨b, o, none⟩ = some (.int .i64 z.v.life) ∧ w.cell? ⟨b, o + 1, none⟩ = some (.int .i64 z.v.peer) ∧ w.cell? ⟨b, o + 2, none⟩ = some (.int .i64 z.v.phase) ∧ w.cell? ⟨b, o + 3, none⟩ = some (.int .i64 z.v.base) ∧
  w.cell? ⟨b, o + 4, none⟩ = some (.slice z.A z.v.out.length z.c) ∧ w.cell? ⟨b, o + 5, none⟩ = some (.int .i64 z.v.want) ∧ w.cell? ⟨b, o + 6, none⟩ = some (.slice z.D z.v.inn.length z.d) := by
 obtain ⟨x, b, o, hx, hb, hix, hc⟩ := flat_at (c := c) h ezC_len Tryd.underlying24 rEn.size_eq (by decide) hk
 exact ⟨x, b, o, hx, hb, hix, hc 0 _ rfl, hc 1 _ rfl, hc 2 _ rfl, hc 3 _ rfl, hc 4 _ rfl, hc 5 _ rfl, hc 6 _ rfl⟩

set_option maxRecDepth 100000 in
set_option maxHeartbeats 16000000 in
theorem works_any (w : World) : Calls Tryd.prog 13 #[] w fun r w' => r = .returned (.bool true) ∧ Below w.heap.size w w' := by
 go_enter Tryd.func13, Tryd.ntmps13
 go_upto_region 2 with fail
 obtain ⟨V, hV⟩ : ∃ V, w.alloc (.cells (enB wB none 0 none 0) 38) = V := ⟨_, rfl⟩
 have HBV : Hid (Below w.heap.size w V) := by rw [← hV]; exact (Below.refl _ w).alloc (Nat.le_refl _) _
 have HKV : Hid (Blk V w.heap.size (.cells (enB wB none 0 none 0) 38)) := by rw [← hV]; exact Blk.new _ _
 have hV2 : w.alloc (.cells #[.int .i64 5, .int .i64 1, .int .i64 2, .int .i64 0, .slice none 0 0, .int .i64 0, .slice none 0 0] 38) = V := hV
 rw [hV2]
 clear hV hV2
 have HEV : Hid (EnT V wB none 0 none) := enT_nil V rfl rfl
 have hvl := HKV.out.lt
 go_cut [2, 3, 4] from 14 (fun v2 v3 v4 wx => ∃ b5 b6 A c D d P cp T ct L cl, v2 = .pointer (some ⟨b5, 0, none⟩) ∧ v3 = .pointer (some ⟨b6, 0, none⟩) ∧ v4 = .int .i64 0 ∧ Tj wx (takeA wB wP1) b5 b6 A c D d P cp T ct L cl ∧ Below V.heap.size V wx ∧ V.heap.size ≤ b6)
 case first => as_aux_lemma =>
  have HR := Lib.hid (Rg.start V)
  refine draw (fun w' => Below V.heap.size V w') 12 rfl (by kernel_rfl) (fun Qd hQd => ?_)
  apply anyI_step 0 rfl (by kernel_rfl)
  focus (intro wI hI Kv hKv; have q9 := HKV.out.below hI hvl; have c0 := q9.cell 0 (v := .int .i64 5) rfl; have c1 := q9.cell 1 (v := .int .i64 1) rfl; have c2 := q9.cell 2 (v := .int .i64 2) rfl; have c3 := q9.cell 3 (v := .int .i64 0) rfl; have c4 := q9.cell 4 (v := .slice none 0 0) rfl; have c5 := q9.cell 5 (v := .int .i64 0) rfl; have c6 := q9.cell 6 (v := .slice none 0 0) rfl; go_simp; exact hKv)
  intro Kd hKd
  go_simp
  refine hKd _ ?_
  clear hKd Kd
  refine anyI_three' 1 7 8 rfl rfl rfl (by kernel_rfl) (HR.out.below) (fun Kd hKd => ?_) (fun Kd hKd => ?_) (fun Kd hKd => ?_)
  ·skip
   go_wp2_with (go_at_call 36; go_must (refine (data33_any 1 5 2 tZ 0 0 _).mono ?_); rintro r w1 ⟨rfl, hB1⟩)
   have HR := Lib.hid (HR.out.call hB1)
   clear hB1
   refine anyI_three' 2 7 8 rfl rfl rfl (by kernel_rfl) (HR.out.below) (fun Kd hKd => ?_) (fun Kd hKd => ?_) (fun Kd hKd => ?_)
   ·skip
    go_wp2_with (go_at_call 11; go_must (refine (take_any wB none 0 none 0 wP1 _ (HEV.out.at_.below HR.out.below) HEV.out.nl (by decide)).mono ?_); rintro r wt ⟨A, c, D, d, P, cp, T, ct, L, cl, rfl, hpost⟩)
    obtain ⟨hto, hbt⟩ := to_of hpost
    have HTO := Lib.hid hto
    have HT := Lib.hid (Rt.start HR.out hbt)
    clear hpost hto hbt
    apply anyI_step 3 rfl (by kernel_rfl)
    focus (intro wI hI Kv hKv; go_simp; exact hKv)
    intro Kd hKd
    go_simp
    refine hKd _ ?_
    clear hKd Kd
    apply anyI_step 4 rfl (by kernel_rfl)
    focus (intro wI hI Kv hKv; go_simp; exact hKv)
    intro Kd hKd
    go_simp
    refine hKd _ ?_
    clear hKd Kd
    apply anyI_step 5 rfl (by kernel_rfl)
    focus (intro wI hI Kv hKv; go_simp; exact hKv)
    intro Kd hKd
    go_simp
    refine hKd _ ?_
    clear hKd Kd
    apply anyI_step 6 rfl (by kernel_rfl)
    focus (intro wI hI Kv hKv; go_simp; exact hKv)
    intro Kd hKd
    go_simp
    refine hKd _ ?_
    clear hKd Kd
    refine anyI_two' 7 8 rfl rfl (by kernel_rfl) (HT.out.rg.below) (fun Kd hKd => ?_) (fun Kd hKd => ?_)
    ·skip
     go_wp2
     have HT := Lib.hid (HT.out.al5 (wt.heap.size) (by simp))
     refine anyI_one' 8 rfl (by kernel_rfl) (HT.out.rg.below) (fun Kd hKd => ?_)
     go_wp2
     have HT := Lib.hid (HT.out.al6 (wt.heap.size + 1) (by simp))
     have HF := Lib.hid (rt_fin d cp HT.out HTO.out)
     refine anyI_one' 9 rfl (by kernel_rfl) (HF.out.i0) (fun Kd hKd => ?_)
     refine wpList_store26 rfl _ _ rfl HF.out.h5 rfl rfl ?_
     refine ⟨rfl, hKd _ _ ?_⟩
     clear hKd Kd
     refine anyI_one' 10 rfl (by kernel_rfl) (HF.out.i1) (fun Kd hKd => ?_)
     refine wpList_store47 rfl _ _ rfl HF.out.h6 rfl rfl ?_
     refine ⟨rfl, hKd _ _ ?_⟩
     clear hKd Kd
     apply anyI_step 11 rfl (by kernel_rfl)
     focus (intro wI hI Kv hKv; go_simp; exact hKv)
     intro Kd hKd
     go_simp
     refine hKd _ ?_
     clear hKd Kd
     refine anyI_end (by kernel_rfl) (HF.out.i2) (hQd _ _ ?_)
     clear hQd Qd
     go_wp2_with fail
     go_meet
     exact ⟨wt.heap.size, wt.heap.size + 1, A, c, D, d, P, cp, T, ct, L, cl, rfl, rfl, congrArg (Value.int .i64) w1_ok.1, HF.out.tj, HF.out.i2, HF.out.g6⟩
    ·skip
     go_wp2
     have HT := Lib.hid (HT.out.al6 (wt.heap.size) (by simp))
     refine anyI_one' 7 rfl (by kernel_rfl) (HT.out.rg.below) (fun Kd hKd => ?_)
     go_wp2
     have HT := Lib.hid (HT.out.al5 (wt.heap.size + 1) (by simp))
     have HF := Lib.hid (rt_fin d cp HT.out HTO.out)
     refine anyI_one' 9 rfl (by kernel_rfl) (HF.out.i0) (fun Kd hKd => ?_)
     refine wpList_store26 rfl _ _ rfl HF.out.h5 rfl rfl ?_
     refine ⟨rfl, hKd _ _ ?_⟩
     clear hKd Kd
     refine anyI_one' 10 rfl (by kernel_rfl) (HF.out.i1) (fun Kd hKd => ?_)
     refine wpList_store47 rfl _ _ rfl HF.out.h6 rfl rfl ?_
     refine ⟨rfl, hKd _ _ ?_⟩
     clear hKd Kd
     apply anyI_step 11 rfl (by kernel_rfl)
     focus (intro wI hI Kv hKv; go_simp; exact hKv)
     intro Kd hKd
     go_simp
     refine hKd _ ?_
     clear hKd Kd
     refine anyI_end (by kernel_rfl) (HF.out.i2) (hQd _ _ ?_)
     clear hQd Qd
     go_wp2_with fail
     go_meet
     exact ⟨wt.heap.size + 1, wt.heap.size, A, c, D, d, P, cp, T, ct, L, cl, rfl, rfl, congrArg (Value.int .i64) w1_ok.1, HF.out.tj, HF.out.i2, HF.out.g6⟩
   ·skip
    go_wp2
    have HR := Lib.hid (HR.out.al5 (w1.heap.size) (by simp))
    refine anyI_two' 2 8 rfl rfl (by kernel_rfl) (HR.out.below) (fun Kd hKd => ?_) (fun Kd hKd => ?_)
    ·skip
     go_wp2_with (go_at_call 11; go_must (refine (take_any wB none 0 none 0 wP1 _ (HEV.out.at_.below HR.out.below) HEV.out.nl (by decide)).mono ?_); rintro r wt ⟨A, c, D, d, P, cp, T, ct, L, cl, rfl, hpost⟩)
     obtain ⟨hto, hbt⟩ := to_of hpost
     have HTO := Lib.hid hto
     have HT := Lib.hid (Rt.start HR.out hbt)
     clear hpost hto hbt
     apply anyI_step 3 rfl (by kernel_rfl)
     focus (intro wI hI Kv hKv; go_simp; exact hKv)
     intro Kd hKd
     go_simp
     refine hKd _ ?_
     clear hKd Kd
     apply anyI_step 4 rfl (by kernel_rfl)
     focus (intro wI hI Kv hKv; go_simp; exact hKv)
     intro Kd hKd
     go_simp
     refine hKd _ ?_
     clear hKd Kd
     apply anyI_step 5 rfl (by kernel_rfl)
     focus (intro wI hI Kv hKv; go_simp; exact hKv)
     intro Kd hKd
     go_simp
     refine hKd _ ?_
     clear hKd Kd
     apply anyI_step 6 rfl (by kernel_rfl)
     focus (intro wI hI Kv hKv; go_simp; exact hKv)
     intro Kd hKd
     go_simp
     refine hKd _ ?_
     clear hKd Kd
     refine anyI_one' 8 rfl (by kernel_rfl) (HT.out.rg.below) (fun Kd hKd => ?_)
     go_wp2
     have HT := Lib.hid (HT.out.al6 (wt.heap.size) (by simp))
     have HF := Lib.hid (rt_fin d cp HT.out HTO.out)
     refine anyI_one' 9 rfl (by kernel_rfl) (HF.out.i0) (fun Kd hKd => ?_)
     refine wpList_store26 rfl _ _ rfl HF.out.h5 rfl rfl ?_
     refine ⟨rfl, hKd _ _ ?_⟩
     clear hKd Kd
     refine anyI_one' 10 rfl (by kernel_rfl) (HF.out.i1) (fun Kd hKd => ?_)
     refine wpList_store47 rfl _ _ rfl HF.out.h6 rfl rfl ?_
     refine ⟨rfl, hKd _ _ ?_⟩
     clear hKd Kd
     apply anyI_step 11 rfl (by kernel_rfl)
     focus (intro wI hI Kv hKv; go_simp; exact hKv)
     intro Kd hKd
     go_simp
     refine hKd _ ?_
     clear hKd Kd
     refine anyI_end (by kernel_rfl) (HF.out.i2) (hQd _ _ ?_)
     clear hQd Qd
     go_wp2_with fail
     go_meet
     exact ⟨w1.heap.size, wt.heap.size, A, c, D, d, P, cp, T, ct, L, cl, rfl, rfl, congrArg (Value.int .i64) w1_ok.1, HF.out.tj, HF.out.i2, HF.out.g6⟩
    ·skip
     go_wp2
     have HR := Lib.hid (HR.out.al6 (w1.heap.size + 1) (by simp))
     refine anyI_one' 2 rfl (by kernel_rfl) (HR.out.below) (fun Kd hKd => ?_)
     go_wp2_with (go_at_call 11; go_must (refine (take_any wB none 0 none 0 wP1 _ (HEV.out.at_.below HR.out.below) HEV.out.nl (by decide)).mono ?_); rintro r wt ⟨A, c, D, d, P, cp, T, ct, L, cl, rfl, hpost⟩)
     obtain ⟨hto, hbt⟩ := to_of hpost
     have HTO := Lib.hid hto
     have HT := Lib.hid (Rt.start HR.out hbt)
     clear hpost hto hbt
     apply anyI_step 3 rfl (by kernel_rfl)
     focus (intro wI hI Kv hKv; go_simp; exact hKv)
     intro Kd hKd
     go_simp
     refine hKd _ ?_
     clear hKd Kd
     apply anyI_step 4 rfl (by kernel_rfl)
     focus (intro wI hI Kv hKv; go_simp; exact hKv)
     intro Kd hKd
     go_simp
     refine hKd _ ?_
     clear hKd Kd
     apply anyI_step 5 rfl (by kernel_rfl)
     focus (intro wI hI Kv hKv; go_simp; exact hKv)
     intro Kd hKd
     go_simp
     refine hKd _ ?_
     clear hKd Kd
     apply anyI_step 6 rfl (by kernel_rfl)
     focus (intro wI hI Kv hKv; go_simp; exact hKv)
     intro Kd hKd
     go_simp
     refine hKd _ ?_
     clear hKd Kd
     have HF := Lib.hid (rt_fin d cp HT.out HTO.out)
     refine anyI_one' 9 rfl (by kernel_rfl) (HF.out.i0) (fun Kd hKd => ?_)
     refine wpList_store26 rfl _ _ rfl HF.out.h5 rfl rfl ?_
     refine ⟨rfl, hKd _ _ ?_⟩
     clear hKd Kd
     refine anyI_one' 10 rfl (by kernel_rfl) (HF.out.i1) (fun Kd hKd => ?_)
     refine wpList_store47 rfl _ _ rfl HF.out.h6 rfl rfl ?_
     refine ⟨rfl, hKd _ _ ?_⟩
     clear hKd Kd
     apply anyI_step 11 rfl (by kernel_rfl)
     focus (intro wI hI Kv hKv; go_simp; exact hKv)
     intro Kd hKd
     go_simp
     refine hKd _ ?_
     clear hKd Kd
     refine anyI_end (by kernel_rfl) (HF.out.i2) (hQd _ _ ?_)
     clear hQd Qd
     go_wp2_with fail
     go_meet
     exact ⟨w1.heap.size, w1.heap.size + 1, A, c, D, d, P, cp, T, ct, L, cl, rfl, rfl, congrArg (Value.int .i64) w1_ok.1, HF.out.tj, HF.out.i2, HF.out.g6⟩
   ·skip
    go_wp2
    have HR := Lib.hid (HR.out.al6 (w1.heap.size) (by simp))
    refine anyI_two' 2 7 rfl rfl (by kernel_rfl) (HR.out.below) (fun Kd hKd => ?_) (fun Kd hKd => ?_)
    ·skip
     go_wp2_with (go_at_call 11; go_must (refine (take_any wB none 0 none 0 wP1 _ (HEV.out.at_.below HR.out.below) HEV.out.nl (by decide)).mono ?_); rintro r wt ⟨A, c, D, d, P, cp, T, ct, L, cl, rfl, hpost⟩)
     obtain ⟨hto, hbt⟩ := to_of hpost
     have HTO := Lib.hid hto
     have HT := Lib.hid (Rt.start HR.out hbt)
     clear hpost hto hbt
     apply anyI_step 3 rfl (by kernel_rfl)
     focus (intro wI hI Kv hKv; go_simp; exact hKv)
     intro Kd hKd
     go_simp
     refine hKd _ ?_
     clear hKd Kd
     apply anyI_step 4 rfl (by kernel_rfl)
     focus (intro wI hI Kv hKv; go_simp; exact hKv)
     intro Kd hKd
     go_simp
     refine hKd _ ?_
     clear hKd Kd
     apply anyI_step 5 rfl (by kernel_rfl)
     focus (intro wI hI Kv hKv; go_simp; exact hKv)
     intro Kd hKd
     go_simp
     refine hKd _ ?_
     clear hKd Kd
     apply anyI_step 6 rfl (by kernel_rfl)
     focus (intro wI hI Kv hKv; go_simp; exact hKv)
     intro Kd hKd
     go_simp
     refine hKd _ ?_
     clear hKd Kd
     refine anyI_one' 7 rfl (by kernel_rfl) (HT.out.rg.below) (fun Kd hKd => ?_)
     go_wp2
     have HT := Lib.hid (HT.out.al5 (wt.heap.size) (by simp))
     have HF := Lib.hid (rt_fin d cp HT.out HTO.out)
     refine anyI_one' 9 rfl (by kernel_rfl) (HF.out.i0) (fun Kd hKd => ?_)
     refine wpList_store26 rfl _ _ rfl HF.out.h5 rfl rfl ?_
     refine ⟨rfl, hKd _ _ ?_⟩
     clear hKd Kd
     refine anyI_one' 10 rfl (by kernel_rfl) (HF.out.i1) (fun Kd hKd => ?_)
     refine wpList_store47 rfl _ _ rfl HF.out.h6 rfl rfl ?_
     refine ⟨rfl, hKd _ _ ?_⟩
     clear hKd Kd
     apply anyI_step 11 rfl (by kernel_rfl)
     focus (intro wI hI Kv hKv; go_simp; exact hKv)
     intro Kd hKd
     go_simp
     refine hKd _ ?_
     clear hKd Kd
     refine anyI_end (by kernel_rfl) (HF.out.i2) (hQd _ _ ?_)
     clear hQd Qd
     go_wp2_with fail
     go_meet
     exact ⟨wt.heap.size, w1.heap.size, A, c, D, d, P, cp, T, ct, L, cl, rfl, rfl, congrArg (Value.int .i64) w1_ok.1, HF.out.tj, HF.out.i2, HF.out.g6⟩
    ·skip
     go_wp2
     have HR := Lib.hid (HR.out.al5 (w1.heap.size + 1) (by simp))
     refine anyI_one' 2 rfl (by kernel_rfl) (HR.out.below) (fun Kd hKd => ?_)
     go_wp2_with (go_at_call 11; go_must (refine (take_any wB none 0 none 0 wP1 _ (HEV.out.at_.below HR.out.below) HEV.out.nl (by decide)).mono ?_); rintro r wt ⟨A, c, D, d, P, cp, T, ct, L, cl, rfl, hpost⟩)
     obtain ⟨hto, hbt⟩ := to_of hpost
     have HTO := Lib.hid hto
     have HT := Lib.hid (Rt.start HR.out hbt)
     clear hpost hto hbt
     apply anyI_step 3 rfl (by kernel_rfl)
     focus (intro wI hI Kv hKv; go_simp; exact hKv)
     intro Kd hKd
     go_simp
     refine hKd _ ?_
     clear hKd Kd
     apply anyI_step 4 rfl (by kernel_rfl)
     focus (intro wI hI Kv hKv; go_simp; exact hKv)
     intro Kd hKd
     go_simp
     refine hKd _ ?_
     clear hKd Kd
     apply anyI_step 5 rfl (by kernel_rfl)
     focus (intro wI hI Kv hKv; go_simp; exact hKv)
     intro Kd hKd
     go_simp
     refine hKd _ ?_
     clear hKd Kd
     apply anyI_step 6 rfl (by kernel_rfl)
     focus (intro wI hI Kv hKv; go_simp; exact hKv)
     intro Kd hKd
     go_simp
     refine hKd _ ?_
     clear hKd Kd
     have HF := Lib.hid (rt_fin d cp HT.out HTO.out)
     refine anyI_one' 9 rfl (by kernel_rfl) (HF.out.i0) (fun Kd hKd => ?_)
     refine wpList_store26 rfl _ _ rfl HF.out.h5 rfl rfl ?_
     refine ⟨rfl, hKd _ _ ?_⟩
     clear hKd Kd
     refine anyI_one' 10 rfl (by kernel_rfl) (HF.out.i1) (fun Kd hKd => ?_)
     refine wpList_store47 rfl _ _ rfl HF.out.h6 rfl rfl ?_
     refine ⟨rfl, hKd _ _ ?_⟩
     clear hKd Kd
     apply anyI_step 11 rfl (by kernel_rfl)
     focus (intro wI hI Kv hKv; go_simp; exact hKv)
     intro Kd hKd
     go_simp
     refine hKd _ ?_
     clear hKd Kd
     refine anyI_end (by kernel_rfl) (HF.out.i2) (hQd _ _ ?_)
     clear hQd Qd
     go_wp2_with fail
     go_meet
     exact ⟨w1.heap.size + 1, w1.heap.size, A, c, D, d, P, cp, T, ct, L, cl, rfl, rfl, congrArg (Value.int .i64) w1_ok.1, HF.out.tj, HF.out.i2, HF.out.g6⟩
  ·skip
   go_wp2
   have HR := Lib.hid (HR.out.al5 (V.heap.size) (by simp))
   refine anyI_two' 1 8 rfl rfl (by kernel_rfl) (HR.out.below) (fun Kd hKd => ?_) (fun Kd hKd => ?_)
   ·skip
    go_wp2_with (go_at_call 36; go_must (refine (data33_any 1 5 2 tZ 0 0 _).mono ?_); rintro r w1 ⟨rfl, hB1⟩)
    have HR := Lib.hid (HR.out.call hB1)
    clear hB1
    refine anyI_two' 2 8 rfl rfl (by kernel_rfl) (HR.out.below) (fun Kd hKd => ?_) (fun Kd hKd => ?_)
    ·skip
     go_wp2_with (go_at_call 11; go_must (refine (take_any wB none 0 none 0 wP1 _ (HEV.out.at_.below HR.out.below) HEV.out.nl (by decide)).mono ?_); rintro r wt ⟨A, c, D, d, P, cp, T, ct, L, cl, rfl, hpost⟩)
     obtain ⟨hto, hbt⟩ := to_of hpost
     have HTO := Lib.hid hto
     have HT := Lib.hid (Rt.start HR.out hbt)
     clear hpost hto hbt
     apply anyI_step 3 rfl (by kernel_rfl)
     focus (intro wI hI Kv hKv; go_simp; exact hKv)
     intro Kd hKd
     go_simp
     refine hKd _ ?_
     clear hKd Kd
     apply anyI_step 4 rfl (by kernel_rfl)
     focus (intro wI hI Kv hKv; go_simp; exact hKv)
     intro Kd hKd
     go_simp
     refine hKd _ ?_
     clear hKd Kd
     apply anyI_step 5 rfl (by kernel_rfl)
     focus (intro wI hI Kv hKv; go_simp; exact hKv)
     intro Kd hKd
     go_simp
     refine hKd _ ?_
     clear hKd Kd
     apply anyI_step 6 rfl (by kernel_rfl)
     focus (intro wI hI Kv hKv; go_simp; exact hKv)
     intro Kd hKd
     go_simp
     refine hKd _ ?_
     clear hKd Kd
     refine anyI_one' 8 rfl (by kernel_rfl) (HT.out.rg.below) (fun Kd hKd => ?_)
     go_wp2
     have HT := Lib.hid (HT.out.al6 (wt.heap.size) (by simp))
     have HF := Lib.hid (rt_fin d cp HT.out HTO.out)
     refine anyI_one' 9 rfl (by kernel_rfl) (HF.out.i0) (fun Kd hKd => ?_)
     refine wpList_store26 rfl _ _ rfl HF.out.h5 rfl rfl ?_
     refine ⟨rfl, hKd _ _ ?_⟩
     clear hKd Kd
     refine anyI_one' 10 rfl (by kernel_rfl) (HF.out.i1) (fun Kd hKd => ?_)
     refine wpList_store47 rfl _ _ rfl HF.out.h6 rfl rfl ?_
     refine ⟨rfl, hKd _ _ ?_⟩
     clear hKd Kd
     apply anyI_step 11 rfl (by kernel_rfl)
     focus (intro wI hI Kv hKv; go_simp; exact hKv)
     intro Kd hKd
     go_simp
     refine hKd _ ?_
     clear hKd Kd
     refine anyI_end (by kernel_rfl) (HF.out.i2) (hQd _ _ ?_)
     clear hQd Qd
     go_wp2_with fail
     go_meet
     exact ⟨V.heap.size, wt.heap.size, A, c, D, d, P, cp, T, ct, L, cl, rfl, rfl, congrArg (Value.int .i64) w1_ok.1, HF.out.tj, HF.out.i2, HF.out.g6⟩
    ·skip
     go_wp2
     have HR := Lib.hid (HR.out.al6 (w1.heap.size) (by simp))
     refine anyI_one' 2 rfl (by kernel_rfl) (HR.out.below) (fun Kd hKd => ?_)
     go_wp2_with (go_at_call 11; go_must (refine (take_any wB none 0 none 0 wP1 _ (HEV.out.at_.below HR.out.below) HEV.out.nl (by decide)).mono ?_); rintro r wt ⟨A, c, D, d, P, cp, T, ct, L, cl, rfl, hpost⟩)
     obtain ⟨hto, hbt⟩ := to_of hpost
     have HTO := Lib.hid hto
     have HT := Lib.hid (Rt.start HR.out hbt)
     clear hpost hto hbt
     apply anyI_step 3 rfl (by kernel_rfl)
     focus (intro wI hI Kv hKv; go_simp; exact hKv)
     intro Kd hKd
     go_simp
     refine hKd _ ?_
     clear hKd Kd
     apply anyI_step 4 rfl (by kernel_rfl)
     focus (intro wI hI Kv hKv; go_simp; exact hKv)
     intro Kd hKd
     go_simp
     refine hKd _ ?_
     clear hKd Kd
     apply anyI_step 5 rfl (by kernel_rfl)
     focus (intro wI hI Kv hKv; go_simp; exact hKv)
     intro Kd hKd
     go_simp
     refine hKd _ ?_
     clear hKd Kd
     apply anyI_step 6 rfl (by kernel_rfl)
     focus (intro wI hI Kv hKv; go_simp; exact hKv)
     intro Kd hKd
     go_simp
     refine hKd _ ?_
     clear hKd Kd
     have HF := Lib.hid (rt_fin d cp HT.out HTO.out)
     refine anyI_one' 9 rfl (by kernel_rfl) (HF.out.i0) (fun Kd hKd => ?_)
     refine wpList_store26 rfl _ _ rfl HF.out.h5 rfl rfl ?_
     refine ⟨rfl, hKd _ _ ?_⟩
     clear hKd Kd
     refine anyI_one' 10 rfl (by kernel_rfl) (HF.out.i1) (fun Kd hKd => ?_)
     refine wpList_store47 rfl _ _ rfl HF.out.h6 rfl rfl ?_
     refine ⟨rfl, hKd _ _ ?_⟩
     clear hKd Kd
     apply anyI_step 11 rfl (by kernel_rfl)
     focus (intro wI hI Kv hKv; go_simp; exact hKv)
     intro Kd hKd
     go_simp
     refine hKd _ ?_
     clear hKd Kd
     refine anyI_end (by kernel_rfl) (HF.out.i2) (hQd _ _ ?_)
     clear hQd Qd
     go_wp2_with fail
     go_meet
     exact ⟨V.heap.size, w1.heap.size, A, c, D, d, P, cp, T, ct, L, cl, rfl, rfl, congrArg (Value.int .i64) w1_ok.1, HF.out.tj, HF.out.i2, HF.out.g6⟩
   ·skip
    go_wp2
    have HR := Lib.hid (HR.out.al6 (V.heap.size + 1) (by simp))
    refine anyI_one' 1 rfl (by kernel_rfl) (HR.out.below) (fun Kd hKd => ?_)
    go_wp2_with (go_at_call 36; go_must (refine (data33_any 1 5 2 tZ 0 0 _).mono ?_); rintro r w1 ⟨rfl, hB1⟩)
    have HR := Lib.hid (HR.out.call hB1)
    clear hB1
    refine anyI_one' 2 rfl (by kernel_rfl) (HR.out.below) (fun Kd hKd => ?_)
    go_wp2_with (go_at_call 11; go_must (refine (take_any wB none 0 none 0 wP1 _ (HEV.out.at_.below HR.out.below) HEV.out.nl (by decide)).mono ?_); rintro r wt ⟨A, c, D, d, P, cp, T, ct, L, cl, rfl, hpost⟩)
    obtain ⟨hto, hbt⟩ := to_of hpost
    have HTO := Lib.hid hto
    have HT := Lib.hid (Rt.start HR.out hbt)
    clear hpost hto hbt
    apply anyI_step 3 rfl (by kernel_rfl)
    focus (intro wI hI Kv hKv; go_simp; exact hKv)
    intro Kd hKd
    go_simp
    refine hKd _ ?_
    clear hKd Kd
    apply anyI_step 4 rfl (by kernel_rfl)
    focus (intro wI hI Kv hKv; go_simp; exact hKv)
    intro Kd hKd
    go_simp
    refine hKd _ ?_
    clear hKd Kd
    apply anyI_step 5 rfl (by kernel_rfl)
    focus (intro wI hI Kv hKv; go_simp; exact hKv)
    intro Kd hKd
    go_simp
    refine hKd _ ?_
    clear hKd Kd
    apply anyI_step 6 rfl (by kernel_rfl)
    focus (intro wI hI Kv hKv; go_simp; exact hKv)
    intro Kd hKd
    go_simp
    refine hKd _ ?_
    clear hKd Kd
    have HF := Lib.hid (rt_fin d cp HT.out HTO.out)
    refine anyI_one' 9 rfl (by kernel_rfl) (HF.out.i0) (fun Kd hKd => ?_)
    refine wpList_store26 rfl _ _ rfl HF.out.h5 rfl rfl ?_
    refine ⟨rfl, hKd _ _ ?_⟩
    clear hKd Kd
    refine anyI_one' 10 rfl (by kernel_rfl) (HF.out.i1) (fun Kd hKd => ?_)
    refine wpList_store47 rfl _ _ rfl HF.out.h6 rfl rfl ?_
    refine ⟨rfl, hKd _ _ ?_⟩
    clear hKd Kd
    apply anyI_step 11 rfl (by kernel_rfl)
    focus (intro wI hI Kv hKv; go_simp; exact hKv)
    intro Kd hKd
    go_simp
    refine hKd _ ?_
    clear hKd Kd
    refine anyI_end (by kernel_rfl) (HF.out.i2) (hQd _ _ ?_)
    clear hQd Qd
    go_wp2_with fail
    go_meet
    exact ⟨V.heap.size, V.heap.size + 1, A, c, D, d, P, cp, T, ct, L, cl, rfl, rfl, congrArg (Value.int .i64) w1_ok.1, HF.out.tj, HF.out.i2, HF.out.g6⟩
  ·skip
   go_wp2
   have HR := Lib.hid (HR.out.al6 (V.heap.size) (by simp))
   refine anyI_two' 1 7 rfl rfl (by kernel_rfl) (HR.out.below) (fun Kd hKd => ?_) (fun Kd hKd => ?_)
   ·skip
    go_wp2_with (go_at_call 36; go_must (refine (data33_any 1 5 2 tZ 0 0 _).mono ?_); rintro r w1 ⟨rfl, hB1⟩)
    have HR := Lib.hid (HR.out.call hB1)
    clear hB1
    refine anyI_two' 2 7 rfl rfl (by kernel_rfl) (HR.out.below) (fun Kd hKd => ?_) (fun Kd hKd => ?_)
    ·skip
     go_wp2_with (go_at_call 11; go_must (refine (take_any wB none 0 none 0 wP1 _ (HEV.out.at_.below HR.out.below) HEV.out.nl (by decide)).mono ?_); rintro r wt ⟨A, c, D, d, P, cp, T, ct, L, cl, rfl, hpost⟩)
     obtain ⟨hto, hbt⟩ := to_of hpost
     have HTO := Lib.hid hto
     have HT := Lib.hid (Rt.start HR.out hbt)
     clear hpost hto hbt
     apply anyI_step 3 rfl (by kernel_rfl)
     focus (intro wI hI Kv hKv; go_simp; exact hKv)
     intro Kd hKd
     go_simp
     refine hKd _ ?_
     clear hKd Kd
     apply anyI_step 4 rfl (by kernel_rfl)
     focus (intro wI hI Kv hKv; go_simp; exact hKv)
     intro Kd hKd
     go_simp
     refine hKd _ ?_
     clear hKd Kd
     apply anyI_step 5 rfl (by kernel_rfl)
     focus (intro wI hI Kv hKv; go_simp; exact hKv)
     intro Kd hKd
     go_simp
     refine hKd _ ?_
     clear hKd Kd
     apply anyI_step 6 rfl (by kernel_rfl)
     focus (intro wI hI Kv hKv; go_simp; exact hKv)
     intro Kd hKd
     go_simp
     refine hKd _ ?_
     clear hKd Kd
     refine anyI_one' 7 rfl (by kernel_rfl) (HT.out.rg.below) (fun Kd hKd => ?_)
     go_wp2
     have HT := Lib.hid (HT.out.al5 (wt.heap.size) (by simp))
     have HF := Lib.hid (rt_fin d cp HT.out HTO.out)
     refine anyI_one' 9 rfl (by kernel_rfl) (HF.out.i0) (fun Kd hKd => ?_)
     refine wpList_store26 rfl _ _ rfl HF.out.h5 rfl rfl ?_
     refine ⟨rfl, hKd _ _ ?_⟩
     clear hKd Kd
     refine anyI_one' 10 rfl (by kernel_rfl) (HF.out.i1) (fun Kd hKd => ?_)
     refine wpList_store47 rfl _ _ rfl HF.out.h6 rfl rfl ?_
     refine ⟨rfl, hKd _ _ ?_⟩
     clear hKd Kd
     apply anyI_step 11 rfl (by kernel_rfl)
     focus (intro wI hI Kv hKv; go_simp; exact hKv)
     intro Kd hKd
     go_simp
     refine hKd _ ?_
     clear hKd Kd
     refine anyI_end (by kernel_rfl) (HF.out.i2) (hQd _ _ ?_)
     clear hQd Qd
     go_wp2_with fail
     go_meet
     exact ⟨wt.heap.size, V.heap.size, A, c, D, d, P, cp, T, ct, L, cl, rfl, rfl, congrArg (Value.int .i64) w1_ok.1, HF.out.tj, HF.out.i2, HF.out.g6⟩
    ·skip
     go_wp2
     have HR := Lib.hid (HR.out.al5 (w1.heap.size) (by simp))
     refine anyI_one' 2 rfl (by kernel_rfl) (HR.out.below) (fun Kd hKd => ?_)
     go_wp2_with (go_at_call 11; go_must (refine (take_any wB none 0 none 0 wP1 _ (HEV.out.at_.below HR.out.below) HEV.out.nl (by decide)).mono ?_); rintro r wt ⟨A, c, D, d, P, cp, T, ct, L, cl, rfl, hpost⟩)
     obtain ⟨hto, hbt⟩ := to_of hpost
     have HTO := Lib.hid hto
     have HT := Lib.hid (Rt.start HR.out hbt)
     clear hpost hto hbt
     apply anyI_step 3 rfl (by kernel_rfl)
     focus (intro wI hI Kv hKv; go_simp; exact hKv)
     intro Kd hKd
     go_simp
     refine hKd _ ?_
     clear hKd Kd
     apply anyI_step 4 rfl (by kernel_rfl)
     focus (intro wI hI Kv hKv; go_simp; exact hKv)
     intro Kd hKd
     go_simp
     refine hKd _ ?_
     clear hKd Kd
     apply anyI_step 5 rfl (by kernel_rfl)
     focus (intro wI hI Kv hKv; go_simp; exact hKv)
     intro Kd hKd
     go_simp
     refine hKd _ ?_
     clear hKd Kd
     apply anyI_step 6 rfl (by kernel_rfl)
     focus (intro wI hI Kv hKv; go_simp; exact hKv)
     intro Kd hKd
     go_simp
     refine hKd _ ?_
     clear hKd Kd
     have HF := Lib.hid (rt_fin d cp HT.out HTO.out)
     refine anyI_one' 9 rfl (by kernel_rfl) (HF.out.i0) (fun Kd hKd => ?_)
     refine wpList_store26 rfl _ _ rfl HF.out.h5 rfl rfl ?_
     refine ⟨rfl, hKd _ _ ?_⟩
     clear hKd Kd
     refine anyI_one' 10 rfl (by kernel_rfl) (HF.out.i1) (fun Kd hKd => ?_)
     refine wpList_store47 rfl _ _ rfl HF.out.h6 rfl rfl ?_
     refine ⟨rfl, hKd _ _ ?_⟩
     clear hKd Kd
     apply anyI_step 11 rfl (by kernel_rfl)
     focus (intro wI hI Kv hKv; go_simp; exact hKv)
     intro Kd hKd
     go_simp
     refine hKd _ ?_
     clear hKd Kd
     refine anyI_end (by kernel_rfl) (HF.out.i2) (hQd _ _ ?_)
     clear hQd Qd
     go_wp2_with fail
     go_meet
     exact ⟨w1.heap.size, V.heap.size, A, c, D, d, P, cp, T, ct, L, cl, rfl, rfl, congrArg (Value.int .i64) w1_ok.1, HF.out.tj, HF.out.i2, HF.out.g6⟩
   ·skip
    go_wp2
    have HR := Lib.hid (HR.out.al5 (V.heap.size + 1) (by simp))
    refine anyI_one' 1 rfl (by kernel_rfl) (HR.out.below) (fun Kd hKd => ?_)
    go_wp2_with (go_at_call 36; go_must (refine (data33_any 1 5 2 tZ 0 0 _).mono ?_); rintro r w1 ⟨rfl, hB1⟩)
    have HR := Lib.hid (HR.out.call hB1)
    clear hB1
    refine anyI_one' 2 rfl (by kernel_rfl) (HR.out.below) (fun Kd hKd => ?_)
    go_wp2_with (go_at_call 11; go_must (refine (take_any wB none 0 none 0 wP1 _ (HEV.out.at_.below HR.out.below) HEV.out.nl (by decide)).mono ?_); rintro r wt ⟨A, c, D, d, P, cp, T, ct, L, cl, rfl, hpost⟩)
    obtain ⟨hto, hbt⟩ := to_of hpost
    have HTO := Lib.hid hto
    have HT := Lib.hid (Rt.start HR.out hbt)
    clear hpost hto hbt
    apply anyI_step 3 rfl (by kernel_rfl)
    focus (intro wI hI Kv hKv; go_simp; exact hKv)
    intro Kd hKd
    go_simp
    refine hKd _ ?_
    clear hKd Kd
    apply anyI_step 4 rfl (by kernel_rfl)
    focus (intro wI hI Kv hKv; go_simp; exact hKv)
    intro Kd hKd
    go_simp
    refine hKd _ ?_
    clear hKd Kd
    apply anyI_step 5 rfl (by kernel_rfl)
    focus (intro wI hI Kv hKv; go_simp; exact hKv)
    intro Kd hKd
    go_simp
    refine hKd _ ?_
    clear hKd Kd
    apply anyI_step 6 rfl (by kernel_rfl)
    focus (intro wI hI Kv hKv; go_simp; exact hKv)
    intro Kd hKd
    go_simp
    refine hKd _ ?_
    clear hKd Kd
    have HF := Lib.hid (rt_fin d cp HT.out HTO.out)
    refine anyI_one' 9 rfl (by kernel_rfl) (HF.out.i0) (fun Kd hKd => ?_)
    refine wpList_store26 rfl _ _ rfl HF.out.h5 rfl rfl ?_
    refine ⟨rfl, hKd _ _ ?_⟩
    clear hKd Kd
    refine anyI_one' 10 rfl (by kernel_rfl) (HF.out.i1) (fun Kd hKd => ?_)
    refine wpList_store47 rfl _ _ rfl HF.out.h6 rfl rfl ?_
    refine ⟨rfl, hKd _ _ ?_⟩
    clear hKd Kd
    apply anyI_step 11 rfl (by kernel_rfl)
    focus (intro wI hI Kv hKv; go_simp; exact hKv)
    intro Kd hKd
    go_simp
    refine hKd _ ?_
    clear hKd Kd
    refine anyI_end (by kernel_rfl) (HF.out.i2) (hQd _ _ ?_)
    clear hQd Qd
    go_wp2_with fail
    go_meet
    exact ⟨V.heap.size + 1, V.heap.size, A, c, D, d, P, cp, T, ct, L, cl, rfl, rfl, congrArg (Value.int .i64) w1_ok.1, HF.out.tj, HF.out.i2, HF.out.g6⟩
 case rest =>
  obtain ⟨b2, b3, A, c, D, d, P, cp, T, ct, L, cl, rfl, rfl, rfl, htj, hbx, hg3⟩ := hcut
  have HG3' : Hid (w.heap.size ≤ b3) := Lib.hid (Nat.le_trans HBV.out.size hg3)
  clear hg3
  obtain ⟨X, rfl⟩ : ∃ X, X = wc := ⟨wc, rfl⟩
  have HJ1 := Lib.hid htj
  have HBX : Hid (Below w.heap.size w X) := HBV.out.trans (hbx.mono HBV.out.size)
  clear htj hbx HEV HKV HBV hvl
  go_upto_region 3 with fail
  go_cut [5, 6, 7] from 14 (fun v2 v3 v4 wx => ∃ b5 b6 A c D d P cp T ct L cl, v2 = .pointer (some ⟨b5, 0, none⟩) ∧ v3 = .pointer (some ⟨b6, 0, none⟩) ∧ v4 = .int .i64 0 ∧ Tj wx (takeA wC wP2) b5 b6 A c D d P cp T ct L cl ∧ Below X.heap.size X wx ∧ X.heap.size ≤ b6)
  case first => as_aux_lemma =>
   have HR := Lib.hid (Rg.start X)
   have HEX : Hid (EnT X wC A c D) := HJ1.out.en
   have hl5 := HJ1.out.k5.lt
   refine draw (fun w' => Below X.heap.size X w') 12 rfl (by kernel_rfl) (fun Qd hQd => ?_)
   apply anyI_step 0 rfl (by kernel_rfl)
   focus (intro wI hI Kv hKv; have q9 := HJ1.out.k5.below hI hl5; have c0 := q9.cell 0 (v := .int .i64 (takeA wB wP1).1.life) rfl; have c1 := q9.cell 1 (v := .int .i64 (takeA wB wP1).1.peer) rfl; have c2 := q9.cell 2 (v := .int .i64 (takeA wB wP1).1.phase) rfl; have c3 := q9.cell 3 (v := .int .i64 (takeA wB wP1).1.base) rfl; have c4 := q9.cell 4 (v := .slice A (takeA wB wP1).1.out.length c) rfl; have c5 := q9.cell 5 (v := .int .i64 (takeA wB wP1).1.want) rfl; have c6 := q9.cell 6 (v := .slice D (takeA wB wP1).1.inn.length d) rfl; go_simp; exact hKv)
   intro Kd hKd
   go_simp
   refine hKd _ ?_
   clear hKd Kd
   refine anyI_three' 1 7 8 rfl rfl rfl (by kernel_rfl) (HR.out.below) (fun Kd hKd => ?_) (fun Kd hKd => ?_) (fun Kd hKd => ?_)
   ·skip
    go_wp2_with (go_at_call 36; go_must (refine (data33_any 1 5 0 tX 0 0 _).mono ?_); rintro r w1 ⟨rfl, hB1⟩)
    have HR := Lib.hid (HR.out.call hB1)
    clear hB1
    refine anyI_three' 2 7 8 rfl rfl rfl (by kernel_rfl) (HR.out.below) (fun Kd hKd => ?_) (fun Kd hKd => ?_) (fun Kd hKd => ?_)
    ·skip
     go_wp2_with (go_at_call 11; go_must (refine (take_any wC A c D d wP2 _ (HEX.out.at_.below HR.out.below) HEX.out.nl (by decide)).mono ?_); rintro r wt ⟨A, c, D, d, P, cp, T, ct, L, cl, rfl, hpost⟩)
     obtain ⟨hto, hbt⟩ := to_of hpost
     have HTO := Lib.hid hto
     have HT := Lib.hid (Rt.start HR.out hbt)
     clear hpost hto hbt
     apply anyI_step 3 rfl (by kernel_rfl)
     focus (intro wI hI Kv hKv; go_simp; exact hKv)
     intro Kd hKd
     go_simp
     refine hKd _ ?_
     clear hKd Kd
     apply anyI_step 4 rfl (by kernel_rfl)
     focus (intro wI hI Kv hKv; go_simp; exact hKv)
     intro Kd hKd
     go_simp
     refine hKd _ ?_
     clear hKd Kd
     apply anyI_step 5 rfl (by kernel_rfl)
     focus (intro wI hI Kv hKv; go_simp; exact hKv)
     intro Kd hKd
     go_simp
     refine hKd _ ?_
     clear hKd Kd
     apply anyI_step 6 rfl (by kernel_rfl)
     focus (intro wI hI Kv hKv; go_simp; exact hKv)
     intro Kd hKd
     go_simp
     refine hKd _ ?_
     clear hKd Kd
     refine anyI_two' 7 8 rfl rfl (by kernel_rfl) (HT.out.rg.below) (fun Kd hKd => ?_) (fun Kd hKd => ?_)
     ·skip
      go_wp2
      have HT := Lib.hid (HT.out.al5 (wt.heap.size) (by simp))
      refine anyI_one' 8 rfl (by kernel_rfl) (HT.out.rg.below) (fun Kd hKd => ?_)
      go_wp2
      have HT := Lib.hid (HT.out.al6 (wt.heap.size + 1) (by simp))
      have HF := Lib.hid (rt_fin d cp HT.out HTO.out)
      refine anyI_one' 9 rfl (by kernel_rfl) (HF.out.i0) (fun Kd hKd => ?_)
      refine wpList_store26 rfl _ _ rfl HF.out.h5 rfl rfl ?_
      refine ⟨rfl, hKd _ _ ?_⟩
      clear hKd Kd
      refine anyI_one' 10 rfl (by kernel_rfl) (HF.out.i1) (fun Kd hKd => ?_)
      refine wpList_store47 rfl _ _ rfl HF.out.h6 rfl rfl ?_
      refine ⟨rfl, hKd _ _ ?_⟩
      clear hKd Kd
      apply anyI_step 11 rfl (by kernel_rfl)
      focus (intro wI hI Kv hKv; go_simp; exact hKv)
      intro Kd hKd
      go_simp
      refine hKd _ ?_
      clear hKd Kd
      refine anyI_end (by kernel_rfl) (HF.out.i2) (hQd _ _ ?_)
      clear hQd Qd
      go_wp2_with fail
      go_meet
      exact ⟨wt.heap.size, wt.heap.size + 1, A, c, D, d, P, cp, T, ct, L, cl, rfl, rfl, congrArg (Value.int .i64) w2_ok.1, HF.out.tj, HF.out.i2, HF.out.g6⟩
     ·skip
      go_wp2
      have HT := Lib.hid (HT.out.al6 (wt.heap.size) (by simp))
      refine anyI_one' 7 rfl (by kernel_rfl) (HT.out.rg.below) (fun Kd hKd => ?_)
      go_wp2
      have HT := Lib.hid (HT.out.al5 (wt.heap.size + 1) (by simp))
      have HF := Lib.hid (rt_fin d cp HT.out HTO.out)
      refine anyI_one' 9 rfl (by kernel_rfl) (HF.out.i0) (fun Kd hKd => ?_)
      refine wpList_store26 rfl _ _ rfl HF.out.h5 rfl rfl ?_
      refine ⟨rfl, hKd _ _ ?_⟩
      clear hKd Kd
      refine anyI_one' 10 rfl (by kernel_rfl) (HF.out.i1) (fun Kd hKd => ?_)
      refine wpList_store47 rfl _ _ rfl HF.out.h6 rfl rfl ?_
      refine ⟨rfl, hKd _ _ ?_⟩
      clear hKd Kd
      apply anyI_step 11 rfl (by kernel_rfl)
      focus (intro wI hI Kv hKv; go_simp; exact hKv)
      intro Kd hKd
      go_simp
      refine hKd _ ?_
      clear hKd Kd
      refine anyI_end (by kernel_rfl) (HF.out.i2) (hQd _ _ ?_)
      clear hQd Qd
      go_wp2_with fail
      go_meet
      exact ⟨wt.heap.size + 1, wt.heap.size, A, c, D, d, P, cp, T, ct, L, cl, rfl, rfl, congrArg (Value.int .i64) w2_ok.1, HF.out.tj, HF.out.i2, HF.out.g6⟩
    ·skip
     go_wp2
     have HR := Lib.hid (HR.out.al5 (w1.heap.size) (by simp))
     refine anyI_two' 2 8 rfl rfl (by kernel_rfl) (HR.out.below) (fun Kd hKd => ?_) (fun Kd hKd => ?_)
     ·skip
      go_wp2_with (go_at_call 11; go_must (refine (take_any wC A c D d wP2 _ (HEX.out.at_.below HR.out.below) HEX.out.nl (by decide)).mono ?_); rintro r wt ⟨A, c, D, d, P, cp, T, ct, L, cl, rfl, hpost⟩)
      obtain ⟨hto, hbt⟩ := to_of hpost
      have HTO := Lib.hid hto
      have HT := Lib.hid (Rt.start HR.out hbt)
      clear hpost hto hbt
      apply anyI_step 3 rfl (by kernel_rfl)
      focus (intro wI hI Kv hKv; go_simp; exact hKv)
      intro Kd hKd
      go_simp
      refine hKd _ ?_
      clear hKd Kd
      apply anyI_step 4 rfl (by kernel_rfl)
      focus (intro wI hI Kv hKv; go_simp; exact hKv)
      intro Kd hKd
      go_simp
      refine hKd _ ?_
      clear hKd Kd
      apply anyI_step 5 rfl (by kernel_rfl)
      focus (intro wI hI Kv hKv; go_simp; exact hKv)
      intro Kd hKd
      go_simp
      refine hKd _ ?_
      clear hKd Kd
      apply anyI_step 6 rfl (by kernel_rfl)
      focus (intro wI hI Kv hKv; go_simp; exact hKv)
      intro Kd hKd
      go_simp
      refine hKd _ ?_
      clear hKd Kd
      refine anyI_one' 8 rfl (by kernel_rfl) (HT.out.rg.below) (fun Kd hKd => ?_)
      go_wp2
      have HT := Lib.hid (HT.out.al6 (wt.heap.size) (by simp))
      have HF := Lib.hid (rt_fin d cp HT.out HTO.out)
      refine anyI_one' 9 rfl (by kernel_rfl) (HF.out.i0) (fun Kd hKd => ?_)
      refine wpList_store26 rfl _ _ rfl HF.out.h5 rfl rfl ?_
      refine ⟨rfl, hKd _ _ ?_⟩
      clear hKd Kd
      refine anyI_one' 10 rfl (by kernel_rfl) (HF.out.i1) (fun Kd hKd => ?_)
      refine wpList_store47 rfl _ _ rfl HF.out.h6 rfl rfl ?_
      refine ⟨rfl, hKd _ _ ?_⟩
      clear hKd Kd
      apply anyI_step 11 rfl (by kernel_rfl)
      focus (intro wI hI Kv hKv; go_simp; exact hKv)
      intro Kd hKd
      go_simp
      refine hKd _ ?_
      clear hKd Kd
      refine anyI_end (by kernel_rfl) (HF.out.i2) (hQd _ _ ?_)
      clear hQd Qd
      go_wp2_with fail
      go_meet
      exact ⟨w1.heap.size, wt.heap.size, A, c, D, d, P, cp, T, ct, L, cl, rfl, rfl, congrArg (Value.int .i64) w2_ok.1, HF.out.tj, HF.out.i2, HF.out.g6⟩
     ·skip
      go_wp2
      have HR := Lib.hid (HR.out.al6 (w1.heap.size + 1) (by simp))
      refine anyI_one' 2 rfl (by kernel_rfl) (HR.out.below) (fun Kd hKd => ?_)
      go_wp2_with (go_at_call 11; go_must (refine (take_any wC A c D d wP2 _ (HEX.out.at_.below HR.out.below) HEX.out.nl (by decide)).mono ?_); rintro r wt ⟨A, c, D, d, P, cp, T, ct, L, cl, rfl, hpost⟩)
      obtain ⟨hto, hbt⟩ := to_of hpost
      have HTO := Lib.hid hto
      have HT := Lib.hid (Rt.start HR.out hbt)
      clear hpost hto hbt
      apply anyI_step 3 rfl (by kernel_rfl)
      focus (intro wI hI Kv hKv; go_simp; exact hKv)
      intro Kd hKd
      go_simp
      refine hKd _ ?_
      clear hKd Kd
      apply anyI_step 4 rfl (by kernel_rfl)
      focus (intro wI hI Kv hKv; go_simp; exact hKv)
      intro Kd hKd
      go_simp
      refine hKd _ ?_
      clear hKd Kd
      apply anyI_step 5 rfl (by kernel_rfl)
      focus (intro wI hI Kv hKv; go_simp; exact hKv)
      intro Kd hKd
      go_simp
      refine hKd _ ?_
      clear hKd Kd
      apply anyI_step 6 rfl (by kernel_rfl)
      focus (intro wI hI Kv hKv; go_simp; exact hKv)
      intro Kd hKd
      go_simp
      refine hKd _ ?_
      clear hKd Kd
      have HF := Lib.hid (rt_fin d cp HT.out HTO.out)
      refine anyI_one' 9 rfl (by kernel_rfl) (HF.out.i0) (fun Kd hKd => ?_)
      refine wpList_store26 rfl _ _ rfl HF.out.h5 rfl rfl ?_
      refine ⟨rfl, hKd _ _ ?_⟩
      clear hKd Kd
      refine anyI_one' 10 rfl (by kernel_rfl) (HF.out.i1) (fun Kd hKd => ?_)
      refine wpList_store47 rfl _ _ rfl HF.out.h6 rfl rfl ?_
      refine ⟨rfl, hKd _ _ ?_⟩
      clear hKd Kd
      apply anyI_step 11 rfl (by kernel_rfl)
      focus (intro wI hI Kv hKv; go_simp; exact hKv)
      intro Kd hKd
      go_simp
      refine hKd _ ?_
      clear hKd Kd
      refine anyI_end (by kernel_rfl) (HF.out.i2) (hQd _ _ ?_)
      clear hQd Qd
      go_wp2_with fail
      go_meet
      exact ⟨w1.heap.size, w1.heap.size + 1, A, c, D, d, P, cp, T, ct, L, cl, rfl, rfl, congrArg (Value.int .i64) w2_ok.1, HF.out.tj, HF.out.i2, HF.out.g6⟩
    ·skip
     go_wp2
     have HR := Lib.hid (HR.out.al6 (w1.heap.size) (by simp))
     refine anyI_two' 2 7 rfl rfl (by kernel_rfl) (HR.out.below) (fun Kd hKd => ?_) (fun Kd hKd => ?_)
     ·skip
      go_wp2_with (go_at_call 11; go_must (refine (take_any wC A c D d wP2 _ (HEX.out.at_.below HR.out.below) HEX.out.nl (by decide)).mono ?_); rintro r wt ⟨A, c, D, d, P, cp, T, ct, L, cl, rfl, hpost⟩)
      obtain ⟨hto, hbt⟩ := to_of hpost
      have HTO := Lib.hid hto
      have HT := Lib.hid (Rt.start HR.out hbt)
      clear hpost hto hbt
      apply anyI_step 3 rfl (by kernel_rfl)
      focus (intro wI hI Kv hKv; go_simp; exact hKv)
      intro Kd hKd
      go_simp
      refine hKd _ ?_
      clear hKd Kd
      apply anyI_step 4 rfl (by kernel_rfl)
      focus (intro wI hI Kv hKv; go_simp; exact hKv)
      intro Kd hKd
      go_simp
      refine hKd _ ?_
      clear hKd Kd
      apply anyI_step 5 rfl (by kernel_rfl)
      focus (intro wI hI Kv hKv; go_simp; exact hKv)
      intro Kd hKd
      go_simp
      refine hKd _ ?_
      clear hKd Kd
      apply anyI_step 6 rfl (by kernel_rfl)
      focus (intro wI hI Kv hKv; go_simp; exact hKv)
      intro Kd hKd
      go_simp
      refine hKd _ ?_
      clear hKd Kd
      refine anyI_one' 7 rfl (by kernel_rfl) (HT.out.rg.below) (fun Kd hKd => ?_)
      go_wp2
      have HT := Lib.hid (HT.out.al5 (wt.heap.size) (by simp))
      have HF := Lib.hid (rt_fin d cp HT.out HTO.out)
      refine anyI_one' 9 rfl (by kernel_rfl) (HF.out.i0) (fun Kd hKd => ?_)
      refine wpList_store26 rfl _ _ rfl HF.out.h5 rfl rfl ?_
      refine ⟨rfl, hKd _ _ ?_⟩
      clear hKd Kd
      refine anyI_one' 10 rfl (by kernel_rfl) (HF.out.i1) (fun Kd hKd => ?_)
      refine wpList_store47 rfl _ _ rfl HF.out.h6 rfl rfl ?_
      refine ⟨rfl, hKd _ _ ?_⟩
      clear hKd Kd
      apply anyI_step 11 rfl (by kernel_rfl)
      focus (intro wI hI Kv hKv; go_simp; exact hKv)
      intro Kd hKd
      go_simp
      refine hKd _ ?_
      clear hKd Kd
      refine anyI_end (by kernel_rfl) (HF.out.i2) (hQd _ _ ?_)
      clear hQd Qd
      go_wp2_with fail
      go_meet
      exact ⟨wt.heap.size, w1.heap.size, A, c, D, d, P, cp, T, ct, L, cl, rfl, rfl, congrArg (Value.int .i64) w2_ok.1, HF.out.tj, HF.out.i2, HF.out.g6⟩
     ·skip
      go_wp2
      have HR := Lib.hid (HR.out.al5 (w1.heap.size + 1) (by simp))
      refine anyI_one' 2 rfl (by kernel_rfl) (HR.out.below) (fun Kd hKd => ?_)
      go_wp2_with (go_at_call 11; go_must (refine (take_any wC A c D d wP2 _ (HEX.out.at_.below HR.out.below) HEX.out.nl (by decide)).mono ?_); rintro r wt ⟨A, c, D, d, P, cp, T, ct, L, cl, rfl, hpost⟩)
      obtain ⟨hto, hbt⟩ := to_of hpost
      have HTO := Lib.hid hto
      have HT := Lib.hid (Rt.start HR.out hbt)
      clear hpost hto hbt
      apply anyI_step 3 rfl (by kernel_rfl)
      focus (intro wI hI Kv hKv; go_simp; exact hKv)
      intro Kd hKd
      go_simp
      refine hKd _ ?_
      clear hKd Kd
      apply anyI_step 4 rfl (by kernel_rfl)
      focus (intro wI hI Kv hKv; go_simp; exact hKv)
      intro Kd hKd
      go_simp
      refine hKd _ ?_
      clear hKd Kd
      apply anyI_step 5 rfl (by kernel_rfl)
      focus (intro wI hI Kv hKv; go_simp; exact hKv)
      intro Kd hKd
      go_simp
      refine hKd _ ?_
      clear hKd Kd
      apply anyI_step 6 rfl (by kernel_rfl)
      focus (intro wI hI Kv hKv; go_simp; exact hKv)
      intro Kd hKd
      go_simp
      refine hKd _ ?_
      clear hKd Kd
      have HF := Lib.hid (rt_fin d cp HT.out HTO.out)
      refine anyI_one' 9 rfl (by kernel_rfl) (HF.out.i0) (fun Kd hKd => ?_)
      refine wpList_store26 rfl _ _ rfl HF.out.h5 rfl rfl ?_
      refine ⟨rfl, hKd _ _ ?_⟩
      clear hKd Kd
      refine anyI_one' 10 rfl (by kernel_rfl) (HF.out.i1) (fun Kd hKd => ?_)
      refine wpList_store47 rfl _ _ rfl HF.out.h6 rfl rfl ?_
      refine ⟨rfl, hKd _ _ ?_⟩
      clear hKd Kd
      apply anyI_step 11 rfl (by kernel_rfl)
      focus (intro wI hI Kv hKv; go_simp; exact hKv)
      intro Kd hKd
      go_simp
      refine hKd _ ?_
      clear hKd Kd
      refine anyI_end (by kernel_rfl) (HF.out.i2) (hQd _ _ ?_)
      clear hQd Qd
      go_wp2_with fail
      go_meet
      exact ⟨w1.heap.size + 1, w1.heap.size, A, c, D, d, P, cp, T, ct, L, cl, rfl, rfl, congrArg (Value.int .i64) w2_ok.1, HF.out.tj, HF.out.i2, HF.out.g6⟩
   ·skip
    go_wp2
    have HR := Lib.hid (HR.out.al5 (X.heap.size) (by simp))
    refine anyI_two' 1 8 rfl rfl (by kernel_rfl) (HR.out.below) (fun Kd hKd => ?_) (fun Kd hKd => ?_)
    ·skip
     go_wp2_with (go_at_call 36; go_must (refine (data33_any 1 5 0 tX 0 0 _).mono ?_); rintro r w1 ⟨rfl, hB1⟩)
     have HR := Lib.hid (HR.out.call hB1)
     clear hB1
     refine anyI_two' 2 8 rfl rfl (by kernel_rfl) (HR.out.below) (fun Kd hKd => ?_) (fun Kd hKd => ?_)
     ·skip
      go_wp2_with (go_at_call 11; go_must (refine (take_any wC A c D d wP2 _ (HEX.out.at_.below HR.out.below) HEX.out.nl (by decide)).mono ?_); rintro r wt ⟨A, c, D, d, P, cp, T, ct, L, cl, rfl, hpost⟩)
      obtain ⟨hto, hbt⟩ := to_of hpost
      have HTO := Lib.hid hto
      have HT := Lib.hid (Rt.start HR.out hbt)
      clear hpost hto hbt
      apply anyI_step 3 rfl (by kernel_rfl)
      focus (intro wI hI Kv hKv; go_simp; exact hKv)
      intro Kd hKd
      go_simp
      refine hKd _ ?_
      clear hKd Kd
      apply anyI_step 4 rfl (by kernel_rfl)
      focus (intro wI hI Kv hKv; go_simp; exact hKv)
      intro Kd hKd
      go_simp
      refine hKd _ ?_
      clear hKd Kd
      apply anyI_step 5 rfl (by kernel_rfl)
      focus (intro wI hI Kv hKv; go_simp; exact hKv)
      intro Kd hKd
      go_simp
      refine hKd _ ?_
      clear hKd Kd
      apply anyI_step 6 rfl (by kernel_rfl)
      focus (intro wI hI Kv hKv; go_simp; exact hKv)
      intro Kd hKd
      go_simp
      refine hKd _ ?_
      clear hKd Kd
      refine anyI_one' 8 rfl (by kernel_rfl) (HT.out.rg.below) (fun Kd hKd => ?_)
      go_wp2
      have HT := Lib.hid (HT.out.al6 (wt.heap.size) (by simp))
      have HF := Lib.hid (rt_fin d cp HT.out HTO.out)
      refine anyI_one' 9 rfl (by kernel_rfl) (HF.out.i0) (fun Kd hKd => ?_)
      refine wpList_store26 rfl _ _ rfl HF.out.h5 rfl rfl ?_
      refine ⟨rfl, hKd _ _ ?_⟩
      clear hKd Kd
      refine anyI_one' 10 rfl (by kernel_rfl) (HF.out.i1) (fun Kd hKd => ?_)
      refine wpList_store47 rfl _ _ rfl HF.out.h6 rfl rfl ?_
      refine ⟨rfl, hKd _ _ ?_⟩
      clear hKd Kd
      apply anyI_step 11 rfl (by kernel_rfl)
      focus (intro wI hI Kv hKv; go_simp; exact hKv)
      intro Kd hKd
      go_simp
      refine hKd _ ?_
      clear hKd Kd
      refine anyI_end (by kernel_rfl) (HF.out.i2) (hQd _ _ ?_)
      clear hQd Qd
      go_wp2_with fail
      go_meet
      exact ⟨X.heap.size, wt.heap.size, A, c, D, d, P, cp, T, ct, L, cl, rfl, rfl, congrArg (Value.int .i64) w2_ok.1, HF.out.tj, HF.out.i2, HF.out.g6⟩
     ·skip
      go_wp2
      have HR := Lib.hid (HR.out.al6 (w1.heap.size) (by simp))
      refine anyI_one' 2 rfl (by kernel_rfl) (HR.out.below) (fun Kd hKd => ?_)
      go_wp2_with (go_at_call 11; go_must (refine (take_any wC A c D d wP2 _ (HEX.out.at_.below HR.out.below) HEX.out.nl (by decide)).mono ?_); rintro r wt ⟨A, c, D, d, P, cp, T, ct, L, cl, rfl, hpost⟩)
      obtain ⟨hto, hbt⟩ := to_of hpost
      have HTO := Lib.hid hto
      have HT := Lib.hid (Rt.start HR.out hbt)
      clear hpost hto hbt
      apply anyI_step 3 rfl (by kernel_rfl)
      focus (intro wI hI Kv hKv; go_simp; exact hKv)
      intro Kd hKd
      go_simp
      refine hKd _ ?_
      clear hKd Kd
      apply anyI_step 4 rfl (by kernel_rfl)
      focus (intro wI hI Kv hKv; go_simp; exact hKv)
      intro Kd hKd
      go_simp
      refine hKd _ ?_
      clear hKd Kd
      apply anyI_step 5 rfl (by kernel_rfl)
      focus (intro wI hI Kv hKv; go_simp; exact hKv)
      intro Kd hKd
      go_simp
      refine hKd _ ?_
      clear hKd Kd
      apply anyI_step 6 rfl (by kernel_rfl)
      focus (intro wI hI Kv hKv; go_simp; exact hKv)
      intro Kd hKd
      go_simp
      refine hKd _ ?_
      clear hKd Kd
      have HF := Lib.hid (rt_fin d cp HT.out HTO.out)
      refine anyI_one' 9 rfl (by kernel_rfl) (HF.out.i0) (fun Kd hKd => ?_)
      refine wpList_store26 rfl _ _ rfl HF.out.h5 rfl rfl ?_
      refine ⟨rfl, hKd _ _ ?_⟩
      clear hKd Kd
      refine anyI_one' 10 rfl (by kernel_rfl) (HF.out.i1) (fun Kd hKd => ?_)
      refine wpList_store47 rfl _ _ rfl HF.out.h6 rfl rfl ?_
      refine ⟨rfl, hKd _ _ ?_⟩
      clear hKd Kd
      apply anyI_step 11 rfl (by kernel_rfl)
      focus (intro wI hI Kv hKv; go_simp; exact hKv)
      intro Kd hKd
      go_simp
      refine hKd _ ?_
      clear hKd Kd
      refine anyI_end (by kernel_rfl) (HF.out.i2) (hQd _ _ ?_)
      clear hQd Qd
      go_wp2_with fail
      go_meet
      exact ⟨X.heap.size, w1.heap.size, A, c, D, d, P, cp, T, ct, L, cl, rfl, rfl, congrArg (Value.int .i64) w2_ok.1, HF.out.tj, HF.out.i2, HF.out.g6⟩
    ·skip
     go_wp2
     have HR := Lib.hid (HR.out.al6 (X.heap.size + 1) (by simp))
     refine anyI_one' 1 rfl (by kernel_rfl) (HR.out.below) (fun Kd hKd => ?_)
     go_wp2_with (go_at_call 36; go_must (refine (data33_any 1 5 0 tX 0 0 _).mono ?_); rintro r w1 ⟨rfl, hB1⟩)
     have HR := Lib.hid (HR.out.call hB1)
     clear hB1
     refine anyI_one' 2 rfl (by kernel_rfl) (HR.out.below) (fun Kd hKd => ?_)
     go_wp2_with (go_at_call 11; go_must (refine (take_any wC A c D d wP2 _ (HEX.out.at_.below HR.out.below) HEX.out.nl (by decide)).mono ?_); rintro r wt ⟨A, c, D, d, P, cp, T, ct, L, cl, rfl, hpost⟩)
     obtain ⟨hto, hbt⟩ := to_of hpost
     have HTO := Lib.hid hto
     have HT := Lib.hid (Rt.start HR.out hbt)
     clear hpost hto hbt
     apply anyI_step 3 rfl (by kernel_rfl)
     focus (intro wI hI Kv hKv; go_simp; exact hKv)
     intro Kd hKd
     go_simp
     refine hKd _ ?_
     clear hKd Kd
     apply anyI_step 4 rfl (by kernel_rfl)
     focus (intro wI hI Kv hKv; go_simp; exact hKv)
     intro Kd hKd
     go_simp
     refine hKd _ ?_
     clear hKd Kd
     apply anyI_step 5 rfl (by kernel_rfl)
     focus (intro wI hI Kv hKv; go_simp; exact hKv)
     intro Kd hKd
     go_simp
     refine hKd _ ?_
     clear hKd Kd
     apply anyI_step 6 rfl (by kernel_rfl)
     focus (intro wI hI Kv hKv; go_simp; exact hKv)
     intro Kd hKd
     go_simp
     refine hKd _ ?_
     clear hKd Kd
     have HF := Lib.hid (rt_fin d cp HT.out HTO.out)
     refine anyI_one' 9 rfl (by kernel_rfl) (HF.out.i0) (fun Kd hKd => ?_)
     refine wpList_store26 rfl _ _ rfl HF.out.h5 rfl rfl ?_
     refine ⟨rfl, hKd _ _ ?_⟩
     clear hKd Kd
     refine anyI_one' 10 rfl (by kernel_rfl) (HF.out.i1) (fun Kd hKd => ?_)
     refine wpList_store47 rfl _ _ rfl HF.out.h6 rfl rfl ?_
     refine ⟨rfl, hKd _ _ ?_⟩
     clear hKd Kd
     apply anyI_step 11 rfl (by kernel_rfl)
     focus (intro wI hI Kv hKv; go_simp; exact hKv)
     intro Kd hKd
     go_simp
     refine hKd _ ?_
     clear hKd Kd
     refine anyI_end (by kernel_rfl) (HF.out.i2) (hQd _ _ ?_)
     clear hQd Qd
     go_wp2_with fail
     go_meet
     exact ⟨X.heap.size, X.heap.size + 1, A, c, D, d, P, cp, T, ct, L, cl, rfl, rfl, congrArg (Value.int .i64) w2_ok.1, HF.out.tj, HF.out.i2, HF.out.g6⟩
   ·skip
    go_wp2
    have HR := Lib.hid (HR.out.al6 (X.heap.size) (by simp))
    refine anyI_two' 1 7 rfl rfl (by kernel_rfl) (HR.out.below) (fun Kd hKd => ?_) (fun Kd hKd => ?_)
    ·skip
     go_wp2_with (go_at_call 36; go_must (refine (data33_any 1 5 0 tX 0 0 _).mono ?_); rintro r w1 ⟨rfl, hB1⟩)
     have HR := Lib.hid (HR.out.call hB1)
     clear hB1
     refine anyI_two' 2 7 rfl rfl (by kernel_rfl) (HR.out.below) (fun Kd hKd => ?_) (fun Kd hKd => ?_)
     ·skip
      go_wp2_with (go_at_call 11; go_must (refine (take_any wC A c D d wP2 _ (HEX.out.at_.below HR.out.below) HEX.out.nl (by decide)).mono ?_); rintro r wt ⟨A, c, D, d, P, cp, T, ct, L, cl, rfl, hpost⟩)
      obtain ⟨hto, hbt⟩ := to_of hpost
      have HTO := Lib.hid hto
      have HT := Lib.hid (Rt.start HR.out hbt)
      clear hpost hto hbt
      apply anyI_step 3 rfl (by kernel_rfl)
      focus (intro wI hI Kv hKv; go_simp; exact hKv)
      intro Kd hKd
      go_simp
      refine hKd _ ?_
      clear hKd Kd
      apply anyI_step 4 rfl (by kernel_rfl)
      focus (intro wI hI Kv hKv; go_simp; exact hKv)
      intro Kd hKd
      go_simp
      refine hKd _ ?_
      clear hKd Kd
      apply anyI_step 5 rfl (by kernel_rfl)
      focus (intro wI hI Kv hKv; go_simp; exact hKv)
      intro Kd hKd
      go_simp
      refine hKd _ ?_
      clear hKd Kd
      apply anyI_step 6 rfl (by kernel_rfl)
      focus (intro wI hI Kv hKv; go_simp; exact hKv)
      intro Kd hKd
      go_simp
      refine hKd _ ?_
      clear hKd Kd
      refine anyI_one' 7 rfl (by kernel_rfl) (HT.out.rg.below) (fun Kd hKd => ?_)
      go_wp2
      have HT := Lib.hid (HT.out.al5 (wt.heap.size) (by simp))
      have HF := Lib.hid (rt_fin d cp HT.out HTO.out)
      refine anyI_one' 9 rfl (by kernel_rfl) (HF.out.i0) (fun Kd hKd => ?_)
      refine wpList_store26 rfl _ _ rfl HF.out.h5 rfl rfl ?_
      refine ⟨rfl, hKd _ _ ?_⟩
      clear hKd Kd
      refine anyI_one' 10 rfl (by kernel_rfl) (HF.out.i1) (fun Kd hKd => ?_)
      refine wpList_store47 rfl _ _ rfl HF.out.h6 rfl rfl ?_
      refine ⟨rfl, hKd _ _ ?_⟩
      clear hKd Kd
      apply anyI_step 11 rfl (by kernel_rfl)
      focus (intro wI hI Kv hKv; go_simp; exact hKv)
      intro Kd hKd
      go_simp
      refine hKd _ ?_
      clear hKd Kd
      refine anyI_end (by kernel_rfl) (HF.out.i2) (hQd _ _ ?_)
      clear hQd Qd
      go_wp2_with fail
      go_meet
      exact ⟨wt.heap.size, X.heap.size, A, c, D, d, P, cp, T, ct, L, cl, rfl, rfl, congrArg (Value.int .i64) w2_ok.1, HF.out.tj, HF.out.i2, HF.out.g6⟩
     ·skip
      go_wp2
      have HR := Lib.hid (HR.out.al5 (w1.heap.size) (by simp))
      refine anyI_one' 2 rfl (by kernel_rfl) (HR.out.below) (fun Kd hKd => ?_)
      go_wp2_with (go_at_call 11; go_must (refine (take_any wC A c D d wP2 _ (HEX.out.at_.below HR.out.below) HEX.out.nl (by decide)).mono ?_); rintro r wt ⟨A, c, D, d, P, cp, T, ct, L, cl, rfl, hpost⟩)
      obtain ⟨hto, hbt⟩ := to_of hpost
      have HTO := Lib.hid hto
      have HT := Lib.hid (Rt.start HR.out hbt)
      clear hpost hto hbt
      apply anyI_step 3 rfl (by kernel_rfl)
      focus (intro wI hI Kv hKv; go_simp; exact hKv)
      intro Kd hKd
      go_simp
      refine hKd _ ?_
      clear hKd Kd
      apply anyI_step 4 rfl (by kernel_rfl)
      focus (intro wI hI Kv hKv; go_simp; exact hKv)
      intro Kd hKd
      go_simp
      refine hKd _ ?_
      clear hKd Kd
      apply anyI_step 5 rfl (by kernel_rfl)
      focus (intro wI hI Kv hKv; go_simp; exact hKv)
      intro Kd hKd
      go_simp
      refine hKd _ ?_
      clear hKd Kd
      apply anyI_step 6 rfl (by kernel_rfl)
      focus (intro wI hI Kv hKv; go_simp; exact hKv)
      intro Kd hKd
      go_simp
      refine hKd _ ?_
      clear hKd Kd
      have HF := Lib.hid (rt_fin d cp HT.out HTO.out)
      refine anyI_one' 9 rfl (by kernel_rfl) (HF.out.i0) (fun Kd hKd => ?_)
      refine wpList_store26 rfl _ _ rfl HF.out.h5 rfl rfl ?_
      refine ⟨rfl, hKd _ _ ?_⟩
      clear hKd Kd
      refine anyI_one' 10 rfl (by kernel_rfl) (HF.out.i1) (fun Kd hKd => ?_)
      refine wpList_store47 rfl _ _ rfl HF.out.h6 rfl rfl ?_
      refine ⟨rfl, hKd _ _ ?_⟩
      clear hKd Kd
      apply anyI_step 11 rfl (by kernel_rfl)
      focus (intro wI hI Kv hKv; go_simp; exact hKv)
      intro Kd hKd
      go_simp
      refine hKd _ ?_
      clear hKd Kd
      refine anyI_end (by kernel_rfl) (HF.out.i2) (hQd _ _ ?_)
      clear hQd Qd
      go_wp2_with fail
      go_meet
      exact ⟨w1.heap.size, X.heap.size, A, c, D, d, P, cp, T, ct, L, cl, rfl, rfl, congrArg (Value.int .i64) w2_ok.1, HF.out.tj, HF.out.i2, HF.out.g6⟩
    ·skip
     go_wp2
     have HR := Lib.hid (HR.out.al5 (X.heap.size + 1) (by simp))
     refine anyI_one' 1 rfl (by kernel_rfl) (HR.out.below) (fun Kd hKd => ?_)
     go_wp2_with (go_at_call 36; go_must (refine (data33_any 1 5 0 tX 0 0 _).mono ?_); rintro r w1 ⟨rfl, hB1⟩)
     have HR := Lib.hid (HR.out.call hB1)
     clear hB1
     refine anyI_one' 2 rfl (by kernel_rfl) (HR.out.below) (fun Kd hKd => ?_)
     go_wp2_with (go_at_call 11; go_must (refine (take_any wC A c D d wP2 _ (HEX.out.at_.below HR.out.below) HEX.out.nl (by decide)).mono ?_); rintro r wt ⟨A, c, D, d, P, cp, T, ct, L, cl, rfl, hpost⟩)
     obtain ⟨hto, hbt⟩ := to_of hpost
     have HTO := Lib.hid hto
     have HT := Lib.hid (Rt.start HR.out hbt)
     clear hpost hto hbt
     apply anyI_step 3 rfl (by kernel_rfl)
     focus (intro wI hI Kv hKv; go_simp; exact hKv)
     intro Kd hKd
     go_simp
     refine hKd _ ?_
     clear hKd Kd
     apply anyI_step 4 rfl (by kernel_rfl)
     focus (intro wI hI Kv hKv; go_simp; exact hKv)
     intro Kd hKd
     go_simp
     refine hKd _ ?_
     clear hKd Kd
     apply anyI_step 5 rfl (by kernel_rfl)
     focus (intro wI hI Kv hKv; go_simp; exact hKv)
     intro Kd hKd
     go_simp
     refine hKd _ ?_
     clear hKd Kd
     apply anyI_step 6 rfl (by kernel_rfl)
     focus (intro wI hI Kv hKv; go_simp; exact hKv)
     intro Kd hKd
     go_simp
     refine hKd _ ?_
     clear hKd Kd
     have HF := Lib.hid (rt_fin d cp HT.out HTO.out)
     refine anyI_one' 9 rfl (by kernel_rfl) (HF.out.i0) (fun Kd hKd => ?_)
     refine wpList_store26 rfl _ _ rfl HF.out.h5 rfl rfl ?_
     refine ⟨rfl, hKd _ _ ?_⟩
     clear hKd Kd
     refine anyI_one' 10 rfl (by kernel_rfl) (HF.out.i1) (fun Kd hKd => ?_)
     refine wpList_store47 rfl _ _ rfl HF.out.h6 rfl rfl ?_
     refine ⟨rfl, hKd _ _ ?_⟩
     clear hKd Kd
     apply anyI_step 11 rfl (by kernel_rfl)
     focus (intro wI hI Kv hKv; go_simp; exact hKv)
     intro Kd hKd
     go_simp
     refine hKd _ ?_
     clear hKd Kd
     refine anyI_end (by kernel_rfl) (HF.out.i2) (hQd _ _ ?_)
     clear hQd Qd
     go_wp2_with fail
     go_meet
     exact ⟨X.heap.size + 1, X.heap.size, A, c, D, d, P, cp, T, ct, L, cl, rfl, rfl, congrArg (Value.int .i64) w2_ok.1, HF.out.tj, HF.out.i2, HF.out.g6⟩
  case rest =>
   obtain ⟨b5, b6, A2, c2, D2, d2, P2, cp2, T2, ct2, L2, cl2, rfl, rfl, rfl, htj, hbx, _⟩ := hcut
   obtain ⟨Y, rfl⟩ : ∃ Y, Y = wc := ⟨wc, rfl⟩
   have HJ2 := Lib.hid htj
   have HJ1Y := Lib.hid (HJ1.out.below hbx)
   have HBY : Hid (Below w.heap.size w Y) := HBX.out.trans (hbx.mono HBX.out.size)
   clear htj hbx HJ1 HBX
   go_upto_region 4 with fail
   obtain ⟨R1, HR1⟩ : ∃ R1, Hid (takeA wB wP1 = R1) := ⟨_, rfl⟩
   obtain ⟨R2, HR2⟩ : ∃ R2, Hid (takeA wC wP2 = R2) := ⟨_, rfl⟩
   have HW1 := Lib.hid w1_ok
   have HW2 := Lib.hid w2_ok
   rw [HR1.out] at HJ1Y HW1
   rw [HR2.out] at HJ2 HW2
   have l3 := HJ1Y.out.k6.lt
   have l6 := HJ2.out.k6.lt
   have n1 : R1.2.1.taken.length = 0 := by rw [HW1.out.2.2]; rfl
   go_cut [60] from 28 (fun v wx => v = .bool false ∧ Below Y.heap.size Y wx)
   case first => as_aux_lemma =>
    refine draw (fun w' => Below Y.heap.size Y w') 33 rfl (by kernel_rfl) (fun Qd hQd => ?_)
    apply anyI_step 0 rfl (by kernel_rfl)
    focus (intro wI hI Kv hKv; have q9 := HJ1Y.out.k6.below hI l3; have c0 := q9.cell 0 (v := .slice P R1.2.1.packets.length cp) rfl; clear q9; go_simp; exact hKv)
    intro Kd hKd
    go_simp
    refine hKd _ ?_
    clear hKd Kd
    apply anyI_step 1 rfl (by kernel_rfl)
    focus (intro wI hI Kv hKv; have q9 := HJ1Y.out.k6.below hI l3; have c0 := q9.cell 0 (v := .slice P R1.2.1.packets.length cp) rfl; clear q9; go_simp; exact hKv)
    intro Kd hKd
    go_simp
    refine hKd _ ?_
    clear hKd Kd
    apply anyI_step 2 rfl (by kernel_rfl)
    focus (intro wI hI Kv hKv; have q9 := HJ1Y.out.k6.below hI l3; have c0 := q9.cell 0 (v := .slice P R1.2.1.packets.length cp) rfl; clear q9; go_simp; exact hKv)
    intro Kd hKd
    go_simp
    refine hKd _ ?_
    clear hKd Kd
    apply anyI_step 3 rfl (by kernel_rfl)
    focus (intro wI hI Kv hKv; have q9 := HJ1Y.out.k6.below hI l3; have c0 := q9.cell 0 (v := .slice P R1.2.1.packets.length cp) rfl; clear q9; go_simp; exact hKv)
    intro Kd hKd
    go_simp
    refine hKd _ ?_
    clear hKd Kd
    apply anyI_step 4 rfl (by kernel_rfl)
    focus (intro wI hI Kv hKv; have q9 := HJ1Y.out.k6.below hI l3; have c0 := q9.cell 0 (v := .slice P R1.2.1.packets.length cp) rfl; clear q9; go_simp; exact hKv)
    intro Kd hKd
    go_simp
    refine hKd _ ?_
    clear hKd Kd
    apply anyI_step 5 rfl (by kernel_rfl)
    focus (intro wI hI Kv hKv; have q9 := HJ1Y.out.k6.below hI l3; have c0 := q9.cell 0 (v := .slice P R1.2.1.packets.length cp) rfl; clear q9; go_simp; exact hKv)
    intro Kd hKd
    go_simp
    refine hKd _ ?_
    clear hKd Kd
    apply anyI_step 6 rfl (by kernel_rfl)
    focus (intro wI hI Kv hKv; have q9 := HJ1Y.out.k6.below hI l3; have c0 := q9.cell 0 (v := .slice P R1.2.1.packets.length cp) rfl; clear q9; go_simp; exact hKv)
    intro Kd hKd
    go_simp
    refine hKd _ ?_
    clear hKd Kd
    apply anyI_step 7 rfl (by kernel_rfl)
    focus (intro wI hI Kv hKv; have q9 := HJ1Y.out.k6.below hI l3; have c0 := q9.cell 0 (v := .slice P R1.2.1.packets.length cp) rfl; clear q9; go_simp; exact hKv)
    intro Kd hKd
    go_simp
    refine hKd _ ?_
    clear hKd Kd
    apply anyI_step 8 rfl (by kernel_rfl)
    focus (intro wI hI Kv hKv; have q9 := HJ1Y.out.k6.below hI l3; have c0 := q9.cell 0 (v := .slice P R1.2.1.packets.length cp) rfl; clear q9; go_simp; exact hKv)
    intro Kd hKd
    go_simp
    refine hKd _ ?_
    clear hKd Kd
    refine anyI_one' 9 rfl (by kernel_rfl) ((Below.refl _ Y).drew) (fun Kd hKd => ?_)
    go_wp2_with (go_at_call 38; go_must (refine (ack34_any 5 1 0 2 _).mono ?_); rintro r w1 ⟨rfl, hB1⟩)
    have HB1 : Hid (Below Y.heap.size Y w1) := below_in (Below.refl _ Y).drew hB1
    clear hB1
    refine anyI_one' 10 rfl (by kernel_rfl) (HB1.out) (fun Kd hKd => ?_)
    go_wp2_with (go_at_call 37; go_must (refine (one_any P cp R1.2.1.packets ⟨3, 5, 1, 0, ⟨#[]⟩, 0, 2⟩ w1 (HJ1Y.out.gn.p.below HB1.out (Nat.le_refl _))).mono ?_); rintro r w2 ⟨rfl, hB2⟩; rw [HW1.out.2.1, decide_eq_true rfl])
    have HB2 : Hid (Below Y.heap.size Y w2) := below_in HB1.out hB2
    clear hB2
    have HRD := fun (wI : World) (hI : (fun w' => Below Y.heap.size Y w') wI) => (have q9 := HJ1Y.out.k6.below hI l3; have c1 := q9.cell 1 (v := .slice T R1.2.1.taken.length ct) rfl; have q8 := HJ2.out.k6.below hI l6; have e0 := q8.cell 0 (v := .slice P2 R2.2.1.packets.length cp2) rfl; And.intro c1 e0)
    apply anyI_step 11 rfl (by kernel_rfl)
    focus (intro wI hI Kv hKv; obtain ⟨c1, e0⟩ := HRD wI hI; go_simp; exact hKv)
    intro Kd hKd
    go_simp
    refine hKd _ ?_
    clear hKd Kd
    apply anyI_step 12 rfl (by kernel_rfl)
    focus (intro wI hI Kv hKv; obtain ⟨c1, e0⟩ := HRD wI hI; go_simp; exact hKv)
    intro Kd hKd
    go_simp
    refine hKd _ ?_
    clear hKd Kd
    apply anyI_step 13 rfl (by kernel_rfl)
    focus (intro wI hI Kv hKv; obtain ⟨c1, e0⟩ := HRD wI hI; go_simp; exact hKv)
    intro Kd hKd
    go_simp
    refine hKd _ ?_
    clear hKd Kd
    apply anyI_step 14 rfl (by kernel_rfl)
    focus (intro wI hI Kv hKv; obtain ⟨c1, e0⟩ := HRD wI hI; go_simp; exact hKv)
    intro Kd hKd
    go_simp
    refine hKd _ ?_
    clear hKd Kd
    apply anyI_step 15 rfl (by kernel_rfl)
    focus (intro wI hI Kv hKv; obtain ⟨c1, e0⟩ := HRD wI hI; go_simp; exact hKv)
    intro Kd hKd
    go_simp
    refine hKd _ ?_
    clear hKd Kd
    apply anyI_step 16 rfl (by kernel_rfl)
    focus (intro wI hI Kv hKv; obtain ⟨c1, e0⟩ := HRD wI hI; go_simp; exact hKv)
    intro Kd hKd
    go_simp
    refine hKd _ ?_
    clear hKd Kd
    apply anyI_step 17 rfl (by kernel_rfl)
    focus (intro wI hI Kv hKv; obtain ⟨c1, e0⟩ := HRD wI hI; go_simp; exact hKv)
    intro Kd hKd
    go_simp
    refine hKd _ ?_
    clear hKd Kd
    apply anyI_step 18 rfl (by kernel_rfl)
    focus (intro wI hI Kv hKv; obtain ⟨c1, e0⟩ := HRD wI hI; go_simp; exact hKv)
    intro Kd hKd
    go_simp
    refine hKd _ ?_
    clear hKd Kd
    apply anyI_step 19 rfl (by kernel_rfl)
    focus (intro wI hI Kv hKv; obtain ⟨c1, e0⟩ := HRD wI hI; go_simp; exact hKv)
    intro Kd hKd
    go_simp
    refine hKd _ ?_
    clear hKd Kd
    apply anyI_step 20 rfl (by kernel_rfl)
    focus (intro wI hI Kv hKv; obtain ⟨c1, e0⟩ := HRD wI hI; go_simp; exact hKv)
    intro Kd hKd
    go_simp
    refine hKd _ ?_
    clear hKd Kd
    apply anyI_step 21 rfl (by kernel_rfl)
    focus (intro wI hI Kv hKv; obtain ⟨c1, e0⟩ := HRD wI hI; go_simp; exact hKv)
    intro Kd hKd
    go_simp
    refine hKd _ ?_
    clear hKd Kd
    clear HRD
    refine anyI_one' 22 rfl (by kernel_rfl) (HB2.out) (fun Kd hKd => ?_)
    go_wp2_with (go_at_call 38; go_must (refine (ack34_any 5 1 1 1 _).mono ?_); rintro r w3 ⟨rfl, hB3⟩)
    have HB3 : Hid (Below Y.heap.size Y w3) := below_in HB2.out hB3
    clear hB3
    refine anyI_one' 23 rfl (by kernel_rfl) (HB3.out) (fun Kd hKd => ?_)
    go_wp2_with (go_at_call 37; go_must (refine (one_any P2 cp2 R2.2.1.packets ⟨3, 5, 1, 0, ⟨#[]⟩, 1, 1⟩ w3 (HJ2.out.gn.p.below HB3.out (Nat.le_refl _))).mono ?_); rintro r w4 ⟨rfl, hB4⟩; rw [HW2.out.2.1, decide_eq_true rfl])
    have HB4 : Hid (Below Y.heap.size Y w4) := below_in HB3.out hB4
    clear hB4
    apply anyI_step 24 rfl (by kernel_rfl)
    focus (intro wI hI Kv hKv; have q8 := HJ2.out.k6.below hI l6; have e1 := q8.cell 1 (v := .slice T2 R2.2.1.taken.length ct2) rfl; clear q8; go_simp; exact hKv)
    intro Kd hKd
    go_simp
    refine hKd _ ?_
    clear hKd Kd
    apply anyI_step 25 rfl (by kernel_rfl)
    focus (intro wI hI Kv hKv; have q8 := HJ2.out.k6.below hI l6; have e1 := q8.cell 1 (v := .slice T2 R2.2.1.taken.length ct2) rfl; clear q8; go_simp; exact hKv)
    intro Kd hKd
    go_simp
    refine hKd _ ?_
    clear hKd Kd
    apply anyI_step 26 rfl (by kernel_rfl)
    focus (intro wI hI Kv hKv; have q8 := HJ2.out.k6.below hI l6; have e1 := q8.cell 1 (v := .slice T2 R2.2.1.taken.length ct2) rfl; clear q8; go_simp; exact hKv)
    intro Kd hKd
    go_simp
    refine hKd _ ?_
    clear hKd Kd
    apply anyI_step 27 rfl (by kernel_rfl)
    focus (intro wI hI Kv hKv; have q8 := HJ2.out.k6.below hI l6; have e1 := q8.cell 1 (v := .slice T2 R2.2.1.taken.length ct2) rfl; clear q8; go_simp; exact hKv)
    intro Kd hKd
    go_simp
    refine hKd _ ?_
    clear hKd Kd
    apply anyI_step 28 rfl (by kernel_rfl)
    focus (intro wI hI Kv hKv; have q8 := HJ2.out.k6.below hI l6; have e1 := q8.cell 1 (v := .slice T2 R2.2.1.taken.length ct2) rfl; clear q8; go_simp; exact hKv)
    intro Kd hKd
    go_simp
    refine hKd _ ?_
    clear hKd Kd
    refine anyI_one' 29 rfl (by kernel_rfl) (HB4.out) (fun Kd hKd => ?_)
    go_wp2
    obtain ⟨w5, hw5⟩ : ∃ w5, w4.alloc (.cells #[.string ⟨#[120]⟩] 9) = w5 := ⟨_, rfl⟩
    have HB5 : Hid (Below Y.heap.size Y w5) := by rw [← hw5]; exact HB4.out.alloc HB4.out.size _
    have HK5 : Hid (Blk w5 w4.heap.size (.cells #[.string ⟨#[120]⟩] 9)) := by rw [← hw5]; exact Blk.new _ _
    have HC5 : Hid (Cells w5 (some ⟨w4.heap.size, 0, none⟩) (strs [tX])) := cells_blk HK5.out (by simp)
    rw [hw5]
    clear hw5
    refine anyI_one' 30 rfl (by kernel_rfl) (HB5.out) (fun Kd hKd => ?_)
    go_wp2_with (go_at_call 39; go_must (refine (same_texts T2 ct2 R2.2.1.taken (some ⟨w4.heap.size, 0, none⟩) 1 [tX] w5 (HJ2.out.gn.t.below HB5.out (Nat.le_refl _)) HC5.out).mono ?_); rintro r w6 ⟨rfl, hB6⟩; rw [HW2.out.2.2, decide_eq_true rfl])
    have HB6 : Hid (Below Y.heap.size Y w6) := below_in HB5.out hB6
    clear hB6
    apply anyI_step 31 rfl (by kernel_rfl)
    focus (intro wI hI Kv hKv; go_simp; exact hKv)
    intro Kd hKd
    go_simp
    refine hKd _ ?_
    clear hKd Kd
    apply anyI_step 32 rfl (by kernel_rfl)
    focus (intro wI hI Kv hKv; go_simp; exact hKv)
    intro Kd hKd
    go_simp
    refine hKd _ ?_
    clear hKd Kd
    refine anyI_end (by kernel_rfl) (HB6.out) (hQd _ _ ?_)
    clear hQd Qd
    go_wp2_with fail
    go_meet
    exact ⟨rfl, HB6.out⟩
   case rest =>
    obtain ⟨rfl, hbx⟩ := hcut
    obtain ⟨X, rfl⟩ : ∃ X, X = wc := ⟨wc, rfl⟩
    have HBX : Hid (Below w.heap.size w X) := HBY.out.trans (hbx.mono HBY.out.size)
    obtain ⟨x3, y3, z3, hk3⟩ : ∃ x y z, Blk X b3 (.cells #[x, y, z] 44) := ⟨_, _, _, HJ1Y.out.k6.below hbx l3⟩
    have HK3 := Lib.hid hk3
    have HG3 : Hid (w.heap.size ≤ b3) := HG3'.out
    clear hk3
    clear hbx l3 l6 n1 HJ2 HJ1Y HW1 HW2 HBY
    go_wp2_with fail
    refine (three_any X).mono ?_
    rintro r w1 ⟨AT, rfl, hen, hB1⟩
    have HE1 := Lib.hid hen
    have HB1 : Hid (Below X.heap.size X w1) := hB1
    clear hen hB1
    go_wp2_with fail
    refine (ack34_any 5 1 1 1 w1).mono ?_
    rintro r w2 ⟨rfl, hB2⟩
    have HE2 : Hid (EnT w2 threeE AT 3 none) := HE1.out.frame (Frame.of_all (S := fun _ => False) hB2) (fun _ _ _ h => h) (fun _ _ _ h => h)
    have HB2 : Hid (Below X.heap.size X w2) := below_in HB1.out hB2
    clear hB2
    go_wp2_with fail
    refine (take_any threeE AT 3 none 0 wP3 w2 HE2.out.at_ HE2.out.nl (by decide)).mono ?_
    rintro r w3 ⟨A, c, D, d, P, cp, T, ct, L, cl, rfl, hpost⟩
    obtain ⟨hto, hbt⟩ := to_of hpost
    obtain ⟨R3, HR3⟩ : ∃ R3, Hid (takeA threeE wP3 = R3) := ⟨_, rfl⟩
    have HW3 := Lib.hid w3_ok
    have HWA : Hid (R3.1 = wA) := by show _ = _; rw [← HR3.out]; rfl
    rw [HR3.out] at hto HW3 ⊢
    have HTO := Lib.hid hto
    have HB3 : Hid (Below X.heap.size X w3) := below_in HB2.out hbt
    clear hpost hto hbt
    rw [HW3.out]
    unfold enV gnV
    go_wp2_with fail
    obtain ⟨Z, hZ⟩ : ∃ Z, (w3.alloc (.cells #[.int .i64 R3.1.life, .int .i64 R3.1.peer, .int .i64 R3.1.phase, .int .i64 R3.1.base, .slice A R3.1.out.length c, .int .i64 R3.1.want, .slice D R3.1.inn.length d] 38)).alloc (.cells #[.slice P R3.2.1.packets.length cp, .slice T R3.2.1.taken.length ct, .slice L R3.2.1.lost.length cl] 44) = Z := ⟨_, rfl⟩
    have hB3Z : Below w3.heap.size w3 Z := by rw [← hZ]; exact ((Below.refl _ w3).alloc (Nat.le_refl _) _).alloc (by simp) _
    have HBZ : Hid (Below X.heap.size X Z) := below_in HB3.out hB3Z
    have HK8 : Hid (Blk Z w3.heap.size (.cells (enB R3.1 A c D d) 38)) := by rw [← hZ]; exact (Blk.new _ _).alloc _
    have HEZ : Hid (EnT Z R3.1 A c D) := EnT.frame ⟨HTO.out.en, HTO.out.row.mono (Nat.zero_le _), HTO.out.im, HTO.out.nil, HTO.out.cap⟩ (Frame.of_all (S := fun _ => False) hB3Z) (fun _ _ _ h => h) (fun _ _ _ h => h)
    have H83 : Hid (w.heap.size ≤ w3.heap.size) := by have := HBX.out.size; have := HB3.out.size; show _ ≤ _; omega
    rw [hZ]
    clear hZ hB3Z
    refine (tick_any R3.1 A c D d Z HEZ.out.at_ HEZ.out.nl).mono ?_
    rintro r w4 ⟨v, rfl, how, hB4⟩
    have HTI : Hid (tickA R3.1 = ([⟨2, 1, 5, 1, tY, 0, 0⟩, ⟨3, 1, 5, 0, ⟨#[]⟩, 0, 0⟩], 0)) := by show _ = _; rw [HWA.out]; exact w4_ok
    rw [HTI.out] at how ⊢
    obtain ⟨P4, cp4, rfl, hc4⟩ := own_at how (by rw [pks_len]; simp)
    have HC4 := Lib.hid hc4
    have HBZ4 := Lib.hid hB4
    have HB4 : Hid (Below X.heap.size X w4) := below_in HBZ.out hB4
    clear how hB4 hc4
    go_wp2_with fail
    refine (data33_any 1 5 1 ⟨#[121]⟩ 0 0 w4).mono ?_
    rintro r w5 ⟨rfl, hB5⟩
    have HB45 : Hid (Below w4.heap.size w4 w5) := hB5
    clear hB5
    go_wp2_with fail
    refine (ack34_any 1 5 0 0 w5).mono ?_
    rintro r w6 ⟨rfl, hB6⟩
    have HB46 : Hid (Below w4.heap.size w4 w6) := below_in HB45.out hB6
    clear hB6
    unfold pkV
    go_wp2_with fail
    obtain ⟨w7, hw7⟩ : ∃ w7, w6.alloc (.cells #[.int .i64 2, .int .i64 1, .int .i64 5, .int .i64 1, .string ⟨#[121]⟩, .int .i64 0, .int .i64 0, .int .i64 3, .int .i64 1, .int .i64 5, .int .i64 0, .string ⟨#[]⟩, .int .i64 0, .int .i64 0] 49) = w7 := ⟨_, rfl⟩
    have HB47 : Hid (Below w4.heap.size w4 w7) := by rw [← hw7]; exact HB46.out.alloc HB46.out.size _
    have HK7 : Hid (Blk w7 w6.heap.size (.cells #[.int .i64 2, .int .i64 1, .int .i64 5, .int .i64 1, .string ⟨#[121]⟩, .int .i64 0, .int .i64 0, .int .i64 3, .int .i64 1, .int .i64 5, .int .i64 0, .string ⟨#[]⟩, .int .i64 0, .int .i64 0] 49)) := by rw [← hw7]; exact Blk.new _ _
    have HC7 : Hid (Cells w7 (some ⟨w6.heap.size, 0, none⟩) (pks [⟨2, 1, 5, 1, tY, 0, 0⟩, ⟨3, 1, 5, 0, ⟨#[]⟩, 0, 0⟩])) := cells_blk HK7.out (by show 14 ≤ _; omega)
    rw [hw7]
    clear hw7
    refine (same_packets P4 cp4 [⟨2, 1, 5, 1, tY, 0, 0⟩, ⟨3, 1, 5, 0, ⟨#[]⟩, 0, 0⟩] (some ⟨w6.heap.size, 0, none⟩) 2 [⟨2, 1, 5, 1, tY, 0, 0⟩, ⟨3, 1, 5, 0, ⟨#[]⟩, 0, 0⟩] w7 (HC4.out.below HB47.out (Nat.le_refl _)) HC7.out).mono ?_
    rintro r U ⟨rfl, hBU⟩
    rw [decide_eq_true rfl]
    have HBXU : Hid (Below X.heap.size X U) := below_in (below_in HB4.out HB47.out) hBU
    have HBZU : Hid (Below Z.heap.size Z U) := below_in HBZ4.out (below_in HB47.out hBU)
    have HK8U : Hid (Blk U w3.heap.size (.cells (enB R3.1 A c D d) 38)) := HK8.out.below HBZU.out HK8.out.lt
    have HEU : Hid (EnT U R3.1 A c D) := HEZ.out.frame (Frame.of_all (S := fun _ => False) HBZU.out) (fun _ _ _ h => h) (fun _ _ _ h => h)
    have HK3U : Hid (Blk U b3 (.cells #[x3, y3, z3] 44)) := HK3.out.below HBXU.out HK3.out.lt
    have HBW : Hid (Below w.heap.size w U) := HBX.out.trans (HBXU.out.mono HBX.out.size)
    clear HK3 HK8 HEZ HBZU HBXU HBZ HBZ4 HB4 HB3 HBX HTI HTO HE1 HE2 HB1 HB2
    go_upto_region 10 with fail
    go_cut [4] from 14 (fun v4 wx => ∃ A c D d P cp T ct L cl, v4 = .int .i64 0 ∧ Tj wx (takeA R3.1 wP4) w3.heap.size b3 A c D d P cp T ct L cl ∧ Below w.heap.size w wx)
    case first => as_aux_lemma =>
     have q8 := HK8U.out
     have a0 := q8.cell 0 (v := .int .i64 R3.1.life) rfl
     have a1 := q8.cell 1 (v := .int .i64 R3.1.peer) rfl
     have a2 := q8.cell 2 (v := .int .i64 R3.1.phase) rfl
     have a3 := q8.cell 3 (v := .int .i64 R3.1.base) rfl
     have a4 := q8.cell 4 (v := .slice A R3.1.out.length c) rfl
     have a5 := q8.cell 5 (v := .int .i64 R3.1.want) rfl
     have a6 := q8.cell 6 (v := .slice D R3.1.inn.length d) rfl
     have al := q8.lt
     clear q8
     refine draw (fun _ => True) 10 rfl (by kernel_rfl) (fun Qd hQd => ?_)
     refine anyI_two' 0 1 rfl rfl (by kernel_rfl) (trivial) (fun Kd hKd => ?_) (fun Kd hKd => ?_)
     ·go_wp2
      refine anyI_one' 1 rfl (by kernel_rfl) (trivial) (fun Kd hKd => ?_)
      clear a0 a1 a2 a3 a4 a5 a6 al
      go_wp2_with (go_at_call 42; go_must (refine (hello31_any 6 0 _).mono ?_); rintro r u1 ⟨rfl, hB1⟩)
      have HH1 : Hid (Below U.heap.size U u1) := below_in (Below.refl _ U).drew hB1
      clear hB1
      refine anyI_one' 2 rfl (by kernel_rfl) (trivial) (fun Kd hKd => ?_)
      have HEU1 : Hid (EnT u1 R3.1 A c D) := HEU.out.frame (Frame.of_all (S := fun _ => False) HH1.out) (fun _ _ _ h => h) (fun _ _ _ h => h)
      go_wp2_with (go_at_call 11; go_must (refine (take_any R3.1 A c D d wP4 u1 HEU1.out.at_ HEU1.out.nl (by decide)).mono ?_); rintro r ut ⟨A5, c5, D5, d5, P5, cp5, T5, ct5, L5, cl5, rfl, hpost⟩)
      obtain ⟨hto, hbt⟩ := to_of hpost
      have HTO := Lib.hid hto
      have HHT : Hid (Below U.heap.size U ut) := below_in HH1.out hbt
      clear hpost hto hbt
      apply anyI_step 3 rfl (by kernel_rfl)
      focus (intro wI hI Kv hKv; go_simp; exact hKv)
      intro Kd hKd
      go_simp
      refine hKd _ ?_
      clear hKd Kd
      apply anyI_step 4 rfl (by kernel_rfl)
      focus (intro wI hI Kv hKv; go_simp; exact hKv)
      intro Kd hKd
      go_simp
      refine hKd _ ?_
      clear hKd Kd
      apply anyI_step 5 rfl (by kernel_rfl)
      focus (intro wI hI Kv hKv; go_simp; exact hKv)
      intro Kd hKd
      go_simp
      refine hKd _ ?_
      clear hKd Kd
      apply anyI_step 6 rfl (by kernel_rfl)
      focus (intro wI hI Kv hKv; go_simp; exact hKv)
      intro Kd hKd
      go_simp
      refine hKd _ ?_
      clear hKd Kd
      have HTJ := Lib.hid (tj_make (d := d5) (cp := cp5) (Below.refl _ ut) (HK8U.out.below HHT.out HK8U.out.lt) (HK3U.out.below HHT.out HK3U.out.lt) (.inl (by have := HK8U.out.lt; have := HH1.out.size; omega)) (.inl (by have := HK3U.out.lt; have := HH1.out.size; omega)) HTO.out)
      have H5 := Lib.hid (HK8U.out.below HHT.out HK8U.out.lt)
      have H6 := Lib.hid (HK3U.out.below HHT.out HK3U.out.lt)
      refine anyI_one' 7 rfl (by kernel_rfl) (trivial) (fun Kd hKd => ?_)
      refine wpList_store26 rfl _ _ rfl H5.out rfl rfl ?_
      refine ⟨rfl, hKd _ _ ?_⟩
      clear hKd Kd
      refine anyI_one' 8 rfl (by kernel_rfl) (trivial) (fun Kd hKd => ?_)
      refine wpList_store47 rfl _ _ rfl (H6.out.frame (setEn_frame (Frame.refl (fun b => b = w3.heap.size) ut) (.inl rfl)) (blk_ne H6.out H5.out (by decide))) rfl rfl ?_
      refine ⟨rfl, hKd _ _ ?_⟩
      clear hKd Kd
      apply anyI_step 9 rfl (by kernel_rfl)
      focus (intro wI hI Kv hKv; go_simp; exact hKv)
      intro Kd hKd
      go_simp
      refine hKd _ ?_
      clear hKd Kd
      refine anyI_end (by kernel_rfl) (trivial) (hQd _ _ ?_)
      clear hQd Qd
      go_wp2_with fail
      go_meet
      exact ⟨A5, c5, D5, d5, P5, cp5, T5, ct5, L5, cl5, congrArg (Value.int .i64) (by rw [HWA.out]; exact w5_ok.1), HTJ.out.1, (HBW.out.trans (HHT.out.mono HBW.out.size)).trans (HTJ.out.2.below (fun b e => by have := H83.out; have := HG3.out; rcases e with e | e <;> omega) (by have := HBW.out.size; have := HHT.out.size; omega))⟩
     ·skip
      clear a0 a1 a2 a3 a4 a5 a6 al
      go_wp2_with (go_at_call 42; go_must (refine (hello31_any 6 0 _).mono ?_); rintro r u1 ⟨rfl, hB1⟩)
      have HH1 : Hid (Below U.heap.size U u1) := below_in (Below.refl _ U).drew hB1
      clear hB1
      refine anyI_one' 0 rfl (by kernel_rfl) (trivial) (fun Kd hKd => ?_)
      have q8 := HK8U.out.below HH1.out HK8U.out.lt
      have a0 := q8.cell 0 (v := .int .i64 R3.1.life) rfl
      have a1 := q8.cell 1 (v := .int .i64 R3.1.peer) rfl
      have a2 := q8.cell 2 (v := .int .i64 R3.1.phase) rfl
      have a3 := q8.cell 3 (v := .int .i64 R3.1.base) rfl
      have a4 := q8.cell 4 (v := .slice A R3.1.out.length c) rfl
      have a5 := q8.cell 5 (v := .int .i64 R3.1.want) rfl
      have a6 := q8.cell 6 (v := .slice D R3.1.inn.length d) rfl
      have al := q8.lt
      clear q8
      go_wp2
      clear a0 a1 a2 a3 a4 a5 a6 al
      refine anyI_one' 2 rfl (by kernel_rfl) (trivial) (fun Kd hKd => ?_)
      have HEU1 : Hid (EnT u1 R3.1 A c D) := HEU.out.frame (Frame.of_all (S := fun _ => False) HH1.out) (fun _ _ _ h => h) (fun _ _ _ h => h)
      go_wp2_with (go_at_call 11; go_must (refine (take_any R3.1 A c D d wP4 u1 HEU1.out.at_ HEU1.out.nl (by decide)).mono ?_); rintro r ut ⟨A5, c5, D5, d5, P5, cp5, T5, ct5, L5, cl5, rfl, hpost⟩)
      obtain ⟨hto, hbt⟩ := to_of hpost
      have HTO := Lib.hid hto
      have HHT : Hid (Below U.heap.size U ut) := below_in HH1.out hbt
      clear hpost hto hbt
      apply anyI_step 3 rfl (by kernel_rfl)
      focus (intro wI hI Kv hKv; go_simp; exact hKv)
      intro Kd hKd
      go_simp
      refine hKd _ ?_
      clear hKd Kd
      apply anyI_step 4 rfl (by kernel_rfl)
      focus (intro wI hI Kv hKv; go_simp; exact hKv)
      intro Kd hKd
      go_simp
      refine hKd _ ?_
      clear hKd Kd
      apply anyI_step 5 rfl (by kernel_rfl)
      focus (intro wI hI Kv hKv; go_simp; exact hKv)
      intro Kd hKd
      go_simp
      refine hKd _ ?_
      clear hKd Kd
      apply anyI_step 6 rfl (by kernel_rfl)
      focus (intro wI hI Kv hKv; go_simp; exact hKv)
      intro Kd hKd
      go_simp
      refine hKd _ ?_
      clear hKd Kd
      have HTJ := Lib.hid (tj_make (d := d5) (cp := cp5) (Below.refl _ ut) (HK8U.out.below HHT.out HK8U.out.lt) (HK3U.out.below HHT.out HK3U.out.lt) (.inl (by have := HK8U.out.lt; have := HH1.out.size; omega)) (.inl (by have := HK3U.out.lt; have := HH1.out.size; omega)) HTO.out)
      have H5 := Lib.hid (HK8U.out.below HHT.out HK8U.out.lt)
      have H6 := Lib.hid (HK3U.out.below HHT.out HK3U.out.lt)
      refine anyI_one' 7 rfl (by kernel_rfl) (trivial) (fun Kd hKd => ?_)
      refine wpList_store26 rfl _ _ rfl H5.out rfl rfl ?_
      refine ⟨rfl, hKd _ _ ?_⟩
      clear hKd Kd
      refine anyI_one' 8 rfl (by kernel_rfl) (trivial) (fun Kd hKd => ?_)
      refine wpList_store47 rfl _ _ rfl (H6.out.frame (setEn_frame (Frame.refl (fun b => b = w3.heap.size) ut) (.inl rfl)) (blk_ne H6.out H5.out (by decide))) rfl rfl ?_
      refine ⟨rfl, hKd _ _ ?_⟩
      clear hKd Kd
      apply anyI_step 9 rfl (by kernel_rfl)
      focus (intro wI hI Kv hKv; go_simp; exact hKv)
      intro Kd hKd
      go_simp
      refine hKd _ ?_
      clear hKd Kd
      refine anyI_end (by kernel_rfl) (trivial) (hQd _ _ ?_)
      clear hQd Qd
      go_wp2_with fail
      go_meet
      exact ⟨A5, c5, D5, d5, P5, cp5, T5, ct5, L5, cl5, congrArg (Value.int .i64) (by rw [HWA.out]; exact w5_ok.1), HTJ.out.1, (HBW.out.trans (HHT.out.mono HBW.out.size)).trans (HTJ.out.2.below (fun b e => by have := H83.out; have := HG3.out; rcases e with e | e <;> omega) (by have := HBW.out.size; have := HHT.out.size; omega))⟩
    case rest =>
     obtain ⟨A5, c5, D5, d5, P5, cp5, T5, ct5, L5, cl5, rfl, htj, hbx⟩ := hcut
     obtain ⟨Y, rfl⟩ : ∃ Y, Y = wc := ⟨wc, rfl⟩
     have HJ5 := Lib.hid htj
     have HBY := Lib.hid hbx
     clear htj hbx HK8U HEU HK3U HBW
     have HW5 : Hid ((takeA R3.1 wP4).2.2 = 0 ∧ (takeA R3.1 wP4).1.peer = 6 ∧ (takeA R3.1 wP4).1.phase = 2 ∧ (takeA R3.1 wP4).2.1.packets = [⟨1, 1, 6, 0, ⟨#[]⟩, 0, 0⟩] ∧ (takeA R3.1 wP4).2.1.lost = [tY, tZ]) := by rw [HWA.out]; exact w5_ok
     obtain ⟨R5, HR5⟩ : ∃ R5, Hid (takeA R3.1 wP4 = R5) := ⟨_, rfl⟩
     rw [HR5.out] at HJ5 HW5
     have l8 := HJ5.out.k5.lt
     have l3 := HJ5.out.k6.lt
     have p1 : R5.1.peer = 6 := HW5.out.2.1
     have p2 : R5.1.phase = 2 := HW5.out.2.2.1
     go_upto_region 11 with fail
     go_cut [119] from 14 (fun v wx => v = .bool false ∧ Below Y.heap.size Y wx)
     case first => as_aux_lemma =>
      refine draw (fun w' => Below Y.heap.size Y w') 26 rfl (by kernel_rfl) (fun Qd hQd => ?_)
      have HRD := fun (wI : World) (hI : (fun w' => Below Y.heap.size Y w') wI) => (have q9 := HJ5.out.k5.below hI l8; have e1 := q9.cell 1 (v := .int .i64 R5.1.peer) rfl; have e2 := q9.cell 2 (v := .int .i64 R5.1.phase) rfl; have q8 := HJ5.out.k6.below hI l3; have e0 := q8.cell 0 (v := .slice P5 R5.2.1.packets.length cp5) rfl; And.intro e1 (And.intro e2 e0))
      apply anyI_step 0 rfl (by kernel_rfl)
      focus (intro wI hI Kv hKv; obtain ⟨e1, e2, e0⟩ := HRD wI hI; go_simp; exact hKv)
      intro Kd hKd
      go_simp
      refine hKd _ ?_
      clear hKd Kd
      apply anyI_step 1 rfl (by kernel_rfl)
      focus (intro wI hI Kv hKv; obtain ⟨e1, e2, e0⟩ := HRD wI hI; go_simp; exact hKv)
      intro Kd hKd
      go_simp
      refine hKd _ ?_
      clear hKd Kd
      apply anyI_step 2 rfl (by kernel_rfl)
      focus (intro wI hI Kv hKv; obtain ⟨e1, e2, e0⟩ := HRD wI hI; go_simp; exact hKv)
      intro Kd hKd
      go_simp
      refine hKd _ ?_
      clear hKd Kd
      apply anyI_step 3 rfl (by kernel_rfl)
      focus (intro wI hI Kv hKv; obtain ⟨e1, e2, e0⟩ := HRD wI hI; go_simp; exact hKv)
      intro Kd hKd
      go_simp
      refine hKd _ ?_
      clear hKd Kd
      apply anyI_step 4 rfl (by kernel_rfl)
      focus (intro wI hI Kv hKv; obtain ⟨e1, e2, e0⟩ := HRD wI hI; go_simp; exact hKv)
      intro Kd hKd
      go_simp
      refine hKd _ ?_
      clear hKd Kd
      apply anyI_step 5 rfl (by kernel_rfl)
      focus (intro wI hI Kv hKv; obtain ⟨e1, e2, e0⟩ := HRD wI hI; go_simp; exact hKv)
      intro Kd hKd
      go_simp
      refine hKd _ ?_
      clear hKd Kd
      apply anyI_step 6 rfl (by kernel_rfl)
      focus (intro wI hI Kv hKv; obtain ⟨e1, e2, e0⟩ := HRD wI hI; go_simp; exact hKv)
      intro Kd hKd
      go_simp
      refine hKd _ ?_
      clear hKd Kd
      apply anyI_step 7 rfl (by kernel_rfl)
      focus (intro wI hI Kv hKv; obtain ⟨e1, e2, e0⟩ := HRD wI hI; go_simp; exact hKv)
      intro Kd hKd
      go_simp
      refine hKd _ ?_
      clear hKd Kd
      apply anyI_step 8 rfl (by kernel_rfl)
      focus (intro wI hI Kv hKv; obtain ⟨e1, e2, e0⟩ := HRD wI hI; go_simp; exact hKv)
      intro Kd hKd
      go_simp
      refine hKd _ ?_
      clear hKd Kd
      apply anyI_step 9 rfl (by kernel_rfl)
      focus (intro wI hI Kv hKv; obtain ⟨e1, e2, e0⟩ := HRD wI hI; go_simp; exact hKv)
      intro Kd hKd
      go_simp
      refine hKd _ ?_
      clear hKd Kd
      apply anyI_step 10 rfl (by kernel_rfl)
      focus (intro wI hI Kv hKv; obtain ⟨e1, e2, e0⟩ := HRD wI hI; go_simp; exact hKv)
      intro Kd hKd
      go_simp
      refine hKd _ ?_
      clear hKd Kd
      apply anyI_step 11 rfl (by kernel_rfl)
      focus (intro wI hI Kv hKv; obtain ⟨e1, e2, e0⟩ := HRD wI hI; go_simp; exact hKv)
      intro Kd hKd
      go_simp
      refine hKd _ ?_
      clear hKd Kd
      apply anyI_step 12 rfl (by kernel_rfl)
      focus (intro wI hI Kv hKv; obtain ⟨e1, e2, e0⟩ := HRD wI hI; go_simp; exact hKv)
      intro Kd hKd
      go_simp
      refine hKd _ ?_
      clear hKd Kd
      apply anyI_step 13 rfl (by kernel_rfl)
      focus (intro wI hI Kv hKv; obtain ⟨e1, e2, e0⟩ := HRD wI hI; go_simp; exact hKv)
      intro Kd hKd
      go_simp
      refine hKd _ ?_
      clear hKd Kd
      apply anyI_step 14 rfl (by kernel_rfl)
      focus (intro wI hI Kv hKv; obtain ⟨e1, e2, e0⟩ := HRD wI hI; go_simp; exact hKv)
      intro Kd hKd
      go_simp
      refine hKd _ ?_
      clear hKd Kd
      clear HRD
      refine anyI_one' 15 rfl (by kernel_rfl) ((Below.refl _ Y).drew) (fun Kd hKd => ?_)
      go_wp2_with (go_at_call 42; go_must (refine (hello31_any 1 6 _).mono ?_); rintro r v1 ⟨rfl, hB1⟩)
      have HB1 : Hid (Below Y.heap.size Y v1) := below_in (Below.refl _ Y).drew hB1
      clear hB1
      refine anyI_one' 16 rfl (by kernel_rfl) (HB1.out) (fun Kd hKd => ?_)
      go_wp2_with (go_at_call 37; go_must (refine (one_any P5 cp5 R5.2.1.packets ⟨1, 1, 6, 0, ⟨#[]⟩, 0, 0⟩ v1 (HJ5.out.gn.p.below HB1.out (Nat.le_refl _))).mono ?_); rintro r v2 ⟨rfl, hB2⟩; rw [HW5.out.2.2.2.1, decide_eq_true rfl])
      have HB2 : Hid (Below Y.heap.size Y v2) := below_in HB1.out hB2
      clear hB2
      apply anyI_step 17 rfl (by kernel_rfl)
      focus (intro wI hI Kv hKv; have q8 := HJ5.out.k6.below hI l3; have e2 := q8.cell 2 (v := .slice L5 R5.2.1.lost.length cl5) rfl; clear q8; go_simp; exact hKv)
      intro Kd hKd
      go_simp
      refine hKd _ ?_
      clear hKd Kd
      apply anyI_step 18 rfl (by kernel_rfl)
      focus (intro wI hI Kv hKv; have q8 := HJ5.out.k6.below hI l3; have e2 := q8.cell 2 (v := .slice L5 R5.2.1.lost.length cl5) rfl; clear q8; go_simp; exact hKv)
      intro Kd hKd
      go_simp
      refine hKd _ ?_
      clear hKd Kd
      apply anyI_step 19 rfl (by kernel_rfl)
      focus (intro wI hI Kv hKv; have q8 := HJ5.out.k6.below hI l3; have e2 := q8.cell 2 (v := .slice L5 R5.2.1.lost.length cl5) rfl; clear q8; go_simp; exact hKv)
      intro Kd hKd
      go_simp
      refine hKd _ ?_
      clear hKd Kd
      apply anyI_step 20 rfl (by kernel_rfl)
      focus (intro wI hI Kv hKv; have q8 := HJ5.out.k6.below hI l3; have e2 := q8.cell 2 (v := .slice L5 R5.2.1.lost.length cl5) rfl; clear q8; go_simp; exact hKv)
      intro Kd hKd
      go_simp
      refine hKd _ ?_
      clear hKd Kd
      apply anyI_step 21 rfl (by kernel_rfl)
      focus (intro wI hI Kv hKv; have q8 := HJ5.out.k6.below hI l3; have e2 := q8.cell 2 (v := .slice L5 R5.2.1.lost.length cl5) rfl; clear q8; go_simp; exact hKv)
      intro Kd hKd
      go_simp
      refine hKd _ ?_
      clear hKd Kd
      refine anyI_one' 22 rfl (by kernel_rfl) (HB2.out) (fun Kd hKd => ?_)
      go_wp2
      obtain ⟨v3, hv3⟩ : ∃ v3, v2.alloc (.cells #[.string ⟨#[121]⟩, .string ⟨#[122]⟩] 9) = v3 := ⟨_, rfl⟩
      have HB3 : Hid (Below Y.heap.size Y v3) := by rw [← hv3]; exact HB2.out.alloc HB2.out.size _
      have HK5 : Hid (Blk v3 v2.heap.size (.cells #[.string ⟨#[121]⟩, .string ⟨#[122]⟩] 9)) := by rw [← hv3]; exact Blk.new _ _
      have HC5 : Hid (Cells v3 (some ⟨v2.heap.size, 0, none⟩) (strs [tY, tZ])) := cells_blk HK5.out (by show 2 ≤ _; omega)
      rw [hv3]
      clear hv3
      refine anyI_one' 23 rfl (by kernel_rfl) (HB3.out) (fun Kd hKd => ?_)
      go_wp2_with (go_at_call 39; go_must (refine (same_texts L5 cl5 R5.2.1.lost (some ⟨v2.heap.size, 0, none⟩) 2 [tY, tZ] v3 (HJ5.out.gn.l.below HB3.out (Nat.le_refl _)) HC5.out).mono ?_); rintro r v4 ⟨rfl, hB4⟩; rw [HW5.out.2.2.2.2, decide_eq_true rfl])
      have HB4 : Hid (Below Y.heap.size Y v4) := below_in HB3.out hB4
      clear hB4
      apply anyI_step 24 rfl (by kernel_rfl)
      focus (intro wI hI Kv hKv; go_simp; exact hKv)
      intro Kd hKd
      go_simp
      refine hKd _ ?_
      clear hKd Kd
      apply anyI_step 25 rfl (by kernel_rfl)
      focus (intro wI hI Kv hKv; go_simp; exact hKv)
      intro Kd hKd
      go_simp
      refine hKd _ ?_
      clear hKd Kd
      refine anyI_end (by kernel_rfl) (HB4.out) (hQd _ _ ?_)
      clear hQd Qd
      go_wp2_with fail
      go_meet
      exact ⟨rfl, HB4.out⟩
     case rest =>
      obtain ⟨rfl, hbx⟩ := hcut
      obtain ⟨X, rfl⟩ : ∃ X, X = wc := ⟨wc, rfl⟩
      have HBX : Hid (Below w.heap.size w X) := HBY.out.trans (hbx.mono HBY.out.size)
      clear hbx l3 l8 p1 p2 HJ5 HBY HW5
      go_wp2_with fail
      obtain ⟨v1, hv1⟩ : ∃ v1, X.alloc (.cells #[.int .i64 1, .int .i64 0, .int .i64 0, .string ⟨#[120]⟩, .int .i64 2, .int .i64 0, .int .i64 0, .string ⟨#[]⟩, .int .i64 5, .int .i64 0, .int .i64 0, .string ⟨#[]⟩] 65) = v1 := ⟨_, rfl⟩
      have HB1 : Hid (Below X.heap.size X v1) := by rw [← hv1]; exact (Below.refl _ X).alloc (Nat.le_refl _) _
      have HK1 : Hid (Blk v1 X.heap.size (.cells #[.int .i64 1, .int .i64 0, .int .i64 0, .string ⟨#[120]⟩, .int .i64 2, .int .i64 0, .int .i64 0, .string ⟨#[]⟩, .int .i64 5, .int .i64 0, .int .i64 0, .string ⟨#[]⟩] 65)) := by rw [← hv1]; exact Blk.new _ _
      have HC1 : Hid (Cells v1 (some ⟨X.heap.size, 0, none⟩) (dds wDs)) := cells_blk HK1.out (by show 12 ≤ _; omega)
      rw [hv1]
      clear hv1
      refine (quiet_any (some ⟨X.heap.size, 0, none⟩) 3 wDs none 0 [] v1 HC1.out (Cells.nil _ _)).mono ?_
      rintro r v2 ⟨EA, ce, WA, cw, TA, ct, es, zs, rfl, hln, hB, _⟩
      have HB2 : Hid (Below X.heap.size X v2) := below_in HB1.out hB
      have HW6 := Lib.hid w6_ok
      obtain ⟨Q, HQ⟩ : ∃ Q, Hid (quietA wDs [] = Q) := ⟨_, rfl⟩
      rw [HQ.out] at hln HW6 ⊢
      have n0 : Q.2.1 = 8 := by rw [HW6.out.1]
      have n1 : Q.2.2 = 0 := by rw [HW6.out.1]
      have n2 : Q.1.tales.length = 2 := HW6.out.2.1
      have n3 : Q.1.ends.length = 2 := HW6.out.2.2.1
      have n4 : es.length = 2 := by rw [← n3, ← hln.ev, List.length_map]
      obtain ⟨z, b, o, hz, hb, hix, e0, e1, e2, _, _, _, _⟩ := ez_at (c := ce) (k := 0) hln.ends (by omega)
      have hph : z.v.phase = 3 := by
       have h1 := HW6.out.2.2.2
       rw [← hln.ev, List.getElem?_map, hz] at h1
       simpa using h1
      rw [n4] at hix
      have hix0 : ∀ w', (Instr.indexAt 24 (.slice EA 2 ce) (.int .i64 0)).run Tryd.prog w' = .ok (.pointer (some ⟨b, o, none⟩)) w' := hix
      rw [hph] at e2
      rw [n0, n1]
      unfold lnV
      rw [n2, n3]
      clear hln hB hz hix e0 e1 hph n0 n1 n2 n3 n4
      go_wp2
      go_ret
      exact ⟨rfl, (HBX.out.trans (HB2.out.mono HBX.out.size)).alloc (by have := HBX.out.size; have := HB2.out.size; omega) _⟩
end Go.Proofs.YtejabnoidhlfaaaDoor
