/- Contract: data. -/
import Derived.Test.YtejabnoidhlfaaaDoorS13

/- Contract: data. -/
namespace Go.Proofs.YtejabnoidhlfaaaDoor
open Go.RowKit Go.Maps

set_option maxRecDepth 100000 in
set_option maxHeartbeats 8000000 in
theorem data_any (bx bm : Nat) (e : En) (A : Option Addr) (c : Nat) (vi : Value) (i : Nat) (w : World) (h : Xs w bx bm e A c vi) (hw : 0 ≤ e.want ∧ e.want ≤ most) (hb : 0 ≤ e.base ∧ e.base ≤ most) (hi : i < e.out.length) (hl : e.out.length ≤ 1000) :
  Calls Tryd.prog 28 #[.pointer (some ⟨bx, 0, none⟩), .int .i64 i] w fun r w' => r = .returned (pkV (dataA e i)) ∧ Below w.heap.size w w' := by
 have hb' := hb
 unfold most at hb'
 have HX := Lib.hid h
 clear h
 go_enter Tryd.func28, Tryd.ntmps28
 go_wp2_with fail
 obtain ⟨W, hW⟩ : ∃ W, w.alloc (.cells #[.int .i64 0, .int .i64 0, .int .i64 0, .int .i64 0, .string ⟨#[]⟩, .int .i64 0, .int .i64 0] 49) = W := ⟨_, rfl⟩
 rw [hW]
 have HB0 : Hid (Below w.heap.size w W) := by rw [← hW]; exact (Below.refl _ w).alloc (Nat.le_refl _) _
 have hbn : Blk W w.heap.size (.cells pk0 49) := by rw [← hW]; exact Blk.new _ _
 have HBN := Lib.hid hbn
 have hX1 := HX.out.below HB0.out
 have HX1 := Lib.hid hX1
 have hbx1 : bx ≠ w.heap.size := by have := HX.out.box.lt; omega
 have hsW := HB0.out.size
 have hlW := hbn.lt
 have lbx := hX1.box.lt
 have lbxw := HX.out.box.lt
 clear hW hbn
 refine (report_any bx bm e A c vi W HX1.out hw).mono ?_
 rintro r w2 ⟨rfl, hB2⟩
 have HB2 := Lib.hid hB2
 unfold pkV
 have hs2 := HB2.out.size
 obtain ⟨bq, hbq⟩ : ∃ bq, w2.heap.size = bq := ⟨_, rfl⟩
 go_wp2_with fail
 obtain ⟨W3, hW3⟩ : ∃ W3, w2.alloc (.cells #[.int .i64 (reportA e).kind, .int .i64 (reportA e).frm, .int .i64 (reportA e).to, .int .i64 (reportA e).num, .string (reportA e).t, .int .i64 (reportA e).ack, .int .i64 (reportA e).held] 49) = W3 := ⟨_, rfl⟩
 rw [hW3]
 have hb5 : Blk W3 bq (.cells (pkB (reportA e)) 49) := by rw [← hW3, ← hbq]; exact Blk.new _ _
 have HB23 : Hid (Below w2.heap.size w2 W3) := by rw [← hW3]; exact (Below.refl _ w2).alloc (Nat.le_refl _) _
 have HB3 : Hid (Below W.heap.size W W3) := below_in HB2.out HB23.out
 have hX3 := HX1.out.below HB3.out
 have hb4 : Blk W3 w.heap.size (.cells (pkB pkZ) 49) := HBN.out.below HB3.out hlW
 have c3 := hX3.box.cell 3 (v := .int .i64 e.base) rfl
 have c4 := hX3.box.cell 4 (v := .slice A e.out.length c) rfl
 obtain ⟨x, bo, oo, hx, hbo, hix, hc0, hc1⟩ := ou_at (c := c) HX1.out.out hi
 have q0 := cell_chain HB3.out hbo hc0
 have hs3 := HB23.out.size
 have l0 : bx < W3.heap.size := hX3.box.lt
 have l1 : bo < W3.heap.size := by omega
 have n0 : ¬ bx = bq := by omega
 have n1 : ¬ bo = bq := by omega
 have n2 : ¬ w.heap.size = bq := by omega
 have HXX : Hid (dataA e i = { reportA e with kind := 2, num := e.base + i, t := x.t }) := by
  show _ = _
  unfold dataA reportA
  simp [List.getD, hx]
 have hw4 : IntKind.i64.wrap (e.base + (i : Int)) = e.base + i := wrap_ok ⟨by omega, by omega⟩
 have z0 := hb5.cell 0 (v := .int .i64 (reportA e).kind) rfl
 have z3 := hb5.cell 3 (v := .int .i64 (reportA e).num) rfl
 have z4 := hb5.cell 4 (v := .string (reportA e).t) rfl
 have y0 := hb5.free 0
 have y3 := hb5.free 3
 have y4 := hb5.free 4
 have yl := hb5.lt
 have HB5 := Lib.hid hb5
 have HB4 := Lib.hid hb4
 clear hX1 hX3 hb5 hb4 hc0 hc1 hx hW3
 refine draw (fun w' => Frame (fun b => b = bq) W3 w') 22 rfl (by kernel_rfl) (fun Qd hQd => ?_)
 apply anyI_step 0 rfl (by kernel_rfl)
 focus (intro wI hI Kv hKv; have t3 := cell_frame hI l0 n0 c3; have t4 := cell_frame hI l0 n0 c4; have t5 := cell_frame hI l1 n1 q0; go_simp; exact hKv)
 intro Kd hKd
 go_simp
 refine hKd _ ?_
 clear hKd Kd
 apply anyI_step 5 rfl (by kernel_rfl)
 focus (intro wI hI Kv hKv; have t3 := cell_frame hI l0 n0 c3; have t4 := cell_frame hI l0 n0 c4; have t5 := cell_frame hI l1 n1 q0; go_simp; exact hKv)
 intro Kd hKd
 go_simp
 refine hKd _ ?_
 clear hKd Kd
 apply anyI_step 7 rfl (by kernel_rfl)
 focus (intro wI hI Kv hKv; have t3 := cell_frame hI l0 n0 c3; have t4 := cell_frame hI l0 n0 c4; have t5 := cell_frame hI l1 n1 q0; go_simp; exact hKv)
 intro Kd hKd
 go_simp
 refine hKd _ ?_
 clear hKd Kd
 apply anyI_step 12 rfl (by kernel_rfl)
 focus (intro wI hI Kv hKv; have t3 := cell_frame hI l0 n0 c3; have t4 := cell_frame hI l0 n0 c4; have t5 := cell_frame hI l1 n1 q0; go_simp; exact hKv)
 intro Kd hKd
 go_simp
 refine hKd _ ?_
 clear hKd Kd
 apply anyI_step 16 rfl (by kernel_rfl)
 focus (intro wI hI Kv hKv; have t3 := cell_frame hI l0 n0 c3; have t4 := cell_frame hI l0 n0 c4; have t5 := cell_frame hI l1 n1 q0; go_simp; exact hKv)
 intro Kd hKd
 go_simp
 refine hKd _ ?_
 clear hKd Kd
 apply anyI_step 1 rfl (by kernel_rfl)
 focus (intro wI hI Kv hKv; have t3 := cell_frame hI l0 n0 c3; have t4 := cell_frame hI l0 n0 c4; have t5 := cell_frame hI l1 n1 q0; go_simp; exact hKv)
 intro Kd hKd
 go_simp
 refine hKd _ ?_
 clear hKd Kd
 apply anyI_step 8 rfl (by kernel_rfl)
 focus (intro wI hI Kv hKv; have t3 := cell_frame hI l0 n0 c3; have t4 := cell_frame hI l0 n0 c4; have t5 := cell_frame hI l1 n1 q0; go_simp; exact hKv)
 intro Kd hKd
 go_simp
 refine hKd _ ?_
 clear hKd Kd
 apply anyI_step 2 rfl (by kernel_rfl)
 focus (intro wI hI Kv hKv; have t3 := cell_frame hI l0 n0 c3; have t4 := cell_frame hI l0 n0 c4; have t5 := cell_frame hI l1 n1 q0; go_simp; exact hKv)
 intro Kd hKd
 go_simp
 refine hKd _ ?_
 clear hKd Kd
 apply anyI_step 9 rfl (by kernel_rfl)
 focus (intro wI hI Kv hKv; have t3 := cell_frame hI l0 n0 c3; have t4 := cell_frame hI l0 n0 c4; have t5 := cell_frame hI l1 n1 q0; go_simp; exact hKv)
 intro Kd hKd
 go_simp
 refine hKd _ ?_
 clear hKd Kd
 apply anyI_step 3 rfl (by kernel_rfl)
 focus (intro wI hI Kv hKv; have t3 := cell_frame hI l0 n0 c3; have t4 := cell_frame hI l0 n0 c4; have t5 := cell_frame hI l1 n1 q0; go_simp; exact hKv)
 intro Kd hKd
 go_simp
 refine hKd _ ?_
 clear hKd Kd
 apply anyI_step 10 rfl (by kernel_rfl)
 focus (intro wI hI Kv hKv; have t3 := cell_frame hI l0 n0 c3; have t4 := cell_frame hI l0 n0 c4; have t5 := cell_frame hI l1 n1 q0; go_simp; exact hKv)
 intro Kd hKd
 go_simp
 refine hKd _ ?_
 clear hKd Kd
 apply anyI_step 4 rfl (by kernel_rfl)
 focus (intro wI hI Kv hKv; have t3 := cell_frame hI l0 n0 c3; have t4 := cell_frame hI l0 n0 c4; have t5 := cell_frame hI l1 n1 q0; go_simp; exact hKv)
 intro Kd hKd
 go_simp
 refine hKd _ ?_
 clear hKd Kd
 apply anyI_step 11 rfl (by kernel_rfl)
 focus (intro wI hI Kv hKv; have t3 := cell_frame hI l0 n0 c3; have t4 := cell_frame hI l0 n0 c4; have t5 := cell_frame hI l1 n1 q0; go_simp; exact hKv)
 intro Kd hKd
 go_simp
 refine hKd _ ?_
 clear hKd Kd
 apply anyI_step 6 rfl (by kernel_rfl)
 focus (intro wI hI Kv hKv; have t3 := cell_frame hI l0 n0 c3; have t4 := cell_frame hI l0 n0 c4; have t5 := cell_frame hI l1 n1 q0; go_simp; exact hKv)
 intro Kd hKd
 go_simp
 refine hKd _ ?_
 clear hKd Kd
 apply anyI_step 13 rfl (by kernel_rfl)
 focus (intro wI hI Kv hKv; have t3 := cell_frame hI l0 n0 c3; have t4 := cell_frame hI l0 n0 c4; have t5 := cell_frame hI l1 n1 q0; go_simp; exact hKv)
 intro Kd hKd
 go_simp
 refine hKd _ ?_
 clear hKd Kd
 apply anyI_step 14 rfl (by kernel_rfl)
 focus (intro wI hI Kv hKv; have t3 := cell_frame hI l0 n0 c3; have t4 := cell_frame hI l0 n0 c4; have t5 := cell_frame hI l1 n1 q0; go_simp; exact hKv)
 intro Kd hKd
 go_simp
 refine hKd _ ?_
 clear hKd Kd
 apply anyI_step 15 rfl (by kernel_rfl)
 focus (intro wI hI Kv hKv; have t3 := cell_frame hI l0 n0 c3; have t4 := cell_frame hI l0 n0 c4; have t5 := cell_frame hI l1 n1 q0; go_simp; exact hKv)
 intro Kd hKd
 go_simp
 refine hKd _ ?_
 clear hKd Kd
 refine anyI_one' 17 rfl (by kernel_rfl) ((Frame.refl _ _).drew) (fun Kd hKd => ?_)
 go_wp2
 have F1 := ((Frame.refl (fun b => b = bq) W3).setCell (p := ⟨bq, 0, none⟩) (.inl rfl) (.int .i64 2))
 apply anyI_step 18 rfl (by kernel_rfl)
 focus (intro wI hI Kv hKv; go_simp; exact hKv)
 intro Kd hKd
 go_simp
 refine hKd _ ?_
 clear hKd Kd
 refine anyI_one' 19 rfl (by kernel_rfl) (F1.drew) (fun Kd hKd => ?_)
 go_wp2
 have F2 := F1.setCell (p := ⟨bq, 3, none⟩) (.inl rfl) (.int .i64 (e.base + i))
 apply anyI_step 20 rfl (by kernel_rfl)
 focus (intro wI hI Kv hKv; go_simp; exact hKv)
 intro Kd hKd
 go_simp
 refine hKd _ ?_
 clear hKd Kd
 refine anyI_one' 21 rfl (by kernel_rfl) (F2.drew) (fun Kd hKd => ?_)
 go_wp2
 have F3 := F2.setCell (p := ⟨bq, 4, none⟩) (.inl rfl) (.string x.t)
 refine anyI_end (by kernel_rfl) (F3.drew) (hQd _ _ ?_)
 clear hQd Qd
 obtain ⟨W4, hW4⟩ : ∃ W4, (((W3.setCell ⟨bq, 0, none⟩ (.int .i64 2)).setCell ⟨bq, 3, none⟩ (.int .i64 (e.base + (i : Int)))).setCell ⟨bq, 4, none⟩ (.string x.t)).drew = W4 := ⟨_, rfl⟩
 have F3 := F3.drew
 rw [hW4] at F3 ⊢
 have hb5 : Blk W4 bq (.cells (pkB (dataA e i)) 49) := by
  rw [← hW4, HXX.out]
  exact (((HB5.out.set 0 _).set 3 _).set 4 _).drew
 have hbz : Blk W4 w.heap.size (.cells (pkB pkZ) 49) := by
  rw [← hW4]
  exact (((HB4.out.far (by exact n2) _).far (by exact n2) _).far (by exact n2) _).drew
 have HBZ := Lib.hid hbz
 have hB4 : Below w.heap.size w W4 := (HB0.out.trans (HB3.out.mono hsW)).trans (F3.below (B := w.heap.size) (fun b e => by omega) (by omega))
 have d0 := hb5.cell 0 (v := .int .i64 (dataA e i).kind) rfl
 have d1 := hb5.cell 1 (v := .int .i64 (dataA e i).frm) rfl
 have d2 := hb5.cell 2 (v := .int .i64 (dataA e i).to) rfl
 have d3 := hb5.cell 3 (v := .int .i64 (dataA e i).num) rfl
 have d4 := hb5.cell 4 (v := .string (dataA e i).t) rfl
 have d5 := hb5.cell 5 (v := .int .i64 (dataA e i).ack) rfl
 have d6 := hb5.cell 6 (v := .int .i64 (dataA e i).held) rfl
 have dl := hb5.lt
 unfold pkB pkZ at hbz
 clear z0 z3 z4 y0 y3 y4 yl hb5 c3 c4 q0 F1 F2 F3 hW4
 have z0 := hbz.cell 0 (v := .int .i64 0) rfl
 have z1 := hbz.cell 1 (v := .int .i64 0) rfl
 have z2 := hbz.cell 2 (v := .int .i64 0) rfl
 have z3 := hbz.cell 3 (v := .int .i64 0) rfl
 have z4 := hbz.cell 4 (v := .string ⟨#[]⟩) rfl
 have z5 := hbz.cell 5 (v := .int .i64 0) rfl
 have z6 := hbz.cell 6 (v := .int .i64 0) rfl
 have y0 := hbz.free 0
 have y1 := hbz.free 1
 have y2 := hbz.free 2
 have y3 := hbz.free 3
 have y4 := hbz.free 4
 have y5 := hbz.free 5
 have y6 := hbz.free 6
 have yl := hbz.lt
 go_wp2
 have hl := load44 (setPk_blk HBZ.out (dataA e i))
 exact bodyPost_ret (v := pkV (dataA e i)) (results_c rfl rfl hl) rfl ⟨rfl, setPk_below hB4 (Nat.le_refl _) _⟩
end Go.Proofs.YtejabnoidhlfaaaDoor
