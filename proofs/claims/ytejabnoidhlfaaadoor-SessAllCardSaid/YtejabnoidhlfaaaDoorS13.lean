/- Contract: hello. -/
import Derived.Test.YtejabnoidhlfaaaDoorS7

/- Contracts: hello, data. -/
namespace Go.Proofs.YtejabnoidhlfaaaDoor
open Go.RowKit Go.Maps

theorem bempty : ByteArray.empty = ⟨#[]⟩ := rfl
/-- A packet is stored whole. -/
def setPk (w : World) (b : Nat) (p : Pk) : World := (((((((w.setCell ⟨b, 0, none⟩ (.int .i64 p.kind)).setCell ⟨b, 1, none⟩ (.int .i64 p.frm)).setCell ⟨b, 2, none⟩ (.int .i64 p.to)).setCell ⟨b, 3, none⟩ (.int .i64 p.num)).setCell ⟨b, 4, none⟩ (.string p.t)).setCell ⟨b, 5, none⟩ (.int .i64 p.ack)).setCell ⟨b, 6, none⟩ (.int .i64 p.held))
set_option maxRecDepth 100000 in
set_option maxHeartbeats 4000000 in
theorem setPk_blk {w : World} {b : Nat} {q : Pk} (h : Blk w b (.cells (pkB q) 49)) (p : Pk) : Blk (setPk w b p) b (.cells (pkB p) 49) :=
 ((((((h.set 0 (.int .i64 p.kind)).set 1 (.int .i64 p.frm)).set 2 (.int .i64 p.to)).set 3 (.int .i64 p.num)).set 4 (.string p.t)).set 5 (.int .i64 p.ack)).set 6 (.int .i64 p.held)
theorem setPk_below {B : Nat} {w0 w : World} {b : Nat} (h : Below B w0 w) (hb : B ≤ b) (p : Pk) : Below B w0 (setPk w b p) :=
 ((((((h.setCell hb _).setCell hb _).setCell hb _).setCell hb _).setCell hb _).setCell hb _).setCell hb _
def pkZ : Pk := ⟨0, 0, 0, 0, ⟨#[]⟩, 0, 0⟩
theorem setPk_frame {S : Nat → Prop} {w0 w : World} {b : Nat} (h : Frame S w0 w) (hb : S b ∨ w0.heap.size ≤ b) (p : Pk) : Frame S w0 (setPk w b p) :=
 ((((((h.setCell hb _).setCell hb _).setCell hb _).setCell hb _).setCell hb _).setCell hb _).setCell hb _

set_option maxRecDepth 100000 in
set_option maxHeartbeats 4000000 in
theorem hello_any (bx bm : Nat) (e : En) (A : Option Addr) (c : Nat) (vi : Value) (w : World) (h : Xs w bx bm e A c vi) :
  Calls Tryd.prog 25 #[.pointer (some ⟨bx, 0, none⟩)] w fun r w' => r = .returned (pkV (helloA e)) ∧ Below w.heap.size w w' := by
 have HX := Lib.hid h
 clear h
 go_enter Tryd.func25, Tryd.ntmps25
 go_wp2
 obtain ⟨W, hW⟩ : ∃ W, w.alloc (.cells #[.int .i64 0, .int .i64 0, .int .i64 0, .int .i64 0, .string ⟨#[]⟩, .int .i64 0, .int .i64 0] 49) = W := ⟨_, rfl⟩
 rw [hW]
 have HB0 : Hid (Below w.heap.size w W) := by rw [← hW]; exact (Below.refl _ w).alloc (Nat.le_refl _) _
 have hbn : Blk W w.heap.size (.cells pk0 49) := by rw [← hW]; exact Blk.new _ _
 have HBN := Lib.hid hbn
 have hX1 := HX.out.below HB0.out
 have HX1 := Lib.hid hX1
 have hbx1 : bx ≠ w.heap.size := by have := HX.out.box.lt; omega
 have hsW := HB0.out.size
 have hlW := hbn.lt
 have lbx := hX1.box.lt
 have lbxw := HX.out.box.lt
 have c0 := hX1.box.cell 0 (v := .int .i64 e.life) rfl
 have c1 := hX1.box.cell 1 (v := .int .i64 e.peer) rfl
 have hbz : Blk W w.heap.size (.cells (pkB pkZ) 49) := HBN.out
 unfold pkB pkZ at hbz
 clear hW hbn hX1
 refine draw (fun w' => Below w.heap.size W w') 12 rfl (by kernel_rfl) (fun Qd hQd => ?_)
 apply anyI_step 0 rfl (by kernel_rfl)
 focus (intro wI hI Kv hKv; have t0 := cell_chain hI lbxw c0; have t1 := cell_chain hI lbxw c1; go_simp; exact hKv)
 intro Kd hKd
 go_simp
 refine hKd _ ?_
 clear hKd Kd
 apply anyI_step 5 rfl (by kernel_rfl)
 focus (intro wI hI Kv hKv; have t0 := cell_chain hI lbxw c0; have t1 := cell_chain hI lbxw c1; go_simp; exact hKv)
 intro Kd hKd
 go_simp
 refine hKd _ ?_
 clear hKd Kd
 apply anyI_step 1 rfl (by kernel_rfl)
 focus (intro wI hI Kv hKv; have t0 := cell_chain hI lbxw c0; have t1 := cell_chain hI lbxw c1; go_simp; exact hKv)
 intro Kd hKd
 go_simp
 refine hKd _ ?_
 clear hKd Kd
 apply anyI_step 6 rfl (by kernel_rfl)
 focus (intro wI hI Kv hKv; have t0 := cell_chain hI lbxw c0; have t1 := cell_chain hI lbxw c1; go_simp; exact hKv)
 intro Kd hKd
 go_simp
 refine hKd _ ?_
 clear hKd Kd
 apply anyI_step 2 rfl (by kernel_rfl)
 focus (intro wI hI Kv hKv; have t0 := cell_chain hI lbxw c0; have t1 := cell_chain hI lbxw c1; go_simp; exact hKv)
 intro Kd hKd
 go_simp
 refine hKd _ ?_
 clear hKd Kd
 apply anyI_step 7 rfl (by kernel_rfl)
 focus (intro wI hI Kv hKv; have t0 := cell_chain hI lbxw c0; have t1 := cell_chain hI lbxw c1; go_simp; exact hKv)
 intro Kd hKd
 go_simp
 refine hKd _ ?_
 clear hKd Kd
 apply anyI_step 3 rfl (by kernel_rfl)
 focus (intro wI hI Kv hKv; have t0 := cell_chain hI lbxw c0; have t1 := cell_chain hI lbxw c1; go_simp; exact hKv)
 intro Kd hKd
 go_simp
 refine hKd _ ?_
 clear hKd Kd
 apply anyI_step 8 rfl (by kernel_rfl)
 focus (intro wI hI Kv hKv; have t0 := cell_chain hI lbxw c0; have t1 := cell_chain hI lbxw c1; go_simp; exact hKv)
 intro Kd hKd
 go_simp
 refine hKd _ ?_
 clear hKd Kd
 apply anyI_step 4 rfl (by kernel_rfl)
 focus (intro wI hI Kv hKv; have t0 := cell_chain hI lbxw c0; have t1 := cell_chain hI lbxw c1; go_simp; exact hKv)
 intro Kd hKd
 go_simp
 refine hKd _ ?_
 clear hKd Kd
 apply anyI_step 9 rfl (by kernel_rfl)
 focus (intro wI hI Kv hKv; have t0 := cell_chain hI lbxw c0; have t1 := cell_chain hI lbxw c1; go_simp; exact hKv)
 intro Kd hKd
 go_simp
 refine hKd _ ?_
 clear hKd Kd
 apply anyI_step 10 rfl (by kernel_rfl)
 focus (intro wI hI Kv hKv; have t0 := cell_chain hI lbxw c0; have t1 := cell_chain hI lbxw c1; go_simp; exact hKv)
 intro Kd hKd
 go_simp
 refine hKd _ ?_
 clear hKd Kd
 refine anyI_one' 11 rfl (by kernel_rfl) ((Below.refl _ _).drew) (fun Kd hKd => ?_)

 have z0 := hbz.cell 0 (v := .int .i64 0) rfl
 have z1 := hbz.cell 1 (v := .int .i64 0) rfl
 have z2 := hbz.cell 2 (v := .int .i64 0) rfl
 have z3 := hbz.cell 3 (v := .int .i64 0) rfl
 have z4 := hbz.cell 4 (v := .string ⟨#[]⟩) rfl
 have z5 := hbz.cell 5 (v := .int .i64 0) rfl
 have z6 := hbz.cell 6 (v := .int .i64 0) rfl
 have y0 := hbz.free 0
 have y1 := hbz.free 1
 have y2 := hbz.free 2
 have y3 := hbz.free 3
 have y4 := hbz.free 4
 have y5 := hbz.free 5
 have y6 := hbz.free 6
 have yl := hbz.lt
 go_wp2
 have hWF := setPk_below (p := helloA e) (Below.refl w.heap.size W) (Nat.le_refl w.heap.size)
 have hWB := setPk_blk (p := helloA e) (q := pkZ) (HBN.out)
 obtain ⟨WF, hWE⟩ : ∃ WF, setPk W w.heap.size (helloA e) = WF := ⟨_, rfl⟩
 rw [hWE] at hWF hWB
 simp only [setPk, helloA, emptyT, bempty] at hWE
 rw [hWE]
 refine anyI_end (by kernel_rfl) (hWF.drew) (hQd _ _ ?_)
 clear hQd Qd
 go_wp2
 have hl := load44 hWB.drew
 exact bodyPost_ret (v := pkV (helloA e)) (results_c rfl rfl hl) rfl ⟨rfl, HB0.out.trans hWF.drew⟩
end Go.Proofs.YtejabnoidhlfaaaDoor
