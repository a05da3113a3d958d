/- Contracts: bits, report. -/
import Derived.Test.YtejabnoidhlfaaaDoorS6

/- Contracts: bits, report, hello, data. -/
namespace Go.Proofs.YtejabnoidhlfaaaDoor
open Go.RowKit Go.Maps

def bitsTo (e : En) : Nat → Int
 | 0 => 0
 | k + 1 => bitsTo e k + (if (getN e.inn (e.want + 1 + k)).isSome then 2 ^ k else 0)
theorem bitsTo_3 (e : En) : bitsTo e 3 = bitsA e := by
 rw [bits_get]
 simp only [bitsTo]
 have e1 : e.want + 1 + ((0 : Nat) : Int) = e.want + 1 := by omega
 have e2 : e.want + 1 + ((1 : Nat) : Int) = e.want + 2 := by omega
 have e3 : e.want + 1 + ((2 : Nat) : Int) = e.want + 3 := by omega
 rw [e1, e2, e3]
 simp
theorem bitsTo_bd (e : En) : ∀ k : Nat, 0 ≤ bitsTo e k ∧ bitsTo e k < 2 ^ k
 | 0 => by simp [bitsTo]
 | k + 1 => by
  have ih := bitsTo_bd e k
  rw [bitsTo]
  have h2 : (2 : Int) ^ (k + 1) = 2 * 2 ^ k := by rw [Int.pow_succ]; omega
  split <;> omega
theorem wrap_ok {x : Int} (h : -9223372036854775808 ≤ x ∧ x ≤ 9223372036854775807) : IntKind.i64.wrap x = x := by rw [IntKind.wrap_i64]; omega

set_option maxRecDepth 100000 in
set_option maxHeartbeats 4000000 in
theorem bits_any (bx bm : Nat) (e : En) (A : Option Addr) (c : Nat) (vi : Value) (w : World) (h : Xs w bx bm e A c vi) (hw : 0 ≤ e.want ∧ e.want ≤ most) :
  Calls Tryd.prog 51 #[.pointer (some ⟨bx, 0, none⟩)] w fun r w' => r = .returned (.int .i64 (bitsA e)) ∧ Below w.heap.size w w' := by
 unfold most at hw
 have HX := Lib.hid h
 clear h
 go_enter Tryd.func51, Tryd.ntmps51
 go_wp2
 go_loopw [3, 7] (fun n i wr => ∃ k : Nat, k ≤ 3 ∧ i = .int .i64 k ∧ n = .int .i64 (bitsTo e k) ∧ Below w.heap.size w wr) (fun _ i _ => 3 - (intOf i).toNat)
 case atStart => exact ⟨0, by omega, rfl, rfl, Below.refl _ _⟩
 case round =>
  obtain ⟨k, hk, hik, rfl, hB⟩ := hrel
  have HB := Lib.hid hB
  have hXr := HX.out.below hB
  have hbd := bitsTo_bd e k
  obtain ⟨N1, HN1⟩ : ∃ x, Hid (bitsTo e k = x) := ⟨_, rfl⟩
  rw [HN1.out] at hbd ⊢
  clear hB
  by_cases hlt : k < 3
  ·have hp2 : (2 : Int) ^ k ≤ 4 := by
    have : (2 : Nat) ^ k ≤ 2 ^ 2 := Nat.pow_le_pow_right (by decide) (by omega)
    exact_mod_cast this
   obtain ⟨jj, hjj⟩ : ∃ jj : Int, (k : Int) = jj := ⟨_, rfl⟩
   obtain ⟨G, HG⟩ : ∃ x, Hid (getN e.inn (e.want + 1 + jj) = x) := ⟨_, rfl⟩
   have hlook := hXr.drew.map.look (k := e.want + 1 + jj) ⟨by omega, by omega⟩
   rw [HG.out] at hlook
   have c5 := hXr.box.cell 5 (v := .int .i64 e.want) rfl
   have c7 := hXr.box.cell 7 (v := .map (some bm)) rfl
   have hw1 : IntKind.i64.wrap (e.want + 1) = e.want + 1 := wrap_ok ⟨by omega, by omega⟩
   have hw2 : IntKind.i64.wrap (e.want + 1 + jj) = e.want + 1 + jj := wrap_ok ⟨by omega, by omega⟩
   have hp := p2_wrap (n := jj) (by omega) (by omega)
   rw [hjj] at hik
   subst hik
   have hj3 : jj < 3 := by omega
   have hj0 : 0 ≤ jj := by omega
   have HJ := Lib.hid hjj
   have hpk : (2 : Int) ^ jj.toNat = 2 ^ k := by rw [← hjj]; simp
   have HST : Hid (bitsTo e (k + 1) = N1 + (if G.isSome then 2 ^ jj.toNat else 0)) := by show _ = _; rw [bitsTo, HN1.out, HJ.out, HG.out, hpk]
   rw [← hpk] at hbd hp2
   clear hXr hpk hjj
   cases G with
   | none =>
    have HST' : Hid (bitsTo e (k + 1) = N1) := by show _ = _; rw [HST.out]; simp
    simp only [Option.getD, Option.isSome] at hlook
    go_wp2
    refine sall (by kernel_rfl) (by kernel_rfl) (fun Kq hKq => ?_)
    repeat still_step
    refine wpStill_nil (hKq _ ?_)
    clear hKq Kq
    go_wp2
    go_roundw
    case rel => exact ⟨k + 1, by omega, by (rw [← HJ.out]; go_num), by rw [HST'.out], HB.out.drew⟩
    case measure => simp [intOf]; omega
   | some s =>
    have HST' : Hid (bitsTo e (k + 1) = N1 + 2 ^ jj.toNat) := by show _ = _; rw [HST.out]; simp
    simp only [Option.getD, Option.isSome] at hlook
    go_wp2
    refine sall (by kernel_rfl) (by kernel_rfl) (fun Kq hKq => ?_)
    repeat still_step
    refine wpStill_nil (hKq _ ?_)
    clear hKq Kq
    go_wp2
    go_roundw
    case rel => exact ⟨k + 1, by omega, by (rw [← HJ.out]; go_num), by rw [HST'.out], HB.out.drew⟩
    case measure => simp [intOf]; omega
  ·obtain rfl : k = 3 := by omega
   subst hik
   go_wp2
   go_ret
   exact ⟨by rw [← bitsTo_3, HN1.out]; rfl, HB.out⟩

def pkB (p : Pk) : Array Value := #[.int .i64 p.kind, .int .i64 p.frm, .int .i64 p.to, .int .i64 p.num, .string p.t, .int .i64 p.ack, .int .i64 p.held]
theorem load44 {w : World} {b : Nat} {p : Pk} (h : Blk w b (.cells (pkB p) 49)) : (loadVar 49 ⟨b, 0, none⟩).run Tryd.prog w = .ok (pkV p) w := by
 have h0 := h.cell 0 (v := .int .i64 p.kind) rfl
 have h1 := h.cell 1 (v := .int .i64 p.frm) rfl
 have h2 := h.cell 2 (v := .int .i64 p.to) rfl
 have h3 := h.cell 3 (v := .int .i64 p.num) rfl
 have h4 := h.cell 4 (v := .string p.t) rfl
 have h5 := h.cell 5 (v := .int .i64 p.ack) rfl
 have h6 := h.cell 6 (v := .int .i64 p.held) rfl
 unfold pkV
 go_simp
def pk0 : Array Value := #[.int .i64 0, .int .i64 0, .int .i64 0, .int .i64 0, .string ⟨#[]⟩, .int .i64 0, .int .i64 0]

set_option maxRecDepth 100000 in
set_option maxHeartbeats 4000000 in
theorem report_any (bx bm : Nat) (e : En) (A : Option Addr) (c : Nat) (vi : Value) (w : World) (h : Xs w bx bm e A c vi) (hw : 0 ≤ e.want ∧ e.want ≤ most) :
  Calls Tryd.prog 29 #[.pointer (some ⟨bx, 0, none⟩)] w fun r w' => r = .returned (pkV (reportA e)) ∧ Below w.heap.size w w' := by
 have HX := Lib.hid h
 clear h
 go_enter Tryd.func29, Tryd.ntmps29
 go_wp2
 obtain ⟨W, hW⟩ : ∃ W, w.alloc (.cells #[.int .i64 0, .int .i64 0, .int .i64 0, .int .i64 0, .string ⟨#[]⟩, .int .i64 0, .int .i64 0] 49) = W := ⟨_, rfl⟩
 rw [hW]
 have HB0 : Hid (Below w.heap.size w W) := by rw [← hW]; exact (Below.refl _ w).alloc (Nat.le_refl _) _
 have hbn : Blk W w.heap.size (.cells pk0 49) := by rw [← hW]; exact Blk.new _ _
 have HBN := Lib.hid hbn
 have hX1 := HX.out.below HB0.out
 have HX1 := Lib.hid hX1
 have hbx1 : bx ≠ w.heap.size := by have := HX.out.box.lt; omega
 have hsW := HB0.out.size
 have hlW := hbn.lt
 have lbx := hX1.box.lt
 have lbxw := HX.out.box.lt
 have c0 := hX1.box.cell 0 (v := .int .i64 e.life) rfl
 have c1 := hX1.box.cell 1 (v := .int .i64 e.peer) rfl
 have c5 := hX1.box.cell 5 (v := .int .i64 e.want) rfl
 clear hW hbn hX1
 refine draw (fun w' => Below w.heap.size W w') 19 rfl (by kernel_rfl) (fun Qd hQd => ?_)
 apply anyI_step 0 rfl (by kernel_rfl)
 focus (intro wI hI Kv hKv; have t0 := cell_chain hI lbxw c0; have t1 := cell_chain hI lbxw c1; have t5 := cell_chain hI lbxw c5; go_simp; exact hKv)
 intro Kd hKd
 go_simp
 refine hKd _ ?_
 clear hKd Kd
 apply anyI_step 5 rfl (by kernel_rfl)
 focus (intro wI hI Kv hKv; have t0 := cell_chain hI lbxw c0; have t1 := cell_chain hI lbxw c1; have t5 := cell_chain hI lbxw c5; go_simp; exact hKv)
 intro Kd hKd
 go_simp
 refine hKd _ ?_
 clear hKd Kd
 apply anyI_step 10 rfl (by kernel_rfl)
 focus (intro wI hI Kv hKv; have t0 := cell_chain hI lbxw c0; have t1 := cell_chain hI lbxw c1; have t5 := cell_chain hI lbxw c5; go_simp; exact hKv)
 intro Kd hKd
 go_simp
 refine hKd _ ?_
 clear hKd Kd
 apply anyI_step 15 rfl (by kernel_rfl)
 focus (intro wI hI Kv hKv; have t0 := cell_chain hI lbxw c0; have t1 := cell_chain hI lbxw c1; have t5 := cell_chain hI lbxw c5; go_simp; exact hKv)
 intro Kd hKd
 go_simp
 refine hKd _ ?_
 clear hKd Kd
 apply anyI_step 1 rfl (by kernel_rfl)
 focus (intro wI hI Kv hKv; have t0 := cell_chain hI lbxw c0; have t1 := cell_chain hI lbxw c1; have t5 := cell_chain hI lbxw c5; go_simp; exact hKv)
 intro Kd hKd
 go_simp
 refine hKd _ ?_
 clear hKd Kd
 apply anyI_step 6 rfl (by kernel_rfl)
 focus (intro wI hI Kv hKv; have t0 := cell_chain hI lbxw c0; have t1 := cell_chain hI lbxw c1; have t5 := cell_chain hI lbxw c5; go_simp; exact hKv)
 intro Kd hKd
 go_simp
 refine hKd _ ?_
 clear hKd Kd
 apply anyI_step 11 rfl (by kernel_rfl)
 focus (intro wI hI Kv hKv; have t0 := cell_chain hI lbxw c0; have t1 := cell_chain hI lbxw c1; have t5 := cell_chain hI lbxw c5; go_simp; exact hKv)
 intro Kd hKd
 go_simp
 refine hKd _ ?_
 clear hKd Kd
 apply anyI_step 2 rfl (by kernel_rfl)
 focus (intro wI hI Kv hKv; have t0 := cell_chain hI lbxw c0; have t1 := cell_chain hI lbxw c1; have t5 := cell_chain hI lbxw c5; go_simp; exact hKv)
 intro Kd hKd
 go_simp
 refine hKd _ ?_
 clear hKd Kd
 apply anyI_step 7 rfl (by kernel_rfl)
 focus (intro wI hI Kv hKv; have t0 := cell_chain hI lbxw c0; have t1 := cell_chain hI lbxw c1; have t5 := cell_chain hI lbxw c5; go_simp; exact hKv)
 intro Kd hKd
 go_simp
 refine hKd _ ?_
 clear hKd Kd
 apply anyI_step 12 rfl (by kernel_rfl)
 focus (intro wI hI Kv hKv; have t0 := cell_chain hI lbxw c0; have t1 := cell_chain hI lbxw c1; have t5 := cell_chain hI lbxw c5; go_simp; exact hKv)
 intro Kd hKd
 go_simp
 refine hKd _ ?_
 clear hKd Kd
 apply anyI_step 3 rfl (by kernel_rfl)
 focus (intro wI hI Kv hKv; have t0 := cell_chain hI lbxw c0; have t1 := cell_chain hI lbxw c1; have t5 := cell_chain hI lbxw c5; go_simp; exact hKv)
 intro Kd hKd
 go_simp
 refine hKd _ ?_
 clear hKd Kd
 apply anyI_step 8 rfl (by kernel_rfl)
 focus (intro wI hI Kv hKv; have t0 := cell_chain hI lbxw c0; have t1 := cell_chain hI lbxw c1; have t5 := cell_chain hI lbxw c5; go_simp; exact hKv)
 intro Kd hKd
 go_simp
 refine hKd _ ?_
 clear hKd Kd
 apply anyI_step 13 rfl (by kernel_rfl)
 focus (intro wI hI Kv hKv; have t0 := cell_chain hI lbxw c0; have t1 := cell_chain hI lbxw c1; have t5 := cell_chain hI lbxw c5; go_simp; exact hKv)
 intro Kd hKd
 go_simp
 refine hKd _ ?_
 clear hKd Kd
 apply anyI_step 4 rfl (by kernel_rfl)
 focus (intro wI hI Kv hKv; have t0 := cell_chain hI lbxw c0; have t1 := cell_chain hI lbxw c1; have t5 := cell_chain hI lbxw c5; go_simp; exact hKv)
 intro Kd hKd
 go_simp
 refine hKd _ ?_
 clear hKd Kd
 apply anyI_step 9 rfl (by kernel_rfl)
 focus (intro wI hI Kv hKv; have t0 := cell_chain hI lbxw c0; have t1 := cell_chain hI lbxw c1; have t5 := cell_chain hI lbxw c5; go_simp; exact hKv)
 intro Kd hKd
 go_simp
 refine hKd _ ?_
 clear hKd Kd
 apply anyI_step 14 rfl (by kernel_rfl)
 focus (intro wI hI Kv hKv; have t0 := cell_chain hI lbxw c0; have t1 := cell_chain hI lbxw c1; have t5 := cell_chain hI lbxw c5; go_simp; exact hKv)
 intro Kd hKd
 go_simp
 refine hKd _ ?_
 clear hKd Kd
 refine anyI_one' 16 rfl (by kernel_rfl) ((Below.refl _ _).drew) (fun Kd hKd => ?_)
 go_wp2_with (go_at_call 51; go_must (refine (bits_any bx bm e A c vi _ HX1.out.drew hw).mono ?_); rintro r w2 ⟨rfl, hB2⟩; have HB2 : Hid (Below W.heap.size W w2) := (Below.refl _ W).drew.trans hB2; have hb2 := HBN.out.below HB2.out hlW; have HBN2 := Lib.hid hb2; have z0 := hb2.cell 0 (v := .int .i64 0) rfl; have z1 := hb2.cell 1 (v := .int .i64 0) rfl; have z2 := hb2.cell 2 (v := .int .i64 0) rfl; have z3 := hb2.cell 3 (v := .int .i64 0) rfl; have z4 := hb2.cell 4 (v := .string ⟨#[]⟩) rfl; have z5 := hb2.cell 5 (v := .int .i64 0) rfl; have z6 := hb2.cell 6 (v := .int .i64 0) rfl; have y0 := hb2.free 0; have y1 := hb2.free 1; have y2 := hb2.free 2; have y3 := hb2.free 3; have y4 := hb2.free 4; have y5 := hb2.free 5; have y6 := hb2.free 6; have l2 := hb2.lt; clear hb2 hB2)
 apply anyI_step 17 rfl (by kernel_rfl)
 focus (intro wI hI Kv hKv; go_simp; exact hKv)
 intro Kd hKd
 go_simp
 refine hKd _ ?_
 clear hKd Kd
 refine anyI_one' 18 rfl (by kernel_rfl) ((HB2.out.mono hsW)) (fun Kd hKd => ?_)
 go_wp2
 obtain ⟨WF, hWF⟩ : ∃ WF, (((((((w2.setCell ⟨w.heap.size, 0, none⟩ (.int .i64 3)).setCell ⟨w.heap.size, 1, none⟩ (.int .i64 e.life)).setCell ⟨w.heap.size, 2, none⟩ (.int .i64 e.peer)).setCell ⟨w.heap.size, 3, none⟩ (.int .i64 0)).setCell ⟨w.heap.size, 4, none⟩ (.string ⟨#[]⟩)).setCell ⟨w.heap.size, 5, none⟩ (.int .i64 e.want)).setCell ⟨w.heap.size, 6, none⟩ (.int .i64 (bitsA e))) = WF := ⟨_, rfl⟩
 rw [hWF]
 have HBF2 : Hid (Blk WF w.heap.size (.cells (pkB (reportA e)) 49)) := by
  rw [← hWF]
  exact ((((((HBN2.out.set 0 (.int .i64 3)).set 1 (.int .i64 e.life)).set 2 (.int .i64 e.peer)).set 3 (.int .i64 0)).set 4 (.string ⟨#[]⟩)).set 5 (.int .i64 e.want)).set 6 (.int .i64 (bitsA e))
 have HBF : Hid (Below w.heap.size W WF) := by
  rw [← hWF]
  exact (((((((HB2.out.mono hsW).setCell (by simp) _).setCell (by simp) _).setCell (by simp) _).setCell (by simp) _).setCell (by simp) _).setCell (by simp) _).setCell (by simp) _
 refine anyI_end (by kernel_rfl) (HBF.out) (hQd _ _ ?_)
 clear hQd Qd
 go_wp2
 have hl := load44 (p := reportA e) HBF2.out
 exact bodyPost_ret (v := pkV (reportA e)) (results_c rfl rfl hl) rfl ⟨rfl, HB0.out.trans HBF.out⟩
end Go.Proofs.YtejabnoidhlfaaaDoor
