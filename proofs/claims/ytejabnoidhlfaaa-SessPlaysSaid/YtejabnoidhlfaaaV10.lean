/- Contracts and lemmas that the claim uses. -/
import Derived.Test.YtejabnoidhlfaaaV09
import Derived.Laws.StructEq
set_option maxRecDepth 100000
set_option maxHeartbeats 16000000
namespace Go.Proofs.Ytejabnoidhlfaaa
open Go.RowKit Go.Maps
theorem fine_yes (e : En) (A : Option Addr) (c : Nat) (B : Option Addr) (d : Nat) (w : World) (h : EnAt w e A B) (hn : numsOk e) :
  Calls Try.prog 39 #[enV e A c B d] w fun r w' => r = .returned (.bool (goodB e)) ∧ Below w.heap.size w w' := by
 obtain ⟨h1, h2, h3, h4, h5, h6, h7, h8, h9, h10, h11, h12⟩ := hn; have hli : e.inn.length ≤ 17592186043904 := by have := h.inn.1; rw [ims_len] at this; omega
 have HE := Lib.hid h; have q1 : decide (e.life < 1) = false := decide_eq_false (by omega); have q2 : decide (1000000000 < e.life) = false := decide_eq_false (by omega); have q3 : decide (e.peer < 0) = false := decide_eq_false (by omega); have q4 : decide (1000000000 < e.peer) = false := decide_eq_false (by omega); obtain ⟨b5, hb5⟩ : ∃ b, (e.phase == 1) = b := ⟨_, rfl⟩; have hb6 : (e.peer == 0) = b5 := by
  rw [← hb5]; by_cases hh : e.phase = 1
  ·rw [beq_iff_eq.2 hh, beq_iff_eq.2 (h7.1 hh)]
  ·rw [beq_eq_false_iff_ne.2 hh, beq_eq_false_iff_ne.2 (fun h => hh (h7.2 h))]
 have q6 : decide (e.phase < 1) = false := decide_eq_false (by omega); have q7 : decide (3 < e.phase) = false := decide_eq_false (by omega); have q8 : decide ((12 : Int) < (e.out.length : Int)) = false := decide_eq_false (by omega); have q9 : decide (e.base < 0) = false := decide_eq_false (by omega); have q10 : decide (e.want < 0) = false := decide_eq_false (by omega); have q11 : decide (1000000000 < e.want) = false := decide_eq_false (by omega); obtain ⟨room, hroom⟩ : ∃ x : Int, 1000000000 - (e.out.length : Int) = x := ⟨_, rfl⟩; have hrw : IntKind.i64.wrap (1000000000 - (e.out.length : Int)) = room := by rw [← hroom, IntKind.wrap_i64]; omega
 have hrw2 : wrap64 (1000000000 - (e.out.length : Int)) = room := by rw [← hroom]; exact IntWalk.wrap64_in _ ⟨by omega, by omega⟩
 have q12 : decide (room < e.base) = false := decide_eq_false (by omega); have hw1 : IntKind.i64.wrap (e.want + 1) = e.want + 1 := by rw [IntKind.wrap_i64]; omega
 have hw4 : IntKind.i64.wrap (e.want + 4) = e.want + 4 := by rw [IntKind.wrap_i64]; omega
 obtain ⟨M, hM1, hM2, hM3⟩ : ∃ M : Int, (if (1000000000 : Int) < e.want + 4 then 1000000000 else e.want + 4) = M ∧ (if e.want + 4 < 1000000000 then e.want + 4 else 1000000000) = M ∧ Hid (∀ z : Int, z < M ↔ z < e.want + 4 ∧ z < most) := by
  refine ⟨if (1000000000 : Int) < e.want + 4 then 1000000000 else e.want + 4, rfl, ?_, ?_⟩
  ·split <;> split <;> omega
  ·show ∀ z : Int, _ ↔ _; intro z; unfold most; split <;> omega
 have H7 := Lib.hid h7; unfold enV; clear h h7 hroom; go_enter Try.func39, Try.ntmps39
 go_wp2; obtain ⟨W, hW⟩ : ∃ W, w.alloc (.cells #[.int .i64 e.life, .int .i64 e.peer, .int .i64 e.phase, .int .i64 e.base, .slice A e.out.length c, .int .i64 e.want, .slice B e.inn.length d] 26) = W := ⟨_, rfl⟩; rw [hW]; have HB0 : Hid (Below w.heap.size w W) := by rw [← hW]; exact (Below.refl _ w).alloc (Nat.le_refl _) _
 have hbx : Blk W w.heap.size (.cells #[.int .i64 e.life, .int .i64 e.peer, .int .i64 e.phase, .int .i64 e.base, .slice A e.out.length c, .int .i64 e.want, .slice B e.inn.length d] 26) := by rw [← hW]; exact Blk.new _ _
 have HBX := Lib.hid hbx; have hlw := hbx.lt; have HIN := Lib.hid (HE.out.inn.below HB0.out (Nat.le_refl _)); have HOU := Lib.hid (HE.out.out.below HB0.out (Nat.le_refl _)); clear hW hbx q1 q2 q3 q4 q6 q7 q8 q9 q10 q11 q12 hb5 hb6 hrw hrw2; go_loopw [3, 80] (fun l i wr => ∃ (k : Nat) (lo : Int), k ≤ e.inn.length ∧ i = .int .i64 k ∧ l = .int .i64 (lo + 1) ∧ 0 ≤ lo ∧ lo ≤ 1000000000 ∧ inOk e.want e.want e.inn = inOk e.want lo (e.inn.drop k) ∧ Below W.heap.size W wr) (fun _ i _ => e.inn.length - (intOf i).toNat)
 case atStart => exact ⟨0, e.want, Nat.zero_le _, rfl, rfl, h9, h10, rfl, Below.refl _ _⟩
 case round =>
  obtain ⟨k, lo, hk, rfl, rfl, hlo0, hlo1, hin, hB⟩ := hrel; have HINO := Lib.hid hin; have HB := Lib.hid hB; have x5 := cell_chain HB.out hlw (HBX.out.cell 5 (v := .int .i64 e.want) rfl); have hsr := hB.size; clear hin hB; by_cases hlt : k < e.inn.length
  ·obtain ⟨x, b, o, hx, hb, hix, hc0, hc1⟩ := im_at (c := d) (HIN.out.below HB.out (Nat.le_refl _)) hlt; have HDR : Hid (e.inn.drop k = x :: e.inn.drop (k + 1)) := drop_of hx; obtain ⟨WX, hWX⟩ : ∃ WX, wr.alloc (.cells #[.int .i64 x.n, .string x.t] 73) = WX := ⟨_, rfl⟩; have HBX2 : Hid (Below wr.heap.size wr WX) := by rw [← hWX]; exact (Below.refl _ wr).alloc (Nat.le_refl _) _
   have bX : Blk WX wr.heap.size (.cells #[.int .i64 x.n, .string x.t] 73) := by rw [← hWX]; exact Blk.new _ _
   have e0 := bX.cell 0 (v := .int .i64 x.n) rfl; have e1 := bX.cell 1 (v := .string x.t) rfl; have el := bX.lt; have x5' := cell_chain HBX2.out (by omega) x5; have elw : w.heap.size < WX.heap.size := by omega
   have HM3 := hM3; clear hx bX; by_cases a1 : x.n < lo + 1
   ·skip
    have HNG : Hid (goodB e = false) := not_good fun hg => by
     have h0 := inOk_iff.2 hg.ins; rw [HINO.out, HDR.out, inOk] at h0; simp only [Bool.and_eq_true, decide_eq_true_eq] at h0; have h3 := (HM3.out x.n); omega
    have HBZ : Hid (Below w.heap.size w WX) := below_in HB0.out (HB.out.trans (HBX2.out.mono hsr)); go_wp2; go_ret; exact ⟨by rw [HNG.out]; rfl, HBZ.out⟩
   have p1 : decide (x.n < lo + 1) = false := decide_eq_false a1; by_cases a2 : M ≤ x.n
   ·skip
    have HNG : Hid (goodB e = false) := not_good fun hg => by
     have h0 := inOk_iff.2 hg.ins; rw [HINO.out, HDR.out, inOk] at h0; simp only [Bool.and_eq_true, decide_eq_true_eq] at h0; have h3 := (HM3.out x.n); omega
    have HBZ : Hid (Below w.heap.size w WX) := below_in HB0.out (HB.out.trans (HBX2.out.mono hsr)); go_wp2; go_ret; exact ⟨by rw [HNG.out]; rfl, HBZ.out⟩
   have p2 : decide (M ≤ x.n) = false := decide_eq_false a2; by_cases a3 : (20 : Int) < (x.t.size : Int)
   ·skip
    have HNG : Hid (goodB e = false) := not_good fun hg => by
     have h0 := inOk_iff.2 hg.ins; rw [HINO.out, HDR.out, inOk] at h0; simp only [Bool.and_eq_true, decide_eq_true_eq] at h0; have h3 := (HM3.out x.n); omega
    have HBZ : Hid (Below w.heap.size w WX) := below_in HB0.out (HB.out.trans (HBX2.out.mono hsr)); go_wp2; go_ret; exact ⟨by rw [HNG.out]; rfl, HBZ.out⟩
   have p3 : decide ((20 : Int) < (x.t.size : Int)) = false := decide_eq_false a3; have h3' := (HM3.out x.n).1 (by omega); unfold most at h3'; have HST : Hid (inOk e.want lo (e.inn.drop k) = inOk e.want x.n (e.inn.drop (k + 1))) := by
    show _ = _; rw [HDR.out, inOk, decide_eq_true (show lo < x.n by omega), decide_eq_true h3'.1, decide_eq_true (show x.n < most by unfold most; omega), decide_eq_true (show x.t.size ≤ 20 by omega)]; rfl
   have hw5 : IntKind.i64.wrap (x.n + 1) = x.n + 1 := by rw [IntKind.wrap_i64]; omega
   go_wp2; go_roundw
   case rel => exact ⟨k + 1, x.n, by omega, by go_num, rfl, by omega, by omega, by rw [HINO.out, HST.out], HB.out.trans (HBX2.out.mono hsr)⟩
   case measure => simp [intOf]; omega
  ·obtain rfl : k = e.inn.length := by omega
   have hIN : inOk e.want e.want e.inn = true := by rw [HINO.out, List.drop_length]; rfl
   have HINN := Lib.hid (inOk_iff.1 hIN); have x2 := cell_chain HB.out hlw (HBX.out.cell 2 (v := .int .i64 e.phase) rfl); have x3 := cell_chain HB.out hlw (HBX.out.cell 3 (v := .int .i64 e.base) rfl); have x4 := cell_chain HB.out hlw (HBX.out.cell 4 (v := .slice A e.out.length c) rfl); have x6 := cell_chain HB.out hlw (HBX.out.cell 6 (v := .slice B e.inn.length d) rfl); clear hIN hM1 hM2 hM3 hw1 hw4; by_cases hp3 : e.phase = 3
   ·have r1 : (e.phase == 3) = true := beq_iff_eq.2 hp3; have HOP : Hid (e.phase = 3 → 0 < e.peer ∧ srt e.want e.inn ∧ ∀ x ∈ e.inn, x.n < e.want + 4 ∧ x.n < most ∧ x.t.size ≤ 20) := fun hp => by
     have := H7.out; exact ⟨by omega, HINN.out.1, HINN.out.2⟩
    have HCL : Hid (e.phase ≠ 3 → e.base = 0 ∧ e.want = 0 ∧ e.inn = [] ∧ ((e.phase = 1 ∧ e.peer = 0) ∨ (e.phase = 2 ∧ 0 < e.peer))) := fun hn => absurd hp3 hn; have HP3 := Lib.hid hp3; clear hp3; go_wp2; go_loopw [131] (fun i wr => ∃ k : Nat, k ≤ e.out.length ∧ i = .int .i64 k ∧ outOk (flyN e) 0 e.out = outOk (flyN e) k (e.out.drop k) ∧ Below W.heap.size W wr) (fun i _ => e.out.length - (intOf i).toNat)
    case atStart => exact ⟨0, Nat.zero_le _, rfl, rfl, HB.out⟩
    case round =>
     obtain ⟨k2, hk2, rfl, ho2, hB2⟩ := hrel; have HOO := Lib.hid ho2; have HB2 := Lib.hid hB2; have hsr2 := hB2.size; clear ho2 hB2; by_cases hlt2 : k2 < e.out.length
     ·obtain ⟨x, b, o, hx, hb, hix, hc0, hc1⟩ := ou_at (c := c) (HOU.out.below HB2.out (Nat.le_refl _)) hlt2; have HDR : Hid (e.out.drop k2 = x :: e.out.drop (k2 + 1)) := drop_of hx; obtain ⟨WX, hWX⟩ : ∃ WX, wr.alloc (.cells #[.string x.t, .bool x.h] 71) = WX := ⟨_, rfl⟩; have HBX2 : Hid (Below wr.heap.size wr WX) := by rw [← hWX]; exact (Below.refl _ wr).alloc (Nat.le_refl _) _
      have bX : Blk WX wr.heap.size (.cells #[.string x.t, .bool x.h] 71) := by rw [← hWX]; exact Blk.new _ _
      have e0 := bX.cell 0 (v := .string x.t) rfl; have e1 := bX.cell 1 (v := .bool x.h) rfl; have el := bX.lt; have HBZ : Hid (Below w.heap.size w WX) := below_in HB0.out (HB2.out.trans (HBX2.out.mono hsr2)); have HBN : Hid (Below W.heap.size W WX) := HB2.out.trans (HBX2.out.mono hsr2); have hk12 : k2 ≤ 12 := by omega
      clear hx bX; by_cases a1 : (20 : Int) < (x.t.size : Int)
      ·have HNG : Hid (goodB e = false) := not_good fun hg => by
        have h0 := (outOk_iff (flyN e) e.out 0).2 (fun j y hy => by rw [Nat.zero_add]; exact hg.outs j y hy); rw [HOO.out, HDR.out, outOk] at h0; simp only [Bool.and_eq_true, decide_eq_true_eq] at h0; omega
       go_wp2; go_ret; exact ⟨by rw [HNG.out]; rfl, HBZ.out⟩
      have p1 : decide ((20 : Int) < (x.t.size : Int)) = false := decide_eq_false a1; cases hh : x.h with
      | false =>
       have HST : Hid (outOk (flyN e) k2 (e.out.drop k2) = outOk (flyN e) (k2 + 1) (e.out.drop (k2 + 1))) := by
        show _ = _; rw [HDR.out, outOk, hh]; rw [decide_eq_true (show x.t.size ≤ 20 by omega)]; rfl
       have HBN' : Hid (Below W.heap.size W (wr.alloc (.cells #[.string x.t, .bool false] 71))) := by
        show Below _ _ _; rw [← hh, hWX]; exact HBN.out
       clear e0 e1 el hWX; go_wp2; go_roundw
       case rel => exact ⟨k2 + 1, by omega, by go_num, by rw [HOO.out, HST.out], HBN'.out⟩
       case measure => simp [intOf]; omega
      | true =>
       rw [hh] at e1 hWX; have HHH := Lib.hid hh; clear hh; by_cases a2 : k2 = 0
       ·have HNG : Hid (goodB e = false) := not_good fun hg => by
         have h0 := (outOk_iff (flyN e) e.out 0).2 (fun j y hy => by rw [Nat.zero_add]; exact hg.outs j y hy); rw [HOO.out, HDR.out, outOk, HHH.out] at h0; simp only [Bool.and_eq_true, decide_eq_true_eq, Bool.not_true, Bool.false_or] at h0; omega
        have p2 : ((k2 : Int) == 0) = true := by rw [a2]; rfl
        clear a2; go_wp2; go_ret; exact ⟨by rw [HNG.out]; rfl, HBZ.out⟩
       have p2 : ((k2 : Int) == 0) = false := by rw [beq_eq_false_iff_ne]; omega
       by_cases a3 : (4 : Int) ≤ (k2 : Int)
       ·have HNG : Hid (goodB e = false) := not_good fun hg => by
         have h0 := (outOk_iff (flyN e) e.out 0).2 (fun j y hy => by rw [Nat.zero_add]; exact hg.outs j y hy); rw [HOO.out, HDR.out, outOk, HHH.out] at h0; simp only [Bool.and_eq_true, decide_eq_true_eq, Bool.not_true, Bool.false_or] at h0; have := (fly_le e).2; omega
        go_wp2; go_ret; exact ⟨by rw [HNG.out]; rfl, HBZ.out⟩
       have p3 : decide ((4 : Int) ≤ (k2 : Int)) = false := decide_eq_false a3; have HST : Hid (outOk (flyN e) k2 (e.out.drop k2) = outOk (flyN e) (k2 + 1) (e.out.drop (k2 + 1))) := by
        show _ = _; have hfl : k2 < flyN e := by
         unfold flyN; rw [if_pos HP3.out]; omega
        rw [HDR.out, outOk, HHH.out]; rw [decide_eq_true (show x.t.size ≤ 20 by omega), decide_eq_true (show 1 ≤ k2 by omega), decide_eq_true hfl]; rfl
       go_wp2; go_roundw
       case rel => exact ⟨k2 + 1, by omega, by go_num, by rw [HOO.out, HST.out], HBN.out⟩
       case measure => simp [intOf]; omega
     ·obtain rfl : k2 = e.out.length := by omega
      have HG : Hid (goodB e = true) := by
       refine good_iff.2 ⟨⟨h1, by unfold most; omega⟩, ⟨h3, by unfold most; omega⟩, h8, ⟨h9, by unfold most; omega⟩, h11, by unfold most; omega, fun j x hx => ?_, HOP.out, HCL.out⟩; have h0 : outOk (flyN e) 0 e.out = true := by rw [HOO.out, List.drop_length]; rfl
       have := (outOk_iff (flyN e) e.out 0).1 h0 j x hx; rwa [Nat.zero_add] at this
      have HBZ : Hid (Below w.heap.size w wr) := below_in HB0.out HB2.out; go_wp2; go_ret; exact ⟨by rw [HG.out]; rfl, HBZ.out⟩
   ·have r1 : (e.phase == 3) = false := beq_eq_false_iff_ne.2 hp3; have HBZ : Hid (Below w.heap.size w wr) := below_in HB0.out HB.out; have HP3 := Lib.hid hp3; clear hp3; by_cases s1 : 0 < e.base
    ·have HNG : Hid (goodB e = false) := not_good fun hg => by have := (hg.cl HP3.out).1; omega
     go_wp2; go_ret; exact ⟨by rw [HNG.out]; rfl, HBZ.out⟩
    have t1 : decide (0 < e.base) = false := decide_eq_false s1; by_cases s2 : 0 < e.want
    ·have HNG : Hid (goodB e = false) := not_good fun hg => by have := (hg.cl HP3.out).2.1; omega
     go_wp2; go_ret; exact ⟨by rw [HNG.out]; rfl, HBZ.out⟩
    have t2 : decide (0 < e.want) = false := decide_eq_false s2; by_cases s3 : (0 : Int) < (e.inn.length : Int)
    ·have HNG : Hid (goodB e = false) := not_good fun hg => by
      have h0 := (hg.cl HP3.out).2.2.1; rw [h0] at s3; simp at s3
     go_wp2; go_ret; exact ⟨by rw [HNG.out]; rfl, HBZ.out⟩
    have t3 : decide ((0 : Int) < (e.inn.length : Int)) = false := decide_eq_false s3; have HOP : Hid (e.phase = 3 → 0 < e.peer ∧ srt e.want e.inn ∧ ∀ x ∈ e.inn, x.n < e.want + 4 ∧ x.n < most ∧ x.t.size ≤ 20) := fun hp => absurd hp HP3.out; have HCL : Hid (e.phase ≠ 3 → e.base = 0 ∧ e.want = 0 ∧ e.inn = [] ∧ ((e.phase = 1 ∧ e.peer = 0) ∨ (e.phase = 2 ∧ 0 < e.peer))) := fun hn => by
     have := H7.out; refine ⟨by omega, by omega, List.eq_nil_of_length_eq_zero (by omega), ?_⟩; by_cases hp1 : e.phase = 1
     ·exact .inl ⟨hp1, this.1 hp1⟩
     ·refine .inr ⟨by omega, ?_⟩; have : e.peer ≠ 0 := fun h => hp1 (this.2 h); omega
    go_wp2; go_loopw [131] (fun i wr => ∃ k : Nat, k ≤ e.out.length ∧ i = .int .i64 k ∧ outOk (flyN e) 0 e.out = outOk (flyN e) k (e.out.drop k) ∧ Below W.heap.size W wr) (fun i _ => e.out.length - (intOf i).toNat)
    case atStart => exact ⟨0, Nat.zero_le _, rfl, rfl, HB.out⟩
    case round =>
     obtain ⟨k2, hk2, rfl, ho2, hB2⟩ := hrel; have HOO := Lib.hid ho2; have HB2 := Lib.hid hB2; have hsr2 := hB2.size; clear ho2 hB2; by_cases hlt2 : k2 < e.out.length
     ·obtain ⟨x, b, o, hx, hb, hix, hc0, hc1⟩ := ou_at (c := c) (HOU.out.below HB2.out (Nat.le_refl _)) hlt2; have HDR : Hid (e.out.drop k2 = x :: e.out.drop (k2 + 1)) := drop_of hx; obtain ⟨WX, hWX⟩ : ∃ WX, wr.alloc (.cells #[.string x.t, .bool x.h] 71) = WX := ⟨_, rfl⟩; have HBX2 : Hid (Below wr.heap.size wr WX) := by rw [← hWX]; exact (Below.refl _ wr).alloc (Nat.le_refl _) _
      have bX : Blk WX wr.heap.size (.cells #[.string x.t, .bool x.h] 71) := by rw [← hWX]; exact Blk.new _ _
      have e0 := bX.cell 0 (v := .string x.t) rfl; have e1 := bX.cell 1 (v := .bool x.h) rfl; have el := bX.lt; have HBZ : Hid (Below w.heap.size w WX) := below_in HB0.out (HB2.out.trans (HBX2.out.mono hsr2)); have HBN : Hid (Below W.heap.size W WX) := HB2.out.trans (HBX2.out.mono hsr2); have hk12 : k2 ≤ 12 := by omega
      clear hx bX; by_cases a1 : (20 : Int) < (x.t.size : Int)
      ·have HNG : Hid (goodB e = false) := not_good fun hg => by
        have h0 := (outOk_iff (flyN e) e.out 0).2 (fun j y hy => by rw [Nat.zero_add]; exact hg.outs j y hy); rw [HOO.out, HDR.out, outOk] at h0; simp only [Bool.and_eq_true, decide_eq_true_eq] at h0; omega
       go_wp2; go_ret; exact ⟨by rw [HNG.out]; rfl, HBZ.out⟩
      have p1 : decide ((20 : Int) < (x.t.size : Int)) = false := decide_eq_false a1; cases hh : x.h with
      | false =>
       have HST : Hid (outOk (flyN e) k2 (e.out.drop k2) = outOk (flyN e) (k2 + 1) (e.out.drop (k2 + 1))) := by
        show _ = _; rw [HDR.out, outOk, hh]; rw [decide_eq_true (show x.t.size ≤ 20 by omega)]; rfl
       have HBN' : Hid (Below W.heap.size W (wr.alloc (.cells #[.string x.t, .bool false] 71))) := by
        show Below _ _ _; rw [← hh, hWX]; exact HBN.out
       clear e0 e1 el hWX; go_wp2; go_roundw
       case rel => exact ⟨k2 + 1, by omega, by go_num, by rw [HOO.out, HST.out], HBN'.out⟩
       case measure => simp [intOf]; omega
      | true =>
       rw [hh] at e1 hWX; have HHH := Lib.hid hh; clear hh; have HNG : Hid (goodB e = false) := not_good fun hg => by
        have h0 := (outOk_iff (flyN e) e.out 0).2 (fun j y hy => by rw [Nat.zero_add]; exact hg.outs j y hy); rw [HOO.out, HDR.out, outOk, HHH.out] at h0; simp only [Bool.and_eq_true, decide_eq_true_eq, Bool.not_true, Bool.false_or] at h0; have hf0 : flyN e = 0 := by unfold flyN; rw [if_neg HP3.out]
        omega
       go_wp2; go_ret; exact ⟨by rw [HNG.out]; rfl, HBZ.out⟩
     ·obtain rfl : k2 = e.out.length := by omega
      have HG : Hid (goodB e = true) := by
       refine good_iff.2 ⟨⟨h1, by unfold most; omega⟩, ⟨h3, by unfold most; omega⟩, h8, ⟨h9, by unfold most; omega⟩, h11, by unfold most; omega, fun j x hx => ?_, HOP.out, HCL.out⟩; have h0 : outOk (flyN e) 0 e.out = true := by rw [HOO.out, List.drop_length]; rfl
       have := (outOk_iff (flyN e) e.out 0).1 h0 j x hx; rwa [Nat.zero_add] at this
      have HBZ : Hid (Below w.heap.size w wr) := below_in HB0.out HB2.out; go_wp2; go_ret; exact ⟨by rw [HG.out]; rfl, HBZ.out⟩
theorem start_any (life : Int) (w : World) :
  Calls Try.prog 10 #[.int .i64 life] w fun r w' => r = .returned (.tuple #[enV (startA life).1 none 0 none 0, .int .i64 (startA life).2]) ∧ Below w.heap.size w w' := by
 by_cases g1 : life < 1
 ·have HS : Hid (startA life = (noEn, 2)) := by show _ = _; unfold startA; rw [if_neg (by omega)]
  go_enter Try.func10, Try.ntmps10
  go_wp2; have hl := load26 (w := w.alloc (.cells (enB noEn none 0 none 0) 26)) (b := w.heap.size) (Blk.new w _); exact bodyPost_ret (v := .tuple #[enV noEn none 0 none 0, .int .i64 2]) (results_ct rfl rfl rfl hl) rfl ⟨by rw [HS.out], (Below.refl _ w).alloc (Nat.le_refl _) _⟩
 ·have q1 : decide (life < 1) = false := decide_eq_false g1; by_cases g2 : 1000000000 < life
  ·have HS : Hid (startA life = (noEn, 2)) := by show _ = _; unfold startA most; rw [if_neg (by omega)]
   go_enter Try.func10, Try.ntmps10
   go_wp2; have hl := load26 (w := w.alloc (.cells (enB noEn none 0 none 0) 26)) (b := w.heap.size) (Blk.new w _); exact bodyPost_ret (v := .tuple #[enV noEn none 0 none 0, .int .i64 2]) (results_ct rfl rfl rfl hl) rfl ⟨by rw [HS.out], (Below.refl _ w).alloc (Nat.le_refl _) _⟩
  ·have q2 : decide (1000000000 < life) = false := decide_eq_false g2; have HS : Hid (startA life = (⟨life, 0, 1, 0, [], 0, []⟩, 0)) := by show _ = _; unfold startA most; rw [if_pos (by omega)]
   go_enter Try.func10, Try.ntmps10
   go_wp2; have hl := load26 (w := w.alloc (.cells (enB ⟨life, 0, 1, 0, [], 0, []⟩ none 0 none 0) 26)) (b := w.heap.size) (Blk.new w _); exact bodyPost_ret (v := .tuple #[enV ⟨life, 0, 1, 0, [], 0, []⟩ none 0 none 0, .int .i64 0]) (results_ct rfl rfl rfl hl) rfl ⟨by rw [HS.out], (Below.refl _ w).alloc (Nat.le_refl _) _⟩
theorem enAt_noEn (w : World) : EnAt w noEn none none := ⟨Cells.nil _ _, Cells.nil _ _⟩
theorem stood44 : Try.prog.stoodInHeld 44 = false := by kernel_rfl
theorem guard44 : Try.prog.eqGuardType Try.prog.depth 44 = false := by kernel_rfl
theorem toList_inj {a b : ByteArray} (h2 : a.toList = b.toList) : a = b := by
 rw [ByteArray.toList_eq, ByteArray.toList_eq] at h2; obtain ⟨⟨x⟩⟩ := a; obtain ⟨⟨y⟩⟩ := b; simp at h2; rw [h2]
theorem toList_eq {a b : ByteArray} : (a.toList == b.toList) = decide (a = b) := by
 rw [← beq_toListBytes]; by_cases h : a = b
 ·subst h; rw [decide_eq_true rfl, beq_toListBytes]; simp
 ·rw [decide_eq_false h, beq_toListBytes]; cases e : (a.toList == b.toList) with
  | false => rfl
  | true =>
   exfalso; apply h; have h2 : a.toList = b.toList := by simpa using e
   rw [ByteArray.toList_eq, ByteArray.toList_eq] at h2; obtain ⟨⟨x⟩⟩ := a; obtain ⟨⟨y⟩⟩ := b; simp at h2; rw [h2]
theorem proper_iff {p : Pk} : properB p = true ↔ (1 ≤ p.frm ∧ p.frm ≤ 1000000000 ∧ 0 ≤ p.to ∧ p.to ≤ 1000000000) ∧ ((p.kind = 1 ∧ p.num = 0 ∧ p.t = emptyT ∧ p.ack = 0 ∧ p.held = 0) ∨ (p.kind = 2 ∧ 0 < p.to ∧ 0 ≤ p.num ∧ p.num < 1000000000 ∧ p.t.size ≤ 20 ∧ 0 ≤ p.ack ∧ p.ack ≤ 1000000000 ∧ 0 ≤ p.held ∧ p.held ≤ 7) ∨
  (p.kind = 3 ∧ 0 < p.to ∧ p.num = 0 ∧ p.t = emptyT ∧ 0 ≤ p.ack ∧ p.ack ≤ 1000000000 ∧ 0 ≤ p.held ∧ p.held ≤ 7)) := by
 unfold properB most; by_cases h1 : p.kind = 1
 ·rw [if_pos h1]; simp only [Bool.and_eq_true, decide_eq_true_eq]; constructor
  ·rintro ⟨⟨⟨⟨a, b⟩, c⟩, d⟩, ⟨⟨e, f⟩, g⟩, h⟩; exact ⟨⟨a, b, c, d⟩, .inl ⟨h1, e, f, g, h⟩⟩
  ·rintro ⟨⟨a, b, c, d⟩, h | h | h⟩
   ·exact ⟨⟨⟨⟨a, b⟩, c⟩, d⟩, ⟨⟨h.2.1, h.2.2.1⟩, h.2.2.2.1⟩, h.2.2.2.2⟩
   ·omega
   ·omega
 ·rw [if_neg h1]; by_cases h2 : p.kind = 2
  ·rw [if_pos h2]; simp only [Bool.and_eq_true, decide_eq_true_eq]; constructor
   ·rintro ⟨⟨⟨⟨a, b⟩, c⟩, d⟩, ⟨⟨⟨⟨⟨⟨e, f⟩, g⟩, h⟩, i⟩, j⟩, k⟩, l⟩; exact ⟨⟨a, b, c, d⟩, .inr (.inl ⟨h2, e, f, g, h, i, j, k, l⟩)⟩
   ·rintro ⟨⟨a, b, c, d⟩, h | h | h⟩
    ·omega
    ·obtain ⟨_, e, f, g, h, i, j, k, l⟩ := h; exact ⟨⟨⟨⟨a, b⟩, c⟩, d⟩, ⟨⟨⟨⟨⟨⟨e, f⟩, g⟩, h⟩, i⟩, j⟩, k⟩, l⟩
    ·omega
  ·rw [if_neg h2]; by_cases h3 : p.kind = 3
   ·rw [if_pos h3]; simp only [Bool.and_eq_true, decide_eq_true_eq]; constructor
    ·rintro ⟨⟨⟨⟨a, b⟩, c⟩, d⟩, ⟨⟨⟨⟨⟨e, f⟩, g⟩, h⟩, i⟩, j⟩, k⟩; exact ⟨⟨a, b, c, d⟩, .inr (.inr ⟨h3, e, f, g, h, i, j, k⟩)⟩
    ·rintro ⟨⟨a, b, c, d⟩, h | h | h⟩
     ·omega
     ·omega
     ·obtain ⟨_, e, f, g, h, i, j, k⟩ := h; exact ⟨⟨⟨⟨a, b⟩, c⟩, d⟩, ⟨⟨⟨⟨⟨e, f⟩, g⟩, h⟩, i⟩, j⟩, k⟩
   ·rw [if_neg h3]; simp only [Bool.and_false, Bool.false_eq_true, false_iff]; rintro ⟨_, h | h | h⟩ <;> omega
theorem not_proper {p : Pk} (h : properB p = true → False) : properB p = false := by
 cases hg : properB p with
 | false => rfl
 | true => exact (h hg).elim
theorem proper_head (p : Pk) (w : World) (hk : ¬ (p.kind = 1 ∨ p.kind = 2 ∨ p.kind = 3) ∨ ¬ (1 ≤ p.frm ∧ p.frm ≤ 1000000000 ∧ 0 ≤ p.to ∧ p.to ≤ 1000000000)) :
  Calls Try.prog 53 #[pkV p] w fun r w' => r = .returned (.bool (properB p)) ∧ Below w.heap.size w w' := by
 have HK := Lib.hid hk; clear hk; have hst := stood44; have hgd := guard44; unfold pkV; have HBZ : Hid (Below w.heap.size w (w.alloc (.cells #[.int .i64 p.kind, .int .i64 p.frm, .int .i64 p.to, .int .i64 p.num, .string p.t, .int .i64 p.ack, .int .i64 p.held] 44))) := (Below.refl _ w).alloc (Nat.le_refl _) _; by_cases g1 : p.frm < 1
 ·skip
  have HNP : Hid (properB p = false) := not_proper fun hp => by
   have := proper_iff.1 hp; omega
  go_enter Try.func53, Try.ntmps53
  go_wp2; go_ret; exact ⟨by rw [HNP.out]; rfl, HBZ.out⟩
 have q1 : decide (p.frm < 1) = false := decide_eq_false g1; by_cases g2 : 1000000000 < p.frm
 ·skip
  have HNP : Hid (properB p = false) := not_proper fun hp => by
   have := proper_iff.1 hp; omega
  go_enter Try.func53, Try.ntmps53
  go_wp2; go_ret; exact ⟨by rw [HNP.out]; rfl, HBZ.out⟩
 have q2 : decide (1000000000 < p.frm) = false := decide_eq_false g2; by_cases g3 : p.to < 0
 ·skip
  have HNP : Hid (properB p = false) := not_proper fun hp => by
   have := proper_iff.1 hp; omega
  go_enter Try.func53, Try.ntmps53
  go_wp2; go_ret; exact ⟨by rw [HNP.out]; rfl, HBZ.out⟩
 have q3 : decide (p.to < 0) = false := decide_eq_false g3; by_cases g4 : 1000000000 < p.to
 ·skip
  have HNP : Hid (properB p = false) := not_proper fun hp => by
   have := proper_iff.1 hp; omega
  go_enter Try.func53, Try.ntmps53
  go_wp2; go_ret; exact ⟨by rw [HNP.out]; rfl, HBZ.out⟩
 have q4 : decide (1000000000 < p.to) = false := decide_eq_false g4; have hk := HK.out; have k1 : (p.kind == 1) = false := beq_eq_false_iff_ne.2 (by omega); have k2 : (p.kind == 2) = false := beq_eq_false_iff_ne.2 (by omega); have k3 : (p.kind == 3) = false := beq_eq_false_iff_ne.2 (by omega); have HNP : Hid (properB p = false) := not_proper fun hp => by
  have := proper_iff.1 hp; omega
 clear hk; go_enter Try.func53, Try.ntmps53
 go_wp2; go_ret; exact ⟨by rw [HNP.out]; rfl, ((Below.refl _ w).alloc (Nat.le_refl _) _).alloc (by simp) _⟩
theorem nil_list : (⟨#[]⟩ : ByteArray).toList = [] := by simp [ByteArray.toList_eq]
theorem size0 {t : ByteArray} (h : t.toList = []) : t = ⟨#[]⟩ := toList_inj (h.trans nil_list.symm)
theorem proper_1 (fr to nu : Int) (t : ByteArray) (ac he : Int) (w : World) (h : 1 ≤ fr ∧ fr ≤ 1000000000 ∧ 0 ≤ to ∧ to ≤ 1000000000) :
  Calls Try.prog 53 #[pkV ⟨1, fr, to, nu, t, ac, he⟩] w fun r w' => r = .returned (.bool (properB ⟨1, fr, to, nu, t, ac, he⟩)) ∧ Below w.heap.size w w' := by
 obtain ⟨h1, h2, h3, h4⟩ := h; have hst := stood44; have hgd := guard44; unfold pkV; have q1 : decide (fr < 1) = false := decide_eq_false (by omega); have q2 : decide (1000000000 < fr) = false := decide_eq_false (by omega); have q3 : decide (to < 0) = false := decide_eq_false (by omega); have q4 : decide (1000000000 < to) = false := decide_eq_false (by omega); by_cases e1 : nu = 0
 ·subst e1; by_cases e2 : t.toList = []
  ·have e2' := size0 e2; subst e2'; by_cases e3 : ac = 0
   ·subst e3; by_cases e4 : he = 0
    ·subst e4; have HNP : Hid (properB ⟨1, fr, to, 0, ⟨#[]⟩, 0, 0⟩ = true) := proper_iff.2 ⟨⟨h1, h2, h3, h4⟩, .inl ⟨rfl, rfl, rfl, rfl, rfl⟩⟩; go_enter Try.func53, Try.ntmps53
     go_wp2; go_ret; exact ⟨by rw [HNP.out]; rfl, ((Below.refl _ w).alloc (Nat.le_refl _) _).alloc (by simp) _⟩
    ·have HNP : Hid (properB ⟨1, fr, to, 0, ⟨#[]⟩, 0, he⟩ = false) := not_proper fun hp => by
      rcases (proper_iff.1 hp).2 with h | h | h
      ·exact e4 h.2.2.2.2
      ·exact absurd h.1 (by show ¬ (1 : Int) = 2; omega)
      ·exact absurd h.1 (by show ¬ (1 : Int) = 3; omega)
     go_enter Try.func53, Try.ntmps53
     go_wp2; go_ret; exact ⟨by rw [HNP.out]; rfl, ((Below.refl _ w).alloc (Nat.le_refl _) _).alloc (by simp) _⟩
   ·have HNP : Hid (properB ⟨1, fr, to, 0, ⟨#[]⟩, ac, he⟩ = false) := not_proper fun hp => by
     rcases (proper_iff.1 hp).2 with h | h | h
     ·exact e3 h.2.2.2.1
     ·exact absurd h.1 (by show ¬ (1 : Int) = 2; omega)
     ·exact absurd h.1 (by show ¬ (1 : Int) = 3; omega)
    go_enter Try.func53, Try.ntmps53
    go_wp2; go_ret; exact ⟨by rw [HNP.out]; rfl, ((Below.refl _ w).alloc (Nat.le_refl _) _).alloc (by simp) _⟩
  ·have HNP : Hid (properB ⟨1, fr, to, 0, t, ac, he⟩ = false) := not_proper fun hp => by
    rcases (proper_iff.1 hp).2 with h | h | h
    ·exact e2 (by have := h.2.2.1; simp only at this; rw [this]; exact nil_list)
    ·exact absurd h.1 (by show ¬ (1 : Int) = 2; omega)
    ·exact absurd h.1 (by show ¬ (1 : Int) = 3; omega)
   go_enter Try.func53, Try.ntmps53
   go_wp2; go_ret; exact ⟨by rw [HNP.out]; rfl, ((Below.refl _ w).alloc (Nat.le_refl _) _).alloc (by simp) _⟩
 ·have HNP : Hid (properB ⟨1, fr, to, nu, t, ac, he⟩ = false) := not_proper fun hp => by
   rcases (proper_iff.1 hp).2 with h | h | h
   ·exact e1 h.2.1
   ·exact absurd h.1 (by show ¬ (1 : Int) = 2; omega)
   ·exact absurd h.1 (by show ¬ (1 : Int) = 3; omega)
  go_enter Try.func53, Try.ntmps53
  go_wp2; go_ret; exact ⟨by rw [HNP.out]; rfl, ((Below.refl _ w).alloc (Nat.le_refl _) _).alloc (by simp) _⟩
end Go.Proofs.Ytejabnoidhlfaaa
