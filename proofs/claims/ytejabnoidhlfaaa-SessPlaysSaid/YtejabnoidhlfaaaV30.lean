/- Contracts and lemmas that the claim uses. -/
import Derived.Test.YtejabnoidhlfaaaV29
set_option maxRecDepth 100000
set_option maxHeartbeats 16000000
namespace Go.Proofs.Ytejabnoidhlfaaa
open Go.RowKit Go.Maps
theorem rstart_any (life : Int) (w : World) : Calls Try.prog 11 #[.int .i64 life] w fun r w' => r = .returned (.tuple #[enV (startA life).1 none 0 none 0, .int .i64 (startA life).2]) ∧ Below w.heap.size w w' := by
 obtain ⟨b, hb⟩ : ∃ b, Hid ((decide (1 ≤ life) && decide (life ≤ 1000000000)) = b) := ⟨_, rfl⟩; go_enter Try.func11, Try.ntmps11
 go_wp2_with fail
 refine (in_any life _ _ _).mono ?_; rintro r w9 ⟨rfl, hw9⟩; rw [hb.out]; cases b with
 | false =>
  have HS : Hid (startA life = (noEn, 2)) := by
   show _ = _; have h1 := hb.out; simp only [Bool.and_eq_false_iff, decide_eq_false_iff_not] at h1; unfold startA most; rw [if_neg (by omega)]
  subst hw9; go_wp2; have hl := load26 (w := w.alloc (.cells (enB noEn none 0 none 0) 26)) (b := w.heap.size) (Blk.new w _); exact bodyPost_ret (v := .tuple #[enV noEn none 0 none 0, .int .i64 2]) (results_ct rfl rfl rfl hl) rfl ⟨by rw [HS.out], (Below.refl _ w).alloc (Nat.le_refl _) _⟩
 | true =>
  have HS : Hid (startA life = (⟨life, 0, 1, 0, [], 0, []⟩, 0)) := by
   show _ = _; have h1 := hb.out; simp only [Bool.and_eq_true, decide_eq_true_eq] at h1; unfold startA most; rw [if_pos (by omega)]
  subst hw9; go_wp2; have hl := load26 (w := w.alloc (.cells (enB ⟨life, 0, 1, 0, [], 0, []⟩ none 0 none 0) 26)) (b := w.heap.size) (Blk.new w _); exact bodyPost_ret (v := .tuple #[enV ⟨life, 0, 1, 0, [], 0, []⟩ none 0 none 0, .int .i64 0]) (results_ct rfl rfl rfl hl) rfl ⟨by rw [HS.out], (Below.refl _ w).alloc (Nat.le_refl _) _⟩
theorem ragain_any (e : En) (A : Option Addr) (c : Nat) (D : Option Addr) (d : Nat) (w : World) (h : EnAt w e A D) (hwf : Wf e) :
  Calls Try.prog 13 #[enV e A c D d] w fun r w' => r = .returned (.tuple #[enV (againA e).1 none 0 none 0, .int .i64 (againA e).2]) ∧ Below w.heap.size w w' := by
 have HE := Lib.hid h; have HWF := Lib.hid hwf; clear hwf; unfold enV; go_enter Try.func13, Try.ntmps13
 obtain ⟨W, hW⟩ : ∃ W, (w.alloc (.cells #[.int .i64 e.life, .int .i64 e.peer, .int .i64 e.phase, .int .i64 e.base, .slice A e.out.length c, .int .i64 e.want, .slice D e.inn.length d] 26)).alloc (.cells #[.int .i64 0, .int .i64 0, .int .i64 0, .int .i64 0, .slice none 0 0, .int .i64 0, .slice none 0 0] 26) = W := ⟨_, rfl⟩; have HB0 : Hid (Below w.heap.size w W) := by rw [← hW]; exact (((Below.refl _ w).alloc (Nat.le_refl _) _).alloc (by simp) _)
 have hsW : W.heap.size = w.heap.size + 2 := by rw [← hW]; simp
 have HK1 : Hid (Blk W w.heap.size (.cells (enB e A c D d) 26)) := by rw [← hW]; exact (Blk.new _ _).alloc _
 have HK2 : Hid (Blk W (w.heap.size + 1) (.cells (enB noEn none 0 none 0) 26)) := by
  rw [← hW]; have e1 := Blk.new (w.alloc (.cells #[.int .i64 e.life, .int .i64 e.peer, .int .i64 e.phase, .int .i64 e.base, .slice A e.out.length c, .int .i64 e.want, .slice D e.inn.length d] 26)) (.cells #[.int .i64 0, .int .i64 0, .int .i64 0, .int .i64 0, .slice none 0 0, .int .i64 0, .slice none 0 0] 26); rw [World.size_alloc] at e1; exact e1
 obtain ⟨x0, x1, x2, x3, x4, x5, x6, xl⟩ := Blk.d7 HK1.out; go_wp2_with fail
 clear hW x0 x1 x2 x3 x4 x5 x6 xl; refine (good_any e A c D d W (HE.out.below HB0.out) HWF.out).mono ?_; rintro r w1 ⟨rfl, hB1⟩; have HBZ := Lib.hid hB1; clear hB1; obtain ⟨bg, hbg⟩ : ∃ b, Hid (goodB e = b) := ⟨_, rfl⟩; rw [hbg.out]; cases bg with
 | false =>
  have HAG : Hid (againA e = (noEn, 2)) := by show _ = _; unfold againA; rw [if_pos hbg.out]
  have h2z := HK2.out.below HBZ.out (by omega); have H2Z := Lib.hid h2z; obtain ⟨z0, z1, z2, z3, z4, z5, z6⟩ := Blk.c7 h2z; obtain ⟨y0, y1, y2, y3, y4, y5, y6, yl⟩ := Blk.g7 h2z; clear h2z; go_wp2; have q1 := setEn_blk (e := noEn) (A := none) (c := 0) (B := none) (d := 0) H2Z.out; have q9 := setEn_below (e := noEn) (A := none) (c := 0) (B := none) (d := 0) (HB0.out.trans (HBZ.out.mono (by omega))) (show w.heap.size ≤ w.heap.size + 1 by omega); have hl1 := load26 q1; refine bodyPost_ret (v := .tuple #[enV noEn none 0 none 0, .int .i64 2]) (results_ct rfl rfl rfl hl1) rfl ⟨by rw [HAG.out]; rfl, ?_⟩; exact q9
 | true =>
  have h1 := HK1.out.below HBZ.out (by omega); have x0 := h1.cell 0 (v := .int .i64 e.life) rfl; have xl := h1.lt; clear h1; by_cases hm : e.life = 1000000000
  ·have q1 : (e.life == 1000000000) = true := beq_iff_eq.2 hm; have HAG : Hid (againA e = (noEn, 3)) := by show _ = _; unfold againA most; rw [if_neg (by rw [hbg.out]; decide), if_pos hm]
   clear hm; have h2z := HK2.out.below HBZ.out (by omega); have H2Z := Lib.hid h2z; obtain ⟨z0, z1, z2, z3, z4, z5, z6⟩ := Blk.c7 h2z; obtain ⟨y0, y1, y2, y3, y4, y5, y6, yl⟩ := Blk.g7 h2z; clear h2z; go_wp2; have q1 := setEn_blk (e := noEn) (A := none) (c := 0) (B := none) (d := 0) H2Z.out; have q9 := setEn_below (e := noEn) (A := none) (c := 0) (B := none) (d := 0) (HB0.out.trans (HBZ.out.mono (by omega))) (show w.heap.size ≤ w.heap.size + 1 by omega); have hl1 := load26 q1; refine bodyPost_ret (v := .tuple #[enV noEn none 0 none 0, .int .i64 3]) (results_ct rfl rfl rfl hl1) rfl ⟨by rw [HAG.out]; rfl, ?_⟩; exact q9
  ·have q1 : (e.life == 1000000000) = false := beq_eq_false_iff_ne.2 hm; have HAG0 : Hid (againA e = startA (e.life + 1)) := by show _ = _; unfold againA most; rw [if_neg (by rw [hbg.out]; decide), if_neg hm]
   have hlf := (good_iff.1 hbg.out).life; unfold most at hlf; have hw1 : IntKind.i64.wrap (e.life + 1) = e.life + 1 := wrap_ok ⟨by omega, by omega⟩; clear hm; go_wp2_with fail
   refine (rstart_any (e.life + 1) w1).mono ?_; rintro r w2 ⟨rfl, hB2⟩; have HBZ2 : Hid (Below W.heap.size W w2) := below_in HBZ.out hB2; clear HBZ x0 xl hB2 q1 hw1; have HBZ := HBZ2; clear HBZ2; obtain ⟨S, HS⟩ : ∃ S, Hid (startA (e.life + 1) = S) := ⟨_, rfl⟩; have HAG : Hid (againA e = (S.1, S.2)) := by show _ = _; rw [HAG0.out, HS.out]
   rw [HS.out]; unfold enV; have h2z := HK2.out.below HBZ.out (by omega); have H2Z := Lib.hid h2z; obtain ⟨z0, z1, z2, z3, z4, z5, z6⟩ := Blk.c7 h2z; obtain ⟨y0, y1, y2, y3, y4, y5, y6, yl⟩ := Blk.g7 h2z; clear h2z; go_wp2; have q1 := setEn_blk (e := S.1) (A := none) (c := 0) (B := none) (d := 0) H2Z.out; have q9 := setEn_below (e := S.1) (A := none) (c := 0) (B := none) (d := 0) (HB0.out.trans (HBZ.out.mono (by omega))) (show w.heap.size ≤ w.heap.size + 1 by omega); have hl1 := load26 q1; refine bodyPost_ret (v := .tuple #[enV S.1 none 0 none 0, .int .i64 S.2]) (results_ct rfl rfl rfl hl1) rfl ⟨by rw [HAG.out]; rfl, ?_⟩; exact q9
/-! ### equality of ends -/
theorem stood71 : Try.prog.stoodInHeld 71 = false := by kernel_rfl
theorem stood73 : Try.prog.stoodInHeld 73 = false := by kernel_rfl
theorem neq71 (p q : Ou) (w : World) : (binOp .neq 71 (.agg #[.string p.t, .bool p.h]) (.agg #[.string q.t, .bool q.h])).run Try.prog w = .ok (.bool (!decide (p = q))) w := by
 have hst := stood71; obtain ⟨a0, a1⟩ := p; obtain ⟨b0, b1⟩ := q; by_cases e0 : a0 = b0
 ·by_cases e1 : a1 = b1
  ·subst e0 e1; go_simp
  ·go_simp
 ·have e0' : ¬ a0.toList = b0.toList := fun h => e0 (toList_inj h); go_simp
theorem neq73 (p q : Im) (w : World) : (binOp .neq 73 (.agg #[.int .i64 p.n, .string p.t]) (.agg #[.int .i64 q.n, .string q.t])).run Try.prog w = .ok (.bool (!decide (p = q))) w := by
 have hst := stood73; obtain ⟨a0, a1⟩ := p; obtain ⟨b0, b1⟩ := q; by_cases e0 : a0 = b0
 ·by_cases e1 : a1 = b1
  ·subst e0 e1; go_simp
  ·have e1' : ¬ a1.toList = b1.toList := fun h => e1 (toList_inj h); go_simp
 ·go_simp
theorem same_end (a : En) (A : Option Addr) (ca : Nat) (D : Option Addr) (da : Nat) (b : En) (B : Option Addr) (cb : Nat) (E : Option Addr) (db : Nat) (w : World) (ha : EnAt w a A D) (hb : EnAt w b B E) :
  Calls Try.prog 14 #[enV a A ca D da, enV b B cb E db] w fun r w' => r = .returned (.bool (decide (a = b))) ∧ Below w.heap.size w w' := by
 have HA := Lib.hid ha; have HB := Lib.hid hb; clear ha hb; unfold enV; go_enter Try.func14, Try.ntmps14
 obtain ⟨W, hW⟩ : ∃ W, (w.alloc (.cells #[.int .i64 a.life, .int .i64 a.peer, .int .i64 a.phase, .int .i64 a.base, .slice A a.out.length ca, .int .i64 a.want, .slice D a.inn.length da] 26)).alloc (.cells #[.int .i64 b.life, .int .i64 b.peer, .int .i64 b.phase, .int .i64 b.base, .slice B b.out.length cb, .int .i64 b.want, .slice E b.inn.length db] 26) = W := ⟨_, rfl⟩; have HBL : Hid (Below w.heap.size w W) := by rw [← hW]; exact ((Below.refl _ w).alloc (Nat.le_refl _) _).alloc (by simp) _
 have HKA : Hid (Blk W w.heap.size (.cells (enB a A ca D da) 26)) := by rw [← hW]; exact (Blk.new _ _).alloc _
 have HKB : Hid (Blk W (w.heap.size + 1) (.cells (enB b B cb E db) 26)) := by
  rw [← hW]; have e1 := Blk.new (w.alloc (.cells (enB a A ca D da) 26)) (.cells (enB b B cb E db) 26); rw [World.size_alloc] at e1; exact e1
 obtain ⟨a0, a1, a2, a3, a4, a5, a6, al⟩ := Blk.d7 HKA.out; obtain ⟨b0, b1, b2, b3, b4, b5, b6, bl⟩ := Blk.d7 HKB.out; obtain ⟨nb, HNB⟩ : ∃ nb, Hid ((a.life != b.life || a.peer != b.peer || a.phase != b.phase || a.base != b.base || a.want != b.want || ((a.out.length : Int) != (b.out.length : Int)) || ((a.inn.length : Int) != (b.inn.length : Int))) = nb) := ⟨_, rfl⟩; go_upto_region 1 with fail
 go_cut [57] from 7 (fun v wx => v = .bool nb ∧ wx = W)
 case first =>
  cases q0 : (a.life != b.life) with
  | true =>
   obtain rfl : nb = true := by rw [← HNB.out, q0]; rfl
   go_wp2_with fail
   go_meet; exact ⟨rfl, rfl⟩
  | false =>
  cases q1 : (a.peer != b.peer) with
  | true =>
   obtain rfl : nb = true := by rw [← HNB.out, q1]; simp
   go_wp2_with fail
   go_meet; exact ⟨rfl, rfl⟩
  | false =>
  cases q2 : (a.phase != b.phase) with
  | true =>
   obtain rfl : nb = true := by rw [← HNB.out, q2]; simp
   go_wp2_with fail
   go_meet; exact ⟨rfl, rfl⟩
  | false =>
  cases q3 : (a.base != b.base) with
  | true =>
   obtain rfl : nb = true := by rw [← HNB.out, q3]; simp
   go_wp2_with fail
   go_meet; exact ⟨rfl, rfl⟩
  | false =>
  cases q4 : (a.want != b.want) with
  | true =>
   obtain rfl : nb = true := by rw [← HNB.out, q4]; simp
   go_wp2_with fail
   go_meet; exact ⟨rfl, rfl⟩
  | false =>
  cases q5 : ((a.out.length : Int) != (b.out.length : Int)) with
  | true =>
   obtain rfl : nb = true := by rw [← HNB.out, q5]; simp
   go_wp2_with fail
   go_meet; exact ⟨rfl, rfl⟩
  | false =>
  cases q6 : ((a.inn.length : Int) != (b.inn.length : Int)) with
  | true =>
   obtain rfl : nb = true := by rw [← HNB.out, q6]; simp
   go_wp2_with fail
   go_meet; exact ⟨rfl, rfl⟩
  | false =>
  obtain rfl : nb = false := by rw [← HNB.out, q0, q1, q2, q3, q4, q5, q6]; rfl
  go_wp2_with fail
  go_meet; exact ⟨rfl, rfl⟩
 case rest =>
  obtain ⟨rfl, hwx⟩ := hcut; obtain rfl := hwx.symm; clear hwx a0 a1 a2 a3 a4 a5 a6 al b0 b1 b2 b3 b4 b5 b6 bl hW; cases nb with
  | true =>
   have HN : Hid (decide (a = b) = false) := decide_eq_false fun e => by
    have h1 := HNB.out; rw [e] at h1; simp at h1
   go_wp2; go_ret; exact ⟨by rw [HN.out]; rfl, HBL.out⟩
  | false =>
   have hnb := HNB.out; simp only [Bool.or_eq_false_iff, bne_eq_false_iff_eq] at hnb; obtain ⟨⟨⟨⟨⟨⟨e0, e1⟩, e2⟩, e3⟩, e4⟩, e5⟩, e6⟩ := hnb; have HEQ : Hid (a.out = b.out → a.inn = b.inn → a = b) := fun h1 h2 => by
    obtain ⟨x0, x1, x2, x3, x4, x5, x6⟩ := a; obtain ⟨y0, y1, y2, y3, y4, y5, y6⟩ := b; simp only at e0 e1 e2 e3 e4 h1 h2; rw [e0, e1, e2, e3, e4, h1, h2]
   have HL5 : Hid (a.out.length = b.out.length) := by show _ = _; omega
   have HL6 : Hid (a.inn.length = b.inn.length) := by show _ = _; omega
   clear e0 e1 e2 e3 e4 e5 e6; have HLB5 : Hid (a.out.length * 2 ≤ 17592186043904) := by have := HA.out.out.1; rw [ous_len] at this; exact this
   have HLB6 : Hid (a.inn.length * 2 ≤ 17592186043904) := by have := HA.out.inn.1; rw [ims_len] at this; exact this
   go_wp2_with fail
   go_loopg [5] a.out.length (fun g iv wr => ∃ k : Nat, k + g = a.out.length ∧ iv = .int .i64 (k : Int) ∧ a.out.take k = b.out.take k ∧ Below W.heap.size W wr)
   case atStart => exact ⟨0, Nat.zero_add _, rfl, rfl, Below.refl _ _⟩
   case round =>
    obtain ⟨k, hk, rfl, htk, hBr⟩ := hrel; have HK := Lib.hid hk; have HT := Lib.hid htk; have HBR := Lib.hid hBr; have HBF : Hid (Below w.heap.size w wr) := HBL.out.trans (hBr.mono HBL.out.size); clear hk htk hBr; have q9 := HKA.out.below HBR.out (by have := HKA.out.lt; omega); have q8 := HKB.out.below HBR.out (by have := HKB.out.lt; omega); have a4 := q9.cell 4 (v := .slice A a.out.length ca) rfl; have a6 := q9.cell 6 (v := .slice D a.inn.length da) rfl; have b4 := q8.cell 4 (v := .slice B b.out.length cb) rfl; have b6 := q8.cell 6 (v := .slice E b.inn.length db) rfl; have al := q9.lt; have bl := q8.lt; clear q9 q8; by_cases hlt : (k : Int) < (a.out.length : Int)
    ·obtain ⟨x, xb, xo, hx, hxb, hxi, hx0, hx1⟩ := ou_at (c := ca) (k := k) (HA.out.out.below HBF.out (Nat.le_refl _)) (by omega); obtain ⟨y, yb, yo, hy, hyb, hyi, hy0, hy1⟩ := ou_at (c := cb) (k := k) (HB.out.out.below HBF.out (Nat.le_refl _)) (by have := HL5.out; omega); have HX := Lib.hid hx; have HY := Lib.hid hy; have hw1 : IntKind.i64.wrap ((k : Int) + 1) = (k : Int) + 1 := wrap_ok ⟨by omega, by have := HLB5.out; omega⟩; clear hx hy; have heq := fun w => neq71 x y w; obtain ⟨nb, HNB2⟩ : ∃ nb, decide (x = y) = nb := ⟨_, rfl⟩; go_upto_region 6 with fail
     cases nb with
     | true =>
      have HXY : Hid (x = y) := Lib.hid (of_decide_eq_true HNB2); refine sall (by kernel_rfl) (by kernel_rfl) (fun Kq hKq => ?_); repeat still_step
      refine wpStill_nil (hKq _ ?_); clear hKq Kq; go_wp2_with fail
      go_roundg (a.out.length - (k + 1))
      case measure => have := HK.out; omega
      case rel => exact ⟨k + 1, by omega, rfl, by rw [take_succ_of HX.out, take_succ_of HY.out, HT.out, HXY.out], HBR.out.drew⟩
     | false =>
      have HN : Hid (decide (a = b) = false) := decide_eq_false fun e => by
       have h1 := HX.out; rw [e, HY.out] at h1; injection h1 with h1; exact of_decide_eq_false HNB2 h1.symm
      refine sall (by kernel_rfl) (by kernel_rfl) (fun Kq hKq => ?_); repeat still_step
      refine wpStill_nil (hKq _ ?_); clear hKq Kq; go_wp2; go_ret; exact ⟨by rw [HN.out]; rfl, (HBL.out.trans (HBR.out.mono HBL.out.size)).drew⟩
    ·have HOE : Hid (a.out = b.out) := take_eq_all HL5.out HT.out (by omega); obtain ⟨Y, rfl⟩ : ∃ Y, Y = wr := ⟨wr, rfl⟩; have HBY : Hid (Below W.heap.size W Y) := HBR.out; clear HT HK HBR HBF; go_wp2_with fail
     go_loopg [6] a.inn.length (fun g iv wr => ∃ k : Nat, k + g = a.inn.length ∧ iv = .int .i64 (k : Int) ∧ a.inn.take k = b.inn.take k ∧ Below W.heap.size W wr)
     case atStart => exact ⟨0, Nat.zero_add _, rfl, rfl, HBY.out⟩
     case round =>
      obtain ⟨k, hk, rfl, htk, hBr⟩ := hrel; have HK := Lib.hid hk; have HT := Lib.hid htk; have HBR := Lib.hid hBr; have HBF : Hid (Below w.heap.size w wr) := HBL.out.trans (hBr.mono HBL.out.size); clear hk htk hBr hlt a4 a6 b4 b6 al bl; have q9 := HKA.out.below HBR.out (by have := HKA.out.lt; omega); have q8 := HKB.out.below HBR.out (by have := HKB.out.lt; omega); have a4 := q9.cell 4 (v := .slice A a.out.length ca) rfl; have a6 := q9.cell 6 (v := .slice D a.inn.length da) rfl; have b4 := q8.cell 4 (v := .slice B b.out.length cb) rfl; have b6 := q8.cell 6 (v := .slice E b.inn.length db) rfl; have al := q9.lt; have bl := q8.lt; clear q9 q8; by_cases hlt : (k : Int) < (a.inn.length : Int)
      ·obtain ⟨x, xb, xo, hx, hxb, hxi, hx0, hx1⟩ := im_at (c := da) (k := k) (HA.out.inn.below HBF.out (Nat.le_refl _)) (by omega); obtain ⟨y, yb, yo, hy, hyb, hyi, hy0, hy1⟩ := im_at (c := db) (k := k) (HB.out.inn.below HBF.out (Nat.le_refl _)) (by have := HL6.out; omega); have HX := Lib.hid hx; have HY := Lib.hid hy; have hw1 : IntKind.i64.wrap ((k : Int) + 1) = (k : Int) + 1 := wrap_ok ⟨by omega, by have := HLB6.out; omega⟩; clear hx hy; have heq := fun w => neq73 x y w; obtain ⟨nb, HNB2⟩ : ∃ nb, decide (x = y) = nb := ⟨_, rfl⟩; go_upto_region 11 with fail
       cases nb with
       | true =>
        have HXY : Hid (x = y) := Lib.hid (of_decide_eq_true HNB2); refine sall (by kernel_rfl) (by kernel_rfl) (fun Kq hKq => ?_); repeat still_step
        refine wpStill_nil (hKq _ ?_); clear hKq Kq; go_wp2_with fail
        go_roundg (a.inn.length - (k + 1))
        case measure => have := HK.out; omega
        case rel => exact ⟨k + 1, by omega, rfl, by rw [take_succ_of HX.out, take_succ_of HY.out, HT.out, HXY.out], HBR.out.drew⟩
       | false =>
        have HN : Hid (decide (a = b) = false) := decide_eq_false fun e => by
         have h1 := HX.out; rw [e, HY.out] at h1; injection h1 with h1; exact of_decide_eq_false HNB2 h1.symm
        refine sall (by kernel_rfl) (by kernel_rfl) (fun Kq hKq => ?_); repeat still_step
        refine wpStill_nil (hKq _ ?_); clear hKq Kq; go_wp2; go_ret; exact ⟨by rw [HN.out]; rfl, (HBL.out.trans (HBR.out.mono HBL.out.size)).drew⟩
      ·have HIE : Hid (a.inn = b.inn) := take_eq_all HL6.out HT.out (by omega); have HY : Hid (decide (a = b) = true) := decide_eq_true (HEQ.out HOE.out HIE.out); go_wp2; go_ret; exact ⟨by rw [HY.out]; rfl, HBF.out⟩
end Go.Proofs.Ytejabnoidhlfaaa
