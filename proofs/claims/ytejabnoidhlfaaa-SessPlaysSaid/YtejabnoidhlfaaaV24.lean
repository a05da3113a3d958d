/- Contracts and lemmas that the claim uses. -/
import Derived.Test.YtejabnoidhlfaaaV23
set_option maxRecDepth 100000
set_option maxHeartbeats 16000000
namespace Go.Proofs.Ytejabnoidhlfaaa
open Go.RowKit Go.Maps
theorem does_2 {l : Lp} {d : Dd} (h : d.do_ = 2) : doesA l d = wayA l d.end_ (tickA (l.end_ d.end_)).1 := by
 unfold doesA; simp only; rw [if_neg (by omega), if_pos h]
theorem does_3 {l : Lp} {d : Dd} (h : d.do_ = 3) : doesA l d = if (againA (l.end_ d.end_)).2 = 0 then becomesA l d.end_ (againA (l.end_ d.end_)).1 else l := by
 unfold doesA; simp only; rw [if_neg (by omega), if_neg (by omega), if_pos h]
theorem again_nil (e : En) : (againA e).1.out = [] ∧ (againA e).1.inn = [] := by
 unfold againA startA; split
 ·exact ⟨rfl, rfl⟩
 ·split
  ·exact ⟨rfl, rfl⟩
  ·split <;> exact ⟨rfl, rfl⟩
theorem does_tick (B bl : Nat) (l : Lp) (m : Lm) (d : Dd) (w : World) (n : Nat) (h : Lo w B bl l m) (hn : LineK l n) (hnn : n ≤ 80000000) (hd : deedB d = true) (hk : d.do_ = 2) :
  Calls Try.prog 81 #[.pointer (some ⟨bl, 0, none⟩), ddV d] w fun r w' => r = .returned (.tuple #[]) ∧ ∃ m', Lo w' B bl (doesA l d) m' ∧ Ls bl l m w (doesA l d) m' w' := by
 have HDO := Lib.hid (does_2 (l := l) hk); have q1 : (d.do_ == 1) = false := beq_eq_false_iff_ne.2 (by omega); have q2 : (d.do_ == 2) = true := beq_iff_eq.2 hk; have HLO := Lib.hid h; have HLK := Lib.hid hn; have HD := Lib.hid hd; have HEI : Hid (d.end_ = 0 ∨ d.end_ = 1) := deed_end hd; have hat := deed_at hd; have hwl : l.wire.length ≤ 80000000 := by have := hn.bulk.wire; omega
 have HWL := Lib.hid hwl; have HAT := Lib.hid hat; obtain ⟨kk, HKK⟩ : ∃ kk : Nat, Hid ((d.at_ % (l.wire.length : Int)).toNat = kk) := ⟨_, rfl⟩; have HK := Lib.hid hk; clear h hn hd hk; unfold ddV; go_enter Try.func81, Try.ntmps81
 obtain ⟨W, hW⟩ : ∃ W, w.alloc (.cells #[.int .i64 d.do_, .int .i64 d.end_, .int .i64 d.at_, .string d.t] 77) = W := ⟨_, rfl⟩; have HBW : Hid (Below w.heap.size w W) := by rw [← hW]; exact (Below.refl _ w).alloc (Nat.le_refl _) _
 have HKW : Hid (Blk W w.heap.size (.cells (ddB d) 77)) := by rw [← hW]; exact Blk.new _ _
 have HLW : Hid (Lo W B bl l m) := HLO.out.below HBW.out; have c14 := HLW.out.box.cell 14 (v := .slice m.W l.wire.length m.cw) rfl; have c2 := HKW.out.cell 2 (v := .int .i64 d.at_) rfl; have lbW := HLW.out.box.lt; have lkW := HKW.out.lt; go_upto_if 18 with fail
 clear hW; go_cut [4] from 13 (fun v wx => ∃ z : Int, v = .int .i64 z ∧ (l.wire.length ≠ 0 → z = (kk : Int)) ∧ Lo wx B bl l m ∧ Ls bl l m w l m wx ∧ Blk wx w.heap.size (.cells (ddB d) 77))
 case first =>
  by_cases h0 : (0 : Int) < (l.wire.length : Int)
  ·have q0 : decide ((0 : Int) < (l.wire.length : Int)) = true := decide_eq_true h0; have hne : ¬ (l.wire.length : Int) = 0 := by omega
   have hnl : ¬ l.wire.length = 0 := by omega
   go_upto_region 3 with fail
   refine sall (by kernel_rfl) (by kernel_rfl) (fun Kq hKq => ?_); repeat still_step
   refine wpStill_nil (hKq _ ?_); clear hKq Kq; go_wp2_with fail
   go_meet; exact ⟨_, rfl, fun _ => by rw [← HKK.out, Int.tmod_eq_emod_of_nonneg HAT.out, Int.toNat_of_nonneg (Int.emod_nonneg _ hne)], HLW.out.drew, (Ls.of_below HBW.out).trans (Ls.of_below (Below.refl _ _).drew), HKW.out.drew⟩
  ·have q0 : decide ((0 : Int) < (l.wire.length : Int)) = false := decide_eq_false h0; go_wp2_with fail
   go_meet; exact ⟨0, rfl, fun h => absurd (by omega) h, HLW.out, Ls.of_below HBW.out, HKW.out⟩
 case rest =>
  obtain ⟨V, rfl⟩ : ∃ V, V = wc := ⟨wc, rfl⟩; obtain ⟨z, rfl, hz, hl, hs, hkb⟩ := hcut; have HZ := Lib.hid hz; have HLV := Lib.hid hl; have HSV := Lib.hid hs; have HKV := Lib.hid hkb; clear hz hl hs hkb c14 c2 lbW lkW; obtain ⟨E, HE⟩ : ∃ E, Hid (l.end_ d.end_ = E) := ⟨_, rfl⟩; have HEN : Hid (EnT V E (m.A d.end_) (m.c d.end_) (m.D d.end_)) := by have h1 := HLV.out.end_ HEI.out; rw [HE.out] at h1; exact h1
  have HGE : Hid (goodB E = true) := by have h1 := HLK.out.ok.good d.end_; rw [HE.out] at h1; exact h1
  have hixE : ∀ w', (Instr.indexAt 107 (.pointer (some ⟨bl, 0, none⟩)) (.int .i64 d.end_)).run Try.prog w' = .ok (.pointer (some ⟨bl, 7 * d.end_.toNat, none⟩)) w' := fun w' => ix107 HEI.out w'; obtain ⟨o, ho⟩ : ∃ o, Hid (7 * d.end_.toNat = o) := ⟨_, rfl⟩; rw [ho.out] at hixE; obtain ⟨d0, d1, d2, d3, dl⟩ := Blk.d4 HKV.out; rw [HE.out] at HDO; go_upto_region 12 with fail
  go_cut [8] from 72 (fun v8 wx => ∃ P cp, v8 = .slice P (tickA E).1.length cp ∧ wx.ownsRow V.heap.size 44 7 (.slice P (tickA E).1.length cp) (tickA E).1.length (pks (tickA E).1) ∧ Below V.heap.size V wx)
  case first =>
   refine draw (fun w' => Below V.heap.size V w') 13 rfl (by kernel_rfl) (fun Qd hQd => ?_); iterate 7 (first | apply sI 0 (by rfl) rfl (by kernel_rfl) | apply sI 1 (by rfl) rfl (by kernel_rfl) | apply sI 2 (by rfl) rfl (by kernel_rfl) | apply sI 3 (by rfl) rfl (by kernel_rfl) | apply sI 4 (by rfl) rfl (by kernel_rfl) | apply sI 5 (by rfl) rfl (by kernel_rfl) | apply sI 6 (by rfl) rfl (by kernel_rfl)); (focus intro wI hI Kv hKv; have q9 := (HLV.out.below hI).endc HEI.out; rw [HE.out, ho.out] at q9; obtain ⟨e0, e1, e2, e3, e4, e5, e6⟩ := q9; have k1 := cell_chain hI dl d1; go_simp; exact hKv); intro Kd hKd; go_simp; refine hKd _ ?_; clear hKd Kd
   refine anyI_one' 7 rfl (by kernel_rfl) ((Below.refl _ V).drew) (fun Kd hKd => ?_); have HENd : Hid (EnT V.drew E (m.A d.end_) (m.c d.end_) (m.D d.end_)) := HEN.out.frame (Frame.of_all (S := fun _ => False) (Below.refl _ V).drew) (fun _ _ _ h => h) (fun _ _ _ h => h); go_wp2_with (go_at_call 17; go_must (refine (tick_any E (m.A d.end_) (m.c d.end_) (m.D d.end_) (m.d d.end_) V.drew HENd.out.at_ HENd.out.nl).mono ?_); rintro r wt ⟨vv, rfl, hOw, hBt⟩; obtain ⟨P, cp, rfl⟩ := own_fits hOw)
   have HOW : Hid (wt.ownsRow V.heap.size 44 7 (.slice P (tickA E).1.length cp) (tickA E).1.length (pks (tickA E).1)) := hOw; have HBT : Hid (Below V.heap.size V wt) := by
    have h9 : Below V.heap.size V V.drew := (Below.refl _ V).drew; exact h9.trans hBt
   clear hOw hBt; iterate 5 (first | apply sI 8 (by rfl) rfl (by kernel_rfl) | apply sI 9 (by rfl) rfl (by kernel_rfl) | apply sI 10 (by rfl) rfl (by kernel_rfl) | apply sI 11 (by rfl) rfl (by kernel_rfl) | apply sI 12 (by rfl) rfl (by kernel_rfl)); (focus intro wI hI Kv hKv; go_simp; exact hKv); intro Kd hKd; go_simp; refine hKd _ ?_; clear hKd Kd
   refine anyI_end (by kernel_rfl) (HBT.out) (hQd _ _ ?_); clear hQd Qd; go_wp2_with fail
   go_meet; exact ⟨P, cp, rfl, HOW.out, HBT.out⟩
  case rest =>
   obtain ⟨V2, rfl⟩ : ∃ V2, V2 = wc := ⟨wc, rfl⟩; obtain ⟨P, cp, rfl, how, hb2⟩ := hcut; have HL2 : Hid (Lo V2 B bl l m) := HLV.out.below hb2; have HS2 : Hid (Ls bl l m w l m V2) := HSV.out.trans (Ls.of_below hb2); have HK2 : Hid (Blk V2 w.heap.size (.cells (ddB d) 77)) := HKV.out.below hb2 dl; have HPL : Hid ((tickA E).1.length ≤ 5) := tick_packets E; have HOP : Hid (Off V2 bl l m P (pks (tickA E).1)) := off_own HLV.out how (by rw [pks_len]; have := HPL.out; omega); clear how hb2 d0 d1 d2 d3 dl; have x1 := HK2.out.cell 1 (v := .int .i64 d.end_) rfl; have xl := HK2.out.lt; go_wp2_with fail
   refine (way_any B bl l m d.end_ P cp (tickA E).1 V2 HL2.out HEI.out HOP.out (by have := HWL.out; have := HPL.out; omega)).mono ?_; rintro r w9 ⟨rfl, M9, hl9, hs9⟩; go_wp2; go_end0
   rw [HDO.out]; exact ⟨rfl, M9, hl9, HS2.out.trans hs9⟩
theorem does_fail (B bl : Nat) (l : Lp) (m : Lm) (d : Dd) (w : World) (n : Nat) (h : Lo w B bl l m) (hn : LineK l n) (hnn : n ≤ 80000000) (hd : deedB d = true) (hk : d.do_ = 3) :
  Calls Try.prog 81 #[.pointer (some ⟨bl, 0, none⟩), ddV d] w fun r w' => r = .returned (.tuple #[]) ∧ ∃ m', Lo w' B bl (doesA l d) m' ∧ Ls bl l m w (doesA l d) m' w' := by
 have HDO := Lib.hid (does_3 (l := l) hk); have q1 : (d.do_ == 1) = false := beq_eq_false_iff_ne.2 (by omega); have q2 : (d.do_ == 2) = false := beq_eq_false_iff_ne.2 (by omega); have q3 : (d.do_ == 3) = true := beq_iff_eq.2 hk; have HLO := Lib.hid h; have HLK := Lib.hid hn; have HD := Lib.hid hd; have HEI : Hid (d.end_ = 0 ∨ d.end_ = 1) := deed_end hd; have hat := deed_at hd; have hwl : l.wire.length ≤ 80000000 := by have := hn.bulk.wire; omega
 have HWL := Lib.hid hwl; have HAT := Lib.hid hat; obtain ⟨kk, HKK⟩ : ∃ kk : Nat, Hid ((d.at_ % (l.wire.length : Int)).toNat = kk) := ⟨_, rfl⟩; have HK := Lib.hid hk; clear h hn hd hk; unfold ddV; go_enter Try.func81, Try.ntmps81
 obtain ⟨W, hW⟩ : ∃ W, w.alloc (.cells #[.int .i64 d.do_, .int .i64 d.end_, .int .i64 d.at_, .string d.t] 77) = W := ⟨_, rfl⟩; have HBW : Hid (Below w.heap.size w W) := by rw [← hW]; exact (Below.refl _ w).alloc (Nat.le_refl _) _
 have HKW : Hid (Blk W w.heap.size (.cells (ddB d) 77)) := by rw [← hW]; exact Blk.new _ _
 have HLW : Hid (Lo W B bl l m) := HLO.out.below HBW.out; have c14 := HLW.out.box.cell 14 (v := .slice m.W l.wire.length m.cw) rfl; have c2 := HKW.out.cell 2 (v := .int .i64 d.at_) rfl; have lbW := HLW.out.box.lt; have lkW := HKW.out.lt; go_upto_if 18 with fail
 clear hW; go_cut [4] from 13 (fun v wx => ∃ z : Int, v = .int .i64 z ∧ (l.wire.length ≠ 0 → z = (kk : Int)) ∧ Lo wx B bl l m ∧ Ls bl l m w l m wx ∧ Blk wx w.heap.size (.cells (ddB d) 77))
 case first =>
  by_cases h0 : (0 : Int) < (l.wire.length : Int)
  ·have q0 : decide ((0 : Int) < (l.wire.length : Int)) = true := decide_eq_true h0; have hne : ¬ (l.wire.length : Int) = 0 := by omega
   have hnl : ¬ l.wire.length = 0 := by omega
   go_upto_region 3 with fail
   refine sall (by kernel_rfl) (by kernel_rfl) (fun Kq hKq => ?_); repeat still_step
   refine wpStill_nil (hKq _ ?_); clear hKq Kq; go_wp2_with fail
   go_meet; exact ⟨_, rfl, fun _ => by rw [← HKK.out, Int.tmod_eq_emod_of_nonneg HAT.out, Int.toNat_of_nonneg (Int.emod_nonneg _ hne)], HLW.out.drew, (Ls.of_below HBW.out).trans (Ls.of_below (Below.refl _ _).drew), HKW.out.drew⟩
  ·have q0 : decide ((0 : Int) < (l.wire.length : Int)) = false := decide_eq_false h0; go_wp2_with fail
   go_meet; exact ⟨0, rfl, fun h => absurd (by omega) h, HLW.out, Ls.of_below HBW.out, HKW.out⟩
 case rest =>
  obtain ⟨V, rfl⟩ : ∃ V, V = wc := ⟨wc, rfl⟩; obtain ⟨z, rfl, hz, hl, hs, hkb⟩ := hcut; have HZ := Lib.hid hz; have HLV := Lib.hid hl; have HSV := Lib.hid hs; have HKV := Lib.hid hkb; clear hz hl hs hkb c14 c2 lbW lkW; obtain ⟨E, HE⟩ : ∃ E, Hid (l.end_ d.end_ = E) := ⟨_, rfl⟩; have HEN : Hid (EnT V E (m.A d.end_) (m.c d.end_) (m.D d.end_)) := by have h1 := HLV.out.end_ HEI.out; rw [HE.out] at h1; exact h1
  have HGE : Hid (goodB E = true) := by have h1 := HLK.out.ok.good d.end_; rw [HE.out] at h1; exact h1
  have hixE : ∀ w', (Instr.indexAt 107 (.pointer (some ⟨bl, 0, none⟩)) (.int .i64 d.end_)).run Try.prog w' = .ok (.pointer (some ⟨bl, 7 * d.end_.toNat, none⟩)) w' := fun w' => ix107 HEI.out w'; obtain ⟨o, ho⟩ : ∃ o, Hid (7 * d.end_.toNat = o) := ⟨_, rfl⟩; rw [ho.out] at hixE; obtain ⟨d0, d1, d2, d3, dl⟩ := Blk.d4 HKV.out; rw [HE.out] at HDO; go_upto_region 15 with fail
  go_cut [10, 11] from 92 (fun v10 v11 wx => ∃ b5, v10 = .pointer (some ⟨b5, 0, none⟩) ∧ v11 = .int .i64 (againA E).2 ∧ Blk wx b5 (.cells (enB (againA E).1 none 0 none 0) 26) ∧ Below V.heap.size V wx)
  case first =>
   refine draw (fun w' => Below V.heap.size V w') 14 rfl (by kernel_rfl) (fun Qd hQd => ?_); iterate 7 (first | apply sI 0 (by rfl) rfl (by kernel_rfl) | apply sI 1 (by rfl) rfl (by kernel_rfl) | apply sI 2 (by rfl) rfl (by kernel_rfl) | apply sI 3 (by rfl) rfl (by kernel_rfl) | apply sI 4 (by rfl) rfl (by kernel_rfl) | apply sI 5 (by rfl) rfl (by kernel_rfl) | apply sI 6 (by rfl) rfl (by kernel_rfl)); (focus intro wI hI Kv hKv; have q9 := (HLV.out.below hI).endc HEI.out; rw [HE.out, ho.out] at q9; obtain ⟨e0, e1, e2, e3, e4, e5, e6⟩ := q9; have k1 := cell_chain hI dl d1; go_simp; exact hKv); intro Kd hKd; go_simp; refine hKd _ ?_; clear hKd Kd
   refine anyI_two' 7 11 rfl rfl (by kernel_rfl) ((Below.refl _ V).drew) (fun Kd hKd => ?_) (fun Kd hKd => ?_)
   ·skip
    obtain ⟨U0, hU0⟩ : ∃ U0, V.drew = U0 := ⟨_, rfl⟩; have HB0 : Hid (Below V.heap.size V U0) := by rw [← hU0]; exact (Below.refl _ V).drew
    have hs0 := HB0.out.size; rw [hU0]; go_wp2_with (go_at_call 12; go_must (refine (again_any E (m.A d.end_) (m.c d.end_) (m.D d.end_) (m.d d.end_) U0 (HEN.out.at_.below HB0.out)).mono ?_); rintro r wt ⟨rfl, hBt⟩)
    have HBU : Hid (Below U0.heap.size U0 wt) := hBt; have HBT : Hid (Below V.heap.size V wt) := below_in HB0.out hBt; have hst := HBU.out.size; clear hBt; obtain ⟨R, HR⟩ : ∃ R, Hid (againA E = R) := ⟨_, rfl⟩; rw [HR.out]; unfold enV; iterate 3 (first | apply sI 8 (by rfl) rfl (by kernel_rfl) | apply sI 9 (by rfl) rfl (by kernel_rfl) | apply sI 10 (by rfl) rfl (by kernel_rfl)); (focus intro wI hI Kv hKv; go_simp; exact hKv); intro Kd hKd; go_simp; refine hKd _ ?_; clear hKd Kd
    refine anyI_one' 11 rfl (by kernel_rfl) (HBT.out) (fun Kd hKd => ?_); go_wp2; obtain ⟨U, hU⟩ : ∃ U, wt.alloc (.cells #[.int .i64 0, .int .i64 0, .int .i64 0, .int .i64 0, .slice none 0 0, .int .i64 0, .slice none 0 0] 26) = U := ⟨_, rfl⟩; have HUT : Hid (Below wt.heap.size wt U) := by rw [← hU]; exact (Below.refl _ wt).alloc (Nat.le_refl _) _
    have H5 : Hid (Blk U (wt.heap.size) (.cells (enB noEn none 0 none 0) 26)) := by rw [← hU]; exact Blk.new _ _
    have HVU : Hid (Below V.heap.size V U) := HBT.out.trans (HUT.out.mono (by omega)); have HG5 : Hid (V.heap.size ≤ wt.heap.size) := by show _ ≤ _; omega
    rw [hU]; clear hU; obtain ⟨z0, z1, z2, z3, z4, z5, z6⟩ := Blk.c7 H5.out; obtain ⟨y0, y1, y2, y3, y4, y5, y6, yl⟩ := Blk.g7 H5.out; refine anyI_one' 12 rfl (by kernel_rfl) (HVU.out) (fun Kd hKd => ?_); go_wp2; have HB5 : Hid (Below V.heap.size V (setEn U (wt.heap.size) R.1 none 0 none 0)) := setEn_below HVU.out HG5.out; have HK5 := Lib.hid (setEn_blk (e := R.1) (A := none) (c := 0) (B := none) (d := 0) H5.out); apply anyI_step 13 rfl (by kernel_rfl); (focus intro wI hI Kv hKv; go_simp; exact hKv); intro Kd hKd; go_simp; refine hKd _ ?_; clear hKd Kd
    refine anyI_end (by kernel_rfl) ((by have q := HB5.out; exact q)) (hQd _ _ ?_); clear hQd Qd; go_wp2_with fail
    go_meet; exact ⟨wt.heap.size, rfl, by rw [HR.out], by rw [HR.out]; exact HK5.out, HB5.out⟩
   ·go_wp2; refine anyI_one' 7 rfl (by kernel_rfl) ((((Below.refl _ V).alloc (Nat.le_refl _) _).drew)) (fun Kd hKd => ?_); obtain ⟨U0, hU0⟩ : ∃ U0, (V.alloc (.cells #[.int .i64 0, .int .i64 0, .int .i64 0, .int .i64 0, .slice none 0 0, .int .i64 0, .slice none 0 0] 26)).drew = U0 := ⟨_, rfl⟩; have HB0 : Hid (Below V.heap.size V U0) := by rw [← hU0]; exact ((Below.refl _ V).alloc (Nat.le_refl _) _).drew
    have hs0 := HB0.out.size; rw [hU0]; have HZ5 : Hid (Blk U0 V.heap.size (.cells #[.int .i64 0, .int .i64 0, .int .i64 0, .int .i64 0, .slice none 0 0, .int .i64 0, .slice none 0 0] 26)) := by rw [← hU0]; exact (Blk.new _ _).drew
    have hz5 := HZ5.out.lt; go_wp2_with (go_at_call 12; go_must (refine (again_any E (m.A d.end_) (m.c d.end_) (m.D d.end_) (m.d d.end_) U0 (HEN.out.at_.below HB0.out)).mono ?_); rintro r wt ⟨rfl, hBt⟩)
    have HBU : Hid (Below U0.heap.size U0 wt) := hBt; have HBT : Hid (Below V.heap.size V wt) := below_in HB0.out hBt; have hst := HBU.out.size; clear hBt; obtain ⟨R, HR⟩ : ∃ R, Hid (againA E = R) := ⟨_, rfl⟩; rw [HR.out]; unfold enV; iterate 3 (first | apply sI 8 (by rfl) rfl (by kernel_rfl) | apply sI 9 (by rfl) rfl (by kernel_rfl) | apply sI 10 (by rfl) rfl (by kernel_rfl)); (focus intro wI hI Kv hKv; go_simp; exact hKv); intro Kd hKd; go_simp; refine hKd _ ?_; clear hKd Kd
    obtain ⟨U, hU⟩ : ∃ U, wt = U := ⟨_, rfl⟩; have HUT : Hid (Below wt.heap.size wt U) := by rw [← hU]; exact Below.refl _ wt
    have H5 : Hid (Blk U (V.heap.size) (.cells (enB noEn none 0 none 0) 26)) := by rw [← hU]; exact HZ5.out.below HBU.out hz5
    have HVU : Hid (Below V.heap.size V U) := HBT.out.trans (HUT.out.mono (by omega)); have HG5 : Hid (V.heap.size ≤ V.heap.size) := by show _ ≤ _; omega
    rw [hU]; clear hU; obtain ⟨z0, z1, z2, z3, z4, z5, z6⟩ := Blk.c7 H5.out; obtain ⟨y0, y1, y2, y3, y4, y5, y6, yl⟩ := Blk.g7 H5.out; refine anyI_one' 12 rfl (by kernel_rfl) (HVU.out) (fun Kd hKd => ?_); go_wp2; have HB5 : Hid (Below V.heap.size V (setEn U (V.heap.size) R.1 none 0 none 0)) := setEn_below HVU.out HG5.out; have HK5 := Lib.hid (setEn_blk (e := R.1) (A := none) (c := 0) (B := none) (d := 0) H5.out); apply anyI_step 13 rfl (by kernel_rfl); (focus intro wI hI Kv hKv; go_simp; exact hKv); intro Kd hKd; go_simp; refine hKd _ ?_; clear hKd Kd
    refine anyI_end (by kernel_rfl) ((by have q := HB5.out; exact q)) (hQd _ _ ?_); clear hQd Qd; go_wp2_with fail
    go_meet; exact ⟨V.heap.size, rfl, by rw [HR.out], by rw [HR.out]; exact HK5.out, HB5.out⟩
  case rest =>
   obtain ⟨V2, rfl⟩ : ∃ V2, V2 = wc := ⟨wc, rfl⟩; obtain ⟨b5, rfl, rfl, hk5, hb2⟩ := hcut; have HK5 := Lib.hid hk5; have HL2 : Hid (Lo V2 B bl l m) := HLV.out.below hb2; have HS2 : Hid (Ls bl l m w l m V2) := HSV.out.trans (Ls.of_below hb2); have HK2 : Hid (Blk V2 w.heap.size (.cells (ddB d) 77)) := HKV.out.below hb2 dl; clear hk5 hb2 d0 d1 d2 d3 dl; have x1 := HK2.out.cell 1 (v := .int .i64 d.end_) rfl; have xl := HK2.out.lt; have HNI := Lib.hid (again_nil E); have HOK0 : Hid ((againA E).2 = 0 → GoodP (againA E).1 ∧ Cont E (againA E).1) := fun h0 => ⟨good_iff.1 (again_ok HGE.out h0).2, again_cont HGE.out h0⟩; obtain ⟨R, HR⟩ : ∃ R, Hid (againA E = R) := ⟨_, rfl⟩; rw [HR.out] at HK5 HDO HNI HOK0 ⊢; cases h0 : (R.2 == 0) with
   | true =>
    have h00 : R.2 = 0 := beq_iff_eq.1 h0; obtain ⟨hg, hct⟩ := HOK0.out h00; have HG := Lib.hid hg; rw [if_pos h00] at HDO; obtain ⟨hold, hnew⟩ := becomes_hold HLK.out.now HLK.out.bulk (by omega) HEI.out (e := R.1) (by rw [HE.out]; exact hct); have HOLD := Lib.hid hold; have HNEW := Lib.hid hnew; clear hold hnew hg hct h00; obtain ⟨y0, y1, y2, y3, y4, y5, y6, yl⟩ := Blk.d7 HK5.out; go_wp2_with fail
    refine (becomes_any B bl l m d.end_ HEI.out R.1 none 0 none 0 V2 HL2.out (enT_nil V2 HNI.out.1 HNI.out.2) HG.out (by have := HLK.out.bulk.tales; omega) HOLD.out HNEW.out).mono ?_; rintro r w3 ⟨rfl, M3, hl3, hs3⟩; go_wp2; go_end0
    rw [HDO.out]; exact ⟨rfl, M3, hl3, HS2.out.trans hs3⟩
   | false =>
    have h00 : ¬ R.2 = 0 := beq_eq_false_iff_ne.1 h0; rw [if_neg h00] at HDO; clear h00; go_wp2; go_end0
    rw [HDO.out]; exact ⟨rfl, m, HL2.out, HS2.out⟩
theorem does_empty {l : Lp} {d : Dd} (h : d.do_ = 4 ∨ d.do_ = 5 ∨ d.do_ = 6) (h0 : l.wire.length = 0) : doesA l d = l := by
 unfold doesA; simp only; rw [if_neg (by omega), if_neg (by omega), if_neg (by omega), if_pos h0]
theorem does_4 {l : Lp} {d : Dd} (h : d.do_ = 4) (h0 : ¬ l.wire.length = 0) : doesA l d = carryA l (d.at_ % (l.wire.length : Int)).toNat := by
 unfold doesA; simp only; rw [if_neg (by omega), if_neg (by omega), if_neg (by omega), if_neg h0, if_pos h]
theorem does_5 {l : Lp} {d : Dd} (h : d.do_ = 5) (h0 : ¬ l.wire.length = 0) : doesA l d = { l with wire := l.wire.eraseIdx (d.at_ % (l.wire.length : Int)).toNat } := by
 unfold doesA; simp only; rw [if_neg (by omega), if_neg (by omega), if_neg (by omega), if_neg h0, if_neg (by omega), if_pos h]
theorem does_6 {l : Lp} {d : Dd} (h : d.do_ = 6) (h0 : ¬ l.wire.length = 0) {x : Tp} (hx : l.wire[(d.at_ % (l.wire.length : Int)).toNat]? = some x) : doesA l d = wayA l (1 - x.to) [x.p] := by
 unfold doesA; simp only; rw [if_neg (by omega), if_neg (by omega), if_neg (by omega), if_neg h0, if_neg (by omega), if_neg (by omega), hx]
theorem does_wire (B bl : Nat) (l : Lp) (m : Lm) (d : Dd) (w : World) (n : Nat) (h : Lo w B bl l m) (hn : LineK l n) (hnn : n ≤ 80000000) (hd : deedB d = true) (hk : d.do_ = 4 ∨ d.do_ = 5 ∨ d.do_ = 6) :
  Calls Try.prog 81 #[.pointer (some ⟨bl, 0, none⟩), ddV d] w fun r w' => r = .returned (.tuple #[]) ∧ ∃ m', Lo w' B bl (doesA l d) m' ∧ Ls bl l m w (doesA l d) m' w' := by
 have q1 : (d.do_ == 1) = false := beq_eq_false_iff_ne.2 (by omega); have q2 : (d.do_ == 2) = false := beq_eq_false_iff_ne.2 (by omega); have q3 : (d.do_ == 3) = false := beq_eq_false_iff_ne.2 (by omega); have HLO := Lib.hid h; have HLK := Lib.hid hn; have HD := Lib.hid hd; have HEI : Hid (d.end_ = 0 ∨ d.end_ = 1) := deed_end hd; have hat := deed_at hd; have hwl : l.wire.length ≤ 80000000 := by have := hn.bulk.wire; omega
 have HWL := Lib.hid hwl; have HAT := Lib.hid hat; obtain ⟨kk, HKK⟩ : ∃ kk : Nat, Hid ((d.at_ % (l.wire.length : Int)).toNat = kk) := ⟨_, rfl⟩; have HK := Lib.hid hk; clear h hn hd hk; unfold ddV; go_enter Try.func81, Try.ntmps81
 obtain ⟨W, hW⟩ : ∃ W, w.alloc (.cells #[.int .i64 d.do_, .int .i64 d.end_, .int .i64 d.at_, .string d.t] 77) = W := ⟨_, rfl⟩; have HBW : Hid (Below w.heap.size w W) := by rw [← hW]; exact (Below.refl _ w).alloc (Nat.le_refl _) _
 have HKW : Hid (Blk W w.heap.size (.cells (ddB d) 77)) := by rw [← hW]; exact Blk.new _ _
 have HLW : Hid (Lo W B bl l m) := HLO.out.below HBW.out; have c14 := HLW.out.box.cell 14 (v := .slice m.W l.wire.length m.cw) rfl; have c2 := HKW.out.cell 2 (v := .int .i64 d.at_) rfl; have lbW := HLW.out.box.lt; have lkW := HKW.out.lt; go_upto_if 18 with fail
 clear hW; go_cut [4] from 13 (fun v wx => ∃ z : Int, v = .int .i64 z ∧ (l.wire.length ≠ 0 → z = (kk : Int)) ∧ Lo wx B bl l m ∧ Ls bl l m w l m wx ∧ Blk wx w.heap.size (.cells (ddB d) 77))
 case first =>
  by_cases h0 : (0 : Int) < (l.wire.length : Int)
  ·have q0 : decide ((0 : Int) < (l.wire.length : Int)) = true := decide_eq_true h0; have hne : ¬ (l.wire.length : Int) = 0 := by omega
   have hnl : ¬ l.wire.length = 0 := by omega
   go_upto_region 3 with fail
   refine sall (by kernel_rfl) (by kernel_rfl) (fun Kq hKq => ?_); repeat still_step
   refine wpStill_nil (hKq _ ?_); clear hKq Kq; go_wp2_with fail
   go_meet; exact ⟨_, rfl, fun _ => by rw [← HKK.out, Int.tmod_eq_emod_of_nonneg HAT.out, Int.toNat_of_nonneg (Int.emod_nonneg _ hne)], HLW.out.drew, (Ls.of_below HBW.out).trans (Ls.of_below (Below.refl _ _).drew), HKW.out.drew⟩
  ·have q0 : decide ((0 : Int) < (l.wire.length : Int)) = false := decide_eq_false h0; go_wp2_with fail
   go_meet; exact ⟨0, rfl, fun h => absurd (by omega) h, HLW.out, Ls.of_below HBW.out, HKW.out⟩
 case rest =>
  obtain ⟨V, rfl⟩ : ∃ V, V = wc := ⟨wc, rfl⟩; obtain ⟨z, rfl, hz, hl, hs, hkb⟩ := hcut; have HZ := Lib.hid hz; have HLV := Lib.hid hl; have HSV := Lib.hid hs; have HKV := Lib.hid hkb; clear hz hl hs hkb c14 c2 lbW lkW; obtain ⟨E, HE⟩ : ∃ E, Hid (l.end_ d.end_ = E) := ⟨_, rfl⟩; have HEN : Hid (EnT V E (m.A d.end_) (m.c d.end_) (m.D d.end_)) := by have h1 := HLV.out.end_ HEI.out; rw [HE.out] at h1; exact h1
  have HGE : Hid (goodB E = true) := by have h1 := HLK.out.ok.good d.end_; rw [HE.out] at h1; exact h1
  have hixE : ∀ w', (Instr.indexAt 107 (.pointer (some ⟨bl, 0, none⟩)) (.int .i64 d.end_)).run Try.prog w' = .ok (.pointer (some ⟨bl, 7 * d.end_.toNat, none⟩)) w' := fun w' => ix107 HEI.out w'; obtain ⟨o, ho⟩ : ∃ o, Hid (7 * d.end_.toNat = o) := ⟨_, rfl⟩; rw [ho.out] at hixE; obtain ⟨d0, d1, d2, d3, dl⟩ := Blk.d4 HKV.out; clear hixE; have c14 := HLV.out.box.cell 14 (v := .slice m.W l.wire.length m.cw) rfl; have cl := HLV.out.box.lt; cases q0 : ((l.wire.length : Int) == 0) with
  | true =>
   have h0 : l.wire.length = 0 := by have := beq_iff_eq.1 q0; omega
   have HDO := Lib.hid (does_empty (l := l) HK.out h0); clear h0; go_wp2; go_end0
   rw [HDO.out]; exact ⟨rfl, m, HLV.out, HSV.out⟩
  | false =>
   have h0 : ¬ l.wire.length = 0 := by have := beq_eq_false_iff_ne.1 q0; omega
   have H0 := Lib.hid h0; have HZK : Hid (z = (kk : Int)) := HZ.out h0; have hzk := HZK.out; subst hzk; have HKL : Hid (kk < l.wire.length) := by
    show _ < _; have h1 := Int.emod_lt_of_pos d.at_ (show (0 : Int) < (l.wire.length : Int) by omega); have h2 := Int.emod_nonneg d.at_ (show (l.wire.length : Int) ≠ 0 by omega); rw [← HKK.out]; omega
   have hkl := HKL.out; obtain ⟨x, hx⟩ : ∃ x, Hid (l.wire[kk]? = some x) := ⟨_, List.getElem?_eq_getElem HKL.out⟩; clear h0 hkl; cases q4 : (d.do_ == 4) with
   | true =>
    have HDO : Hid (doesA l d = carryA l kk) := by show _ = _; rw [does_4 (beq_iff_eq.1 q4) H0.out, HKK.out]
    go_wp2_with fail
    refine (carry_any B bl l m kk x hx.out V n HLV.out HLK.out (by omega)).mono ?_; rintro r w9 ⟨rfl, M9, hl9, hs9⟩; go_wp2; go_end0
    rw [HDO.out]; exact ⟨rfl, M9, hl9, HSV.out.trans hs9⟩
   | false =>
    obtain ⟨g, hW, hgl, hkl, hcell⟩ := HLV.out.trip hx.out; have HW := Lib.hid hW; rw [hW] at c14; clear hW; cases q5 : (d.do_ == 5) with
    | true =>
     have HDO : Hid (doesA l d = { l with wire := l.wire.eraseIdx kk }) := by show _ = _; rw [does_5 (beq_iff_eq.1 q5) H0.out, HKK.out]
     have HWR : Hid (V.ownsRow B 116 8 (.slice (some ⟨g, 0, none⟩) l.wire.length m.cw) l.wire.length (tps l.wire)) := by have h1 := HLV.out.wire; rw [HW.out] at h1; exact h1
     have hkw : IntKind.i64.wrap ((kk : Int) + 1) = ((kk + 1 : Nat) : Int) := by rw [wrap_ok ⟨by omega, by have := HWL.out; omega⟩]; omega
     clear hcell hkl; go_wp2_with fail
     refine (delete_any B g m.cw kk (kk + 1) l.wire V HWR.out HKL.out rfl (by have := HWL.out; omega)).mono ?_; rintro r w1 ⟨rfl, ho1, hf1⟩; have HO1 := Lib.hid ho1; have HF1 := Lib.hid hf1; have hne : bl ≠ g := fun e => by
      have h1 := HLV.out.wire; rw [HW.out] at h1; exact own_ne h1 HLV.out.box (by decide) (by rw [e]; rfl)
     have b1 := HLV.out.box.frame hf1 hne; have e14 := b1.cell 14 (v := .slice m.W l.wire.length m.cw) rfl; have e15 := b1.free 14; have e16 := b1.lt; clear b1 ho1 hf1 hne c14 cl; go_wp2; go_end0
     have h1 : (l.wire.eraseIdx kk).length = l.wire.length - 1 := len_erase HKL.out; have h2 := HLV.out.setWire (w6 := w1) (W' := some ⟨g, 0, none⟩) (c' := m.cw) (wire' := l.wire.eraseIdx kk) (HF1.out.mono fun b _ e => by rw [HW.out, e]; rfl) (by rw [h1]; exact HO1.out) (fun g' hg' => .inl (by rw [HW.out]; exact hg')); rw [h1] at h2; rw [HDO.out]; exact ⟨rfl, _, h2.1, HSV.out.trans h2.2⟩
    | false =>
     have hd6 : d.do_ = 6 := by
      have h4 := beq_eq_false_iff_ne.1 q4; have h5 := beq_eq_false_iff_ne.1 q5; have := HK.out; omega
     have HDO : Hid (doesA l d = wayA l (1 - x.to) [x.p]) := does_6 hd6 H0.out (by rw [HKK.out]; exact hx.out); clear hd6; have hto : x.to = 0 ∨ x.to = 1 := by
      rcases (HLK.out.ok.wire x (List.mem_of_getElem? hx.out)).2 with h | h
      ·exact .inl h.1
      ·exact .inr h.1
     have HTO1 : Hid (1 - x.to = 0 ∨ 1 - x.to = 1) := by
      rcases hto with h | h
      ·exact .inr (by omega)
      ·exact .inl (by omega)
     have hwt : IntKind.i64.wrap (1 - x.to) = 1 - x.to := wrap_ok ⟨by omega, by omega⟩; have d0' : V.cell? ⟨g, kk * 8, none⟩ = some (.int .i64 x.to) := hcell 0 _ rfl; have d1' := hcell 1 _ rfl; have d2' := hcell 2 _ rfl; have d3' := hcell 3 _ rfl; have d4' := hcell 4 _ rfl; have d5' := hcell 5 _ rfl; have d6' := hcell 6 _ rfl; have d7' := hcell 7 _ rfl; have hix : ∀ w', (Instr.indexAt 56 (.slice (some ⟨g, 0, none⟩) l.wire.length m.cw) (.int .i64 (kk : Int))).run Try.prog w' = .ok (.pointer (some ⟨g, kk * 8, none⟩)) w' := fun w' => ix56 hkl w'; obtain ⟨q8, Hq8⟩ : ∃ q8, Hid (kk * 8 = q8) := ⟨_, rfl⟩; rw [Hq8.out] at hix d0' d1' d2' d3' d4' d5' d6' d7'; clear hto hcell hkl; go_upto_region 5 with fail
     obtain ⟨X, hX⟩ : ∃ X, V.alloc (.cells (tpC x).toArray 116) = X := ⟨_, rfl⟩; have HBX : Hid (Below V.heap.size V X) := by rw [← hX]; exact (Below.refl _ V).alloc (Nat.le_refl _) _
     have HKX : Hid (Blk X V.heap.size (.cells (tpC x).toArray 116)) := by rw [← hX]; exact Blk.new _ _
     unfold tpC at hX; simp only [hX]; obtain ⟨k0, k1, k2, k3, k4, k5, k6, k7, kl⟩ := Blk.d8 HKX.out; clear hX d0' d1' d2' d3' d4' d5' d6' d7' d0 d1 d2 d3 dl c14 cl; go_wp2_with fail
     obtain ⟨Y, hY⟩ : ∃ Y, X.alloc (.cells #[.int .i64 x.p.kind, .int .i64 x.p.frm, .int .i64 x.p.to, .int .i64 x.p.num, .string x.p.t, .int .i64 x.p.ack, .int .i64 x.p.held] 44) = Y := ⟨_, rfl⟩; have HBY : Hid (Below V.heap.size V Y) := by rw [← hY]; exact HBX.out.alloc (by omega) _
     have HKY : Hid (Blk Y X.heap.size (.cells (pkB x.p) 44)) := by rw [← hY]; exact Blk.new _ _
     have HLY : Hid (Lo Y B bl l m) := HLV.out.below HBY.out; have HOY : Hid (Off Y bl l m (some ⟨X.heap.size, 0, none⟩) (pks [x.p])) := by
      refine ⟨⟨by rw [pks_len]; simp, X.heap.size, 0, by have := HKY.out.lt; omega, fun _ => ⟨rfl, HKY.out.lt⟩, fun k v hv => ?_⟩, fun _ a ha hb => ?_⟩
      ·rw [Nat.zero_add]; refine HKY.out.cell k ?_; have e1 : (pkB x.p).toList = pks [x.p] := rfl; rw [← Array.getElem?_toList, e1]; exact hv
      ·injection ha with ha; have h1 := (HLV.out.lb hb).2; rw [← ha] at h1; have h2 : X.heap.size < V.heap.size := h1; omega
     rw [hY]; refine (way_any B bl l m (1 - x.to) (some ⟨X.heap.size, 0, none⟩) 1 [x.p] Y HLY.out HTO1.out HOY.out (by have := HWL.out; simp; omega)).mono ?_; rintro r w9 ⟨rfl, M9, hl9, hs9⟩; go_wp2; go_end0
     rw [HDO.out]; exact ⟨rfl, M9, hl9, (HSV.out.trans (Ls.of_below HBY.out)).trans hs9⟩
theorem does_any (B bl : Nat) (l : Lp) (m : Lm) (d : Dd) (w : World) (n : Nat) (h : Lo w B bl l m) (hn : LineK l n) (hnn : n ≤ 80000000) (hd : deedB d = true) :
  Calls Try.prog 81 #[.pointer (some ⟨bl, 0, none⟩), ddV d] w fun r w' => r = .returned (.tuple #[]) ∧ ∃ m', Lo w' B bl (doesA l d) m' ∧ Ls bl l m w (doesA l d) m' w' := by
 by_cases h1 : d.do_ = 1
 ·exact does_send B bl l m d w n h hn hnn hd h1
 by_cases h2 : d.do_ = 2
 ·exact does_tick B bl l m d w n h hn hnn hd h2
 by_cases h3 : d.do_ = 3
 ·exact does_fail B bl l m d w n h hn hnn hd h3
 by_cases h4 : d.do_ = 4 ∨ d.do_ = 5 ∨ d.do_ = 6
 ·exact does_wire B bl l m d w n h hn hnn hd h4
 ·have := deedB_no (d := d) (by omega); rw [this] at hd; cases hd
end Go.Proofs.Ytejabnoidhlfaaa
