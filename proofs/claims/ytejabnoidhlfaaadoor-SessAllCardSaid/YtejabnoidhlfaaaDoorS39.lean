/- Contract: does, Tick. -/
import Derived.Test.YtejabnoidhlfaaaDoorS38

/- Contract: does; Tick and Fail. -/
namespace Go.Proofs.YtejabnoidhlfaaaDoor
open Go.RowKit Go.Maps

theorem does_2 {l : Lp} {d : Dd} (h : d.do_ = 2) : doesA l d = wayA l d.end_ (tickA (l.end_ d.end_)).1 := by
 unfold doesA
 simp only
 rw [if_neg (by omega), if_pos h]
theorem does_3 {l : Lp} {d : Dd} (h : d.do_ = 3) : doesA l d = if (againA (l.end_ d.end_)).2 = 0 then becomesA l d.end_ (againA (l.end_ d.end_)).1 else l := by
 unfold doesA
 simp only
 rw [if_neg (by omega), if_neg (by omega), if_pos h]
theorem again_nil (e : En) : (againA e).1.out = [] ∧ (againA e).1.inn = [] := by
 unfold againA startA
 split
 ·exact ⟨rfl, rfl⟩
 ·split
  ·exact ⟨rfl, rfl⟩
  ·split <;> exact ⟨rfl, rfl⟩
set_option maxRecDepth 100000 in
set_option maxHeartbeats 16000000 in
theorem does_tick (B bl : Nat) (l : Lp) (m : Lm) (d : Dd) (w : World) (n : Nat) (h : Lo w B bl l m) (hn : LineK l n) (hnn : n ≤ 80000000) (hd : deedB d = true) (hk : d.do_ = 2) :
  Calls Tryd.prog 45 #[.pointer (some ⟨bl, 0, none⟩), ddV d] w fun r w' => r = .returned (.tuple #[]) ∧ ∃ m', Lo w' B bl (doesA l d) m' ∧ Ls bl l m w (doesA l d) m' w' := by
 have HDO := Lib.hid (does_2 (l := l) hk)
 have q1 : (d.do_ == 1) = false := beq_eq_false_iff_ne.2 (by omega)
 have q2 : (d.do_ == 2) = true := beq_iff_eq.2 hk
 have HLO := Lib.hid h
 have HLK := Lib.hid hn
 have HD := Lib.hid hd
 have HEI : Hid (d.end_ = 0 ∨ d.end_ = 1) := deed_end hd
 have hat := deed_at hd
 have hwl : l.wire.length ≤ 80000000 := by have := hn.bulk.wire; omega
 have HWL := Lib.hid hwl
 have HAT := Lib.hid hat
 obtain ⟨kk, HKK⟩ : ∃ kk : Nat, Hid ((d.at_ % (l.wire.length : Int)).toNat = kk) := ⟨_, rfl⟩
 have HK := Lib.hid hk
 clear h hn hd hk
 unfold ddV
 go_enter Tryd.func45, Tryd.ntmps45
 obtain ⟨W, hW⟩ : ∃ W, w.alloc (.cells #[.int .i64 d.do_, .int .i64 d.end_, .int .i64 d.at_, .string d.t] 65) = W := ⟨_, rfl⟩
 have HBW : Hid (Below w.heap.size w W) := by rw [← hW]; exact (Below.refl _ w).alloc (Nat.le_refl _) _
 have HKW : Hid (Blk W w.heap.size (.cells (ddB d) 65)) := by rw [← hW]; exact Blk.new _ _
 have HLW : Hid (Lo W B bl l m) := HLO.out.below HBW.out
 have c14 := HLW.out.box.cell 14 (v := .slice m.W l.wire.length m.cw) rfl
 have c2 := HKW.out.cell 2 (v := .int .i64 d.at_) rfl
 have lbW := HLW.out.box.lt
 have lkW := HKW.out.lt
 go_upto_if 18 with fail
 clear hW
 go_cut [4] from 13 (fun v wx => ∃ z : Int, v = .int .i64 z ∧ (l.wire.length ≠ 0 → z = (kk : Int)) ∧ Lo wx B bl l m ∧ Ls bl l m w l m wx ∧ Blk wx w.heap.size (.cells (ddB d) 65))
 case first =>
  by_cases h0 : (0 : Int) < (l.wire.length : Int)
  ·have q0 : decide ((0 : Int) < (l.wire.length : Int)) = true := decide_eq_true h0
   have hne : ¬ (l.wire.length : Int) = 0 := by omega
   have hnl : ¬ l.wire.length = 0 := by omega
   go_upto_region 3 with fail
   refine sall (by kernel_rfl) (by kernel_rfl) (fun Kq hKq => ?_)
   repeat still_step
   refine wpStill_nil (hKq _ ?_)
   clear hKq Kq
   go_wp2_with fail
   go_meet
   exact ⟨_, rfl, fun _ => by rw [← HKK.out, Int.tmod_eq_emod_of_nonneg HAT.out, Int.toNat_of_nonneg (Int.emod_nonneg _ hne)], HLW.out.drew, (Ls.of_below HBW.out).trans (Ls.of_below (Below.refl _ _).drew), HKW.out.drew⟩
  ·have q0 : decide ((0 : Int) < (l.wire.length : Int)) = false := decide_eq_false h0
   go_wp2_with fail
   go_meet
   exact ⟨0, rfl, fun h => absurd (by omega) h, HLW.out, Ls.of_below HBW.out, HKW.out⟩
 case rest =>
  obtain ⟨V, rfl⟩ : ∃ V, V = wc := ⟨wc, rfl⟩
  obtain ⟨z, rfl, hz, hl, hs, hkb⟩ := hcut
  have HZ := Lib.hid hz
  have HLV := Lib.hid hl
  have HSV := Lib.hid hs
  have HKV := Lib.hid hkb
  clear hz hl hs hkb c14 c2 lbW lkW
  obtain ⟨E, HE⟩ : ∃ E, Hid (l.end_ d.end_ = E) := ⟨_, rfl⟩
  have HEN : Hid (EnT V E (m.A d.end_) (m.c d.end_) (m.D d.end_)) := by have h1 := HLV.out.end_ HEI.out; rw [HE.out] at h1; exact h1
  have HGE : Hid (goodB E = true) := by have h1 := HLK.out.ok.good d.end_; rw [HE.out] at h1; exact h1
  have hixE : ∀ w', (Instr.indexAt 70 (.pointer (some ⟨bl, 0, none⟩)) (.int .i64 d.end_)).run Tryd.prog w' = .ok (.pointer (some ⟨bl, 7 * d.end_.toNat, none⟩)) w' := fun w' => ix107 HEI.out w'
  obtain ⟨o, ho⟩ : ∃ o, Hid (7 * d.end_.toNat = o) := ⟨_, rfl⟩
  rw [ho.out] at hixE
  have d0 := HKV.out.cell 0 (v := .int .i64 d.do_) rfl
  have d1 := HKV.out.cell 1 (v := .int .i64 d.end_) rfl
  have d2 := HKV.out.cell 2 (v := .int .i64 d.at_) rfl
  have d3 := HKV.out.cell 3 (v := .string d.t) rfl
  have dl := HKV.out.lt
  rw [HE.out] at HDO
  go_upto_region 12 with fail
  go_cut [8] from 72 (fun v8 wx => ∃ P cp, v8 = .slice P (tickA E).1.length cp ∧ wx.ownsRow V.heap.size 49 7 (.slice P (tickA E).1.length cp) (tickA E).1.length (pks (tickA E).1) ∧ Below V.heap.size V wx)
  case first =>
   refine draw (fun w' => Below V.heap.size V w') 13 rfl (by kernel_rfl) (fun Qd hQd => ?_)
   apply anyI_step 0 rfl (by kernel_rfl)
   focus (intro wI hI Kv hKv; have q9 := (HLV.out.below hI).endc HEI.out; rw [HE.out, ho.out] at q9; obtain ⟨e0, e1, e2, e3, e4, e5, e6⟩ := q9; have k1 := cell_chain hI dl d1; go_simp; exact hKv)
   intro Kd hKd
   go_simp
   refine hKd _ ?_
   clear hKd Kd
   apply anyI_step 1 rfl (by kernel_rfl)
   focus (intro wI hI Kv hKv; have q9 := (HLV.out.below hI).endc HEI.out; rw [HE.out, ho.out] at q9; obtain ⟨e0, e1, e2, e3, e4, e5, e6⟩ := q9; have k1 := cell_chain hI dl d1; go_simp; exact hKv)
   intro Kd hKd
   go_simp
   refine hKd _ ?_
   clear hKd Kd
   apply anyI_step 2 rfl (by kernel_rfl)
   focus (intro wI hI Kv hKv; have q9 := (HLV.out.below hI).endc HEI.out; rw [HE.out, ho.out] at q9; obtain ⟨e0, e1, e2, e3, e4, e5, e6⟩ := q9; have k1 := cell_chain hI dl d1; go_simp; exact hKv)
   intro Kd hKd
   go_simp
   refine hKd _ ?_
   clear hKd Kd
   apply anyI_step 3 rfl (by kernel_rfl)
   focus (intro wI hI Kv hKv; have q9 := (HLV.out.below hI).endc HEI.out; rw [HE.out, ho.out] at q9; obtain ⟨e0, e1, e2, e3, e4, e5, e6⟩ := q9; have k1 := cell_chain hI dl d1; go_simp; exact hKv)
   intro Kd hKd
   go_simp
   refine hKd _ ?_
   clear hKd Kd
   apply anyI_step 4 rfl (by kernel_rfl)
   focus (intro wI hI Kv hKv; have q9 := (HLV.out.below hI).endc HEI.out; rw [HE.out, ho.out] at q9; obtain ⟨e0, e1, e2, e3, e4, e5, e6⟩ := q9; have k1 := cell_chain hI dl d1; go_simp; exact hKv)
   intro Kd hKd
   go_simp
   refine hKd _ ?_
   clear hKd Kd
   apply anyI_step 5 rfl (by kernel_rfl)
   focus (intro wI hI Kv hKv; have q9 := (HLV.out.below hI).endc HEI.out; rw [HE.out, ho.out] at q9; obtain ⟨e0, e1, e2, e3, e4, e5, e6⟩ := q9; have k1 := cell_chain hI dl d1; go_simp; exact hKv)
   intro Kd hKd
   go_simp
   refine hKd _ ?_
   clear hKd Kd
   apply anyI_step 6 rfl (by kernel_rfl)
   focus (intro wI hI Kv hKv; have q9 := (HLV.out.below hI).endc HEI.out; rw [HE.out, ho.out] at q9; obtain ⟨e0, e1, e2, e3, e4, e5, e6⟩ := q9; have k1 := cell_chain hI dl d1; go_simp; exact hKv)
   intro Kd hKd
   go_simp
   refine hKd _ ?_
   clear hKd Kd
   refine anyI_one' 7 rfl (by kernel_rfl) ((Below.refl _ V).drew) (fun Kd hKd => ?_)
   have HENd : Hid (EnT V.drew E (m.A d.end_) (m.c d.end_) (m.D d.end_)) := HEN.out.frame (Frame.of_all (S := fun _ => False) (Below.refl _ V).drew) (fun _ _ _ h => h) (fun _ _ _ h => h)
   go_wp2_with (go_at_call 10; go_must (refine (tick_any E (m.A d.end_) (m.c d.end_) (m.D d.end_) (m.d d.end_) V.drew HENd.out.at_ HENd.out.nl).mono ?_); rintro r wt ⟨vv, rfl, hOw, hBt⟩; obtain ⟨P, cp, rfl⟩ := own_fits hOw)
   have HOW : Hid (wt.ownsRow V.heap.size 49 7 (.slice P (tickA E).1.length cp) (tickA E).1.length (pks (tickA E).1)) := hOw
   have HBT : Hid (Below V.heap.size V wt) := by
    have h9 : Below V.heap.size V V.drew := (Below.refl _ V).drew
    exact h9.trans hBt
   clear hOw hBt
   apply anyI_step 8 rfl (by kernel_rfl)
   focus (intro wI hI Kv hKv; go_simp; exact hKv)
   intro Kd hKd
   go_simp
   refine hKd _ ?_
   clear hKd Kd
   apply anyI_step 9 rfl (by kernel_rfl)
   focus (intro wI hI Kv hKv; go_simp; exact hKv)
   intro Kd hKd
   go_simp
   refine hKd _ ?_
   clear hKd Kd
   apply anyI_step 10 rfl (by kernel_rfl)
   focus (intro wI hI Kv hKv; go_simp; exact hKv)
   intro Kd hKd
   go_simp
   refine hKd _ ?_
   clear hKd Kd
   apply anyI_step 11 rfl (by kernel_rfl)
   focus (intro wI hI Kv hKv; go_simp; exact hKv)
   intro Kd hKd
   go_simp
   refine hKd _ ?_
   clear hKd Kd
   apply anyI_step 12 rfl (by kernel_rfl)
   focus (intro wI hI Kv hKv; go_simp; exact hKv)
   intro Kd hKd
   go_simp
   refine hKd _ ?_
   clear hKd Kd
   refine anyI_end (by kernel_rfl) (HBT.out) (hQd _ _ ?_)
   clear hQd Qd
   go_wp2_with fail
   go_meet
   exact ⟨P, cp, rfl, HOW.out, HBT.out⟩
  case rest =>
   obtain ⟨V2, rfl⟩ : ∃ V2, V2 = wc := ⟨wc, rfl⟩
   obtain ⟨P, cp, rfl, how, hb2⟩ := hcut
   have HL2 : Hid (Lo V2 B bl l m) := HLV.out.below hb2
   have HS2 : Hid (Ls bl l m w l m V2) := HSV.out.trans (Ls.of_below hb2)
   have HK2 : Hid (Blk V2 w.heap.size (.cells (ddB d) 65)) := HKV.out.below hb2 dl
   have HPL : Hid ((tickA E).1.length ≤ 5) := tick_packets E
   have HOP : Hid (Off V2 bl l m P (pks (tickA E).1)) := off_own HLV.out how (by rw [pks_len]; have := HPL.out; omega)
   clear how hb2 d0 d1 d2 d3 dl
   have x1 := HK2.out.cell 1 (v := .int .i64 d.end_) rfl
   have xl := HK2.out.lt
   go_wp2_with fail
   refine (way_any B bl l m d.end_ P cp (tickA E).1 V2 HL2.out HEI.out HOP.out (by have := HWL.out; have := HPL.out; omega)).mono ?_
   rintro r w9 ⟨rfl, M9, hl9, hs9⟩
   go_wp2
   go_end0
   rw [HDO.out]
   exact ⟨rfl, M9, hl9, HS2.out.trans hs9⟩
set_option maxRecDepth 100000 in
set_option maxHeartbeats 16000000 in
theorem does_fail (B bl : Nat) (l : Lp) (m : Lm) (d : Dd) (w : World) (n : Nat) (h : Lo w B bl l m) (hn : LineK l n) (hnn : n ≤ 80000000) (hd : deedB d = true) (hk : d.do_ = 3) :
  Calls Tryd.prog 45 #[.pointer (some ⟨bl, 0, none⟩), ddV d] w fun r w' => r = .returned (.tuple #[]) ∧ ∃ m', Lo w' B bl (doesA l d) m' ∧ Ls bl l m w (doesA l d) m' w' := by
 have HDO := Lib.hid (does_3 (l := l) hk)
 have q1 : (d.do_ == 1) = false := beq_eq_false_iff_ne.2 (by omega)
 have q2 : (d.do_ == 2) = false := beq_eq_false_iff_ne.2 (by omega)
 have q3 : (d.do_ == 3) = true := beq_iff_eq.2 hk
 have HLO := Lib.hid h
 have HLK := Lib.hid hn
 have HD := Lib.hid hd
 have HEI : Hid (d.end_ = 0 ∨ d.end_ = 1) := deed_end hd
 have hat := deed_at hd
 have hwl : l.wire.length ≤ 80000000 := by have := hn.bulk.wire; omega
 have HWL := Lib.hid hwl
 have HAT := Lib.hid hat
 obtain ⟨kk, HKK⟩ : ∃ kk : Nat, Hid ((d.at_ % (l.wire.length : Int)).toNat = kk) := ⟨_, rfl⟩
 have HK := Lib.hid hk
 clear h hn hd hk
 unfold ddV
 go_enter Tryd.func45, Tryd.ntmps45
 obtain ⟨W, hW⟩ : ∃ W, w.alloc (.cells #[.int .i64 d.do_, .int .i64 d.end_, .int .i64 d.at_, .string d.t] 65) = W := ⟨_, rfl⟩
 have HBW : Hid (Below w.heap.size w W) := by rw [← hW]; exact (Below.refl _ w).alloc (Nat.le_refl _) _
 have HKW : Hid (Blk W w.heap.size (.cells (ddB d) 65)) := by rw [← hW]; exact Blk.new _ _
 have HLW : Hid (Lo W B bl l m) := HLO.out.below HBW.out
 have c14 := HLW.out.box.cell 14 (v := .slice m.W l.wire.length m.cw) rfl
 have c2 := HKW.out.cell 2 (v := .int .i64 d.at_) rfl
 have lbW := HLW.out.box.lt
 have lkW := HKW.out.lt
 go_upto_if 18 with fail
 clear hW
 go_cut [4] from 13 (fun v wx => ∃ z : Int, v = .int .i64 z ∧ (l.wire.length ≠ 0 → z = (kk : Int)) ∧ Lo wx B bl l m ∧ Ls bl l m w l m wx ∧ Blk wx w.heap.size (.cells (ddB d) 65))
 case first =>
  by_cases h0 : (0 : Int) < (l.wire.length : Int)
  ·have q0 : decide ((0 : Int) < (l.wire.length : Int)) = true := decide_eq_true h0
   have hne : ¬ (l.wire.length : Int) = 0 := by omega
   have hnl : ¬ l.wire.length = 0 := by omega
   go_upto_region 3 with fail
   refine sall (by kernel_rfl) (by kernel_rfl) (fun Kq hKq => ?_)
   repeat still_step
   refine wpStill_nil (hKq _ ?_)
   clear hKq Kq
   go_wp2_with fail
   go_meet
   exact ⟨_, rfl, fun _ => by rw [← HKK.out, Int.tmod_eq_emod_of_nonneg HAT.out, Int.toNat_of_nonneg (Int.emod_nonneg _ hne)], HLW.out.drew, (Ls.of_below HBW.out).trans (Ls.of_below (Below.refl _ _).drew), HKW.out.drew⟩
  ·have q0 : decide ((0 : Int) < (l.wire.length : Int)) = false := decide_eq_false h0
   go_wp2_with fail
   go_meet
   exact ⟨0, rfl, fun h => absurd (by omega) h, HLW.out, Ls.of_below HBW.out, HKW.out⟩
 case rest =>
  obtain ⟨V, rfl⟩ : ∃ V, V = wc := ⟨wc, rfl⟩
  obtain ⟨z, rfl, hz, hl, hs, hkb⟩ := hcut
  have HZ := Lib.hid hz
  have HLV := Lib.hid hl
  have HSV := Lib.hid hs
  have HKV := Lib.hid hkb
  clear hz hl hs hkb c14 c2 lbW lkW
  obtain ⟨E, HE⟩ : ∃ E, Hid (l.end_ d.end_ = E) := ⟨_, rfl⟩
  have HEN : Hid (EnT V E (m.A d.end_) (m.c d.end_) (m.D d.end_)) := by have h1 := HLV.out.end_ HEI.out; rw [HE.out] at h1; exact h1
  have HGE : Hid (goodB E = true) := by have h1 := HLK.out.ok.good d.end_; rw [HE.out] at h1; exact h1
  have hixE : ∀ w', (Instr.indexAt 70 (.pointer (some ⟨bl, 0, none⟩)) (.int .i64 d.end_)).run Tryd.prog w' = .ok (.pointer (some ⟨bl, 7 * d.end_.toNat, none⟩)) w' := fun w' => ix107 HEI.out w'
  obtain ⟨o, ho⟩ : ∃ o, Hid (7 * d.end_.toNat = o) := ⟨_, rfl⟩
  rw [ho.out] at hixE
  have d0 := HKV.out.cell 0 (v := .int .i64 d.do_) rfl
  have d1 := HKV.out.cell 1 (v := .int .i64 d.end_) rfl
  have d2 := HKV.out.cell 2 (v := .int .i64 d.at_) rfl
  have d3 := HKV.out.cell 3 (v := .string d.t) rfl
  have dl := HKV.out.lt
  rw [HE.out] at HDO
  go_upto_region 15 with fail
  go_cut [10, 11] from 92 (fun v10 v11 wx => ∃ b5, v10 = .pointer (some ⟨b5, 0, none⟩) ∧ v11 = .int .i64 (againA E).2 ∧ Blk wx b5 (.cells (enB (againA E).1 none 0 none 0) 38) ∧ Below V.heap.size V wx)
  case first =>
   refine draw (fun w' => Below V.heap.size V w') 14 rfl (by kernel_rfl) (fun Qd hQd => ?_)
   apply anyI_step 0 rfl (by kernel_rfl)
   focus (intro wI hI Kv hKv; have q9 := (HLV.out.below hI).endc HEI.out; rw [HE.out, ho.out] at q9; obtain ⟨e0, e1, e2, e3, e4, e5, e6⟩ := q9; have k1 := cell_chain hI dl d1; go_simp; exact hKv)
   intro Kd hKd
   go_simp
   refine hKd _ ?_
   clear hKd Kd
   apply anyI_step 1 rfl (by kernel_rfl)
   focus (intro wI hI Kv hKv; have q9 := (HLV.out.below hI).endc HEI.out; rw [HE.out, ho.out] at q9; obtain ⟨e0, e1, e2, e3, e4, e5, e6⟩ := q9; have k1 := cell_chain hI dl d1; go_simp; exact hKv)
   intro Kd hKd
   go_simp
   refine hKd _ ?_
   clear hKd Kd
   apply anyI_step 2 rfl (by kernel_rfl)
   focus (intro wI hI Kv hKv; have q9 := (HLV.out.below hI).endc HEI.out; rw [HE.out, ho.out] at q9; obtain ⟨e0, e1, e2, e3, e4, e5, e6⟩ := q9; have k1 := cell_chain hI dl d1; go_simp; exact hKv)
   intro Kd hKd
   go_simp
   refine hKd _ ?_
   clear hKd Kd
   apply anyI_step 3 rfl (by kernel_rfl)
   focus (intro wI hI Kv hKv; have q9 := (HLV.out.below hI).endc HEI.out; rw [HE.out, ho.out] at q9; obtain ⟨e0, e1, e2, e3, e4, e5, e6⟩ := q9; have k1 := cell_chain hI dl d1; go_simp; exact hKv)
   intro Kd hKd
   go_simp
   refine hKd _ ?_
   clear hKd Kd
   apply anyI_step 4 rfl (by kernel_rfl)
   focus (intro wI hI Kv hKv; have q9 := (HLV.out.below hI).endc HEI.out; rw [HE.out, ho.out] at q9; obtain ⟨e0, e1, e2, e3, e4, e5, e6⟩ := q9; have k1 := cell_chain hI dl d1; go_simp; exact hKv)
   intro Kd hKd
   go_simp
   refine hKd _ ?_
   clear hKd Kd
   apply anyI_step 5 rfl (by kernel_rfl)
   focus (intro wI hI Kv hKv; have q9 := (HLV.out.below hI).endc HEI.out; rw [HE.out, ho.out] at q9; obtain ⟨e0, e1, e2, e3, e4, e5, e6⟩ := q9; have k1 := cell_chain hI dl d1; go_simp; exact hKv)
   intro Kd hKd
   go_simp
   refine hKd _ ?_
   clear hKd Kd
   apply anyI_step 6 rfl (by kernel_rfl)
   focus (intro wI hI Kv hKv; have q9 := (HLV.out.below hI).endc HEI.out; rw [HE.out, ho.out] at q9; obtain ⟨e0, e1, e2, e3, e4, e5, e6⟩ := q9; have k1 := cell_chain hI dl d1; go_simp; exact hKv)
   intro Kd hKd
   go_simp
   refine hKd _ ?_
   clear hKd Kd
   refine anyI_two' 7 11 rfl rfl (by kernel_rfl) ((Below.refl _ V).drew) (fun Kd hKd => ?_) (fun Kd hKd => ?_)
   ·skip
    obtain ⟨U0, hU0⟩ : ∃ U0, V.drew = U0 := ⟨_, rfl⟩
    have HB0 : Hid (Below V.heap.size V U0) := by rw [← hU0]; exact (Below.refl _ V).drew
    have hs0 := HB0.out.size
    rw [hU0]
    go_wp2_with (go_at_call 57; go_must (refine (again_any E (m.A d.end_) (m.c d.end_) (m.D d.end_) (m.d d.end_) U0 (HEN.out.at_.below HB0.out)).mono ?_); rintro r wt ⟨rfl, hBt⟩)
    have HBU : Hid (Below U0.heap.size U0 wt) := hBt
    have HBT : Hid (Below V.heap.size V wt) := below_in HB0.out hBt
    have hst := HBU.out.size
    clear hBt
    obtain ⟨R, HR⟩ : ∃ R, Hid (againA E = R) := ⟨_, rfl⟩
    rw [HR.out]
    unfold enV
    apply anyI_step 8 rfl (by kernel_rfl)
    focus (intro wI hI Kv hKv; go_simp; exact hKv)
    intro Kd hKd
    go_simp
    refine hKd _ ?_
    clear hKd Kd
    apply anyI_step 9 rfl (by kernel_rfl)
    focus (intro wI hI Kv hKv; go_simp; exact hKv)
    intro Kd hKd
    go_simp
    refine hKd _ ?_
    clear hKd Kd
    apply anyI_step 10 rfl (by kernel_rfl)
    focus (intro wI hI Kv hKv; go_simp; exact hKv)
    intro Kd hKd
    go_simp
    refine hKd _ ?_
    clear hKd Kd
    refine anyI_one' 11 rfl (by kernel_rfl) (HBT.out) (fun Kd hKd => ?_)
    go_wp2
    obtain ⟨U, hU⟩ : ∃ U, wt.alloc (.cells #[.int .i64 0, .int .i64 0, .int .i64 0, .int .i64 0, .slice none 0 0, .int .i64 0, .slice none 0 0] 38) = U := ⟨_, rfl⟩
    have HUT : Hid (Below wt.heap.size wt U) := by rw [← hU]; exact (Below.refl _ wt).alloc (Nat.le_refl _) _
    have H5 : Hid (Blk U (wt.heap.size) (.cells (enB noEn none 0 none 0) 38)) := by rw [← hU]; exact Blk.new _ _
    have HVU : Hid (Below V.heap.size V U) := HBT.out.trans (HUT.out.mono (by omega))
    have HG5 : Hid (V.heap.size ≤ wt.heap.size) := by show _ ≤ _; omega
    rw [hU]
    clear hU
    have z0 := H5.out.cell 0 (v := .int .i64 0) rfl
    have z1 := H5.out.cell 1 (v := .int .i64 0) rfl
    have z2 := H5.out.cell 2 (v := .int .i64 0) rfl
    have z3 := H5.out.cell 3 (v := .int .i64 0) rfl
    have z4 := H5.out.cell 4 (v := .slice none 0 0) rfl
    have z5 := H5.out.cell 5 (v := .int .i64 0) rfl
    have z6 := H5.out.cell 6 (v := .slice none 0 0) rfl
    have y0 := H5.out.free 0
    have y1 := H5.out.free 1
    have y2 := H5.out.free 2
    have y3 := H5.out.free 3
    have y4 := H5.out.free 4
    have y5 := H5.out.free 5
    have y6 := H5.out.free 6
    have yl := H5.out.lt
    refine anyI_one' 12 rfl (by kernel_rfl) (HVU.out) (fun Kd hKd => ?_)
    go_wp2
    have HB5 : Hid (Below V.heap.size V (setEn U (wt.heap.size) R.1 none 0 none 0)) := setEn_below HVU.out HG5.out
    have HK5 := Lib.hid (setEn_blk (e := R.1) (A := none) (c := 0) (B := none) (d := 0) H5.out)
    apply anyI_step 13 rfl (by kernel_rfl)
    focus (intro wI hI Kv hKv; go_simp; exact hKv)
    intro Kd hKd
    go_simp
    refine hKd _ ?_
    clear hKd Kd
    refine anyI_end (by kernel_rfl) ((by have q := HB5.out; exact q)) (hQd _ _ ?_)
    clear hQd Qd
    go_wp2_with fail
    go_meet
    exact ⟨wt.heap.size, rfl, by rw [HR.out], by rw [HR.out]; exact HK5.out, HB5.out⟩
   ·go_wp2
    refine anyI_one' 7 rfl (by kernel_rfl) ((((Below.refl _ V).alloc (Nat.le_refl _) _).drew)) (fun Kd hKd => ?_)
    obtain ⟨U0, hU0⟩ : ∃ U0, (V.alloc (.cells #[.int .i64 0, .int .i64 0, .int .i64 0, .int .i64 0, .slice none 0 0, .int .i64 0, .slice none 0 0] 38)).drew = U0 := ⟨_, rfl⟩
    have HB0 : Hid (Below V.heap.size V U0) := by rw [← hU0]; exact ((Below.refl _ V).alloc (Nat.le_refl _) _).drew
    have hs0 := HB0.out.size
    rw [hU0]
    have HZ5 : Hid (Blk U0 V.heap.size (.cells #[.int .i64 0, .int .i64 0, .int .i64 0, .int .i64 0, .slice none 0 0, .int .i64 0, .slice none 0 0] 38)) := by rw [← hU0]; exact (Blk.new _ _).drew
    have hz5 := HZ5.out.lt
    go_wp2_with (go_at_call 57; go_must (refine (again_any E (m.A d.end_) (m.c d.end_) (m.D d.end_) (m.d d.end_) U0 (HEN.out.at_.below HB0.out)).mono ?_); rintro r wt ⟨rfl, hBt⟩)
    have HBU : Hid (Below U0.heap.size U0 wt) := hBt
    have HBT : Hid (Below V.heap.size V wt) := below_in HB0.out hBt
    have hst := HBU.out.size
    clear hBt
    obtain ⟨R, HR⟩ : ∃ R, Hid (againA E = R) := ⟨_, rfl⟩
    rw [HR.out]
    unfold enV
    apply anyI_step 8 rfl (by kernel_rfl)
    focus (intro wI hI Kv hKv; go_simp; exact hKv)
    intro Kd hKd
    go_simp
    refine hKd _ ?_
    clear hKd Kd
    apply anyI_step 9 rfl (by kernel_rfl)
    focus (intro wI hI Kv hKv; go_simp; exact hKv)
    intro Kd hKd
    go_simp
    refine hKd _ ?_
    clear hKd Kd
    apply anyI_step 10 rfl (by kernel_rfl)
    focus (intro wI hI Kv hKv; go_simp; exact hKv)
    intro Kd hKd
    go_simp
    refine hKd _ ?_
    clear hKd Kd
    obtain ⟨U, hU⟩ : ∃ U, wt = U := ⟨_, rfl⟩
    have HUT : Hid (Below wt.heap.size wt U) := by rw [← hU]; exact Below.refl _ wt
    have H5 : Hid (Blk U (V.heap.size) (.cells (enB noEn none 0 none 0) 38)) := by rw [← hU]; exact HZ5.out.below HBU.out hz5
    have HVU : Hid (Below V.heap.size V U) := HBT.out.trans (HUT.out.mono (by omega))
    have HG5 : Hid (V.heap.size ≤ V.heap.size) := by show _ ≤ _; omega
    rw [hU]
    clear hU
    have z0 := H5.out.cell 0 (v := .int .i64 0) rfl
    have z1 := H5.out.cell 1 (v := .int .i64 0) rfl
    have z2 := H5.out.cell 2 (v := .int .i64 0) rfl
    have z3 := H5.out.cell 3 (v := .int .i64 0) rfl
    have z4 := H5.out.cell 4 (v := .slice none 0 0) rfl
    have z5 := H5.out.cell 5 (v := .int .i64 0) rfl
    have z6 := H5.out.cell 6 (v := .slice none 0 0) rfl
    have y0 := H5.out.free 0
    have y1 := H5.out.free 1
    have y2 := H5.out.free 2
    have y3 := H5.out.free 3
    have y4 := H5.out.free 4
    have y5 := H5.out.free 5
    have y6 := H5.out.free 6
    have yl := H5.out.lt
    refine anyI_one' 12 rfl (by kernel_rfl) (HVU.out) (fun Kd hKd => ?_)
    go_wp2
    have HB5 : Hid (Below V.heap.size V (setEn U (V.heap.size) R.1 none 0 none 0)) := setEn_below HVU.out HG5.out
    have HK5 := Lib.hid (setEn_blk (e := R.1) (A := none) (c := 0) (B := none) (d := 0) H5.out)
    apply anyI_step 13 rfl (by kernel_rfl)
    focus (intro wI hI Kv hKv; go_simp; exact hKv)
    intro Kd hKd
    go_simp
    refine hKd _ ?_
    clear hKd Kd
    refine anyI_end (by kernel_rfl) ((by have q := HB5.out; exact q)) (hQd _ _ ?_)
    clear hQd Qd
    go_wp2_with fail
    go_meet
    exact ⟨V.heap.size, rfl, by rw [HR.out], by rw [HR.out]; exact HK5.out, HB5.out⟩
  case rest =>
   obtain ⟨V2, rfl⟩ : ∃ V2, V2 = wc := ⟨wc, rfl⟩
   obtain ⟨b5, rfl, rfl, hk5, hb2⟩ := hcut
   have HK5 := Lib.hid hk5
   have HL2 : Hid (Lo V2 B bl l m) := HLV.out.below hb2
   have HS2 : Hid (Ls bl l m w l m V2) := HSV.out.trans (Ls.of_below hb2)
   have HK2 : Hid (Blk V2 w.heap.size (.cells (ddB d) 65)) := HKV.out.below hb2 dl
   clear hk5 hb2 d0 d1 d2 d3 dl
   have x1 := HK2.out.cell 1 (v := .int .i64 d.end_) rfl
   have xl := HK2.out.lt
   have HNI := Lib.hid (again_nil E)
   have HOK0 : Hid ((againA E).2 = 0 → GoodP (againA E).1 ∧ Cont E (againA E).1) := fun h0 => ⟨good_iff.1 (again_ok HGE.out h0).2, again_cont HGE.out h0⟩
   obtain ⟨R, HR⟩ : ∃ R, Hid (againA E = R) := ⟨_, rfl⟩
   rw [HR.out] at HK5 HDO HNI HOK0 ⊢
   cases h0 : (R.2 == 0) with
   | true =>
    have h00 : R.2 = 0 := beq_iff_eq.1 h0
    obtain ⟨hg, hct⟩ := HOK0.out h00
    have HG := Lib.hid hg
    rw [if_pos h00] at HDO
    obtain ⟨hold, hnew⟩ := becomes_hold HLK.out.now HLK.out.bulk (by omega) HEI.out (e := R.1) (by rw [HE.out]; exact hct)
    have HOLD := Lib.hid hold
    have HNEW := Lib.hid hnew
    clear hold hnew hg hct h00
    have y0 := HK5.out.cell 0 (v := .int .i64 R.1.life) rfl
    have y1 := HK5.out.cell 1 (v := .int .i64 R.1.peer) rfl
    have y2 := HK5.out.cell 2 (v := .int .i64 R.1.phase) rfl
    have y3 := HK5.out.cell 3 (v := .int .i64 R.1.base) rfl
    have y4 := HK5.out.cell 4 (v := .slice none R.1.out.length 0) rfl
    have y5 := HK5.out.cell 5 (v := .int .i64 R.1.want) rfl
    have y6 := HK5.out.cell 6 (v := .slice none R.1.inn.length 0) rfl
    have yl := HK5.out.lt
    go_wp2_with fail
    refine (becomes_any B bl l m d.end_ HEI.out R.1 none 0 none 0 V2 HL2.out (enT_nil V2 HNI.out.1 HNI.out.2) HG.out (by have := HLK.out.bulk.tales; omega) HOLD.out HNEW.out).mono ?_
    rintro r w3 ⟨rfl, M3, hl3, hs3⟩
    go_wp2
    go_end0
    rw [HDO.out]
    exact ⟨rfl, M3, hl3, HS2.out.trans hs3⟩
   | false =>
    have h00 : ¬ R.2 = 0 := beq_eq_false_iff_ne.1 h0
    rw [if_neg h00] at HDO
    clear h00
    go_wp2
    go_end0
    rw [HDO.out]
    exact ⟨rfl, m, HL2.out, HS2.out⟩
end Go.Proofs.YtejabnoidhlfaaaDoor
