/- Contracts and lemmas that the claim uses. -/
import Derived.Test.YtejabnoidhlfaaaV10
set_option maxRecDepth 100000
set_option maxHeartbeats 16000000
namespace Go.Proofs.Ytejabnoidhlfaaa
open Go.RowKit Go.Maps
theorem proper_3 (fr to nu : Int) (t : ByteArray) (ac he : Int) (w : World) (h : 1 ≤ fr ∧ fr ≤ 1000000000 ∧ 0 ≤ to ∧ to ≤ 1000000000) :
  Calls Try.prog 53 #[pkV ⟨3, fr, to, nu, t, ac, he⟩] w fun r w' => r = .returned (.bool (properB ⟨3, fr, to, nu, t, ac, he⟩)) ∧ Below w.heap.size w w' := by
 obtain ⟨h1, h2, h3, h4⟩ := h; have hst := stood44; have hgd := guard44; unfold pkV; have q1 : decide (fr < 1) = false := decide_eq_false (by omega); have q2 : decide (1000000000 < fr) = false := decide_eq_false (by omega); have q3 : decide (to < 0) = false := decide_eq_false (by omega); have q4 : decide (1000000000 < to) = false := decide_eq_false (by omega); have hn1 : ¬ w.heap.size = w.heap.size + 1 := by omega
 go_enter Try.func53, Try.ntmps53
 go_wp2; obtain ⟨W, hW⟩ : ∃ W, (w.alloc (.cells #[.int .i64 3, .int .i64 fr, .int .i64 to, .int .i64 nu, .string t, .int .i64 ac, .int .i64 he] 44)).alloc (.cells #[.int .i64 3, .int .i64 fr, .int .i64 to, .int .i64 0, .string ⟨#[]⟩, .int .i64 0, .int .i64 0] 44) = W := ⟨_, rfl⟩; rw [hW]; have HBW : Hid (Below w.heap.size w W) := by rw [← hW]; exact ((Below.refl _ w).alloc (Nat.le_refl _) _).alloc (by simp) _
 have HB1 : Hid (Blk W w.heap.size (.cells #[.int .i64 3, .int .i64 fr, .int .i64 to, .int .i64 nu, .string t, .int .i64 ac, .int .i64 he] 44)) := by rw [← hW]; exact (Blk.new _ _).alloc _
 have HB3 : Hid (Blk W (w.heap.size + 1) (.cells #[.int .i64 3, .int .i64 fr, .int .i64 to, .int .i64 0, .string ⟨#[]⟩, .int .i64 0, .int .i64 0] 44)) := by
  rw [← hW]; have e1 := Blk.new (w.alloc (.cells #[.int .i64 3, .int .i64 fr, .int .i64 to, .int .i64 nu, .string t, .int .i64 ac, .int .i64 he] 44)) (.cells #[.int .i64 3, .int .i64 fr, .int .i64 to, .int .i64 0, .string ⟨#[]⟩, .int .i64 0, .int .i64 0] 44); rw [World.size_alloc] at e1; exact e1
 clear hW; have c5 := HB1.out.cell 5 (v := .int .i64 ac) rfl; have c6 := HB1.out.cell 6 (v := .int .i64 he) rfl; have z5 := HB3.out.cell 5 (v := .int .i64 0) rfl; have z6 := HB3.out.cell 6 (v := .int .i64 0) rfl; have y5 := HB3.out.free 5; have y6 := HB3.out.free 6; have l1 := HB1.out.lt; have l3 := HB3.out.lt; refine draw (fun w' => Frame (fun b => b = w.heap.size + 1) W w') 8 rfl (by kernel_rfl) (fun Qd hQd => ?_); iterate 5 (first | apply sI 0 (by rfl) rfl (by kernel_rfl) | apply sI 2 (by rfl) rfl (by kernel_rfl) | apply sI 1 (by rfl) rfl (by kernel_rfl) | apply sI 3 (by rfl) rfl (by kernel_rfl) | apply sI 4 (by rfl) rfl (by kernel_rfl)); (focus intro wI hI Kv hKv; have t5 := cell_frame hI l1 hn1 c5; have t6 := cell_frame hI l1 hn1 c6; go_simp; exact hKv); intro Kd hKd; go_simp; refine hKd _ ?_; clear hKd Kd
 refine anyI_one' 5 rfl (by kernel_rfl) ((Frame.refl _ _).drew) (fun Kd hKd => ?_); go_wp2; have F1 := ((Frame.refl (fun b => b = w.heap.size + 1) W).setCell (p := ⟨w.heap.size + 1, 5, none⟩) (.inl rfl) (.int .i64 ac)); apply anyI_step 6 rfl (by kernel_rfl); (focus intro wI hI Kv hKv; go_simp; exact hKv); intro Kd hKd; go_simp; refine hKd _ ?_; clear hKd Kd
 refine anyI_one' 7 rfl (by kernel_rfl) (F1.drew) (fun Kd hKd => ?_); go_wp2; have F2 := F1.setCell (p := ⟨w.heap.size + 1, 6, none⟩) (.inl rfl) (.int .i64 he); refine anyI_end (by kernel_rfl) (F2.drew) (hQd _ _ ?_); clear hQd Qd; obtain ⟨V, hV⟩ : ∃ V, ((W.setCell ⟨w.heap.size + 1, 5, none⟩ (.int .i64 ac)).setCell ⟨w.heap.size + 1, 6, none⟩ (.int .i64 he)).drew = V := ⟨_, rfl⟩; rw [hV]; have hb1 : Blk V w.heap.size (.cells #[.int .i64 3, .int .i64 fr, .int .i64 to, .int .i64 nu, .string t, .int .i64 ac, .int .i64 he] 44) := by rw [← hV]; exact ((HB1.out.far (by exact hn1) _).far (by exact hn1) _).drew
 have hb3 : Blk V (w.heap.size + 1) (.cells #[.int .i64 3, .int .i64 fr, .int .i64 to, .int .i64 0, .string ⟨#[]⟩, .int .i64 ac, .int .i64 he] 44) := by rw [← hV]; exact ((HB3.out.set 5 _).set 6 _).drew
 have HBE : Hid (Below w.heap.size w V) := by rw [← hV]; exact (((HBW.out).setCell (by simp) _).setCell (by simp) _).drew
 obtain ⟨a0, a1, a2, a3, a4, a5, a6⟩ := Blk.c7 hb1; obtain ⟨b0, b1, b2, b3, b4, b5, b6⟩ := Blk.c7 hb3; have k1 := hb1.lt; have k3 := hb3.lt; clear hV c5 c6 z5 z6 y5 y6 l1 l3 F1 F2 hb1 hb3; by_cases e1 : nu = 0; rotate_left
 ·have HNP : Hid (properB ⟨3, fr, to, nu, t, ac, he⟩ = false) := not_proper fun hp => by
   rcases (proper_iff.1 hp).2 with h | h | h
   ·exact absurd h.1 (by show ¬ (3 : Int) = 1; omega)
   ·exact absurd h.1 (by show ¬ (3 : Int) = 2; omega)
   ·exact e1 h.2.2.1
  go_wp2; go_ret; exact ⟨by rw [HNP.out]; rfl, HBE.out⟩
 subst e1; by_cases e2 : t.toList = []; rotate_left
 ·have HNP : Hid (properB ⟨3, fr, to, 0, t, ac, he⟩ = false) := not_proper fun hp => by
   rcases (proper_iff.1 hp).2 with h | h | h
   ·exact absurd h.1 (by show ¬ (3 : Int) = 1; omega)
   ·exact absurd h.1 (by show ¬ (3 : Int) = 2; omega)
   ·exact e2 (by have := h.2.2.2.1; simp only at this; rw [this]; exact nil_list)
  go_wp2; go_ret; exact ⟨by rw [HNP.out]; rfl, HBE.out⟩
 have e2' := size0 e2; subst e2'; by_cases g1 : 0 < to; rotate_left
 ·have r1 : decide (0 < to) = false := decide_eq_false g1; have HNP : Hid (properB ⟨3, fr, to, 0, ⟨#[]⟩, ac, he⟩ = false) := not_proper fun hp => by
   have h := proper_iff.1 hp; simp only at h; omega
  go_wp2; go_ret; exact ⟨by rw [HNP.out]; rfl, HBE.out⟩
 by_cases g2 : 0 ≤ ac; rotate_left
 ·have r2 : decide (0 ≤ ac) = false := decide_eq_false g2; have HNP : Hid (properB ⟨3, fr, to, 0, ⟨#[]⟩, ac, he⟩ = false) := not_proper fun hp => by
   have h := proper_iff.1 hp; simp only at h; omega
  go_wp2; go_ret; exact ⟨by rw [HNP.out]; rfl, HBE.out⟩
 by_cases g3 : ac ≤ 1000000000; rotate_left
 ·have r3 : decide (ac ≤ 1000000000) = false := decide_eq_false g3; have HNP : Hid (properB ⟨3, fr, to, 0, ⟨#[]⟩, ac, he⟩ = false) := not_proper fun hp => by
   have h := proper_iff.1 hp; simp only at h; omega
  go_wp2; go_ret; exact ⟨by rw [HNP.out]; rfl, HBE.out⟩
 by_cases g4 : 0 ≤ he; rotate_left
 ·have r4 : decide (0 ≤ he) = false := decide_eq_false g4; have HNP : Hid (properB ⟨3, fr, to, 0, ⟨#[]⟩, ac, he⟩ = false) := not_proper fun hp => by
   have h := proper_iff.1 hp; simp only at h; omega
  go_wp2; go_ret; exact ⟨by rw [HNP.out]; rfl, HBE.out⟩
 by_cases g5 : he < 8; rotate_left
 ·have r5 : decide (he < 8) = false := decide_eq_false g5; have HNP : Hid (properB ⟨3, fr, to, 0, ⟨#[]⟩, ac, he⟩ = false) := not_proper fun hp => by
   have h := proper_iff.1 hp; simp only at h; omega
  go_wp2; go_ret; exact ⟨by rw [HNP.out]; rfl, HBE.out⟩
 have HNP : Hid (properB ⟨3, fr, to, 0, ⟨#[]⟩, ac, he⟩ = true) := proper_iff.2 ⟨⟨h1, h2, h3, h4⟩, .inr (.inr ⟨rfl, g1, rfl, rfl, g2, g3, g4, by show he ≤ 7; omega⟩)⟩; go_wp2; go_ret; exact ⟨by rw [HNP.out]; rfl, HBE.out⟩
theorem proper_2 (fr to nu : Int) (t : ByteArray) (ac he : Int) (w : World) (h : 1 ≤ fr ∧ fr ≤ 1000000000 ∧ 0 ≤ to ∧ to ≤ 1000000000) (hts : t.size ≤ 1000000) :
  Calls Try.prog 53 #[pkV ⟨2, fr, to, nu, t, ac, he⟩] w fun r w' => r = .returned (.bool (properB ⟨2, fr, to, nu, t, ac, he⟩)) ∧ Below w.heap.size w w' := by
 obtain ⟨h1, h2, h3, h4⟩ := h; have hst := stood44; have hgd := guard44; unfold pkV; have q1 : decide (fr < 1) = false := decide_eq_false (by omega); have q2 : decide (1000000000 < fr) = false := decide_eq_false (by omega); have q3 : decide (to < 0) = false := decide_eq_false (by omega); have q4 : decide (1000000000 < to) = false := decide_eq_false (by omega); have hn1 : ¬ w.heap.size = w.heap.size + 1 := by omega
 by_cases m1 : nu < 0
 ·skip
  have HNP : Hid (properB ⟨2, fr, to, nu, t, ac, he⟩ = false) := not_proper fun hp => by
   have h := proper_iff.1 hp; simp only at h; omega
  go_enter Try.func53, Try.ntmps53
  go_wp2; go_ret; exact ⟨by rw [HNP.out]; rfl, ((Below.refl _ w).alloc (Nat.le_refl _) _).alloc (by simp) _⟩
 have s1 : decide (nu < 0) = false := decide_eq_false m1; by_cases m2 : 1000000000 ≤ nu
 ·skip
  have HNP : Hid (properB ⟨2, fr, to, nu, t, ac, he⟩ = false) := not_proper fun hp => by
   have h := proper_iff.1 hp; simp only at h; omega
  go_enter Try.func53, Try.ntmps53
  go_wp2; go_ret; exact ⟨by rw [HNP.out]; rfl, ((Below.refl _ w).alloc (Nat.le_refl _) _).alloc (by simp) _⟩
 have s2 : decide (1000000000 ≤ nu) = false := decide_eq_false m2; by_cases m3 : (20 : Int) < (t.size : Int)
 ·skip
  have HNP : Hid (properB ⟨2, fr, to, nu, t, ac, he⟩ = false) := not_proper fun hp => by
   have h := proper_iff.1 hp; simp only at h; omega
  go_enter Try.func53, Try.ntmps53
  go_wp2; go_ret; exact ⟨by rw [HNP.out]; rfl, ((Below.refl _ w).alloc (Nat.le_refl _) _).alloc (by simp) _⟩
 have s3 : decide ((20 : Int) < (t.size : Int)) = false := decide_eq_false m3; go_enter Try.func53, Try.ntmps53
 go_wp2; obtain ⟨W, hW⟩ : ∃ W, (w.alloc (.cells #[.int .i64 2, .int .i64 fr, .int .i64 to, .int .i64 nu, .string t, .int .i64 ac, .int .i64 he] 44)).alloc (.cells #[.int .i64 2, .int .i64 fr, .int .i64 to, .int .i64 0, .string ⟨#[]⟩, .int .i64 0, .int .i64 0] 44) = W := ⟨_, rfl⟩; rw [hW]; have HBW : Hid (Below w.heap.size w W) := by rw [← hW]; exact ((Below.refl _ w).alloc (Nat.le_refl _) _).alloc (by simp) _
 have HB1 : Hid (Blk W w.heap.size (.cells #[.int .i64 2, .int .i64 fr, .int .i64 to, .int .i64 nu, .string t, .int .i64 ac, .int .i64 he] 44)) := by rw [← hW]; exact (Blk.new _ _).alloc _
 have HB3 : Hid (Blk W (w.heap.size + 1) (.cells #[.int .i64 2, .int .i64 fr, .int .i64 to, .int .i64 0, .string ⟨#[]⟩, .int .i64 0, .int .i64 0] 44)) := by
  rw [← hW]; have e1 := Blk.new (w.alloc (.cells #[.int .i64 2, .int .i64 fr, .int .i64 to, .int .i64 nu, .string t, .int .i64 ac, .int .i64 he] 44)) (.cells #[.int .i64 2, .int .i64 fr, .int .i64 to, .int .i64 0, .string ⟨#[]⟩, .int .i64 0, .int .i64 0] 44); rw [World.size_alloc] at e1; exact e1
 clear hW; have c3 := HB1.out.cell 3 (v := .int .i64 nu) rfl; have c4 := HB1.out.cell 4 (v := .string t) rfl; have z3 := HB3.out.cell 3 (v := .int .i64 0) rfl; have z4 := HB3.out.cell 4 (v := .string ⟨#[]⟩) rfl; have y3 := HB3.out.free 3; have y4 := HB3.out.free 4; have l1 := HB1.out.lt; have l3 := HB3.out.lt; refine draw (fun w' => Frame (fun b => b = w.heap.size + 1) W w') 8 rfl (by kernel_rfl) (fun Qd hQd => ?_); iterate 5 (first | apply sI 0 (by rfl) rfl (by kernel_rfl) | apply sI 2 (by rfl) rfl (by kernel_rfl) | apply sI 1 (by rfl) rfl (by kernel_rfl) | apply sI 3 (by rfl) rfl (by kernel_rfl) | apply sI 4 (by rfl) rfl (by kernel_rfl)); (focus intro wI hI Kv hKv; have t3 := cell_frame hI l1 hn1 c3; have t4 := cell_frame hI l1 hn1 c4; go_simp; exact hKv); intro Kd hKd; go_simp; refine hKd _ ?_; clear hKd Kd
 refine anyI_one' 5 rfl (by kernel_rfl) ((Frame.refl _ _).drew) (fun Kd hKd => ?_); go_wp2; have F1 := ((Frame.refl (fun b => b = w.heap.size + 1) W).setCell (p := ⟨w.heap.size + 1, 3, none⟩) (.inl rfl) (.int .i64 nu)); apply anyI_step 6 rfl (by kernel_rfl); (focus intro wI hI Kv hKv; go_simp; exact hKv); intro Kd hKd; go_simp; refine hKd _ ?_; clear hKd Kd
 refine anyI_one' 7 rfl (by kernel_rfl) (F1.drew) (fun Kd hKd => ?_); go_wp2; have F2 := F1.setCell (p := ⟨w.heap.size + 1, 4, none⟩) (.inl rfl) (.string t); refine anyI_end (by kernel_rfl) (F2.drew) (hQd _ _ ?_); clear hQd Qd; obtain ⟨W2, hW2⟩ : ∃ W2, ((W.setCell ⟨w.heap.size + 1, 3, none⟩ (.int .i64 nu)).setCell ⟨w.heap.size + 1, 4, none⟩ (.string t)).drew = W2 := ⟨_, rfl⟩; rw [hW2]; have HC1 : Hid (Blk W2 w.heap.size (.cells #[.int .i64 2, .int .i64 fr, .int .i64 to, .int .i64 nu, .string t, .int .i64 ac, .int .i64 he] 44)) := by rw [← hW2]; exact ((HB1.out.far (by exact hn1) _).far (by exact hn1) _).drew
 have HC3 : Hid (Blk W2 (w.heap.size + 1) (.cells #[.int .i64 2, .int .i64 fr, .int .i64 to, .int .i64 nu, .string t, .int .i64 0, .int .i64 0] 44)) := by rw [← hW2]; exact ((HB3.out.set 3 _).set 4 _).drew
 have HCW : Hid (Below w.heap.size w W2) := by rw [← hW2]; exact (((HBW.out).setCell (by simp) _).setCell (by simp) _).drew
 clear c3 c4 z3 z4 y3 y4 l1 l3 F1 F2 hW2; go_wp2; have c5 := HC1.out.cell 5 (v := .int .i64 ac) rfl; have c6 := HC1.out.cell 6 (v := .int .i64 he) rfl; have z5 := HC3.out.cell 5 (v := .int .i64 0) rfl; have z6 := HC3.out.cell 6 (v := .int .i64 0) rfl; have y5 := HC3.out.free 5; have y6 := HC3.out.free 6; have l1 := HC1.out.lt; have l3 := HC3.out.lt; refine draw (fun w' => Frame (fun b => b = w.heap.size + 1) W2 w') 8 rfl (by kernel_rfl) (fun Qd hQd => ?_); iterate 5 (first | apply sI 0 (by rfl) rfl (by kernel_rfl) | apply sI 2 (by rfl) rfl (by kernel_rfl) | apply sI 1 (by rfl) rfl (by kernel_rfl) | apply sI 3 (by rfl) rfl (by kernel_rfl) | apply sI 4 (by rfl) rfl (by kernel_rfl)); (focus intro wI hI Kv hKv; have t5 := cell_frame hI l1 hn1 c5; have t6 := cell_frame hI l1 hn1 c6; go_simp; exact hKv); intro Kd hKd; go_simp; refine hKd _ ?_; clear hKd Kd
 refine anyI_one' 5 rfl (by kernel_rfl) ((Frame.refl _ _).drew) (fun Kd hKd => ?_); go_wp2; have F1 := ((Frame.refl (fun b => b = w.heap.size + 1) W2).setCell (p := ⟨w.heap.size + 1, 5, none⟩) (.inl rfl) (.int .i64 ac)); apply anyI_step 6 rfl (by kernel_rfl); (focus intro wI hI Kv hKv; go_simp; exact hKv); intro Kd hKd; go_simp; refine hKd _ ?_; clear hKd Kd
 refine anyI_one' 7 rfl (by kernel_rfl) (F1.drew) (fun Kd hKd => ?_); go_wp2; have F2 := F1.setCell (p := ⟨w.heap.size + 1, 6, none⟩) (.inl rfl) (.int .i64 he); refine anyI_end (by kernel_rfl) (F2.drew) (hQd _ _ ?_); clear hQd Qd; obtain ⟨V, hV⟩ : ∃ V, ((W2.setCell ⟨w.heap.size + 1, 5, none⟩ (.int .i64 ac)).setCell ⟨w.heap.size + 1, 6, none⟩ (.int .i64 he)).drew = V := ⟨_, rfl⟩; rw [hV]; have hb1 : Blk V w.heap.size (.cells #[.int .i64 2, .int .i64 fr, .int .i64 to, .int .i64 nu, .string t, .int .i64 ac, .int .i64 he] 44) := by rw [← hV]; exact ((HC1.out.far (by exact hn1) _).far (by exact hn1) _).drew
 have hb3 : Blk V (w.heap.size + 1) (.cells #[.int .i64 2, .int .i64 fr, .int .i64 to, .int .i64 nu, .string t, .int .i64 ac, .int .i64 he] 44) := by rw [← hV]; exact ((HC3.out.set 5 _).set 6 _).drew
 have HBE : Hid (Below w.heap.size w V) := by rw [← hV]; exact (((HCW.out).setCell (by simp) _).setCell (by simp) _).drew
 obtain ⟨a0, a1, a2, a3, a4, a5, a6⟩ := Blk.c7 hb1; obtain ⟨b0, b1, b2, b3, b4, b5, b6⟩ := Blk.c7 hb3; have k1 := hb1.lt; have k3 := hb3.lt; clear hV c5 c6 z5 z6 y5 y6 l1 l3 F1 F2 hb1 hb3; by_cases g1 : 0 < to; rotate_left
 ·have r1 : decide (0 < to) = false := decide_eq_false g1; have HNP : Hid (properB ⟨2, fr, to, nu, t, ac, he⟩ = false) := not_proper fun hp => by
   have h := proper_iff.1 hp; simp only at h; omega
  go_wp2; go_ret; exact ⟨by rw [HNP.out]; rfl, HBE.out⟩
 by_cases g2 : 0 ≤ ac; rotate_left
 ·have r2 : decide (0 ≤ ac) = false := decide_eq_false g2; have HNP : Hid (properB ⟨2, fr, to, nu, t, ac, he⟩ = false) := not_proper fun hp => by
   have h := proper_iff.1 hp; simp only at h; omega
  go_wp2; go_ret; exact ⟨by rw [HNP.out]; rfl, HBE.out⟩
 by_cases g3 : ac ≤ 1000000000; rotate_left
 ·have r3 : decide (ac ≤ 1000000000) = false := decide_eq_false g3; have HNP : Hid (properB ⟨2, fr, to, nu, t, ac, he⟩ = false) := not_proper fun hp => by
   have h := proper_iff.1 hp; simp only at h; omega
  go_wp2; go_ret; exact ⟨by rw [HNP.out]; rfl, HBE.out⟩
 by_cases g4 : 0 ≤ he; rotate_left
 ·have r4 : decide (0 ≤ he) = false := decide_eq_false g4; have HNP : Hid (properB ⟨2, fr, to, nu, t, ac, he⟩ = false) := not_proper fun hp => by
   have h := proper_iff.1 hp; simp only at h; omega
  go_wp2; go_ret; exact ⟨by rw [HNP.out]; rfl, HBE.out⟩
 by_cases g5 : he < 8; rotate_left
 ·have r5 : decide (he < 8) = false := decide_eq_false g5; have HNP : Hid (properB ⟨2, fr, to, nu, t, ac, he⟩ = false) := not_proper fun hp => by
   have h := proper_iff.1 hp; simp only at h; omega
  go_wp2; go_ret; exact ⟨by rw [HNP.out]; rfl, HBE.out⟩
 have HNP : Hid (properB ⟨2, fr, to, nu, t, ac, he⟩ = true) := proper_iff.2 ⟨⟨h1, h2, h3, h4⟩, .inr (.inl ⟨rfl, g1, by show 0 ≤ nu; omega, by show nu < _; omega, by show t.size ≤ 20; omega, g2, g3, g4, by show he ≤ 7; omega⟩)⟩; go_wp2; go_ret; exact ⟨by rw [HNP.out]; rfl, HBE.out⟩
theorem proper_any (p : Pk) (w : World) (hts : p.t.size ≤ 1000000) : Calls Try.prog 53 #[pkV p] w fun r w' => r = .returned (.bool (properB p)) ∧ Below w.heap.size w w' := by
 by_cases h : 1 ≤ p.frm ∧ p.frm ≤ 1000000000 ∧ 0 ≤ p.to ∧ p.to ≤ 1000000000
 ·obtain ⟨k, fr, to, nu, t, ac, he⟩ := p; by_cases h1 : k = 1
  ·subst h1; exact proper_1 fr to nu t ac he w h
  ·by_cases h2 : k = 2
   ·subst h2; exact proper_2 fr to nu t ac he w h hts
   ·by_cases h3 : k = 3
    ·subst h3; exact proper_3 fr to nu t ac he w h
    ·exact proper_head _ w (.inl (by simp only; omega))
 ·exact proper_head p w (.inr h)
theorem fine_any (e : En) (A : Option Addr) (c : Nat) (B : Option Addr) (d : Nat) (w : World) (h : EnAt w e A B) :
  Calls Try.prog 39 #[enV e A c B d] w fun r w' => r = .returned (.bool (goodB e)) ∧ Below w.heap.size w w' := by
 by_cases hn : numsOk e
 ·exact fine_yes e A c B d w h hn
 ·exact fine_no e A c B d w h hn
theorem results_cct {P : Program} {fn : Func} {tmps : Array Value} {w : World} {a b k : Tmp} {t s : TypeId} {p q : Addr} {v u z : Value} (h : fn.results = #[.cell a t, .cell b s, .tmp k]) (ha : tmps.getD a undef = .pointer (some p)) (hb : tmps.getD b undef = .pointer (some q)) (hk : tmps.getD k undef = z)
  (hl : (loadVar t p).run P w = .ok v w) (hl2 : (loadVar s q).run P w = .ok u w) : (results fn tmps).run P w = .ok (.tuple #[v, u, z]) w := by
 simp only [Array.getD_eq_getD_getElem?] at ha hb hk; simp [results, h, ha, hb, hk, hl, hl2, asAddr, Result.andThen]
theorem results_ctt {P : Program} {fn : Func} {tmps : Array Value} {w : World} {a b k : Tmp} {t : TypeId} {p : Addr} {v u z : Value} (h : fn.results = #[.cell a t, .tmp b, .tmp k]) (ha : tmps.getD a undef = .pointer (some p)) (hb : tmps.getD b undef = u) (hk : tmps.getD k undef = z)
  (hl : (loadVar t p).run P w = .ok v w) : (results fn tmps).run P w = .ok (.tuple #[v, u, z]) w := by
 simp only [Array.getD_eq_getD_getElem?] at ha hb hk; simp [results, h, ha, hb, hk, hl, asAddr, Result.andThen]
def gnV (g : Gn) (P : Option Addr) (cp : Nat) (T : Option Addr) (ct : Nat) (L : Option Addr) (cl : Nat) : Value := .agg #[.slice P g.packets.length cp, .slice T g.taken.length ct, .slice L g.lost.length cl]
def gnB (g : Gn) (P : Option Addr) (cp : Nat) (T : Option Addr) (ct : Nat) (L : Option Addr) (cl : Nat) : Array Value := #[.slice P g.packets.length cp, .slice T g.taken.length ct, .slice L g.lost.length cl]
structure GnAt (w : World) (g : Gn) (P T L : Option Addr) : Prop where
 p : Cells w P (pks g.packets)
 t : Cells w T (strs g.taken)
 l : Cells w L (strs g.lost)
theorem load47 {w : World} {b : Nat} {g : Gn} {P T L : Option Addr} {cp ct cl : Nat} (h : Blk w b (.cells (gnB g P cp T ct L cl) 47)) : (loadVar 47 ⟨b, 0, none⟩).run Try.prog w = .ok (gnV g P cp T ct L cl) w := by
 obtain ⟨h0, h1, h2⟩ := Blk.c3 h; unfold gnV; go_simp
structure Ts (w0 w : World) (bx bm bg b3 b4 b5 N : Nat) (e : En) (p : Pk) (A : Option Addr) (c : Nat) (vi vP : Value) (ps : List Pk) (T : Option Addr) (ct : Nat) (tk : List ByteArray) (L : Option Addr) (cl : Nat) (ls : List ByteArray) : Prop where
 xs : Xs w bx bm e A c vi
 row : RowAt w w0.heap.size A e.out
 g : Blk w bg (.cells #[vP, .slice T tk.length ct, .slice L ls.length cl] 47)
 rps : w.ownsRow N 44 7 vP ps.length (pks ps)
 rtk : w.ownsRow N 9 1 (.slice T tk.length ct) tk.length (strs tk)
 rls : w.ownsRow N 9 1 (.slice L ls.length cl) ls.length (strs ls)
 k3 : Blk w b3 (.cells (pkB p) 44)
 k4 : Blk w b4 (.cells (enB noEn none 0 none 0) 26)
 k5 : Blk w b5 (.cells #[.slice none 0 0, .slice none 0 0, .slice none 0 0] 47)
 below : Below w0.heap.size w0 w
 ox : w0.heap.size ≤ bx
 om : w0.heap.size ≤ bm
 og : w0.heap.size ≤ bg
 o3 : w0.heap.size ≤ b3
 o4 : w0.heap.size ≤ b4
 o5 : w0.heap.size ≤ b5
 n3 : b3 < N
 ng5 : bg ≠ b5
 nN : N ≤ w.heap.size
 oN : w0.heap.size ≤ N
section
variable {w0 w w' : World} {bx bm bg b3 b4 b5 N : Nat} {e e' : En} {p : Pk} {A A' : Option Addr} {c c' : Nat} {vi vP : Value} {ps : List Pk} {T : Option Addr} {ct : Nat} {tk : List ByteArray} {L : Option Addr} {cl : Nat} {ls : List ByteArray}
theorem Ts.x (h : Ts w0 w bx bm bg b3 b4 b5 N e p A c vi vP ps T ct tk L cl ls) (hF : Frame (fun b => b = bx ∨ b = bm ∨ ∃ cur, Blk w b (.cells cur 71)) w w') (hx : Xs w' bx bm e' A' c' vi) (hr : RowAt w' w0.heap.size A' e'.out) (hB : Below w0.heap.size w w') :
  Ts w0 w' bx bm bg b3 b4 b5 N e' p A' c' vi vP ps T ct tk L cl ls := by
 have ho : ∀ {e : TypeId} {size n : Nat} {v : Value} {xs : List Value}, w.ownsRow N e size v n xs → e ≠ 84 → e ≠ 71 → w'.ownsRow N e size v n xs := fun hr h1 h2 => own_frame hr hF (fun g hg e2 => by
  rcases e2 with e2 | e2 | ⟨cur, hc⟩
  ·exact own_ne hr h.xs.box h1 (by rw [hg, e2])
  ·exact h.xs.map.not_own hr (by rw [hg, e2])
  ·exact own_ne hr hc h2 hg)
 have hb : ∀ {b : Nat} {cs : Array Value} {t : TypeId}, Blk w b (.cells cs t) → t ≠ 84 → t ≠ 71 → Blk w' b (.cells cs t) := fun hr h1 h2 => hr.frame hF (fun e2 => by
  rcases e2 with e2 | e2 | ⟨cur, hc⟩
  ·exact blk_ne hr h.xs.box h1 e2
  ·exact h.xs.map.not_blk hr e2.symm
  ·exact blk_ne hr hc h2 rfl)
 exact ⟨hx, hr, hb h.g (by decide) (by decide), ho h.rps (by decide) (by decide), ho h.rtk (by decide) (by decide), ho h.rls (by decide) (by decide), hb h.k3 (by decide) (by decide), hb h.k4 (by decide) (by decide), hb h.k5 (by decide) (by decide), h.below.trans hB, h.ox, h.om, h.og, h.o3, h.o4, h.o5, h.n3, h.ng5, by have := h.nN; have := hF.size; omega, h.oN⟩
theorem Ts.drew (h : Ts w0 w bx bm bg b3 b4 b5 N e p A c vi vP ps T ct tk L cl ls) : Ts w0 w.drew bx bm bg b3 b4 b5 N e p A c vi vP ps T ct tk L cl ls :=
 h.x ((Frame.refl _ w).drew) h.xs.drew (h.row.frame (Frame.refl (fun _ => False) w).drew (fun _ _ _ h => h)) (Below.refl _ w).drew
theorem Ts.noOut (h : Ts w0 w bx bm bg b3 b4 b5 N e p A c vi vP ps T ct tk L cl ls) (hA : A = none) : e.out.length = 0 := by
 have h1 := h.xs.nil hA; have h2 := h.xs.cap; omega
theorem Ts.xset (h : Ts w0 w bx bm bg b3 b4 b5 N e p A c vi vP ps T ct tk L cl ls) (i : Nat) (u : Value) (hb : Blk (w.setCell ⟨bx, i, none⟩ u) bx (.cells #[.int .i64 e'.life, .int .i64 e'.peer, .int .i64 e'.phase, .int .i64 e'.base, .slice A e'.out.length c, .int .i64 e'.want, vi, .map (some bm)] 84)) (ho : e'.out = e.out) (hi : e'.inn = e.inn) :
  Ts w0 (w.setCell ⟨bx, i, none⟩ u) bx bm bg b3 b4 b5 N e' p A c vi vP ps T ct tk L cl ls := by
 have hF : Frame (fun b => b = bx) w (w.setCell ⟨bx, i, none⟩ u) := (Frame.refl (fun b => b = bx) w).setCell (p := ⟨bx, i, none⟩) (.inl rfl) _; have hn : ∀ b cur, Blk w b (.cells cur 71) → ¬ b = bx := fun b cur hb e2 => blk_ne hb h.xs.box (by decide) e2; refine h.x (hF.mono (fun b _ e2 => .inl e2)) ⟨hb, by rw [ho]; exact h.row.cells h.xs.out hF hn, by rw [hi]; exact h.xs.map.frame hF (h.xs.map.not_blk h.xs.box), by rw [ho]; exact h.xs.cap, h.xs.nil⟩ (by rw [ho]; exact h.row.frame hF hn) ((Below.refl _ w).setCell h.ox _)
theorem Ts.gset (h : Ts w0 w bx bm bg b3 b4 b5 N e p A c vi vP ps T ct tk L cl ls) (i : Nat) (u : Value) :
  Xs (w.setCell ⟨bg, i, none⟩ u) bx bm e A c vi ∧ RowAt (w.setCell ⟨bg, i, none⟩ u) w0.heap.size A e.out ∧ Blk (w.setCell ⟨bg, i, none⟩ u) b3 (.cells (pkB p) 44) ∧ Blk (w.setCell ⟨bg, i, none⟩ u) b4 (.cells (enB noEn none 0 none 0) 26) ∧
   Blk (w.setCell ⟨bg, i, none⟩ u) b5 (.cells #[.slice none 0 0, .slice none 0 0, .slice none 0 0] 47) ∧ Below w0.heap.size w0 (w.setCell ⟨bg, i, none⟩ u) ∧ (w.setCell ⟨bg, i, none⟩ u).heap.size = w.heap.size ∧
   (∀ {e : TypeId} {size n : Nat} {v : Value} {xs : List Value}, w.ownsRow N e size v n xs → e ≠ 47 → (w.setCell ⟨bg, i, none⟩ u).ownsRow N e size v n xs) := by
 have hF : Frame (fun b => b = bg) w (w.setCell ⟨bg, i, none⟩ u) := (Frame.refl (fun b => b = bg) w).setCell (p := ⟨bg, i, none⟩) (.inl rfl) _; have n1 : ∀ {b : Nat} {cs : Array Value} {t : TypeId}, Blk w b (.cells cs t) → t ≠ 47 → ¬ b = bg := fun hb ht e2 => blk_ne hb h.g ht e2; have hn71 : ∀ b cur, Blk w b (.cells cur 71) → ¬ b = bg := fun b cur hb => n1 hb (by decide); refine ⟨⟨h.xs.box.frame hF (n1 h.xs.box (by decide)), h.row.cells h.xs.out hF hn71, h.xs.map.frame hF (fun e2 => h.xs.map.not_blk h.g e2), h.xs.cap, h.xs.nil⟩, h.row.frame hF hn71, h.k3.frame hF (n1 h.k3 (by decide)), h.k4.frame hF (n1 h.k4 (by decide)), h.k5.frame hF (fun e2 => h.ng5 e2.symm), h.below.setCell h.og _, by simp [World.setCell], fun hr ht => own_frame hr hF (fun g hg e2 => own_ne hr h.g ht (by rw [hg, e2]))⟩
theorem Ts.lost (h : Ts w0 w bx bm bg b3 b4 b5 N e p A c vi vP ps T ct tk L cl ls) {L' : Option Addr} {cl' : Nat} {ls' : List ByteArray} (hl : w.ownsRow N 9 1 (.slice L' ls'.length cl') ls'.length (strs ls')) :
  Ts w0 (w.setCell ⟨bg, 2, none⟩ (.slice L' ls'.length cl')) bx bm bg b3 b4 b5 N e p A c vi vP ps T ct tk L' cl' ls' := by
 obtain ⟨a1, a2, a3, a4, a5, a6, a7, a8⟩ := h.gset 2 (.slice L' ls'.length cl'); exact ⟨a1, a2, h.g.set 2 _, a8 h.rps (by decide), a8 h.rtk (by decide), a8 hl (by decide), a3, a4, a5, a6, h.ox, h.om, h.og, h.o3, h.o4, h.o5, h.n3, h.ng5, by rw [a7]; exact h.nN, h.oN⟩
theorem Ts.taken (h : Ts w0 w bx bm bg b3 b4 b5 N e p A c vi vP ps T ct tk L cl ls) {T' : Option Addr} {ct' : Nat} {tk' : List ByteArray} (hl : w.ownsRow N 9 1 (.slice T' tk'.length ct') tk'.length (strs tk')) :
  Ts w0 (w.setCell ⟨bg, 1, none⟩ (.slice T' tk'.length ct')) bx bm bg b3 b4 b5 N e p A c vi vP ps T' ct' tk' L cl ls := by
 obtain ⟨a1, a2, a3, a4, a5, a6, a7, a8⟩ := h.gset 1 (.slice T' tk'.length ct'); exact ⟨a1, a2, h.g.set 1 _, a8 h.rps (by decide), a8 hl (by decide), a8 h.rls (by decide), a3, a4, a5, a6, h.ox, h.om, h.og, h.o3, h.o4, h.o5, h.n3, h.ng5, by rw [a7]; exact h.nN, h.oN⟩
theorem Ts.grow (h : Ts w0 w bx bm bg b3 b4 b5 N e p A c vi vP ps T ct tk L cl ls) (hF : Frame (fun b => vP.ownBlock = some b) w w') {vP' : Value} {ps' : List Pk} (hp : w'.ownsRow N 44 7 vP' ps'.length (pks ps')) :
  Xs w' bx bm e A c vi ∧ Ts w0 (w'.setCell ⟨bg, 0, none⟩ vP') bx bm bg b3 b4 b5 N e p A c vi vP' ps' T ct tk L cl ls := by
 have n1 : ∀ {b : Nat} {cs : Array Value} {t : TypeId}, Blk w b (.cells cs t) → t ≠ 44 → ¬ vP.ownBlock = some b := fun hb ht e2 => own_ne h.rps hb (fun e3 => ht e3.symm) e2; have hn71 : ∀ b cur, Blk w b (.cells cur 71) → ¬ vP.ownBlock = some b := fun b cur hb => n1 hb (by decide); have h3 : ¬ vP.ownBlock = some b3 := fun e2 => by have := (h.rps.lt _ e2).1; have := h.n3; omega
 have ho9 : ∀ {n : Nat} {v : Value} {xs : List Value}, w.ownsRow N 9 1 v n xs → w'.ownsRow N 9 1 v n xs := fun hr => own_frame hr hF (fun g hg e2 => by
  have hgl := (hr.lt _ hg).2; rcases hr.2 with ⟨rfl, _⟩ | ⟨g1, cap, cur, rfl, _, hh, _⟩
  ·cases hg
  ·have e3 : g1 = g := by simpa [Value.ownBlock] using hg
   subst e3; exact own_ne h.rps (b := g1) (cs := cur) (t := 9) hh (by decide) e2)
 have hX : Xs w' bx bm e A c vi := ⟨h.xs.box.frame hF (n1 h.xs.box (by decide)), h.row.cells h.xs.out hF hn71, h.xs.map.frame hF (fun e2 => h.xs.map.not_own h.rps e2), h.xs.cap, h.xs.nil⟩; have hT : Ts w0 w' bx bm bg b3 b4 b5 N e p A c vi vP ps T ct tk L cl ls → True := fun _ => trivial; refine ⟨hX, ?_⟩; have hg' := h.g.frame hF (n1 h.g (by decide)); have hF2 : Frame (fun b => b = bg) w' (w'.setCell ⟨bg, 0, none⟩ vP') := (Frame.refl (fun b => b = bg) w').setCell (p := ⟨bg, 0, none⟩) (.inl rfl) _; have n2 : ∀ {b : Nat} {cs : Array Value} {t : TypeId}, Blk w' b (.cells cs t) → t ≠ 47 → ¬ b = bg := fun hb ht e2 => blk_ne hb hg' ht e2; have hn712 : ∀ b cur, Blk w' b (.cells cur 71) → ¬ b = bg := fun b cur hb => n2 hb (by decide); have ho2 : ∀ {e : TypeId} {size n : Nat} {v : Value} {xs : List Value}, w'.ownsRow N e size v n xs → e ≠ 47 → (w'.setCell ⟨bg, 0, none⟩ vP').ownsRow N e size v n xs := fun hr ht => own_frame hr hF2 (fun g hg e2 => own_ne hr hg' ht (by rw [hg, e2])); have hrow' := h.row.frame hF hn71; have b3' := h.k3.frame hF h3; have b4' := h.k4.frame hF (n1 h.k4 (by decide)); have b5' := h.k5.frame hF (n1 h.k5 (by decide)); have hsz := hF.size
 refine ⟨⟨hX.box.frame hF2 (n2 hX.box (by decide)), hrow'.cells hX.out hF2 hn712, hX.map.frame hF2 (fun e2 => hX.map.not_blk hg' e2), hX.cap, hX.nil⟩, hrow'.frame hF2 hn712, hg'.set 0 vP', ho2 hp (by decide), ho2 (ho9 h.rtk) (by decide), ho2 (ho9 h.rls) (by decide), b3'.frame hF2 (n2 b3' (by decide)), b4'.frame hF2 (n2 b4' (by decide)), b5'.frame hF2 (fun e2 => h.ng5 e2.symm), ?_, h.ox, h.om, h.og, h.o3, h.o4, h.o5, h.n3, h.ng5, ?_, h.oN⟩
 ·refine (h.below.trans (hF.below (B := w0.heap.size) (fun b e2 => by have := (h.rps.lt _ e2).1; have := h.oN; omega) (by have := h.nN; have := h.oN; omega))).setCell h.og _
 ·have := h.nN; simp [World.setCell]; omega
end
end Go.Proofs.Ytejabnoidhlfaaa
