/- Contract: proper. -/
import Derived.Test.YtejabnoidhlfaaaDoorS20

/- Contract: proper, an acknowledgement, a message. -/
namespace Go.Proofs.YtejabnoidhlfaaaDoor
open Go.RowKit Go.Maps

set_option maxRecDepth 100000 in
set_option maxHeartbeats 16000000 in
theorem proper_3 (fr to nu : Int) (t : ByteArray) (ac he : Int) (w : World) (h : 1 ≤ fr ∧ fr ≤ 1000000000 ∧ 0 ≤ to ∧ to ≤ 1000000000) :
  Calls Tryd.prog 30 #[pkV ⟨3, fr, to, nu, t, ac, he⟩] w fun r w' => r = .returned (.bool (properB ⟨3, fr, to, nu, t, ac, he⟩)) ∧ Below w.heap.size w w' := by
 obtain ⟨h1, h2, h3, h4⟩ := h
 have hst := stood44
 have hgd := guard44
 unfold pkV
 have q1 : decide (fr < 1) = false := decide_eq_false (by omega)
 have q2 : decide (1000000000 < fr) = false := decide_eq_false (by omega)
 have q3 : decide (to < 0) = false := decide_eq_false (by omega)
 have q4 : decide (1000000000 < to) = false := decide_eq_false (by omega)
 have hn1 : ¬ w.heap.size = w.heap.size + 1 := by omega
 go_enter Tryd.func30, Tryd.ntmps30
 go_wp2
 obtain ⟨W, hW⟩ : ∃ W, (w.alloc (.cells #[.int .i64 3, .int .i64 fr, .int .i64 to, .int .i64 nu, .string t, .int .i64 ac, .int .i64 he] 49)).alloc (.cells #[.int .i64 3, .int .i64 fr, .int .i64 to, .int .i64 0, .string ⟨#[]⟩, .int .i64 0, .int .i64 0] 49) = W := ⟨_, rfl⟩
 rw [hW]
 have HBW : Hid (Below w.heap.size w W) := by rw [← hW]; exact ((Below.refl _ w).alloc (Nat.le_refl _) _).alloc (by simp) _
 have HB1 : Hid (Blk W w.heap.size (.cells #[.int .i64 3, .int .i64 fr, .int .i64 to, .int .i64 nu, .string t, .int .i64 ac, .int .i64 he] 49)) := by rw [← hW]; exact (Blk.new _ _).alloc _
 have HB3 : Hid (Blk W (w.heap.size + 1) (.cells #[.int .i64 3, .int .i64 fr, .int .i64 to, .int .i64 0, .string ⟨#[]⟩, .int .i64 0, .int .i64 0] 49)) := by
  rw [← hW]
  have e1 := Blk.new (w.alloc (.cells #[.int .i64 3, .int .i64 fr, .int .i64 to, .int .i64 nu, .string t, .int .i64 ac, .int .i64 he] 49)) (.cells #[.int .i64 3, .int .i64 fr, .int .i64 to, .int .i64 0, .string ⟨#[]⟩, .int .i64 0, .int .i64 0] 49)
  rw [World.size_alloc] at e1
  exact e1
 clear hW
 have c5 := HB1.out.cell 5 (v := .int .i64 ac) rfl
 have c6 := HB1.out.cell 6 (v := .int .i64 he) rfl
 have z5 := HB3.out.cell 5 (v := .int .i64 0) rfl
 have z6 := HB3.out.cell 6 (v := .int .i64 0) rfl
 have y5 := HB3.out.free 5
 have y6 := HB3.out.free 6
 have l1 := HB1.out.lt
 have l3 := HB3.out.lt
 refine draw (fun w' => Frame (fun b => b = w.heap.size + 1) W w') 8 rfl (by kernel_rfl) (fun Qd hQd => ?_)
 apply anyI_step 0 rfl (by kernel_rfl)
 focus (intro wI hI Kv hKv; have t5 := cell_frame hI l1 hn1 c5; have t6 := cell_frame hI l1 hn1 c6; go_simp; exact hKv)
 intro Kd hKd
 go_simp
 refine hKd _ ?_
 clear hKd Kd
 apply anyI_step 2 rfl (by kernel_rfl)
 focus (intro wI hI Kv hKv; have t5 := cell_frame hI l1 hn1 c5; have t6 := cell_frame hI l1 hn1 c6; go_simp; exact hKv)
 intro Kd hKd
 go_simp
 refine hKd _ ?_
 clear hKd Kd
 apply anyI_step 1 rfl (by kernel_rfl)
 focus (intro wI hI Kv hKv; have t5 := cell_frame hI l1 hn1 c5; have t6 := cell_frame hI l1 hn1 c6; go_simp; exact hKv)
 intro Kd hKd
 go_simp
 refine hKd _ ?_
 clear hKd Kd
 apply anyI_step 3 rfl (by kernel_rfl)
 focus (intro wI hI Kv hKv; have t5 := cell_frame hI l1 hn1 c5; have t6 := cell_frame hI l1 hn1 c6; go_simp; exact hKv)
 intro Kd hKd
 go_simp
 refine hKd _ ?_
 clear hKd Kd
 apply anyI_step 4 rfl (by kernel_rfl)
 focus (intro wI hI Kv hKv; have t5 := cell_frame hI l1 hn1 c5; have t6 := cell_frame hI l1 hn1 c6; go_simp; exact hKv)
 intro Kd hKd
 go_simp
 refine hKd _ ?_
 clear hKd Kd
 refine anyI_one' 5 rfl (by kernel_rfl) ((Frame.refl _ _).drew) (fun Kd hKd => ?_)
 go_wp2
 have F1 := ((Frame.refl (fun b => b = w.heap.size + 1) W).setCell (p := ⟨w.heap.size + 1, 5, none⟩) (.inl rfl) (.int .i64 ac))
 apply anyI_step 6 rfl (by kernel_rfl)
 focus (intro wI hI Kv hKv; go_simp; exact hKv)
 intro Kd hKd
 go_simp
 refine hKd _ ?_
 clear hKd Kd
 refine anyI_one' 7 rfl (by kernel_rfl) (F1.drew) (fun Kd hKd => ?_)
 go_wp2
 have F2 := F1.setCell (p := ⟨w.heap.size + 1, 6, none⟩) (.inl rfl) (.int .i64 he)
 refine anyI_end (by kernel_rfl) (F2.drew) (hQd _ _ ?_)
 clear hQd Qd
 obtain ⟨V, hV⟩ : ∃ V, ((W.setCell ⟨w.heap.size + 1, 5, none⟩ (.int .i64 ac)).setCell ⟨w.heap.size + 1, 6, none⟩ (.int .i64 he)).drew = V := ⟨_, rfl⟩
 rw [hV]
 have hb1 : Blk V w.heap.size (.cells #[.int .i64 3, .int .i64 fr, .int .i64 to, .int .i64 nu, .string t, .int .i64 ac, .int .i64 he] 49) := by rw [← hV]; exact ((HB1.out.far (by exact hn1) _).far (by exact hn1) _).drew
 have hb3 : Blk V (w.heap.size + 1) (.cells #[.int .i64 3, .int .i64 fr, .int .i64 to, .int .i64 0, .string ⟨#[]⟩, .int .i64 ac, .int .i64 he] 49) := by rw [← hV]; exact ((HB3.out.set 5 _).set 6 _).drew
 have HBE : Hid (Below w.heap.size w V) := by rw [← hV]; exact (((HBW.out).setCell (by simp) _).setCell (by simp) _).drew
 have a0 := hb1.cell 0 (v := .int .i64 3) rfl
 have a1 := hb1.cell 1 (v := .int .i64 fr) rfl
 have a2 := hb1.cell 2 (v := .int .i64 to) rfl
 have a3 := hb1.cell 3 (v := .int .i64 nu) rfl
 have a4 := hb1.cell 4 (v := .string t) rfl
 have a5 := hb1.cell 5 (v := .int .i64 ac) rfl
 have a6 := hb1.cell 6 (v := .int .i64 he) rfl
 have b0 := hb3.cell 0 (v := .int .i64 3) rfl
 have b1 := hb3.cell 1 (v := .int .i64 fr) rfl
 have b2 := hb3.cell 2 (v := .int .i64 to) rfl
 have b3 := hb3.cell 3 (v := .int .i64 0) rfl
 have b4 := hb3.cell 4 (v := .string ⟨#[]⟩) rfl
 have b5 := hb3.cell 5 (v := .int .i64 ac) rfl
 have b6 := hb3.cell 6 (v := .int .i64 he) rfl
 have k1 := hb1.lt
 have k3 := hb3.lt
 clear hV c5 c6 z5 z6 y5 y6 l1 l3 F1 F2 hb1 hb3
 by_cases e1 : nu = 0
 rotate_left
 ·have HNP : Hid (properB ⟨3, fr, to, nu, t, ac, he⟩ = false) := not_proper fun hp => by
   rcases (proper_iff.1 hp).2 with h | h | h
   ·exact absurd h.1 (by show ¬ (3 : Int) = 1; omega)
   ·exact absurd h.1 (by show ¬ (3 : Int) = 2; omega)
   ·exact e1 h.2.2.1
  go_wp2
  go_ret
  exact ⟨by rw [HNP.out]; rfl, HBE.out⟩
 subst e1
 by_cases e2 : t.toList = []
 rotate_left
 ·have HNP : Hid (properB ⟨3, fr, to, 0, t, ac, he⟩ = false) := not_proper fun hp => by
   rcases (proper_iff.1 hp).2 with h | h | h
   ·exact absurd h.1 (by show ¬ (3 : Int) = 1; omega)
   ·exact absurd h.1 (by show ¬ (3 : Int) = 2; omega)
   ·exact e2 (by have := h.2.2.2.1; simp only at this; rw [this]; exact nil_list)
  go_wp2
  go_ret
  exact ⟨by rw [HNP.out]; rfl, HBE.out⟩
 have e2' := size0 e2
 subst e2'
 by_cases g1 : 0 < to
 rotate_left
 ·have r1 : decide (0 < to) = false := decide_eq_false g1
  have HNP : Hid (properB ⟨3, fr, to, 0, ⟨#[]⟩, ac, he⟩ = false) := not_proper fun hp => by
   have h := proper_iff.1 hp
   simp only at h
   omega
  go_wp2
  go_ret
  exact ⟨by rw [HNP.out]; rfl, HBE.out⟩
 by_cases g2 : 0 ≤ ac
 rotate_left
 ·have r2 : decide (0 ≤ ac) = false := decide_eq_false g2
  have HNP : Hid (properB ⟨3, fr, to, 0, ⟨#[]⟩, ac, he⟩ = false) := not_proper fun hp => by
   have h := proper_iff.1 hp
   simp only at h
   omega
  go_wp2
  go_ret
  exact ⟨by rw [HNP.out]; rfl, HBE.out⟩
 by_cases g3 : ac ≤ 1000000000
 rotate_left
 ·have r3 : decide (ac ≤ 1000000000) = false := decide_eq_false g3
  have HNP : Hid (properB ⟨3, fr, to, 0, ⟨#[]⟩, ac, he⟩ = false) := not_proper fun hp => by
   have h := proper_iff.1 hp
   simp only at h
   omega
  go_wp2
  go_ret
  exact ⟨by rw [HNP.out]; rfl, HBE.out⟩
 by_cases g4 : 0 ≤ he
 rotate_left
 ·have r4 : decide (0 ≤ he) = false := decide_eq_false g4
  have HNP : Hid (properB ⟨3, fr, to, 0, ⟨#[]⟩, ac, he⟩ = false) := not_proper fun hp => by
   have h := proper_iff.1 hp
   simp only at h
   omega
  go_wp2
  go_ret
  exact ⟨by rw [HNP.out]; rfl, HBE.out⟩
 by_cases g5 : he < 8
 rotate_left
 ·have r5 : decide (he < 8) = false := decide_eq_false g5
  have HNP : Hid (properB ⟨3, fr, to, 0, ⟨#[]⟩, ac, he⟩ = false) := not_proper fun hp => by
   have h := proper_iff.1 hp
   simp only at h
   omega
  go_wp2
  go_ret
  exact ⟨by rw [HNP.out]; rfl, HBE.out⟩
 have HNP : Hid (properB ⟨3, fr, to, 0, ⟨#[]⟩, ac, he⟩ = true) := proper_iff.2 ⟨⟨h1, h2, h3, h4⟩, .inr (.inr ⟨rfl, g1, rfl, rfl, g2, g3, g4, by show he ≤ 7; omega⟩)⟩
 go_wp2
 go_ret
 exact ⟨by rw [HNP.out]; rfl, HBE.out⟩
set_option maxRecDepth 100000 in
set_option maxHeartbeats 16000000 in
theorem proper_2 (fr to nu : Int) (t : ByteArray) (ac he : Int) (w : World) (h : 1 ≤ fr ∧ fr ≤ 1000000000 ∧ 0 ≤ to ∧ to ≤ 1000000000) (hts : t.size ≤ 1000000) :
  Calls Tryd.prog 30 #[pkV ⟨2, fr, to, nu, t, ac, he⟩] w fun r w' => r = .returned (.bool (properB ⟨2, fr, to, nu, t, ac, he⟩)) ∧ Below w.heap.size w w' := by
 obtain ⟨h1, h2, h3, h4⟩ := h
 have hst := stood44
 have hgd := guard44
 unfold pkV
 have q1 : decide (fr < 1) = false := decide_eq_false (by omega)
 have q2 : decide (1000000000 < fr) = false := decide_eq_false (by omega)
 have q3 : decide (to < 0) = false := decide_eq_false (by omega)
 have q4 : decide (1000000000 < to) = false := decide_eq_false (by omega)
 have hn1 : ¬ w.heap.size = w.heap.size + 1 := by omega
 by_cases m1 : nu < 0
 ·skip
  have HNP : Hid (properB ⟨2, fr, to, nu, t, ac, he⟩ = false) := not_proper fun hp => by
   have h := proper_iff.1 hp
   simp only at h
   omega
  go_enter Tryd.func30, Tryd.ntmps30
  go_wp2
  go_ret
  exact ⟨by rw [HNP.out]; rfl, ((Below.refl _ w).alloc (Nat.le_refl _) _).alloc (by simp) _⟩
 have s1 : decide (nu < 0) = false := decide_eq_false m1
 by_cases m2 : 1000000000 ≤ nu
 ·skip
  have HNP : Hid (properB ⟨2, fr, to, nu, t, ac, he⟩ = false) := not_proper fun hp => by
   have h := proper_iff.1 hp
   simp only at h
   omega
  go_enter Tryd.func30, Tryd.ntmps30
  go_wp2
  go_ret
  exact ⟨by rw [HNP.out]; rfl, ((Below.refl _ w).alloc (Nat.le_refl _) _).alloc (by simp) _⟩
 have s2 : decide (1000000000 ≤ nu) = false := decide_eq_false m2
 by_cases m3 : (20 : Int) < (t.size : Int)
 ·skip
  have HNP : Hid (properB ⟨2, fr, to, nu, t, ac, he⟩ = false) := not_proper fun hp => by
   have h := proper_iff.1 hp
   simp only at h
   omega
  go_enter Tryd.func30, Tryd.ntmps30
  go_wp2
  go_ret
  exact ⟨by rw [HNP.out]; rfl, ((Below.refl _ w).alloc (Nat.le_refl _) _).alloc (by simp) _⟩
 have s3 : decide ((20 : Int) < (t.size : Int)) = false := decide_eq_false m3
 go_enter Tryd.func30, Tryd.ntmps30
 go_wp2
 obtain ⟨W, hW⟩ : ∃ W, (w.alloc (.cells #[.int .i64 2, .int .i64 fr, .int .i64 to, .int .i64 nu, .string t, .int .i64 ac, .int .i64 he] 49)).alloc (.cells #[.int .i64 2, .int .i64 fr, .int .i64 to, .int .i64 0, .string ⟨#[]⟩, .int .i64 0, .int .i64 0] 49) = W := ⟨_, rfl⟩
 rw [hW]
 have HBW : Hid (Below w.heap.size w W) := by rw [← hW]; exact ((Below.refl _ w).alloc (Nat.le_refl _) _).alloc (by simp) _
 have HB1 : Hid (Blk W w.heap.size (.cells #[.int .i64 2, .int .i64 fr, .int .i64 to, .int .i64 nu, .string t, .int .i64 ac, .int .i64 he] 49)) := by rw [← hW]; exact (Blk.new _ _).alloc _
 have HB3 : Hid (Blk W (w.heap.size + 1) (.cells #[.int .i64 2, .int .i64 fr, .int .i64 to, .int .i64 0, .string ⟨#[]⟩, .int .i64 0, .int .i64 0] 49)) := by
  rw [← hW]
  have e1 := Blk.new (w.alloc (.cells #[.int .i64 2, .int .i64 fr, .int .i64 to, .int .i64 nu, .string t, .int .i64 ac, .int .i64 he] 49)) (.cells #[.int .i64 2, .int .i64 fr, .int .i64 to, .int .i64 0, .string ⟨#[]⟩, .int .i64 0, .int .i64 0] 49)
  rw [World.size_alloc] at e1
  exact e1
 clear hW
 have c3 := HB1.out.cell 3 (v := .int .i64 nu) rfl
 have c4 := HB1.out.cell 4 (v := .string t) rfl
 have z3 := HB3.out.cell 3 (v := .int .i64 0) rfl
 have z4 := HB3.out.cell 4 (v := .string ⟨#[]⟩) rfl
 have y3 := HB3.out.free 3
 have y4 := HB3.out.free 4
 have l1 := HB1.out.lt
 have l3 := HB3.out.lt
 refine draw (fun w' => Frame (fun b => b = w.heap.size + 1) W w') 8 rfl (by kernel_rfl) (fun Qd hQd => ?_)
 apply anyI_step 0 rfl (by kernel_rfl)
 focus (intro wI hI Kv hKv; have t3 := cell_frame hI l1 hn1 c3; have t4 := cell_frame hI l1 hn1 c4; go_simp; exact hKv)
 intro Kd hKd
 go_simp
 refine hKd _ ?_
 clear hKd Kd
 apply anyI_step 2 rfl (by kernel_rfl)
 focus (intro wI hI Kv hKv; have t3 := cell_frame hI l1 hn1 c3; have t4 := cell_frame hI l1 hn1 c4; go_simp; exact hKv)
 intro Kd hKd
 go_simp
 refine hKd _ ?_
 clear hKd Kd
 apply anyI_step 1 rfl (by kernel_rfl)
 focus (intro wI hI Kv hKv; have t3 := cell_frame hI l1 hn1 c3; have t4 := cell_frame hI l1 hn1 c4; go_simp; exact hKv)
 intro Kd hKd
 go_simp
 refine hKd _ ?_
 clear hKd Kd
 apply anyI_step 3 rfl (by kernel_rfl)
 focus (intro wI hI Kv hKv; have t3 := cell_frame hI l1 hn1 c3; have t4 := cell_frame hI l1 hn1 c4; go_simp; exact hKv)
 intro Kd hKd
 go_simp
 refine hKd _ ?_
 clear hKd Kd
 apply anyI_step 4 rfl (by kernel_rfl)
 focus (intro wI hI Kv hKv; have t3 := cell_frame hI l1 hn1 c3; have t4 := cell_frame hI l1 hn1 c4; go_simp; exact hKv)
 intro Kd hKd
 go_simp
 refine hKd _ ?_
 clear hKd Kd
 refine anyI_one' 5 rfl (by kernel_rfl) ((Frame.refl _ _).drew) (fun Kd hKd => ?_)
 go_wp2
 have F1 := ((Frame.refl (fun b => b = w.heap.size + 1) W).setCell (p := ⟨w.heap.size + 1, 3, none⟩) (.inl rfl) (.int .i64 nu))
 apply anyI_step 6 rfl (by kernel_rfl)
 focus (intro wI hI Kv hKv; go_simp; exact hKv)
 intro Kd hKd
 go_simp
 refine hKd _ ?_
 clear hKd Kd
 refine anyI_one' 7 rfl (by kernel_rfl) (F1.drew) (fun Kd hKd => ?_)
 go_wp2
 have F2 := F1.setCell (p := ⟨w.heap.size + 1, 4, none⟩) (.inl rfl) (.string t)
 refine anyI_end (by kernel_rfl) (F2.drew) (hQd _ _ ?_)
 clear hQd Qd
 obtain ⟨W2, hW2⟩ : ∃ W2, ((W.setCell ⟨w.heap.size + 1, 3, none⟩ (.int .i64 nu)).setCell ⟨w.heap.size + 1, 4, none⟩ (.string t)).drew = W2 := ⟨_, rfl⟩
 rw [hW2]
 have HC1 : Hid (Blk W2 w.heap.size (.cells #[.int .i64 2, .int .i64 fr, .int .i64 to, .int .i64 nu, .string t, .int .i64 ac, .int .i64 he] 49)) := by rw [← hW2]; exact ((HB1.out.far (by exact hn1) _).far (by exact hn1) _).drew
 have HC3 : Hid (Blk W2 (w.heap.size + 1) (.cells #[.int .i64 2, .int .i64 fr, .int .i64 to, .int .i64 nu, .string t, .int .i64 0, .int .i64 0] 49)) := by rw [← hW2]; exact ((HB3.out.set 3 _).set 4 _).drew
 have HCW : Hid (Below w.heap.size w W2) := by rw [← hW2]; exact (((HBW.out).setCell (by simp) _).setCell (by simp) _).drew
 clear c3 c4 z3 z4 y3 y4 l1 l3 F1 F2 hW2
 go_wp2
 have c5 := HC1.out.cell 5 (v := .int .i64 ac) rfl
 have c6 := HC1.out.cell 6 (v := .int .i64 he) rfl
 have z5 := HC3.out.cell 5 (v := .int .i64 0) rfl
 have z6 := HC3.out.cell 6 (v := .int .i64 0) rfl
 have y5 := HC3.out.free 5
 have y6 := HC3.out.free 6
 have l1 := HC1.out.lt
 have l3 := HC3.out.lt
 refine draw (fun w' => Frame (fun b => b = w.heap.size + 1) W2 w') 8 rfl (by kernel_rfl) (fun Qd hQd => ?_)
 apply anyI_step 0 rfl (by kernel_rfl)
 focus (intro wI hI Kv hKv; have t5 := cell_frame hI l1 hn1 c5; have t6 := cell_frame hI l1 hn1 c6; go_simp; exact hKv)
 intro Kd hKd
 go_simp
 refine hKd _ ?_
 clear hKd Kd
 apply anyI_step 2 rfl (by kernel_rfl)
 focus (intro wI hI Kv hKv; have t5 := cell_frame hI l1 hn1 c5; have t6 := cell_frame hI l1 hn1 c6; go_simp; exact hKv)
 intro Kd hKd
 go_simp
 refine hKd _ ?_
 clear hKd Kd
 apply anyI_step 1 rfl (by kernel_rfl)
 focus (intro wI hI Kv hKv; have t5 := cell_frame hI l1 hn1 c5; have t6 := cell_frame hI l1 hn1 c6; go_simp; exact hKv)
 intro Kd hKd
 go_simp
 refine hKd _ ?_
 clear hKd Kd
 apply anyI_step 3 rfl (by kernel_rfl)
 focus (intro wI hI Kv hKv; have t5 := cell_frame hI l1 hn1 c5; have t6 := cell_frame hI l1 hn1 c6; go_simp; exact hKv)
 intro Kd hKd
 go_simp
 refine hKd _ ?_
 clear hKd Kd
 apply anyI_step 4 rfl (by kernel_rfl)
 focus (intro wI hI Kv hKv; have t5 := cell_frame hI l1 hn1 c5; have t6 := cell_frame hI l1 hn1 c6; go_simp; exact hKv)
 intro Kd hKd
 go_simp
 refine hKd _ ?_
 clear hKd Kd
 refine anyI_one' 5 rfl (by kernel_rfl) ((Frame.refl _ _).drew) (fun Kd hKd => ?_)
 go_wp2
 have F1 := ((Frame.refl (fun b => b = w.heap.size + 1) W2).setCell (p := ⟨w.heap.size + 1, 5, none⟩) (.inl rfl) (.int .i64 ac))
 apply anyI_step 6 rfl (by kernel_rfl)
 focus (intro wI hI Kv hKv; go_simp; exact hKv)
 intro Kd hKd
 go_simp
 refine hKd _ ?_
 clear hKd Kd
 refine anyI_one' 7 rfl (by kernel_rfl) (F1.drew) (fun Kd hKd => ?_)
 go_wp2
 have F2 := F1.setCell (p := ⟨w.heap.size + 1, 6, none⟩) (.inl rfl) (.int .i64 he)
 refine anyI_end (by kernel_rfl) (F2.drew) (hQd _ _ ?_)
 clear hQd Qd
 obtain ⟨V, hV⟩ : ∃ V, ((W2.setCell ⟨w.heap.size + 1, 5, none⟩ (.int .i64 ac)).setCell ⟨w.heap.size + 1, 6, none⟩ (.int .i64 he)).drew = V := ⟨_, rfl⟩
 rw [hV]
 have hb1 : Blk V w.heap.size (.cells #[.int .i64 2, .int .i64 fr, .int .i64 to, .int .i64 nu, .string t, .int .i64 ac, .int .i64 he] 49) := by rw [← hV]; exact ((HC1.out.far (by exact hn1) _).far (by exact hn1) _).drew
 have hb3 : Blk V (w.heap.size + 1) (.cells #[.int .i64 2, .int .i64 fr, .int .i64 to, .int .i64 nu, .string t, .int .i64 ac, .int .i64 he] 49) := by rw [← hV]; exact ((HC3.out.set 5 _).set 6 _).drew
 have HBE : Hid (Below w.heap.size w V) := by rw [← hV]; exact (((HCW.out).setCell (by simp) _).setCell (by simp) _).drew
 have a0 := hb1.cell 0 (v := .int .i64 2) rfl
 have a1 := hb1.cell 1 (v := .int .i64 fr) rfl
 have a2 := hb1.cell 2 (v := .int .i64 to) rfl
 have a3 := hb1.cell 3 (v := .int .i64 nu) rfl
 have a4 := hb1.cell 4 (v := .string t) rfl
 have a5 := hb1.cell 5 (v := .int .i64 ac) rfl
 have a6 := hb1.cell 6 (v := .int .i64 he) rfl
 have b0 := hb3.cell 0 (v := .int .i64 2) rfl
 have b1 := hb3.cell 1 (v := .int .i64 fr) rfl
 have b2 := hb3.cell 2 (v := .int .i64 to) rfl
 have b3 := hb3.cell 3 (v := .int .i64 nu) rfl
 have b4 := hb3.cell 4 (v := .string t) rfl
 have b5 := hb3.cell 5 (v := .int .i64 ac) rfl
 have b6 := hb3.cell 6 (v := .int .i64 he) rfl
 have k1 := hb1.lt
 have k3 := hb3.lt
 clear hV c5 c6 z5 z6 y5 y6 l1 l3 F1 F2 hb1 hb3
 by_cases g1 : 0 < to
 rotate_left
 ·have r1 : decide (0 < to) = false := decide_eq_false g1
  have HNP : Hid (properB ⟨2, fr, to, nu, t, ac, he⟩ = false) := not_proper fun hp => by
   have h := proper_iff.1 hp
   simp only at h
   omega
  go_wp2
  go_ret
  exact ⟨by rw [HNP.out]; rfl, HBE.out⟩
 by_cases g2 : 0 ≤ ac
 rotate_left
 ·have r2 : decide (0 ≤ ac) = false := decide_eq_false g2
  have HNP : Hid (properB ⟨2, fr, to, nu, t, ac, he⟩ = false) := not_proper fun hp => by
   have h := proper_iff.1 hp
   simp only at h
   omega
  go_wp2
  go_ret
  exact ⟨by rw [HNP.out]; rfl, HBE.out⟩
 by_cases g3 : ac ≤ 1000000000
 rotate_left
 ·have r3 : decide (ac ≤ 1000000000) = false := decide_eq_false g3
  have HNP : Hid (properB ⟨2, fr, to, nu, t, ac, he⟩ = false) := not_proper fun hp => by
   have h := proper_iff.1 hp
   simp only at h
   omega
  go_wp2
  go_ret
  exact ⟨by rw [HNP.out]; rfl, HBE.out⟩
 by_cases g4 : 0 ≤ he
 rotate_left
 ·have r4 : decide (0 ≤ he) = false := decide_eq_false g4
  have HNP : Hid (properB ⟨2, fr, to, nu, t, ac, he⟩ = false) := not_proper fun hp => by
   have h := proper_iff.1 hp
   simp only at h
   omega
  go_wp2
  go_ret
  exact ⟨by rw [HNP.out]; rfl, HBE.out⟩
 by_cases g5 : he < 8
 rotate_left
 ·have r5 : decide (he < 8) = false := decide_eq_false g5
  have HNP : Hid (properB ⟨2, fr, to, nu, t, ac, he⟩ = false) := not_proper fun hp => by
   have h := proper_iff.1 hp
   simp only at h
   omega
  go_wp2
  go_ret
  exact ⟨by rw [HNP.out]; rfl, HBE.out⟩
 have HNP : Hid (properB ⟨2, fr, to, nu, t, ac, he⟩ = true) := proper_iff.2 ⟨⟨h1, h2, h3, h4⟩, .inr (.inl ⟨rfl, g1, by show 0 ≤ nu; omega, by show nu < _; omega, by show t.size ≤ 20; omega, g2, g3, g4, by show he ≤ 7; omega⟩)⟩
 go_wp2
 go_ret
 exact ⟨by rw [HNP.out]; rfl, HBE.out⟩
theorem proper_any (p : Pk) (w : World) (hts : p.t.size ≤ 1000000) : Calls Tryd.prog 30 #[pkV p] w fun r w' => r = .returned (.bool (properB p)) ∧ Below w.heap.size w w' := by
 by_cases h : 1 ≤ p.frm ∧ p.frm ≤ 1000000000 ∧ 0 ≤ p.to ∧ p.to ≤ 1000000000
 ·obtain ⟨k, fr, to, nu, t, ac, he⟩ := p
  by_cases h1 : k = 1
  ·subst h1
   exact proper_1 fr to nu t ac he w h
  ·by_cases h2 : k = 2
   ·subst h2
    exact proper_2 fr to nu t ac he w h hts
   ·by_cases h3 : k = 3
    ·subst h3
     exact proper_3 fr to nu t ac he w h
    ·exact proper_head _ w (.inl (by simp only; omega))
 ·exact proper_head p w (.inr h)
end Go.Proofs.YtejabnoidhlfaaaDoor
