/- Contract: Again. -/
import Derived.Test.YtejabnoidhlfaaaDoorS22

/- Contract: Again. -/
namespace Go.Proofs.YtejabnoidhlfaaaDoor
open Go.RowKit Go.Maps

set_option maxRecDepth 100000 in
set_option maxHeartbeats 8000000 in
theorem again_any (e : En) (A : Option Addr) (c : Nat) (Bi : Option Addr) (d : Nat) (w : World) (h : EnAt w e A Bi) :
  Calls Tryd.prog 57 #[enV e A c Bi d] w fun r w' => r = .returned (.tuple #[enV (againA e).1 none 0 none 0, .int .i64 (againA e).2]) ∧ Below w.heap.size w w' := by
 have HE := Lib.hid h
 unfold enV
 go_enter Tryd.func57, Tryd.ntmps57
 go_wp2_with fail
 obtain ⟨W, hW⟩ : ∃ W, (w.alloc (.cells #[.int .i64 e.life, .int .i64 e.peer, .int .i64 e.phase, .int .i64 e.base, .slice A e.out.length c, .int .i64 e.want, .slice Bi e.inn.length d] 38)).alloc (.cells #[.int .i64 0, .int .i64 0, .int .i64 0, .int .i64 0, .slice none 0 0, .int .i64 0, .slice none 0 0] 38) = W := ⟨_, rfl⟩
 rw [hW]
 have HB0 : Hid (Below w.heap.size w W) := by rw [← hW]; exact (((Below.refl _ w).alloc (Nat.le_refl _) _).alloc (by simp) _)
 have hsW : W.heap.size = w.heap.size + 2 := by rw [← hW]; simp
 have HK1 : Hid (Blk W w.heap.size (.cells (enB e A c Bi d) 38)) := by rw [← hW]; exact (Blk.new _ _).alloc _
 have HK2 : Hid (Blk W (w.heap.size + 1) (.cells (enB noEn none 0 none 0) 38)) := by
  rw [← hW]
  have e1 := Blk.new (w.alloc (.cells #[.int .i64 e.life, .int .i64 e.peer, .int .i64 e.phase, .int .i64 e.base, .slice A e.out.length c, .int .i64 e.want, .slice Bi e.inn.length d] 38)) (.cells #[.int .i64 0, .int .i64 0, .int .i64 0, .int .i64 0, .slice none 0 0, .int .i64 0, .slice none 0 0] 38)
  rw [World.size_alloc] at e1
  exact e1
 clear hW
 refine (fine_any e A c Bi d W (HE.out.below HB0.out)).mono ?_
 rintro r w1 ⟨rfl, hB1⟩
 have HBZ := Lib.hid hB1
 clear hB1
 obtain ⟨bg, hbg⟩ : ∃ b, Hid (goodB e = b) := ⟨_, rfl⟩
 rw [hbg.out]
 cases bg with
 | false =>
  have HAG : Hid (againA e = (noEn, 2)) := by show _ = _; unfold againA; rw [if_pos hbg.out]
  have h2z := HK2.out.below HBZ.out (by omega)
  have H2Z := Lib.hid h2z
  have z0 := h2z.cell 0 (v := .int .i64 0) rfl
  have z1 := h2z.cell 1 (v := .int .i64 0) rfl
  have z2 := h2z.cell 2 (v := .int .i64 0) rfl
  have z3 := h2z.cell 3 (v := .int .i64 0) rfl
  have z4 := h2z.cell 4 (v := .slice none 0 0) rfl
  have z5 := h2z.cell 5 (v := .int .i64 0) rfl
  have z6 := h2z.cell 6 (v := .slice none 0 0) rfl
  have y0 := h2z.free 0
  have y1 := h2z.free 1
  have y2 := h2z.free 2
  have y3 := h2z.free 3
  have y4 := h2z.free 4
  have y5 := h2z.free 5
  have y6 := h2z.free 6
  have yl := h2z.lt
  clear h2z
  go_wp2
  have q1 := setEn_blk (e := noEn) (A := none) (c := 0) (B := none) (d := 0) H2Z.out
  have q9 := setEn_below (e := noEn) (A := none) (c := 0) (B := none) (d := 0) (HB0.out.trans (HBZ.out.mono (by omega))) (show w.heap.size ≤ w.heap.size + 1 by omega)
  have hl1 := load26 q1
  refine bodyPost_ret (v := .tuple #[enV noEn none 0 none 0, .int .i64 2]) (results_ct rfl rfl rfl hl1) rfl ⟨by rw [HAG.out]; rfl, ?_⟩
  exact q9
 | true =>
  have h1 := HK1.out.below HBZ.out (by omega)
  have x0 := h1.cell 0 (v := .int .i64 e.life) rfl
  have xl := h1.lt
  clear h1
  by_cases hm : e.life = 1000000000
  ·have q1 : (e.life == 1000000000) = true := beq_iff_eq.2 hm
   have HAG : Hid (againA e = (noEn, 3)) := by show _ = _; unfold againA most; rw [if_neg (by rw [hbg.out]; decide), if_pos hm]
   clear hm
   have h2z := HK2.out.below HBZ.out (by omega)
   have H2Z := Lib.hid h2z
   have z0 := h2z.cell 0 (v := .int .i64 0) rfl
   have z1 := h2z.cell 1 (v := .int .i64 0) rfl
   have z2 := h2z.cell 2 (v := .int .i64 0) rfl
   have z3 := h2z.cell 3 (v := .int .i64 0) rfl
   have z4 := h2z.cell 4 (v := .slice none 0 0) rfl
   have z5 := h2z.cell 5 (v := .int .i64 0) rfl
   have z6 := h2z.cell 6 (v := .slice none 0 0) rfl
   have y0 := h2z.free 0
   have y1 := h2z.free 1
   have y2 := h2z.free 2
   have y3 := h2z.free 3
   have y4 := h2z.free 4
   have y5 := h2z.free 5
   have y6 := h2z.free 6
   have yl := h2z.lt
   clear h2z
   go_wp2
   have q1 := setEn_blk (e := noEn) (A := none) (c := 0) (B := none) (d := 0) H2Z.out
   have q9 := setEn_below (e := noEn) (A := none) (c := 0) (B := none) (d := 0) (HB0.out.trans (HBZ.out.mono (by omega))) (show w.heap.size ≤ w.heap.size + 1 by omega)
   have hl1 := load26 q1
   refine bodyPost_ret (v := .tuple #[enV noEn none 0 none 0, .int .i64 3]) (results_ct rfl rfl rfl hl1) rfl ⟨by rw [HAG.out]; rfl, ?_⟩
   exact q9
  ·have q1 : (e.life == 1000000000) = false := beq_eq_false_iff_ne.2 hm
   have HAG0 : Hid (againA e = startA (e.life + 1)) := by show _ = _; unfold againA most; rw [if_neg (by rw [hbg.out]; decide), if_neg hm]
   have hlf := (good_iff.1 hbg.out).life
   unfold most at hlf
   have hw1 : IntKind.i64.wrap (e.life + 1) = e.life + 1 := wrap_ok ⟨by omega, by omega⟩
   clear hm
   go_wp2_with fail
   refine (start_any (e.life + 1) w1).mono ?_
   rintro r w2 ⟨rfl, hB2⟩
   have HBZ2 : Hid (Below W.heap.size W w2) := below_in HBZ.out hB2
   clear HBZ x0 xl hB2 q1 hw1
   have HBZ := HBZ2
   clear HBZ2
   obtain ⟨S, HS⟩ : ∃ S, Hid (startA (e.life + 1) = S) := ⟨_, rfl⟩
   have HNO : Hid (S.1.out = [] ∧ S.1.inn = []) := by
    show _ ∧ _
    rw [← HS.out]
    unfold startA
    split <;> exact ⟨rfl, rfl⟩
   have HAG : Hid (againA e = (S.1, S.2)) := by show _ = _; rw [HAG0.out, HS.out]
   rw [HS.out]
   unfold enV
   have h2z := HK2.out.below HBZ.out (by omega)
   have H2Z := Lib.hid h2z
   have z0 := h2z.cell 0 (v := .int .i64 0) rfl
   have z1 := h2z.cell 1 (v := .int .i64 0) rfl
   have z2 := h2z.cell 2 (v := .int .i64 0) rfl
   have z3 := h2z.cell 3 (v := .int .i64 0) rfl
   have z4 := h2z.cell 4 (v := .slice none 0 0) rfl
   have z5 := h2z.cell 5 (v := .int .i64 0) rfl
   have z6 := h2z.cell 6 (v := .slice none 0 0) rfl
   have y0 := h2z.free 0
   have y1 := h2z.free 1
   have y2 := h2z.free 2
   have y3 := h2z.free 3
   have y4 := h2z.free 4
   have y5 := h2z.free 5
   have y6 := h2z.free 6
   have yl := h2z.lt
   clear h2z
   go_wp2
   have q1 := setEn_blk (e := S.1) (A := none) (c := 0) (B := none) (d := 0) H2Z.out
   have q9 := setEn_below (e := S.1) (A := none) (c := 0) (B := none) (d := 0) (HB0.out.trans (HBZ.out.mono (by omega))) (show w.heap.size ≤ w.heap.size + 1 by omega)
   have hl1 := load26 q1
   refine bodyPost_ret (v := .tuple #[enV S.1 none 0 none 0, .int .i64 (S.2)]) (results_ct rfl rfl rfl hl1) rfl ⟨by rw [HAG.out]; rfl, ?_⟩
   exact q9
end Go.Proofs.YtejabnoidhlfaaaDoor
