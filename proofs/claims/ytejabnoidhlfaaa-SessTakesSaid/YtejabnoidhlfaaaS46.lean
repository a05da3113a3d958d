/- Contracts: the reference's Start and Again. -/
import Derived.Test.YtejabnoidhlfaaaS45

/- Contracts of the reference: Start, Again; SameEnd. -/
namespace Go.Proofs.Ytejabnoidhlfaaa
open Go.RowKit Go.Maps

set_option maxRecDepth 100000 in
set_option maxHeartbeats 4000000 in
theorem rstart_any (life : Int) (w : World) : Calls Try.prog 11 #[.int .i64 life] w fun r w' => r = .returned (.tuple #[enV (startA life).1 none 0 none 0, .int .i64 (startA life).2]) ∧ Below w.heap.size w w' := by
  obtain ⟨b, hb⟩ : ∃ b, Hid ((decide (1 ≤ life) && decide (life ≤ 1000000000)) = b) := ⟨_, rfl⟩
  go_enter Try.func11, Try.ntmps11
  go_wp2_with fail
  refine (in_any life _ _ _).mono ?_
  rintro r w9 ⟨rfl, hw9⟩
  rw [hb.out]
  cases b with
  | false =>
    have HS : Hid (startA life = (noEn, 2)) := by
      show _ = _
      have h1 := hb.out
      simp only [Bool.and_eq_false_iff, decide_eq_false_iff_not] at h1
      unfold startA most
      rw [if_neg (by omega)]
    subst hw9
    go_wp2
    have hl := load26 (w := w.alloc (.cells (enB noEn none 0 none 0) 26)) (b := w.heap.size) (Blk.new w _)
    exact bodyPost_ret (v := .tuple #[enV noEn none 0 none 0, .int .i64 2]) (results_ct rfl rfl rfl hl) rfl ⟨by rw [HS.out], (Below.refl _ w).alloc (Nat.le_refl _) _⟩
  | true =>
    have HS : Hid (startA life = (⟨life, 0, 1, 0, [], 0, []⟩, 0)) := by
      show _ = _
      have h1 := hb.out
      simp only [Bool.and_eq_true, decide_eq_true_eq] at h1
      unfold startA most
      rw [if_pos (by omega)]
    subst hw9
    go_wp2
    have hl := load26 (w := w.alloc (.cells (enB ⟨life, 0, 1, 0, [], 0, []⟩ none 0 none 0) 26)) (b := w.heap.size) (Blk.new w _)
    exact bodyPost_ret (v := .tuple #[enV ⟨life, 0, 1, 0, [], 0, []⟩ none 0 none 0, .int .i64 0]) (results_ct rfl rfl rfl hl) rfl ⟨by rw [HS.out], (Below.refl _ w).alloc (Nat.le_refl _) _⟩
set_option maxRecDepth 100000 in
set_option maxHeartbeats 8000000 in
theorem ragain_any (e : En) (A : Option Addr) (c : Nat) (D : Option Addr) (d : Nat) (w : World) (h : EnAt w e A D) (hwf : Wf e) :
    Calls Try.prog 13 #[enV e A c D d] w fun r w' => r = .returned (.tuple #[enV (againA e).1 none 0 none 0, .int .i64 (againA e).2]) ∧ Below w.heap.size w w' := by
  have HE := Lib.hid h
  have HWF := Lib.hid hwf
  clear hwf
  unfold enV
  go_enter Try.func13, Try.ntmps13
  obtain ⟨W, hW⟩ : ∃ W, (w.alloc (.cells #[.int .i64 e.life, .int .i64 e.peer, .int .i64 e.phase, .int .i64 e.base, .slice A e.out.length c, .int .i64 e.want, .slice D e.inn.length d] 26)).alloc (.cells #[.int .i64 0, .int .i64 0, .int .i64 0, .int .i64 0, .slice none 0 0, .int .i64 0, .slice none 0 0] 26) = W := ⟨_, rfl⟩
  have HB0 : Hid (Below w.heap.size w W) := by rw [← hW]; exact (((Below.refl _ w).alloc (Nat.le_refl _) _).alloc (by simp) _)
  have hsW : W.heap.size = w.heap.size + 2 := by rw [← hW]; simp
  have HK1 : Hid (Blk W w.heap.size (.cells (enB e A c D d) 26)) := by rw [← hW]; exact (Blk.new _ _).alloc _
  have HK2 : Hid (Blk W (w.heap.size + 1) (.cells (enB noEn none 0 none 0) 26)) := by
    rw [← hW]
    have e1 := Blk.new (w.alloc (.cells #[.int .i64 e.life, .int .i64 e.peer, .int .i64 e.phase, .int .i64 e.base, .slice A e.out.length c, .int .i64 e.want, .slice D e.inn.length d] 26)) (.cells #[.int .i64 0, .int .i64 0, .int .i64 0, .int .i64 0, .slice none 0 0, .int .i64 0, .slice none 0 0] 26)
    rw [World.size_alloc] at e1
    exact e1
  have q9 := HK1.out
  have x0 := q9.cell 0 (v := .int .i64 e.life) rfl
  have x1 := q9.cell 1 (v := .int .i64 e.peer) rfl
  have x2 := q9.cell 2 (v := .int .i64 e.phase) rfl
  have x3 := q9.cell 3 (v := .int .i64 e.base) rfl
  have x4 := q9.cell 4 (v := .slice A e.out.length c) rfl
  have x5 := q9.cell 5 (v := .int .i64 e.want) rfl
  have x6 := q9.cell 6 (v := .slice D e.inn.length d) rfl
  have xl := q9.lt
  clear q9
  go_wp2_with fail
  clear hW x0 x1 x2 x3 x4 x5 x6 xl
  refine (good_any e A c D d W (HE.out.below HB0.out) HWF.out).mono ?_
  rintro r w1 ⟨rfl, hB1⟩
  have HBZ := Lib.hid hB1
  clear hB1
  obtain ⟨bg, hbg⟩ : ∃ b, Hid (goodB e = b) := ⟨_, rfl⟩
  rw [hbg.out]
  cases bg with
  | false =>
    have HAG : Hid (againA e = (noEn, 2)) := by show _ = _; unfold againA; rw [if_pos hbg.out]
    have h2z := HK2.out.below HBZ.out (by omega)
    have H2Z := Lib.hid h2z
    have z0 := h2z.cell 0 (v := .int .i64 0) rfl
    have z1 := h2z.cell 1 (v := .int .i64 0) rfl
    have z2 := h2z.cell 2 (v := .int .i64 0) rfl
    have z3 := h2z.cell 3 (v := .int .i64 0) rfl
    have z4 := h2z.cell 4 (v := .slice none 0 0) rfl
    have z5 := h2z.cell 5 (v := .int .i64 0) rfl
    have z6 := h2z.cell 6 (v := .slice none 0 0) rfl
    have y0 := h2z.free 0
    have y1 := h2z.free 1
    have y2 := h2z.free 2
    have y3 := h2z.free 3
    have y4 := h2z.free 4
    have y5 := h2z.free 5
    have y6 := h2z.free 6
    have yl := h2z.lt
    clear h2z
    go_wp2
    have q1 := setEn_blk (e := noEn) (A := none) (c := 0) (B := none) (d := 0) H2Z.out
    have q9 := setEn_below (e := noEn) (A := none) (c := 0) (B := none) (d := 0) (HB0.out.trans (HBZ.out.mono (by omega))) (show w.heap.size ≤ w.heap.size + 1 by omega)
    have hl1 := load26 q1
    refine bodyPost_ret (v := .tuple #[enV noEn none 0 none 0, .int .i64 2]) (results_ct rfl rfl rfl hl1) rfl ⟨by rw [HAG.out]; rfl, ?_⟩
    exact q9
  | true =>
    have h1 := HK1.out.below HBZ.out (by omega)
    have x0 := h1.cell 0 (v := .int .i64 e.life) rfl
    have xl := h1.lt
    clear h1
    by_cases hm : e.life = 1000000000
    · have q1 : (e.life == 1000000000) = true := beq_iff_eq.2 hm
      have HAG : Hid (againA e = (noEn, 3)) := by show _ = _; unfold againA most; rw [if_neg (by rw [hbg.out]; decide), if_pos hm]
      clear hm
      have h2z := HK2.out.below HBZ.out (by omega)
      have H2Z := Lib.hid h2z
      have z0 := h2z.cell 0 (v := .int .i64 0) rfl
      have z1 := h2z.cell 1 (v := .int .i64 0) rfl
      have z2 := h2z.cell 2 (v := .int .i64 0) rfl
      have z3 := h2z.cell 3 (v := .int .i64 0) rfl
      have z4 := h2z.cell 4 (v := .slice none 0 0) rfl
      have z5 := h2z.cell 5 (v := .int .i64 0) rfl
      have z6 := h2z.cell 6 (v := .slice none 0 0) rfl
      have y0 := h2z.free 0
      have y1 := h2z.free 1
      have y2 := h2z.free 2
      have y3 := h2z.free 3
      have y4 := h2z.free 4
      have y5 := h2z.free 5
      have y6 := h2z.free 6
      have yl := h2z.lt
      clear h2z
      go_wp2
      have q1 := setEn_blk (e := noEn) (A := none) (c := 0) (B := none) (d := 0) H2Z.out
      have q9 := setEn_below (e := noEn) (A := none) (c := 0) (B := none) (d := 0) (HB0.out.trans (HBZ.out.mono (by omega))) (show w.heap.size ≤ w.heap.size + 1 by omega)
      have hl1 := load26 q1
      refine bodyPost_ret (v := .tuple #[enV noEn none 0 none 0, .int .i64 3]) (results_ct rfl rfl rfl hl1) rfl ⟨by rw [HAG.out]; rfl, ?_⟩
      exact q9
    · have q1 : (e.life == 1000000000) = false := beq_eq_false_iff_ne.2 hm
      have HAG0 : Hid (againA e = startA (e.life + 1)) := by show _ = _; unfold againA most; rw [if_neg (by rw [hbg.out]; decide), if_neg hm]
      have hlf := (good_iff.1 hbg.out).life
      unfold most at hlf
      have hw1 : IntKind.i64.wrap (e.life + 1) = e.life + 1 := wrap_ok ⟨by omega, by omega⟩
      clear hm
      go_wp2_with fail
      refine (rstart_any (e.life + 1) w1).mono ?_
      rintro r w2 ⟨rfl, hB2⟩
      have HBZ2 : Hid (Below W.heap.size W w2) := below_in HBZ.out hB2
      clear HBZ x0 xl hB2 q1 hw1
      have HBZ := HBZ2
      clear HBZ2
      obtain ⟨S, HS⟩ : ∃ S, Hid (startA (e.life + 1) = S) := ⟨_, rfl⟩
      have HAG : Hid (againA e = (S.1, S.2)) := by show _ = _; rw [HAG0.out, HS.out]
      rw [HS.out]
      unfold enV
      have h2z := HK2.out.below HBZ.out (by omega)
      have H2Z := Lib.hid h2z
      have z0 := h2z.cell 0 (v := .int .i64 0) rfl
      have z1 := h2z.cell 1 (v := .int .i64 0) rfl
      have z2 := h2z.cell 2 (v := .int .i64 0) rfl
      have z3 := h2z.cell 3 (v := .int .i64 0) rfl
      have z4 := h2z.cell 4 (v := .slice none 0 0) rfl
      have z5 := h2z.cell 5 (v := .int .i64 0) rfl
      have z6 := h2z.cell 6 (v := .slice none 0 0) rfl
      have y0 := h2z.free 0
      have y1 := h2z.free 1
      have y2 := h2z.free 2
      have y3 := h2z.free 3
      have y4 := h2z.free 4
      have y5 := h2z.free 5
      have y6 := h2z.free 6
      have yl := h2z.lt
      clear h2z
      go_wp2
      have q1 := setEn_blk (e := S.1) (A := none) (c := 0) (B := none) (d := 0) H2Z.out
      have q9 := setEn_below (e := S.1) (A := none) (c := 0) (B := none) (d := 0) (HB0.out.trans (HBZ.out.mono (by omega))) (show w.heap.size ≤ w.heap.size + 1 by omega)
      have hl1 := load26 q1
      refine bodyPost_ret (v := .tuple #[enV S.1 none 0 none 0, .int .i64 S.2]) (results_ct rfl rfl rfl hl1) rfl ⟨by rw [HAG.out]; rfl, ?_⟩
      exact q9
/-! ### equality of ends -/
theorem stood71 : Try.prog.stoodInHeld 71 = false := by kernel_rfl
theorem stood73 : Try.prog.stoodInHeld 73 = false := by kernel_rfl
set_option maxRecDepth 100000 in
theorem neq71 (p q : Ou) (w : World) : (binOp .neq 71 (.agg #[.string p.t, .bool p.h]) (.agg #[.string q.t, .bool q.h])).run Try.prog w = .ok (.bool (!decide (p = q))) w := by
  have hst := stood71
  obtain ⟨a0, a1⟩ := p
  obtain ⟨b0, b1⟩ := q
  by_cases e0 : a0 = b0
  · by_cases e1 : a1 = b1
    · subst e0 e1
      go_simp
    · go_simp
  · have e0' : ¬ a0.toList = b0.toList := fun h => e0 (toList_inj h)
    go_simp
set_option maxRecDepth 100000 in
theorem neq73 (p q : Im) (w : World) : (binOp .neq 73 (.agg #[.int .i64 p.n, .string p.t]) (.agg #[.int .i64 q.n, .string q.t])).run Try.prog w = .ok (.bool (!decide (p = q))) w := by
  have hst := stood73
  obtain ⟨a0, a1⟩ := p
  obtain ⟨b0, b1⟩ := q
  by_cases e0 : a0 = b0
  · by_cases e1 : a1 = b1
    · subst e0 e1
      go_simp
    · have e1' : ¬ a1.toList = b1.toList := fun h => e1 (toList_inj h)
      go_simp
  · go_simp
end Go.Proofs.Ytejabnoidhlfaaa
