/- Contract of the reference: Send. -/
import Derived.Test.YtejabnoidhlfaaaS51
import Derived.Test.YtejabnoidhlfaaaS24

/- Contract of the reference: Send. -/
namespace Go.Proofs.Ytejabnoidhlfaaa
open Go.RowKit Go.Maps

def RSendPost (e : En) (t : ByteArray) (w : World) (r : Ending) (w' : World) : Prop := ∃ A c D d P cp, r = .returned (.tuple #[enV (sendA e t).1 A c D d, .slice P (sendA e t).2.1.length cp, .int .i64 (sendA e t).2.2]) ∧ EnAt w' (sendA e t).1 A D ∧ Cells w' P (pks (sendA e t).2.1) ∧ Below w.heap.size w w'
theorem fromA_send (e : En) (x : Ou) : fromA { e with out := e.out ++ [x] } (flyN e) = if flyN { e with out := e.out ++ [x] } = e.out.length + 1 then [dataA { e with out := e.out ++ [x] } e.out.length] else [] := by
  unfold fromA
  by_cases hp : e.phase = 3
  · have h1 : flyN e = min e.out.length 4 := by unfold flyN; rw [if_pos hp]
    have h2 : flyN { e with out := e.out ++ [x] } = min (e.out.length + 1) 4 := by unfold flyN; rw [if_pos hp]; simp
    rw [h1, h2]
    by_cases h4 : e.out.length + 1 ≤ 4
    · rw [if_pos (by omega), show min (e.out.length + 1) 4 = e.out.length + 1 by omega, show min e.out.length 4 = e.out.length by omega, List.range_succ, List.drop_left' (by simp)]
      rfl
    · rw [if_neg (by omega), show min (e.out.length + 1) 4 = 4 by omega, show min e.out.length 4 = 4 by omega]
      rfl
  · have h2 : flyN { e with out := e.out ++ [x] } = 0 := by unfold flyN; rw [if_neg hp]
    rw [h2, if_neg (by omega)]
    simp
set_option maxRecDepth 100000 in
set_option maxHeartbeats 8000000 in
theorem rsend_any (e : En) (A : Option Addr) (c : Nat) (D : Option Addr) (d : Nat) (t : ByteArray) (w : World) (h : EnAt w e A D) (hwf : Wf e) (hA : A = none → e.out.length = 0 ∧ c = 0) (hD : D = none → e.inn.length = 0 ∧ d = 0) :
    Calls Try.prog 16 #[enV e A c D d, .string t] w (RSendPost e t w) := by
  have HE := Lib.hid h
  have HWF := Lib.hid hwf
  clear h hwf
  unfold enV
  go_enter Try.func16, Try.ntmps16
  obtain ⟨W, hW⟩ : ∃ W, (w.alloc (.cells #[.int .i64 e.life, .int .i64 e.peer, .int .i64 e.phase, .int .i64 e.base, .slice A e.out.length c, .int .i64 e.want, .slice D e.inn.length d] 26)).alloc (.cells #[.int .i64 0, .int .i64 0, .int .i64 0, .int .i64 0, .slice none 0 0, .int .i64 0, .slice none 0 0] 26) = W := ⟨_, rfl⟩
  have HB0 : Hid (Below w.heap.size w W) := by rw [← hW]; exact (((Below.refl _ w).alloc (Nat.le_refl _) _).alloc (by simp) _)
  have hsW : W.heap.size = w.heap.size + 2 := by rw [← hW]; simp
  have HK1 : Hid (Blk W w.heap.size (.cells (enB e A c D d) 26)) := by rw [← hW]; exact (Blk.new _ _).alloc _
  have HK2 : Hid (Blk W (w.heap.size + 1) (.cells (enB noEn none 0 none 0) 26)) := by
    rw [← hW]
    have e1 := Blk.new (w.alloc (.cells #[.int .i64 e.life, .int .i64 e.peer, .int .i64 e.phase, .int .i64 e.base, .slice A e.out.length c, .int .i64 e.want, .slice D e.inn.length d] 26)) (.cells #[.int .i64 0, .int .i64 0, .int .i64 0, .int .i64 0, .slice none 0 0, .int .i64 0, .slice none 0 0] 26)
    rw [World.size_alloc] at e1
    exact e1
  have q9 := HK1.out
  have x0 := q9.cell 0 (v := .int .i64 e.life) rfl
  have x1 := q9.cell 1 (v := .int .i64 e.peer) rfl
  have x2 := q9.cell 2 (v := .int .i64 e.phase) rfl
  have x3 := q9.cell 3 (v := .int .i64 e.base) rfl
  have x4 := q9.cell 4 (v := .slice A e.out.length c) rfl
  have x5 := q9.cell 5 (v := .int .i64 e.want) rfl
  have x6 := q9.cell 6 (v := .slice D e.inn.length d) rfl
  have xl := q9.lt
  clear q9
  go_wp2_with fail
  clear hW x0 x1 x2 x3 x4 x5 x6 xl
  refine (good_any e A c D d W (HE.out.below HB0.out) HWF.out).mono ?_
  rintro r w1 ⟨rfl, hB1⟩
  have HBZ := Lib.hid hB1
  clear hB1
  obtain ⟨bg, hbg⟩ : ∃ b, Hid (goodB e = b) := ⟨_, rfl⟩
  rw [hbg.out]
  cases bg with
  | false =>
    have HAG : Hid (sendA e t = (noEn, [], 2)) := by show _ = _; unfold sendA; rw [if_pos hbg.out]
    have h2z := HK2.out.below HBZ.out (by omega)
    have H2Z := Lib.hid h2z
    have z0 := h2z.cell 0 (v := .int .i64 0) rfl
    have z1 := h2z.cell 1 (v := .int .i64 0) rfl
    have z2 := h2z.cell 2 (v := .int .i64 0) rfl
    have z3 := h2z.cell 3 (v := .int .i64 0) rfl
    have z4 := h2z.cell 4 (v := .slice none 0 0) rfl
    have z5 := h2z.cell 5 (v := .int .i64 0) rfl
    have z6 := h2z.cell 6 (v := .slice none 0 0) rfl
    have y0 := h2z.free 0
    have y1 := h2z.free 1
    have y2 := h2z.free 2
    have y3 := h2z.free 3
    have y4 := h2z.free 4
    have y5 := h2z.free 5
    have y6 := h2z.free 6
    have yl := h2z.lt
    clear h2z
    go_wp2
    have q1 := setEn_blk (e := noEn) (A := none) (c := 0) (B := none) (d := 0) H2Z.out
    have q9 := setEn_below (e := noEn) (A := none) (c := 0) (B := none) (d := 0) (HB0.out.trans (HBZ.out.mono (by omega))) (show w.heap.size ≤ w.heap.size + 1 by omega)
    have hl1 := load26 q1
    refine bodyPost_ret (v := .tuple #[enV noEn none 0 none 0, .slice none 0 0, .int .i64 2]) (results_ctt rfl rfl rfl rfl hl1) rfl ?_
    exact ⟨none, 0, none, 0, none, 0, by rw [HAG.out]; rfl, by rw [HAG.out]; exact enAt_noEn _, by rw [HAG.out]; exact Cells.nil _ _, q9⟩
  | true =>
    have HG : Hid (GoodP e) := good_iff.1 hbg.out
    have h1 := HK1.out.below HBZ.out (by omega)
    have HK1z := Lib.hid h1
    clear h1
    have q9 := HK1z.out
    have x0 := q9.cell 0 (v := .int .i64 e.life) rfl
    have x1 := q9.cell 1 (v := .int .i64 e.peer) rfl
    have x2 := q9.cell 2 (v := .int .i64 e.phase) rfl
    have x3 := q9.cell 3 (v := .int .i64 e.base) rfl
    have x4 := q9.cell 4 (v := .slice A e.out.length c) rfl
    have x5 := q9.cell 5 (v := .int .i64 e.want) rfl
    have x6 := q9.cell 6 (v := .slice D e.inn.length d) rfl
    have xl := q9.lt
    clear q9
    by_cases a1 : (20 : Int) < (t.size : Int)
    · have HAG : Hid (sendA e t = (noEn, [], 3)) := by show _ = _; unfold sendA; rw [if_neg (by rw [hbg.out]; decide), if_pos (.inl (by omega))]
      have h2z := HK2.out.below HBZ.out (by omega)
      have H2Z := Lib.hid h2z
      have z0 := h2z.cell 0 (v := .int .i64 0) rfl
      have z1 := h2z.cell 1 (v := .int .i64 0) rfl
      have z2 := h2z.cell 2 (v := .int .i64 0) rfl
      have z3 := h2z.cell 3 (v := .int .i64 0) rfl
      have z4 := h2z.cell 4 (v := .slice none 0 0) rfl
      have z5 := h2z.cell 5 (v := .int .i64 0) rfl
      have z6 := h2z.cell 6 (v := .slice none 0 0) rfl
      have y0 := h2z.free 0
      have y1 := h2z.free 1
      have y2 := h2z.free 2
      have y3 := h2z.free 3
      have y4 := h2z.free 4
      have y5 := h2z.free 5
      have y6 := h2z.free 6
      have yl := h2z.lt
      clear h2z
      go_wp2
      have q1 := setEn_blk (e := noEn) (A := none) (c := 0) (B := none) (d := 0) H2Z.out
      have q9 := setEn_below (e := noEn) (A := none) (c := 0) (B := none) (d := 0) (HB0.out.trans (HBZ.out.mono (by omega))) (show w.heap.size ≤ w.heap.size + 1 by omega)
      have hl1 := load26 q1
      refine bodyPost_ret (v := .tuple #[enV noEn none 0 none 0, .slice none 0 0, .int .i64 3]) (results_ctt rfl rfl rfl rfl hl1) rfl ?_
      exact ⟨none, 0, none, 0, none, 0, by rw [HAG.out]; rfl, by rw [HAG.out]; exact enAt_noEn _, by rw [HAG.out]; exact Cells.nil _ _, q9⟩
    have p1 : decide ((20 : Int) < (t.size : Int)) = false := decide_eq_false a1
    by_cases a2 : (e.out.length : Int) = 12
    · have HAG : Hid (sendA e t = (noEn, [], 3)) := by show _ = _; unfold sendA; rw [if_neg (by rw [hbg.out]; decide), if_pos (.inr (.inl (by omega)))]
      have p2 : ((e.out.length : Int) == 12) = true := beq_iff_eq.2 a2
      clear a2
      have h2z := HK2.out.below HBZ.out (by omega)
      have H2Z := Lib.hid h2z
      have z0 := h2z.cell 0 (v := .int .i64 0) rfl
      have z1 := h2z.cell 1 (v := .int .i64 0) rfl
      have z2 := h2z.cell 2 (v := .int .i64 0) rfl
      have z3 := h2z.cell 3 (v := .int .i64 0) rfl
      have z4 := h2z.cell 4 (v := .slice none 0 0) rfl
      have z5 := h2z.cell 5 (v := .int .i64 0) rfl
      have z6 := h2z.cell 6 (v := .slice none 0 0) rfl
      have y0 := h2z.free 0
      have y1 := h2z.free 1
      have y2 := h2z.free 2
      have y3 := h2z.free 3
      have y4 := h2z.free 4
      have y5 := h2z.free 5
      have y6 := h2z.free 6
      have yl := h2z.lt
      clear h2z
      go_wp2
      have q1 := setEn_blk (e := noEn) (A := none) (c := 0) (B := none) (d := 0) H2Z.out
      have q9 := setEn_below (e := noEn) (A := none) (c := 0) (B := none) (d := 0) (HB0.out.trans (HBZ.out.mono (by omega))) (show w.heap.size ≤ w.heap.size + 1 by omega)
      have hl1 := load26 q1
      refine bodyPost_ret (v := .tuple #[enV noEn none 0 none 0, .slice none 0 0, .int .i64 3]) (results_ctt rfl rfl rfl rfl hl1) rfl ?_
      exact ⟨none, 0, none, 0, none, 0, by rw [HAG.out]; rfl, by rw [HAG.out]; exact enAt_noEn _, by rw [HAG.out]; exact Cells.nil _ _, q9⟩
    have p2 : ((e.out.length : Int) == 12) = false := beq_eq_false_iff_ne.2 a2
    have hbl : 0 ≤ e.base := HG.out.base
    have hrm : e.base + e.out.length ≤ 1000000000 := HG.out.room
    have hw1 : IntKind.i64.wrap (e.base + (e.out.length : Int)) = e.base + (e.out.length : Int) := wrap_ok ⟨by omega, by omega⟩
    by_cases a3 : e.base + (e.out.length : Int) = 1000000000
    · have HAG : Hid (sendA e t = (noEn, [], 3)) := by show _ = _; unfold sendA; rw [if_neg (by rw [hbg.out]; decide), if_pos (.inr (.inr a3))]
      have p3 : (e.base + (e.out.length : Int) == 1000000000) = true := beq_iff_eq.2 a3
      clear a3
      have h2z := HK2.out.below HBZ.out (by omega)
      have H2Z := Lib.hid h2z
      have z0 := h2z.cell 0 (v := .int .i64 0) rfl
      have z1 := h2z.cell 1 (v := .int .i64 0) rfl
      have z2 := h2z.cell 2 (v := .int .i64 0) rfl
      have z3 := h2z.cell 3 (v := .int .i64 0) rfl
      have z4 := h2z.cell 4 (v := .slice none 0 0) rfl
      have z5 := h2z.cell 5 (v := .int .i64 0) rfl
      have z6 := h2z.cell 6 (v := .slice none 0 0) rfl
      have y0 := h2z.free 0
      have y1 := h2z.free 1
      have y2 := h2z.free 2
      have y3 := h2z.free 3
      have y4 := h2z.free 4
      have y5 := h2z.free 5
      have y6 := h2z.free 6
      have yl := h2z.lt
      clear h2z
      go_wp2
      have q1 := setEn_blk (e := noEn) (A := none) (c := 0) (B := none) (d := 0) H2Z.out
      have q9 := setEn_below (e := noEn) (A := none) (c := 0) (B := none) (d := 0) (HB0.out.trans (HBZ.out.mono (by omega))) (show w.heap.size ≤ w.heap.size + 1 by omega)
      have hl1 := load26 q1
      refine bodyPost_ret (v := .tuple #[enV noEn none 0 none 0, .slice none 0 0, .int .i64 3]) (results_ctt rfl rfl rfl rfl hl1) rfl ?_
      exact ⟨none, 0, none, 0, none, 0, by rw [HAG.out]; rfl, by rw [HAG.out]; exact enAt_noEn _, by rw [HAG.out]; exact Cells.nil _ _, q9⟩
    have p3 : (e.base + (e.out.length : Int) == 1000000000) = false := beq_eq_false_iff_ne.2 a3
    have HAG : Hid (sendA e t = ({ e with out := e.out ++ [⟨t, false⟩] }, fromA { e with out := e.out ++ [⟨t, false⟩] } (flyN e), 0)) := by show _ = _; unfold sendA; rw [if_neg (by rw [hbg.out]; decide), if_neg (fun h0 => by rcases h0 with h0 | h0 | h0; omega; omega; exact a3 h0)]
    have hlen : e.out.length ≤ 11 := by have := HG.out.len; omega
    have hilen := HG.out.ins_len
    clear a2 a3
    go_wp2_with fail
    refine (twin_any e A c D d w1 (HE.out.below (HB0.out.trans (HBZ.out.mono (by omega)))) hA hD (by omega) (by omega)).mono ?_
    rintro r w2 ⟨A1, c1, D1, d1, rfl, hr1, hr2, hB2⟩
    clear x0 x1 x2 x3 x4 x5 x6 xl p1 p2 p3 hw1
    have HBZ2 : Hid (Below W.heap.size W w2) := below_in HBZ.out hB2
    have hs1 := HBZ.out.size
    have hs2 := hB2.size
    have HR1 := Lib.hid hr1
    have HR2 := Lib.hid hr2
    have HK1c := Lib.hid (HK1.out.below HBZ2.out (by omega))
    clear HBZ hr1 hr2 hB2 HK1z
    have q9 := HK1c.out
    have x0 := q9.cell 0 (v := .int .i64 e.life) rfl
    have x1 := q9.cell 1 (v := .int .i64 e.peer) rfl
    have x2 := q9.cell 2 (v := .int .i64 e.phase) rfl
    have x3 := q9.cell 3 (v := .int .i64 e.base) rfl
    have x4 := q9.cell 4 (v := .slice A e.out.length c) rfl
    have x5 := q9.cell 5 (v := .int .i64 e.want) rfl
    have x6 := q9.cell 6 (v := .slice D e.inn.length d) rfl
    have xl := q9.lt
    clear q9
    have q9 := HK1c.out
    have y0 := q9.free 0
    have y1 := q9.free 1
    have y2 := q9.free 2
    have y3 := q9.free 3
    have y4 := q9.free 4
    have y5 := q9.free 5
    have y6 := q9.free 6
    clear q9
    unfold enV
    go_upto_region 6 with fail
    obtain ⟨V, hV⟩ : ∃ V, ((((((w2.setCell ⟨w.heap.size, 0, none⟩ (.int .i64 e.life)).setCell ⟨w.heap.size, 1, none⟩ (.int .i64 e.peer)).setCell ⟨w.heap.size, 2, none⟩ (.int .i64 e.phase)).setCell ⟨w.heap.size, 3, none⟩ (.int .i64 e.base)).setCell ⟨w.heap.size, 4, none⟩ (.slice A1 e.out.length c1)).setCell ⟨w.heap.size, 5, none⟩ (.int .i64 e.want)).setCell ⟨w.heap.size, 6, none⟩ (.slice D1 e.inn.length d1) = V := ⟨_, rfl⟩
    have HKV : Hid (Blk V w.heap.size (.cells (enB e A1 c1 D1 d1) 26)) := by rw [← hV]; exact setEn_blk (e0 := e) (A0 := A) (c0 := c) (B0 := D) (d0 := d) HK1c.out
    have HFV : Hid (Frame (fun b => b = w.heap.size) w2 V) := by rw [← hV]; exact setEn_frame (Frame.refl (fun b => b = w.heap.size) w2) (.inl rfl)
    have HBV : Hid (Below w.heap.size w V) := by rw [← hV]; exact setEn_below (HB0.out.trans (HBZ2.out.mono (by omega))) (Nat.le_refl _)
    have HK2V : Hid (Blk V (w.heap.size + 1) (.cells (enB noEn none 0 none 0) 26)) := (HK2.out.below HBZ2.out (by omega)).frame HFV.out (by show ¬ _ = _; omega)
    have HRA : Hid (V.ownsRow w1.heap.size 71 2 (.slice A1 e.out.length c1) e.out.length (ous e.out)) := own_frame HR1.out HFV.out (fun g hg e2 => own_ne HR1.out HK1c.out (by decide) (by rw [hg, e2]))
    have HRD : Hid (V.ownsRow w1.heap.size 73 2 (.slice D1 e.inn.length d1) e.inn.length (ims e.inn)) := own_frame HR2.out HFV.out (fun g hg e2 => own_ne HR2.out HK1c.out (by decide) (by rw [hg, e2]))
    have hsV := HFV.out.size
    clear x0 x1 x2 x3 x4 x5 x6 xl y0 y1 y2 y3 y4 y5 y6
    rw [hV]
    clear hV
    have q9 := HKV.out
    have x0 := q9.cell 0 (v := .int .i64 e.life) rfl
    have x1 := q9.cell 1 (v := .int .i64 e.peer) rfl
    have x2 := q9.cell 2 (v := .int .i64 e.phase) rfl
    have x3 := q9.cell 3 (v := .int .i64 e.base) rfl
    have x4 := q9.cell 4 (v := .slice A1 e.out.length c1) rfl
    have x5 := q9.cell 5 (v := .int .i64 e.want) rfl
    have x6 := q9.cell 6 (v := .slice D1 e.inn.length d1) rfl
    have xl := q9.lt
    clear q9
    go_upto_region 7 with (at_builtin; go_must (refine wpList_app1' rOu _ rfl _ _ rfl HRA.out rfl [_, _] 1 rfl rfl (by simp [Value.oneCell']) (by omega) (by omega) ?_); intro v6 w6 ho6 hB6 hg6 hloc6; obtain ⟨A6, c6, rfl⟩ := own_fits ho6; have HBX6 : Hid (Blk w6 w.heap.size _) := HKV.out.grown hg6 (own_ne HRA.out HKV.out (by decide)); have k4 := HBX6.out.cell 4 (v := .slice A1 e.out.length c1) rfl; have k5 := HBX6.out.free 4; have k6 := HBX6.out.lt; have HG6 := Lib.hid hg6; have HO6 := Lib.hid ho6; have HB6 := Lib.hid hB6; clear hg6 ho6 hB6 hloc6)
    clear x0 x1 x2 x3 x4 x5 x6 xl k4 k5 k6
    obtain ⟨E, HEE⟩ : ∃ E : En, Hid (({ e with out := e.out ++ [⟨t, false⟩] } : En) = E) := ⟨_, rfl⟩
    obtain ⟨Y, hY⟩ : ∃ Y, w6.setCell ⟨w.heap.size, 4, none⟩ (.slice A6 (e.out.length + 1) c6) = Y := ⟨_, rfl⟩
    obtain ⟨n, HN⟩ : ∃ n, Hid (e.out.length = n) := ⟨_, rfl⟩
    have HAG2 := Lib.hid (fromA_send e ⟨t, false⟩)
    have HGE : Hid (GoodP E) := by
      have h1 := (send_ok (t := t) hbg.out (by rw [HAG.out])).2.1
      rw [HAG.out] at h1
      rw [← HEE.out]
      exact good_iff.1 h1
    have HL1 : Hid (E.out.length = e.out.length + 1) := by show _ = _; rw [← HEE.out]; simp
    have HOU : Hid (ous E.out = ous e.out ++ [.string t, .bool false]) := by show _ = _; rw [← HEE.out]; exact ous_snoc e.out ⟨t, false⟩
    have HIN : Hid (E.inn = e.inn) := by show _ = _; rw [← HEE.out]
    have HKY : Hid (Blk Y w.heap.size (.cells (enB E A6 c6 D1 d1) 26)) := by
      unfold enB
      rw [HL1.out, ← hY, ← HEE.out]
      exact HBX6.out.set 4 _
    rw [HEE.out] at HAG HAG2
    have HFY : Hid (Frame (fun b => b = w.heap.size) w6 Y) := by rw [← hY]; exact (Frame.refl (fun b => b = w.heap.size) w6).setCell (p := ⟨w.heap.size, 4, none⟩) (.inl rfl) _
    have HOY : Hid (Y.ownsRow w1.heap.size 71 2 (.slice A6 E.out.length c6) E.out.length (ous E.out)) := by
      rw [HL1.out, HOU.out]
      exact own_frame HO6.out HFY.out (fun g hg e2 => own_ne HO6.out HBX6.out (by decide) (by rw [hg, e2]))
    have HIV : Hid (ImAt V D1 e.inn) := im_of_own HRD.out
    have HI6 : Hid (ImAt w6 D1 e.inn) := HIV.out.frame (Frame.of_grown HG6.out) (fun b cur hb e2 => own_ne HRA.out hb (by decide) e2)
    have HIY : Hid (ImAt Y D1 e.inn) := HI6.out.frame HFY.out (fun b cur hb e2 => blk_ne hb HBX6.out (by decide) e2)
    have HCV : Hid (Cells V D1 (ims e.inn)) := (Cells.of_own HRD.out (by rw [ims_len]; omega)).1
    have HC6 : Hid (Cells w6 D1 (ims e.inn)) := HCV.out.frame (Frame.of_grown HG6.out) (fun hn a ha e2 => by
      obtain ⟨b, off, cur, e1, e3⟩ := HIV.out (by rintro h0; exact hn (by rw [h0]; rfl))
      rw [e1] at ha
      injection ha with ha
      rw [← ha] at e2
      exact own_ne HRA.out e3 (by decide) e2)
    have HCY : Hid (Cells Y D1 (ims e.inn)) := HC6.out.frame HFY.out (fun hn a ha e2 => by
      obtain ⟨b, off, cur, e1, e3⟩ := HI6.out (by rintro h0; exact hn (by rw [h0]; rfl))
      rw [e1] at ha
      injection ha with ha
      rw [← ha] at e2
      exact blk_ne e3 HBX6.out (by decide) e2)
    have HTY : Hid (EnT Y E A6 c6 D1) := ⟨⟨(Cells.of_own HOY.out (by rw [ous_len, HL1.out]; omega)).1, by rw [HIN.out]; exact HCY.out⟩, row_of_own' (own_mono HOY.out (Nat.zero_le _)), by rw [HIN.out]; exact HIY.out, own_nil HOY.out, own_cap HOY.out⟩
    have HBY : Hid (Below w.heap.size w Y) := by rw [← hY]; exact (HBV.out.trans (HB6.out.mono (by omega))).setCell (Nat.le_refl _) _
    have HK2Y : Hid (Blk Y (w.heap.size + 1) (.cells (enB noEn none 0 none 0) 26)) := (HK2V.out.grown HG6.out (own_ne HRA.out HK2V.out (by decide))).frame HFY.out (by show ¬ _ = _; omega)
    rw [hY]
    clear hY
    obtain ⟨F, HF⟩ : ∃ F, Hid (flyN E = F) := ⟨_, rfl⟩
    rw [HF.out, HN.out] at HAG2
    have hne : ¬ w.heap.size = w.heap.size + 1 := by omega
    cases q : ((F : Int) == (E.out.length : Int)) with
    | true =>
      have HQ : Hid (F = n + 1) := by have h9 := beq_iff_eq.1 q; have := HL1.out; have := HN.out; show _ = _; omega
      have HAG3 : Hid (sendA e t = (E, [dataA E n], 0)) := by show _ = _; rw [HAG.out, HAG2.out, if_pos HQ.out]
      refine draw (fun w' => Below Y.heap.size Y w') 6 rfl (by kernel_rfl) (fun Qd hQd => ?_)
      apply anyI_step 0 rfl (by kernel_rfl)
      focus (intro wI hI Kv hKv; have q9 := HKY.out.below hI HKY.out.lt; have x0 := q9.cell 0 (v := .int .i64 E.life) rfl; have x1 := q9.cell 1 (v := .int .i64 E.peer) rfl; have x2 := q9.cell 2 (v := .int .i64 E.phase) rfl; have x3 := q9.cell 3 (v := .int .i64 E.base) rfl; have x4 := q9.cell 4 (v := .slice A6 E.out.length c6) rfl; have x5 := q9.cell 5 (v := .int .i64 E.want) rfl; have x6 := q9.cell 6 (v := .slice D1 E.inn.length d1) rfl; have xl := q9.lt; clear q9; go_simp; exact hKv)
      intro Kd hKd
      go_simp
      refine hKd _ ?_
      clear hKd Kd
      apply anyI_step 2 rfl (by kernel_rfl)
      focus (intro wI hI Kv hKv; have q9 := HKY.out.below hI HKY.out.lt; have x0 := q9.cell 0 (v := .int .i64 E.life) rfl; have x1 := q9.cell 1 (v := .int .i64 E.peer) rfl; have x2 := q9.cell 2 (v := .int .i64 E.phase) rfl; have x3 := q9.cell 3 (v := .int .i64 E.base) rfl; have x4 := q9.cell 4 (v := .slice A6 E.out.length c6) rfl; have x5 := q9.cell 5 (v := .int .i64 E.want) rfl; have x6 := q9.cell 6 (v := .slice D1 E.inn.length d1) rfl; have xl := q9.lt; clear q9; go_simp; exact hKv)
      intro Kd hKd
      go_simp
      refine hKd _ ?_
      clear hKd Kd
      apply anyI_step 3 rfl (by kernel_rfl)
      focus (intro wI hI Kv hKv; have q9 := HKY.out.below hI HKY.out.lt; have x0 := q9.cell 0 (v := .int .i64 E.life) rfl; have x1 := q9.cell 1 (v := .int .i64 E.peer) rfl; have x2 := q9.cell 2 (v := .int .i64 E.phase) rfl; have x3 := q9.cell 3 (v := .int .i64 E.base) rfl; have x4 := q9.cell 4 (v := .slice A6 E.out.length c6) rfl; have x5 := q9.cell 5 (v := .int .i64 E.want) rfl; have x6 := q9.cell 6 (v := .slice D1 E.inn.length d1) rfl; have xl := q9.lt; clear q9; go_simp; exact hKv)
      intro Kd hKd
      go_simp
      refine hKd _ ?_
      clear hKd Kd
      apply anyI_step 4 rfl (by kernel_rfl)
      focus (intro wI hI Kv hKv; have q9 := HKY.out.below hI HKY.out.lt; have x0 := q9.cell 0 (v := .int .i64 E.life) rfl; have x1 := q9.cell 1 (v := .int .i64 E.peer) rfl; have x2 := q9.cell 2 (v := .int .i64 E.phase) rfl; have x3 := q9.cell 3 (v := .int .i64 E.base) rfl; have x4 := q9.cell 4 (v := .slice A6 E.out.length c6) rfl; have x5 := q9.cell 5 (v := .int .i64 E.want) rfl; have x6 := q9.cell 6 (v := .slice D1 E.inn.length d1) rfl; have xl := q9.lt; clear q9; go_simp; exact hKv)
      intro Kd hKd
      go_simp
      refine hKd _ ?_
      clear hKd Kd
      refine anyI_one' 1 rfl (by kernel_rfl) ((Below.refl _ Y).drew) (fun Kd hKd => ?_)
      go_wp2_with (go_at_call 45; go_must (refine (flying_any E A6 c6 D1 d1 _).mono ?_); rintro r w8 ⟨rfl, hB8⟩; rw [HF.out])
      have HB8 : Hid (Below Y.heap.size Y w8) := below_in (Below.refl _ Y).drew hB8
      clear hB8
      apply anyI_step 5 rfl (by kernel_rfl)
      focus (intro wI hI Kv hKv; go_simp; exact hKv)
      intro Kd hKd
      go_simp
      refine hKd _ ?_
      clear hKd Kd
      refine anyI_end (by kernel_rfl) (HB8.out) (hQd _ _ ?_)
      clear hQd Qd
      go_upto_region 8 with fail
      have HK8 := Lib.hid (HKY.out.below HB8.out HKY.out.lt)
      have HK28 := Lib.hid (HK2Y.out.below HB8.out HK2Y.out.lt)
      have HT8 : Hid (EnT w8 E A6 c6 D1) := HTY.out.frame (Frame.of_all (S := fun _ => False) HB8.out) (fun _ _ _ h => h) (fun _ _ _ h => h)
      have HB8w : Hid (Below w.heap.size w w8) := HBY.out.trans (HB8.out.mono HBY.out.size)
      have hw1 : IntKind.i64.wrap ((E.out.length : Int) - 1) = (n : Int) := by
        have h1 : ((E.out.length : Int) - 1) = (n : Int) := by have := HL1.out; have := HN.out; omega
        rw [h1]
        exact wrap_ok ⟨by omega, by have := HN.out; omega⟩
      obtain ⟨P, HP⟩ : ∃ P, Hid (dataA E n = P) := ⟨_, rfl⟩
      rw [HP.out] at HAG3
      have hnE : n < E.out.length := by have := HL1.out; have := HN.out; omega
      have HNE := Lib.hid hnE
      have hn12 : n ≤ 12 := by have := HN.out; omega
      clear hnE
      refine draw (fun w' => Frame (fun b => b = w.heap.size + 1) w8 w') 11 rfl (by kernel_rfl) (fun Qd hQd => ?_)
      apply anyI_step 0 rfl (by kernel_rfl)
      focus (intro wI hI Kv hKv; have q9 := HK8.out.frame hI hne; have x0 := q9.cell 0 (v := .int .i64 E.life) rfl; have x1 := q9.cell 1 (v := .int .i64 E.peer) rfl; have x2 := q9.cell 2 (v := .int .i64 E.phase) rfl; have x3 := q9.cell 3 (v := .int .i64 E.base) rfl; have x4 := q9.cell 4 (v := .slice A6 E.out.length c6) rfl; have x5 := q9.cell 5 (v := .int .i64 E.want) rfl; have x6 := q9.cell 6 (v := .slice D1 E.inn.length d1) rfl; have xl := q9.lt; clear q9; go_simp; exact hKv)
      intro Kd hKd
      go_simp
      refine hKd _ ?_
      clear hKd Kd
      apply anyI_step 1 rfl (by kernel_rfl)
      focus (intro wI hI Kv hKv; have q9 := HK8.out.frame hI hne; have x0 := q9.cell 0 (v := .int .i64 E.life) rfl; have x1 := q9.cell 1 (v := .int .i64 E.peer) rfl; have x2 := q9.cell 2 (v := .int .i64 E.phase) rfl; have x3 := q9.cell 3 (v := .int .i64 E.base) rfl; have x4 := q9.cell 4 (v := .slice A6 E.out.length c6) rfl; have x5 := q9.cell 5 (v := .int .i64 E.want) rfl; have x6 := q9.cell 6 (v := .slice D1 E.inn.length d1) rfl; have xl := q9.lt; clear q9; go_simp; exact hKv)
      intro Kd hKd
      go_simp
      refine hKd _ ?_
      clear hKd Kd
      apply anyI_step 2 rfl (by kernel_rfl)
      focus (intro wI hI Kv hKv; have q9 := HK8.out.frame hI hne; have x0 := q9.cell 0 (v := .int .i64 E.life) rfl; have x1 := q9.cell 1 (v := .int .i64 E.peer) rfl; have x2 := q9.cell 2 (v := .int .i64 E.phase) rfl; have x3 := q9.cell 3 (v := .int .i64 E.base) rfl; have x4 := q9.cell 4 (v := .slice A6 E.out.length c6) rfl; have x5 := q9.cell 5 (v := .int .i64 E.want) rfl; have x6 := q9.cell 6 (v := .slice D1 E.inn.length d1) rfl; have xl := q9.lt; clear q9; go_simp; exact hKv)
      intro Kd hKd
      go_simp
      refine hKd _ ?_
      clear hKd Kd
      apply anyI_step 3 rfl (by kernel_rfl)
      focus (intro wI hI Kv hKv; have q9 := HK8.out.frame hI hne; have x0 := q9.cell 0 (v := .int .i64 E.life) rfl; have x1 := q9.cell 1 (v := .int .i64 E.peer) rfl; have x2 := q9.cell 2 (v := .int .i64 E.phase) rfl; have x3 := q9.cell 3 (v := .int .i64 E.base) rfl; have x4 := q9.cell 4 (v := .slice A6 E.out.length c6) rfl; have x5 := q9.cell 5 (v := .int .i64 E.want) rfl; have x6 := q9.cell 6 (v := .slice D1 E.inn.length d1) rfl; have xl := q9.lt; clear q9; go_simp; exact hKv)
      intro Kd hKd
      go_simp
      refine hKd _ ?_
      clear hKd Kd
      apply anyI_step 4 rfl (by kernel_rfl)
      focus (intro wI hI Kv hKv; have q9 := HK8.out.frame hI hne; have x0 := q9.cell 0 (v := .int .i64 E.life) rfl; have x1 := q9.cell 1 (v := .int .i64 E.peer) rfl; have x2 := q9.cell 2 (v := .int .i64 E.phase) rfl; have x3 := q9.cell 3 (v := .int .i64 E.base) rfl; have x4 := q9.cell 4 (v := .slice A6 E.out.length c6) rfl; have x5 := q9.cell 5 (v := .int .i64 E.want) rfl; have x6 := q9.cell 6 (v := .slice D1 E.inn.length d1) rfl; have xl := q9.lt; clear q9; go_simp; exact hKv)
      intro Kd hKd
      go_simp
      refine hKd _ ?_
      clear hKd Kd
      apply anyI_step 5 rfl (by kernel_rfl)
      focus (intro wI hI Kv hKv; have q9 := HK8.out.frame hI hne; have x0 := q9.cell 0 (v := .int .i64 E.life) rfl; have x1 := q9.cell 1 (v := .int .i64 E.peer) rfl; have x2 := q9.cell 2 (v := .int .i64 E.phase) rfl; have x3 := q9.cell 3 (v := .int .i64 E.base) rfl; have x4 := q9.cell 4 (v := .slice A6 E.out.length c6) rfl; have x5 := q9.cell 5 (v := .int .i64 E.want) rfl; have x6 := q9.cell 6 (v := .slice D1 E.inn.length d1) rfl; have xl := q9.lt; clear q9; go_simp; exact hKv)
      intro Kd hKd
      go_simp
      refine hKd _ ?_
      clear hKd Kd
      refine anyI_one' 6 rfl (by kernel_rfl) ((Frame.refl _ w8).drew) (fun Kd hKd => ?_)
      go_wp2_with (go_at_call 46; go_must (refine (data46_any E A6 c6 D1 d1 n _ (HT8.out.at_.below (Below.refl _ w8).drew) HGE.out.want HNE.out ⟨HGE.out.base, by have := HGE.out.room; omega⟩ (by unfold most; omega)).mono ?_); rintro r u1 ⟨rfl, hBu⟩; rw [HP.out]; unfold pkV)
      have HBu : Hid (Below w8.heap.size w8 u1) := below_in (Below.refl _ w8).drew hBu
      have HKu := Lib.hid (HK28.out.below HBu.out HK28.out.lt)
      have HFu : Hid (Frame (fun b => b = w.heap.size + 1) w8 u1) := Frame.of_all HBu.out
      have HLu := Lib.hid HKu.out.lt
      clear hBu
      refine anyI_two' 7 8 rfl rfl (by kernel_rfl) (HFu.out) (fun Kd hKd => ?_) (fun Kd hKd => ?_)
      · go_wp2
        have HKa := Lib.hid (HKu.out.alloc (.cells (pkB P) 44))
        refine anyI_one' 8 rfl (by kernel_rfl) ((HFu.out.alloc _)) (fun Kd hKd => ?_)
        refine wpList_store26 (e := E) (A := A6) (D := D1) (c := c6) (d := d1) rfl _ _ rfl HKa.out rfl rfl ?_
        refine ⟨rfl, hKd _ _ ?_⟩
        clear hKd Kd
        have hKX := setEn_blk (e := E) (A := A6) (B := D1) (c := c6) (d := d1) HKa.out
        have hFX := setEn_frame (e := E) (A := A6) (B := D1) (c := c6) (d := d1) (S := fun b => b = w.heap.size + 1) (HFu.out.alloc (.cells (pkB P) 44)) (.inl rfl)
        have hPX := (Blk.new u1 (.cells (pkB P) 44)).frame (setEn_frame (e := E) (A := A6) (B := D1) (c := c6) (d := d1) (Frame.refl (fun b => b = w.heap.size + 1) (u1.alloc (.cells (pkB P) 44))) (.inl rfl)) (by have := HLu.out; show ¬ _ = _; omega)
        have hBX : Below w.heap.size w _ := HB8w.out.trans (hFX.below (B := w.heap.size) (fun b e2 => by omega) HB8w.out.size)
        have hTX := HT8.out.frame hFX (fun b cur hb e2 => blk_ne hb HK28.out (by decide) e2) (fun b cur hb e2 => blk_ne hb HK28.out (by decide) e2)
        apply anyI_step 9 rfl (by kernel_rfl)
        focus (intro wI hI Kv hKv; go_simp; exact hKv)
        intro Kd hKd
        go_simp
        refine hKd _ ?_
        clear hKd Kd
        apply anyI_step 10 rfl (by kernel_rfl)
        focus (intro wI hI Kv hKv; go_simp; exact hKv)
        intro Kd hKd
        go_simp
        refine hKd _ ?_
        clear hKd Kd
        refine anyI_end (by kernel_rfl) (hFX) (hQd _ _ ?_)
        clear hQd Qd
        go_wp2_with fail
        exact bodyPost_ret (v := .tuple #[enV E A6 c6 D1 d1, .slice (some ⟨_, 0, none⟩) 1 1, .int .i64 0]) (results_ctt rfl rfl rfl rfl (load26 hKX)) rfl ⟨A6, c6, D1, d1, some ⟨_, 0, none⟩, 1, by rw [HAG3.out]; rfl, by rw [HAG3.out]; exact hTX.at_, by rw [HAG3.out]; exact pks_one hPX, hBX⟩
      · skip
        refine wpList_store26 (e := E) (A := A6) (D := D1) (c := c6) (d := d1) rfl _ _ rfl HKu.out rfl rfl ?_
        refine ⟨rfl, hKd _ _ ?_⟩
        clear hKd Kd
        have hF1 := setEn_frame (e := E) (A := A6) (B := D1) (c := c6) (d := d1) (S := fun b => b = w.heap.size + 1) HFu.out (.inl rfl)
        have hK1 := setEn_blk (e := E) (A := A6) (B := D1) (c := c6) (d := d1) HKu.out
        obtain ⟨u2, hu2⟩ : ∃ u2, setEn u1 (w.heap.size + 1) E A6 c6 D1 d1 = u2 := ⟨_, rfl⟩
        rw [hu2] at hF1 hK1 ⊢
        refine anyI_one' 7 rfl (by kernel_rfl) (hF1) (fun Kd hKd => ?_)
        go_wp2
        have hKX := hK1.alloc (.cells (pkB P) 44)
        have hFX := hF1.alloc (.cells (pkB P) 44)
        have hPX := Blk.new u2 (.cells (pkB P) 44)
        have hBX : Below w.heap.size w _ := HB8w.out.trans (hFX.below (B := w.heap.size) (fun b e2 => by omega) HB8w.out.size)
        have hTX := HT8.out.frame hFX (fun b cur hb e2 => blk_ne hb HK28.out (by decide) e2) (fun b cur hb e2 => blk_ne hb HK28.out (by decide) e2)
        apply anyI_step 9 rfl (by kernel_rfl)
        focus (intro wI hI Kv hKv; go_simp; exact hKv)
        intro Kd hKd
        go_simp
        refine hKd _ ?_
        clear hKd Kd
        apply anyI_step 10 rfl (by kernel_rfl)
        focus (intro wI hI Kv hKv; go_simp; exact hKv)
        intro Kd hKd
        go_simp
        refine hKd _ ?_
        clear hKd Kd
        refine anyI_end (by kernel_rfl) (hFX) (hQd _ _ ?_)
        clear hQd Qd
        go_wp2_with fail
        exact bodyPost_ret (v := .tuple #[enV E A6 c6 D1 d1, .slice (some ⟨_, 0, none⟩) 1 1, .int .i64 0]) (results_ctt rfl rfl rfl rfl (load26 hKX)) rfl ⟨A6, c6, D1, d1, some ⟨_, 0, none⟩, 1, by rw [HAG3.out]; rfl, by rw [HAG3.out]; exact hTX.at_, by rw [HAG3.out]; exact pks_one hPX, hBX⟩
    | false =>
      have HQ : Hid (¬ F = n + 1) := by have h9 := beq_eq_false_iff_ne.1 q; have := HL1.out; have := HN.out; show ¬ _ = _; omega
      have HAG3 : Hid (sendA e t = (E, [], 0)) := by show _ = _; rw [HAG.out, HAG2.out, if_neg HQ.out]
      refine draw (fun w' => Below Y.heap.size Y w') 6 rfl (by kernel_rfl) (fun Qd hQd => ?_)
      apply anyI_step 0 rfl (by kernel_rfl)
      focus (intro wI hI Kv hKv; have q9 := HKY.out.below hI HKY.out.lt; have x0 := q9.cell 0 (v := .int .i64 E.life) rfl; have x1 := q9.cell 1 (v := .int .i64 E.peer) rfl; have x2 := q9.cell 2 (v := .int .i64 E.phase) rfl; have x3 := q9.cell 3 (v := .int .i64 E.base) rfl; have x4 := q9.cell 4 (v := .slice A6 E.out.length c6) rfl; have x5 := q9.cell 5 (v := .int .i64 E.want) rfl; have x6 := q9.cell 6 (v := .slice D1 E.inn.length d1) rfl; have xl := q9.lt; clear q9; go_simp; exact hKv)
      intro Kd hKd
      go_simp
      refine hKd _ ?_
      clear hKd Kd
      apply anyI_step 2 rfl (by kernel_rfl)
      focus (intro wI hI Kv hKv; have q9 := HKY.out.below hI HKY.out.lt; have x0 := q9.cell 0 (v := .int .i64 E.life) rfl; have x1 := q9.cell 1 (v := .int .i64 E.peer) rfl; have x2 := q9.cell 2 (v := .int .i64 E.phase) rfl; have x3 := q9.cell 3 (v := .int .i64 E.base) rfl; have x4 := q9.cell 4 (v := .slice A6 E.out.length c6) rfl; have x5 := q9.cell 5 (v := .int .i64 E.want) rfl; have x6 := q9.cell 6 (v := .slice D1 E.inn.length d1) rfl; have xl := q9.lt; clear q9; go_simp; exact hKv)
      intro Kd hKd
      go_simp
      refine hKd _ ?_
      clear hKd Kd
      apply anyI_step 3 rfl (by kernel_rfl)
      focus (intro wI hI Kv hKv; have q9 := HKY.out.below hI HKY.out.lt; have x0 := q9.cell 0 (v := .int .i64 E.life) rfl; have x1 := q9.cell 1 (v := .int .i64 E.peer) rfl; have x2 := q9.cell 2 (v := .int .i64 E.phase) rfl; have x3 := q9.cell 3 (v := .int .i64 E.base) rfl; have x4 := q9.cell 4 (v := .slice A6 E.out.length c6) rfl; have x5 := q9.cell 5 (v := .int .i64 E.want) rfl; have x6 := q9.cell 6 (v := .slice D1 E.inn.length d1) rfl; have xl := q9.lt; clear q9; go_simp; exact hKv)
      intro Kd hKd
      go_simp
      refine hKd _ ?_
      clear hKd Kd
      apply anyI_step 4 rfl (by kernel_rfl)
      focus (intro wI hI Kv hKv; have q9 := HKY.out.below hI HKY.out.lt; have x0 := q9.cell 0 (v := .int .i64 E.life) rfl; have x1 := q9.cell 1 (v := .int .i64 E.peer) rfl; have x2 := q9.cell 2 (v := .int .i64 E.phase) rfl; have x3 := q9.cell 3 (v := .int .i64 E.base) rfl; have x4 := q9.cell 4 (v := .slice A6 E.out.length c6) rfl; have x5 := q9.cell 5 (v := .int .i64 E.want) rfl; have x6 := q9.cell 6 (v := .slice D1 E.inn.length d1) rfl; have xl := q9.lt; clear q9; go_simp; exact hKv)
      intro Kd hKd
      go_simp
      refine hKd _ ?_
      clear hKd Kd
      refine anyI_one' 1 rfl (by kernel_rfl) ((Below.refl _ Y).drew) (fun Kd hKd => ?_)
      go_wp2_with (go_at_call 45; go_must (refine (flying_any E A6 c6 D1 d1 _).mono ?_); rintro r w8 ⟨rfl, hB8⟩; rw [HF.out])
      have HB8 : Hid (Below Y.heap.size Y w8) := below_in (Below.refl _ Y).drew hB8
      clear hB8
      apply anyI_step 5 rfl (by kernel_rfl)
      focus (intro wI hI Kv hKv; go_simp; exact hKv)
      intro Kd hKd
      go_simp
      refine hKd _ ?_
      clear hKd Kd
      refine anyI_end (by kernel_rfl) (HB8.out) (hQd _ _ ?_)
      clear hQd Qd
      go_upto_region 9 with fail
      have HK8 := Lib.hid (HKY.out.below HB8.out HKY.out.lt)
      have HK4V := Lib.hid (HK2Y.out.below HB8.out HK2Y.out.lt)
      have HT8 : Hid (EnT w8 E A6 c6 D1) := HTY.out.frame (Frame.of_all (S := fun _ => False) HB8.out) (fun _ _ _ h => h) (fun _ _ _ h => h)
      have HB8w : Hid (Below w.heap.size w w8) := HBY.out.trans (HB8.out.mono HBY.out.size)
      have q9 := HK8.out
      have x0 := q9.cell 0 (v := .int .i64 E.life) rfl
      have x1 := q9.cell 1 (v := .int .i64 E.peer) rfl
      have x2 := q9.cell 2 (v := .int .i64 E.phase) rfl
      have x3 := q9.cell 3 (v := .int .i64 E.base) rfl
      have x4 := q9.cell 4 (v := .slice A6 E.out.length c6) rfl
      have x5 := q9.cell 5 (v := .int .i64 E.want) rfl
      have x6 := q9.cell 6 (v := .slice D1 E.inn.length d1) rfl
      have xl := q9.lt
      clear q9
      have q9 := HK4V.out
      have z0 := q9.cell 0 (v := .int .i64 0) rfl
      have z1 := q9.cell 1 (v := .int .i64 0) rfl
      have z2 := q9.cell 2 (v := .int .i64 0) rfl
      have z3 := q9.cell 3 (v := .int .i64 0) rfl
      have z4 := q9.cell 4 (v := .slice none 0 0) rfl
      have z5 := q9.cell 5 (v := .int .i64 0) rfl
      have z6 := q9.cell 6 (v := .slice none 0 0) rfl
      have u0 := q9.free 0
      have u1 := q9.free 1
      have u2 := q9.free 2
      have u3 := q9.free 3
      have u4 := q9.free 4
      have u5 := q9.free 5
      have u6 := q9.free 6
      have ul := q9.lt
      clear q9
      go_wp2
      have hf := setEn_frame (e := E) (A := A6) (c := c6) (B := D1) (d := d1) (Frame.refl (fun b => b = w.heap.size + 1) w8) (.inl rfl)
      have hl := load26 (setEn_blk (e := E) (A := A6) (c := c6) (B := D1) (d := d1) HK4V.out)
      have hb := setEn_below (e := E) (A := A6) (c := c6) (B := D1) (d := d1) HB8w.out (show w.heap.size ≤ w.heap.size + 1 by omega)
      have ht := HT8.out.frame hf (fun b cur hb e2 => blk_ne hb HK4V.out (by decide) e2) (fun b cur hb e2 => blk_ne hb HK4V.out (by decide) e2)
      exact bodyPost_ret (v := .tuple #[enV E A6 c6 D1 d1, .slice none 0 0, .int .i64 0]) (results_ctt rfl rfl rfl rfl hl) rfl ⟨A6, c6, D1, d1, none, 0, by rw [HAG3.out]; rfl, by rw [HAG3.out]; exact ht.at_, by rw [HAG3.out]; exact Cells.nil _ _, hb⟩
end Go.Proofs.Ytejabnoidhlfaaa
