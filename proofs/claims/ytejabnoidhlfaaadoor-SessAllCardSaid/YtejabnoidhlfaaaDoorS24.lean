/- Contract: Send. -/
import Derived.Test.YtejabnoidhlfaaaDoorS22

/- Contract: Send. -/
namespace Go.Proofs.YtejabnoidhlfaaaDoor
open Go.RowKit Go.Maps

def SendPost (e : En) (t : ByteArray) (w : World) (r : Ending) (w' : World) : Prop := ∃ A c D d v, r = .returned (.tuple #[enV (sendA e t).1 A c D d, v, .int .i64 (sendA e t).2.2]) ∧ EnAt w' (sendA e t).1 A D ∧ RowAt w' w.heap.size A (sendA e t).1.out ∧ ImAt w' D (sendA e t).1.inn ∧ (A = none → c = 0) ∧
 (sendA e t).1.out.length ≤ c ∧ w'.ownsRow w.heap.size 49 7 v (sendA e t).2.1.length (pks (sendA e t).2.1) ∧ Below w.heap.size w w'

theorem row_of_own' {w : World} {B c : Nat} {A : Option Addr} {l : List Ou} (h : w.ownsRow B 53 2 (.slice A l.length c) l.length (ous l)) : RowAt w B A l := fun hn => by
 rcases h.2 with ⟨_, h0⟩ | ⟨g, cap, cur, hv, hb, hh, _⟩
 ·exact absurd (List.eq_nil_of_length_eq_zero h0) hn
 ·injection hv with h1
  exact ⟨g, 0, cur, h1, hb, hh⟩
set_option maxRecDepth 100000 in
set_option maxHeartbeats 8000000 in
theorem send_any (e : En) (A : Option Addr) (c : Nat) (Bi : Option Addr) (d : Nat) (t : ByteArray) (w : World) (h : EnAt w e A Bi) (hA0 : A = none → e.out.length = 0 ∧ c = 0) :
  Calls Tryd.prog 55 #[enV e A c Bi d, .string t] w (SendPost e t w) := by
 have HE := Lib.hid h
 clear h
 unfold enV
 go_enter Tryd.func55, Tryd.ntmps55
 go_wp2_with fail
 obtain ⟨W, hW⟩ : ∃ W, (w.alloc (.cells #[.int .i64 e.life, .int .i64 e.peer, .int .i64 e.phase, .int .i64 e.base, .slice A e.out.length c, .int .i64 e.want, .slice Bi e.inn.length d] 38)).alloc (.cells #[.int .i64 0, .int .i64 0, .int .i64 0, .int .i64 0, .slice none 0 0, .int .i64 0, .slice none 0 0] 38) = W := ⟨_, rfl⟩
 rw [hW]
 have HB0 : Hid (Below w.heap.size w W) := by rw [← hW]; exact (((Below.refl _ w).alloc (Nat.le_refl _) _).alloc (by simp) _)
 have hsW : W.heap.size = w.heap.size + 2 := by rw [← hW]; simp
 have HK1 : Hid (Blk W w.heap.size (.cells (enB e A c Bi d) 38)) := by rw [← hW]; exact (Blk.new _ _).alloc _
 have HK2 : Hid (Blk W (w.heap.size + 1) (.cells (enB noEn none 0 none 0) 38)) := by
  rw [← hW]
  have e1 := Blk.new (w.alloc (.cells #[.int .i64 e.life, .int .i64 e.peer, .int .i64 e.phase, .int .i64 e.base, .slice A e.out.length c, .int .i64 e.want, .slice Bi e.inn.length d] 38)) (.cells #[.int .i64 0, .int .i64 0, .int .i64 0, .int .i64 0, .slice none 0 0, .int .i64 0, .slice none 0 0] 38)
  rw [World.size_alloc] at e1
  exact e1
 clear hW
 refine (fine_any e A c Bi d W (HE.out.below HB0.out)).mono ?_
 rintro r w1 ⟨rfl, hB1⟩
 have HBZ := Lib.hid hB1
 clear hB1
 obtain ⟨bg, hbg⟩ : ∃ b, Hid (goodB e = b) := ⟨_, rfl⟩
 rw [hbg.out]
 cases bg with
 | false =>
  have HAG : Hid (sendA e t = (noEn, [], 2)) := by show _ = _; unfold sendA; rw [if_pos hbg.out]
  have h2z := HK2.out.below HBZ.out (by omega)
  have H2Z := Lib.hid h2z
  have z0 := h2z.cell 0 (v := .int .i64 0) rfl
  have z1 := h2z.cell 1 (v := .int .i64 0) rfl
  have z2 := h2z.cell 2 (v := .int .i64 0) rfl
  have z3 := h2z.cell 3 (v := .int .i64 0) rfl
  have z4 := h2z.cell 4 (v := .slice none 0 0) rfl
  have z5 := h2z.cell 5 (v := .int .i64 0) rfl
  have z6 := h2z.cell 6 (v := .slice none 0 0) rfl
  have y0 := h2z.free 0
  have y1 := h2z.free 1
  have y2 := h2z.free 2
  have y3 := h2z.free 3
  have y4 := h2z.free 4
  have y5 := h2z.free 5
  have y6 := h2z.free 6
  have yl := h2z.lt
  clear h2z
  go_wp2
  have q1 := setEn_blk (e := noEn) (A := none) (c := 0) (B := none) (d := 0) H2Z.out
  have q9 := setEn_below (e := noEn) (A := none) (c := 0) (B := none) (d := 0) (HB0.out.trans (HBZ.out.mono (by omega))) (show w.heap.size ≤ w.heap.size + 1 by omega)
  have hl1 := load26 q1
  refine bodyPost_ret (v := .tuple #[enV noEn none 0 none 0, .slice none 0 0, .int .i64 2]) (results_ctt rfl rfl rfl rfl hl1) rfl ?_
  exact ⟨none, 0, none, 0, .slice none 0 0, by rw [HAG.out], by rw [HAG.out]; exact enAt_noEn _, by rw [HAG.out]; exact fun h0 => absurd rfl h0, by rw [HAG.out]; exact fun h0 => absurd rfl h0, fun _ => rfl, by rw [HAG.out]; exact Nat.le_refl _, by rw [HAG.out]; exact World.ownsRow_nil _ _ _ _, q9⟩
 | true =>
  have HG : Hid (GoodP e) := good_iff.1 hbg.out
  have h1 := HK1.out.below HBZ.out (by omega)
  have x0 := h1.cell 0 (v := .int .i64 e.life) rfl
  have x1 := h1.cell 1 (v := .int .i64 e.peer) rfl
  have x2 := h1.cell 2 (v := .int .i64 e.phase) rfl
  have x3 := h1.cell 3 (v := .int .i64 e.base) rfl
  have x4 := h1.cell 4 (v := .slice A e.out.length c) rfl
  have x5 := h1.cell 5 (v := .int .i64 e.want) rfl
  have x6 := h1.cell 6 (v := .slice Bi e.inn.length d) rfl
  have xl := h1.lt
  clear h1
  by_cases a1 : (20 : Int) < (t.size : Int)
  ·have HAG : Hid (sendA e t = (noEn, [], 3)) := by show _ = _; unfold sendA; rw [if_neg (by rw [hbg.out]; decide), if_pos (.inl (by omega))]
   have h2z := HK2.out.below HBZ.out (by omega)
   have H2Z := Lib.hid h2z
   have z0 := h2z.cell 0 (v := .int .i64 0) rfl
   have z1 := h2z.cell 1 (v := .int .i64 0) rfl
   have z2 := h2z.cell 2 (v := .int .i64 0) rfl
   have z3 := h2z.cell 3 (v := .int .i64 0) rfl
   have z4 := h2z.cell 4 (v := .slice none 0 0) rfl
   have z5 := h2z.cell 5 (v := .int .i64 0) rfl
   have z6 := h2z.cell 6 (v := .slice none 0 0) rfl
   have y0 := h2z.free 0
   have y1 := h2z.free 1
   have y2 := h2z.free 2
   have y3 := h2z.free 3
   have y4 := h2z.free 4
   have y5 := h2z.free 5
   have y6 := h2z.free 6
   have yl := h2z.lt
   clear h2z
   go_wp2
   have q1 := setEn_blk (e := noEn) (A := none) (c := 0) (B := none) (d := 0) H2Z.out
   have q9 := setEn_below (e := noEn) (A := none) (c := 0) (B := none) (d := 0) (HB0.out.trans (HBZ.out.mono (by omega))) (show w.heap.size ≤ w.heap.size + 1 by omega)
   have hl1 := load26 q1
   refine bodyPost_ret (v := .tuple #[enV noEn none 0 none 0, .slice none 0 0, .int .i64 3]) (results_ctt rfl rfl rfl rfl hl1) rfl ?_
   exact ⟨none, 0, none, 0, .slice none 0 0, by rw [HAG.out], by rw [HAG.out]; exact enAt_noEn _, by rw [HAG.out]; exact fun h0 => absurd rfl h0, by rw [HAG.out]; exact fun h0 => absurd rfl h0, fun _ => rfl, by rw [HAG.out]; exact Nat.le_refl _, by rw [HAG.out]; exact World.ownsRow_nil _ _ _ _, q9⟩
  have p1 : decide ((20 : Int) < (t.size : Int)) = false := decide_eq_false a1
  by_cases a2 : (e.out.length : Int) = 12
  ·have HAG : Hid (sendA e t = (noEn, [], 3)) := by show _ = _; unfold sendA; rw [if_neg (by rw [hbg.out]; decide), if_pos (.inr (.inl (by omega)))]
   have p2 : ((e.out.length : Int) == 12) = true := beq_iff_eq.2 a2
   clear a2
   have h2z := HK2.out.below HBZ.out (by omega)
   have H2Z := Lib.hid h2z
   have z0 := h2z.cell 0 (v := .int .i64 0) rfl
   have z1 := h2z.cell 1 (v := .int .i64 0) rfl
   have z2 := h2z.cell 2 (v := .int .i64 0) rfl
   have z3 := h2z.cell 3 (v := .int .i64 0) rfl
   have z4 := h2z.cell 4 (v := .slice none 0 0) rfl
   have z5 := h2z.cell 5 (v := .int .i64 0) rfl
   have z6 := h2z.cell 6 (v := .slice none 0 0) rfl
   have y0 := h2z.free 0
   have y1 := h2z.free 1
   have y2 := h2z.free 2
   have y3 := h2z.free 3
   have y4 := h2z.free 4
   have y5 := h2z.free 5
   have y6 := h2z.free 6
   have yl := h2z.lt
   clear h2z
   go_wp2
   have q1 := setEn_blk (e := noEn) (A := none) (c := 0) (B := none) (d := 0) H2Z.out
   have q9 := setEn_below (e := noEn) (A := none) (c := 0) (B := none) (d := 0) (HB0.out.trans (HBZ.out.mono (by omega))) (show w.heap.size ≤ w.heap.size + 1 by omega)
   have hl1 := load26 q1
   refine bodyPost_ret (v := .tuple #[enV noEn none 0 none 0, .slice none 0 0, .int .i64 3]) (results_ctt rfl rfl rfl rfl hl1) rfl ?_
   exact ⟨none, 0, none, 0, .slice none 0 0, by rw [HAG.out], by rw [HAG.out]; exact enAt_noEn _, by rw [HAG.out]; exact fun h0 => absurd rfl h0, by rw [HAG.out]; exact fun h0 => absurd rfl h0, fun _ => rfl, by rw [HAG.out]; exact Nat.le_refl _, by rw [HAG.out]; exact World.ownsRow_nil _ _ _ _, q9⟩
  have p2 : ((e.out.length : Int) == 12) = false := beq_eq_false_iff_ne.2 a2
  have hbl : 0 ≤ e.base := HG.out.base
  have hrm : e.base + e.out.length ≤ 1000000000 := HG.out.room
  have hw1 : IntKind.i64.wrap (e.base + (e.out.length : Int)) = e.base + (e.out.length : Int) := wrap_ok ⟨by omega, by omega⟩
  by_cases a3 : e.base + (e.out.length : Int) = 1000000000
  ·have HAG : Hid (sendA e t = (noEn, [], 3)) := by show _ = _; unfold sendA; rw [if_neg (by rw [hbg.out]; decide), if_pos (.inr (.inr a3))]
   have p3 : (e.base + (e.out.length : Int) == 1000000000) = true := beq_iff_eq.2 a3
   clear a3
   have h2z := HK2.out.below HBZ.out (by omega)
   have H2Z := Lib.hid h2z
   have z0 := h2z.cell 0 (v := .int .i64 0) rfl
   have z1 := h2z.cell 1 (v := .int .i64 0) rfl
   have z2 := h2z.cell 2 (v := .int .i64 0) rfl
   have z3 := h2z.cell 3 (v := .int .i64 0) rfl
   have z4 := h2z.cell 4 (v := .slice none 0 0) rfl
   have z5 := h2z.cell 5 (v := .int .i64 0) rfl
   have z6 := h2z.cell 6 (v := .slice none 0 0) rfl
   have y0 := h2z.free 0
   have y1 := h2z.free 1
   have y2 := h2z.free 2
   have y3 := h2z.free 3
   have y4 := h2z.free 4
   have y5 := h2z.free 5
   have y6 := h2z.free 6
   have yl := h2z.lt
   clear h2z
   go_wp2
   have q1 := setEn_blk (e := noEn) (A := none) (c := 0) (B := none) (d := 0) H2Z.out
   have q9 := setEn_below (e := noEn) (A := none) (c := 0) (B := none) (d := 0) (HB0.out.trans (HBZ.out.mono (by omega))) (show w.heap.size ≤ w.heap.size + 1 by omega)
   have hl1 := load26 q1
   refine bodyPost_ret (v := .tuple #[enV noEn none 0 none 0, .slice none 0 0, .int .i64 3]) (results_ctt rfl rfl rfl rfl hl1) rfl ?_
   exact ⟨none, 0, none, 0, .slice none 0 0, by rw [HAG.out], by rw [HAG.out]; exact enAt_noEn _, by rw [HAG.out]; exact fun h0 => absurd rfl h0, by rw [HAG.out]; exact fun h0 => absurd rfl h0, fun _ => rfl, by rw [HAG.out]; exact Nat.le_refl _, by rw [HAG.out]; exact World.ownsRow_nil _ _ _ _, q9⟩
  have p3 : (e.base + (e.out.length : Int) == 1000000000) = false := beq_eq_false_iff_ne.2 a3
  have HAG : Hid (sendA e t = ({ e with out := e.out ++ [⟨t, false⟩] }, fromA { e with out := e.out ++ [⟨t, false⟩] } (flyN e), 0)) := by show _ = _; unfold sendA; rw [if_neg (by rw [hbg.out]; decide), if_neg (fun h0 => by rcases h0 with h0 | h0 | h0; omega; omega; exact a3 h0)]
  have hlen : e.out.length ≤ 11 := by have := HG.out.len; omega
  clear a2 a3
  go_wp2_with fail
  refine (open_any e A c Bi d w1 (HE.out.below (HB0.out.trans (HBZ.out.mono (by omega)))) HG.out hA0).mono ?_
  rintro r w3 ⟨bx, bm, A1, c1, rfl, hX3, ho3, hbx, hbm, hB3⟩
  clear x0 x1 x2 x3 x4 x5 x6 xl p1 p2 p3 hw1
  have hsw1 := HBZ.out.size
  have HBZ3 : Hid (Below W.heap.size W w3) := below_in HBZ.out hB3
  have HX := Lib.hid hX3
  have HO3 := Lib.hid ho3
  have HA1 : Hid (A1 = none → e.out.length = 0) := fun hn => by
   have h2 := own_cap ho3
   have h3 := own_nil ho3 hn
   omega
  have hs3 := HBZ3.out.size
  have c4 := hX3.box.cell 4 (v := .slice A1 e.out.length c1) rfl
  have lb := hX3.box.lt
  obtain ⟨vi, hvi⟩ : ∃ vi, Value.slice Bi e.inn.length d = vi := ⟨_, rfl⟩
  rw [hvi] at HX
  clear HBZ
  have HBZ := HBZ3
  clear hX3 ho3 hB3 hvi HBZ3
  obtain ⟨F, HF⟩ : ∃ F, Hid (flyN e = F) := ⟨_, rfl⟩
  rw [HF.out] at HAG
  have hfl := fly_le e
  rw [HF.out] at hfl
  go_wp2_with (first
   | (go_at_call 26; go_must (refine (sent_any bx bm e A1 c1 vi w3 HX.out HA1.out (by omega)).mono ?_); rintro r w4 ⟨⟨A', rfl, hC'⟩, rfl⟩; rw [HF.out]; clear hC')
   | (at_builtin; go_must (refine wpList_app1' rOu _ rfl _ _ rfl HO3.out rfl [_, _] 1 rfl rfl (by simp [Value.oneCell']) (by omega) (by omega) ?_); intro v6 w6 ho6 hB6 hg6 hloc6; obtain ⟨A6, c6, rfl⟩ := own_fits ho6; have HBX6 : Hid (Blk w6 bx _) := HX.out.box.grown hg6 (own_ne HO3.out HX.out.box (by decide)); have k4 := HBX6.out.cell 4 (v := .slice A1 e.out.length c1) rfl; have k5 := HBX6.out.free 4; have k6 := HBX6.out.lt; have HG6 := Lib.hid hg6; have HO6 := Lib.hid ho6; have HB6 := Lib.hid hB6; clear hg6 ho6 hB6 hloc6))
  clear c4 lb k4 k5 k6
  obtain ⟨E, HEE⟩ : ∃ E : En, Hid (({ e with out := e.out ++ [⟨t, false⟩] } : En) = E) := ⟨_, rfl⟩
  obtain ⟨w7, hw7⟩ : ∃ w7, w6.setCell ⟨bx, 4, none⟩ (.slice A6 (e.out.length + 1) c6) = w7 := ⟨_, rfl⟩
  have HGE : Hid (GoodP E) := by
   have h1 := (send_ok (t := t) hbg.out (by rw [HAG.out])).2.1
   rw [HAG.out] at h1
   rw [← HEE.out]
   exact good_iff.1 h1
  have HL1 : Hid (E.out.length = e.out.length + 1) := by show _ = _; rw [← HEE.out]; simp
  have HOU : Hid (ous E.out = ous e.out ++ [.string t, .bool false]) := by show _ = _; rw [← HEE.out]; exact ous_snoc e.out ⟨t, false⟩
  rw [HEE.out] at HAG
  have hlE := HGE.out.len
  have HF7 : Hid (Frame (fun b => b = bx) w6 w7) := by rw [← hw7]; exact (Frame.refl (fun b => b = bx) w6).setCell (p := ⟨bx, 4, none⟩) (.inl rfl) _
  have HO7 : Hid (w7.ownsRow w1.heap.size 53 2 (.slice A6 E.out.length c6) E.out.length (ous E.out)) := by
   rw [HL1.out, HOU.out]
   exact own_frame HO6.out HF7.out (fun g hg e2 => own_ne HO6.out HBX6.out (by decide) (by rw [hg, e2]))
  have HW3 : Hid (w3.heap.size ≤ w6.heap.size ∧ w6.heap.size ≤ w7.heap.size) := ⟨HG6.out.size, HF7.out.size⟩
  have HMB : Hid (bm ≠ bx) := HX.out.map.not_blk HX.out.box
  have HXE : Hid (Xs w7 bx bm E A6 c6 vi) := by
   refine ⟨?_, (Cells.of_own HO7.out (by rw [ous_len]; omega)).1, ?_, own_cap HO7.out, own_nil HO7.out⟩
   ·rw [HL1.out, ← hw7, ← HEE.out]
    exact HBX6.out.set 4 _
   ·have h2 := (HX.out.map.frame (Frame.of_grown HG6.out) (fun e2 => HX.out.map.not_own HO3.out e2)).frame HF7.out HMB.out
    rw [← HEE.out]
    exact h2
  have HNE : Hid (∀ a, A6 = some a → a.block ≠ bx) := fun a ha e2 => own_ne HO6.out HBX6.out (by decide) (by rw [ha]; show some a.block = _; rw [e2])
  have hsz : w1.heap.size ≥ w.heap.size := by have := HB0.out.size; have := HBZ.out.size; omega
  rw [hw7]
  clear hw7
  refine (shut_full bx bm E A6 c6 vi w.heap.size w7 HXE.out HGE.out (by omega) (by have := HW3.out; omega) (fun _ => HNE.out)).mono ?_
  rintro r w8 ⟨D, dd, rfl, hE8, hB8, hF8, hD8, hI8, hbx8⟩
  have HE8 := Lib.hid hE8
  have HD8 := Lib.hid hD8
  have HI8 := Lib.hid hI8
  have HF8 := Lib.hid hF8
  have HX8 : Hid (Xs w8 bx bm E A6 c6 (.slice D E.inn.length dd)) := ⟨hbx8, hE8.out, HXE.out.map.frame hF8 HMB.out, HXE.out.cap, HXE.out.nil⟩
  have hs8 := hF8.size
  clear hE8 hB8 hF8 hD8 hI8 hbx8
  unfold enV
  go_wp2_with fail
  refine (from_any bx bm E A6 c6 (.slice D E.inn.length dd) F w8 HX8.out (fun hn => by have h1 := HX8.out.cap; have h2 := HX8.out.nil hn; omega) HGE.out (by omega)).mono ?_
  rintro r w9 ⟨v9, rfl, ho9, hB9⟩
  have HO9 := Lib.hid ho9
  have HB9 := Lib.hid hB9
  have HBZ9 : Hid (Below W.heap.size W w9) := by
   have h3 := HW3.out
   have h1 : Below W.heap.size W w6 := HBZ.out.trans (HB6.out.mono (by omega))
   have h2 : Below W.heap.size w6 w8 := (HF7.out.trans HF8.out (fun _ _ h => h)).below (fun b e2 => by omega) (by omega)
   exact (h1.trans h2).trans (hB9.mono (by omega))
  clear HBZ ho9 hB9
  have HBZ := HBZ9
  clear HBZ9
  have hs9 := HBZ.out.size
  have h2z := HK2.out.below HBZ.out (by omega)
  have H2Z := Lib.hid h2z
  have z0 := h2z.cell 0 (v := .int .i64 0) rfl
  have z1 := h2z.cell 1 (v := .int .i64 0) rfl
  have z2 := h2z.cell 2 (v := .int .i64 0) rfl
  have z3 := h2z.cell 3 (v := .int .i64 0) rfl
  have z4 := h2z.cell 4 (v := .slice none 0 0) rfl
  have z5 := h2z.cell 5 (v := .int .i64 0) rfl
  have z6 := h2z.cell 6 (v := .slice none 0 0) rfl
  have y0 := h2z.free 0
  have y1 := h2z.free 1
  have y2 := h2z.free 2
  have y3 := h2z.free 3
  have y4 := h2z.free 4
  have y5 := h2z.free 5
  have y6 := h2z.free 6
  have yl := h2z.lt
  clear h2z
  go_wp2
  have q1 := setEn_blk (e := E) (A := A6) (c := c6) (B := D) (d := dd) H2Z.out
  have q8 := setEn_frame (e := E) (A := A6) (c := c6) (B := D) (d := dd) (Frame.refl (fun b => b = w.heap.size + 1) w9) (.inl rfl)
  have q9 := setEn_below (e := E) (A := A6) (c := c6) (B := D) (d := dd) (HB0.out.trans (HBZ.out.mono (by omega))) (show w.heap.size ≤ w.heap.size + 1 by omega)
  have hl1 := load26 q1
  refine bodyPost_ret (v := .tuple #[enV E A6 c6 D dd, v9, .int .i64 0]) (results_ctt rfl rfl rfl rfl hl1) rfl ?_
  have hro : RowAt w9 w.heap.size A6 E.out := by
   have h1 : RowAt w7 w.heap.size A6 E.out := row_of_own' (own_mono HO7.out (by omega))
   exact (h1.frame HF8.out (fun b cur hb e2 => blk_ne hb HXE.out.box (by decide) e2)).frame (Frame.of_all (S := fun _ => False) HB9.out) (fun _ _ _ h => h)
  have hn71 : ∀ b cur, Blk w9 b (.cells cur 53) → ¬ b = w.heap.size + 1 := fun b cur hb e2 => blk_ne hb H2Z.out (by decide) e2
  have hn73 : ∀ b cur, Blk w9 b (.cells cur 111) → ¬ b = w.heap.size + 1 := fun b cur hb e2 => blk_ne hb H2Z.out (by decide) e2
  have hE9 := HE8.out.below HB9.out
  refine ⟨A6, c6, D, dd, v9, by rw [HAG.out], by rw [HAG.out]; exact ⟨hro.cells hE9.out q8 hn71, hE9.inn.frame q8 (fun _ a ha e2 => by have h1 := HD8.out a ha; have := HW3.out; omega)⟩, by rw [HAG.out]; exact hro.frame q8 hn71, ?_, HX8.out.nil, by rw [HAG.out]; exact HX8.out.cap, ?_, q9⟩
  ·rw [HAG.out]
   exact (HI8.out.frame (Frame.of_all (S := fun _ => False) HB9.out) (fun _ _ _ h => h)).frame q8 hn73
  ·rw [HAG.out]
   exact own_mono (own_frame HO9.out q8 (fun g hg e2 => own_ne HO9.out H2Z.out (by decide) (by rw [hg, e2]))) (by have := HW3.out; omega)
end Go.Proofs.YtejabnoidhlfaaaDoor
