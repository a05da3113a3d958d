/- Contracts and lemmas that the claim uses. -/
import Derived.Test.YtejabnoidhlfaaaV25
import Derived.Deep.MidRow
set_option maxRecDepth 100000
set_option maxHeartbeats 16000000
namespace Go.Proofs.Ytejabnoidhlfaaa
open Go.RowKit Go.Maps
theorem idx107 (l : Lp) (m : Lm) {i : Int} (hi : i = 0 ∨ i = 1) (w : World) : (Instr.index 107 (.agg #[.int .i64 l.e0.life, .int .i64 l.e0.peer, .int .i64 l.e0.phase, .int .i64 l.e0.base, .slice m.A0 l.e0.out.length m.c0, .int .i64 l.e0.want, .slice m.D0 l.e0.inn.length m.d0,
  .int .i64 l.e1.life, .int .i64 l.e1.peer, .int .i64 l.e1.phase, .int .i64 l.e1.base, .slice m.A1 l.e1.out.length m.c1, .int .i64 l.e1.want, .slice m.D1 l.e1.inn.length m.d1]) (.int .i64 i)).run Try.prog w = .ok (.agg #[.int .i64 (l.end_ i).life, .int .i64 (l.end_ i).peer, .int .i64 (l.end_ i).phase, .int .i64 (l.end_ i).base, .slice (m.A i) (l.end_ i).out.length (m.c i), .int .i64 (l.end_ i).want, .slice (m.D i) (l.end_ i).inn.length (m.d i)]) w := by
 rcases hi with rfl | rfl
 ·kernel_rfl
 ·kernel_rfl
def qj (l : Lp) : Nat → Lp
 | 0 => { l with free := true }
 | 1 => wayA { l with free := true } 0 (tickA l.e0).1
 | _ => quiet0 l
theorem qj_step {l : Lp} {j : Nat} (hj : j < 2) : qj l (j + 1) = wayA (qj l j) (j : Int) (tickA (l.end_ j)).1 := by
 have h : j = 0 ∨ j = 1 := by omega
 rcases h with rfl | rfl
 ·rfl
 ·have he : (wayA { l with free := true } 0 (tickA l.e0).1).e1 = l.e1 := by rw [way_eq]
  show wayA _ 1 (tickA (wayA { l with free := true } 0 (tickA l.e0).1).e1).1 = _; rw [he]; rfl
def QtPost (ds : List Dd) (order : List Int) (w : World) (r : Ending) (w' : World) : Prop := ∃ EA ce WA cw TA ct es zs, r = .returned (.tuple #[lnV (quietA ds order).1 EA ce WA cw TA ct, .int .i64 (quietA ds order).2.1, .int .i64 (quietA ds order).2.2]) ∧ LnAt w' w.heap.size (quietA ds order).1 EA WA TA es zs ∧ Below w.heap.size w w' ∧ (quietA ds order).1.tales.length ≤ ct
theorem quiet_any (A : Option Addr) (c : Nat) (ds : List Dd) (OA : Option Addr) (oc : Nat) (order : List Int) (w : World) (h : Cells w A (dds ds)) (ho : Cells w OA (ints order)) : Calls Try.prog 27 #[.slice A ds.length c, .slice OA order.length oc] w (QtPost ds order w) := by
 have HC := Lib.hid h; have HO := Lib.hid ho; clear h ho; go_enter Try.func27, Try.ntmps27
 go_wp2_with fail
 go_step3; obtain ⟨W, hW⟩ : ∃ W, w.alloc (.cells #[.slice none 0 0, .slice none 0 0, .slice none 0 0] 59) = W := ⟨_, rfl⟩; have HBW : Hid (Below w.heap.size w W) := by rw [← hW]; exact (Below.refl _ w).alloc (Nat.le_refl _) _
 have HKW : Hid (Blk W w.heap.size (.cells #[.slice none 0 0, .slice none 0 0, .slice none 0 0] 59)) := by rw [← hW]; exact Blk.new _ _
 rw [hW]; clear hW; by_cases h2 : (200 : Int) < (order.length : Int)
 ·have HP : Hid (quietA ds order = (noLn, 0, 3)) := by show _ = _; unfold quietA; rw [if_pos (by omega)]
  have HKX := HKW; have HBX := HBW; obtain ⟨X, rfl⟩ : ∃ X, X = W := ⟨W, rfl⟩; obtain ⟨z0, z1, z2⟩ := Blk.c3 HKX.out; obtain ⟨x0, x1, x2, xl⟩ := Blk.g3 HKX.out; go_wp2; obtain ⟨W3, hW3⟩ : ∃ W3, ((X.setCell ⟨w.heap.size, 0, none⟩ (.slice none 0 0)).setCell ⟨w.heap.size, 1, none⟩ (.slice none 0 0)).setCell ⟨w.heap.size, 2, none⟩ (.slice none 0 0) = W3 := ⟨_, rfl⟩; have HK3 : Hid (Blk W3 w.heap.size (.cells #[.slice none 0 0, .slice none 0 0, .slice none 0 0] 59)) := by rw [← hW3]; exact ((HKX.out.set 0 _).set 1 _).set 2 _
  have HB3 : Hid (Below w.heap.size w W3) := by rw [← hW3]; exact ((HBX.out.setCell (Nat.le_refl _) _).setCell (Nat.le_refl _) _).setCell (Nat.le_refl _) _
  rw [hW3]; obtain ⟨c0, c1, c2⟩ := Blk.c3 HK3.out; clear hW3 z0 z1 z2 x0 x1 x2 xl; have hl : (loadVar 59 ⟨w.heap.size, 0, none⟩).run Try.prog W3 = .ok (.agg #[.slice none 0 0, .slice none 0 0, .slice none 0 0]) W3 := by go_simp
  first | rw [Exit.noGoto_ret] | skip
  refine bodyPost_ret (v := .tuple #[.agg #[.slice none 0 0, .slice none 0 0, .slice none 0 0], .int .i64 0, .int .i64 3]) (results_ctt rfl rfl rfl rfl hl) rfl ⟨none, 0, none, 0, none, 0, [], [], by rw [HP.out]; rfl, by rw [HP.out]; exact lnAt_no _ _, HB3.out, by rw [HP.out]; exact Nat.zero_le _⟩
 have q2 : decide ((200 : Int) < (order.length : Int)) = false := decide_eq_false h2; have HLN : Hid (order.length ≤ 200) := by show _ ≤ _; omega
 clear h2; go_wp2_with fail
 refine (played_any A c ds W (HC.out.below HBW.out (Nat.le_refl _))).mono ?_; rintro r X ⟨v, rfl, hok, hB1⟩; have HOK := Lib.hid hok; have HB1 := Lib.hid hB1; have HKX := Lib.hid (HKW.out.below hB1 HKW.out.lt); have hsw := HKW.out.lt; have HBX : Hid (Below w.heap.size w X) := HBW.out.trans (HB1.out.mono (by omega)); clear hok hB1; obtain ⟨e, HE⟩ : ∃ e, Hid ((playedA ds).2 = e) := ⟨_, rfl⟩; rw [HE.out]; cases q : (e != 0) with
 | true =>
  have HP : Hid (quietA ds order = (noLn, 0, e)) := by
   show _ = _; have hl := HLN.out; unfold quietA; rw [if_neg (by omega), HE.out, if_pos (by simpa using q)]
  obtain ⟨z0, z1, z2⟩ := Blk.c3 HKX.out; obtain ⟨x0, x1, x2, xl⟩ := Blk.g3 HKX.out; go_wp2; obtain ⟨W3, hW3⟩ : ∃ W3, ((X.setCell ⟨w.heap.size, 0, none⟩ (.slice none 0 0)).setCell ⟨w.heap.size, 1, none⟩ (.slice none 0 0)).setCell ⟨w.heap.size, 2, none⟩ (.slice none 0 0) = W3 := ⟨_, rfl⟩; have HK3 : Hid (Blk W3 w.heap.size (.cells #[.slice none 0 0, .slice none 0 0, .slice none 0 0] 59)) := by rw [← hW3]; exact ((HKX.out.set 0 _).set 1 _).set 2 _
  have HB3 : Hid (Below w.heap.size w W3) := by rw [← hW3]; exact ((HBX.out.setCell (Nat.le_refl _) _).setCell (Nat.le_refl _) _).setCell (Nat.le_refl _) _
  rw [hW3]; obtain ⟨c0, c1, c2⟩ := Blk.c3 HK3.out; clear hW3 z0 z1 z2 x0 x1 x2 xl; have hl : (loadVar 59 ⟨w.heap.size, 0, none⟩).run Try.prog W3 = .ok (.agg #[.slice none 0 0, .slice none 0 0, .slice none 0 0]) W3 := by go_simp
  first | rw [Exit.noGoto_ret] | skip
  refine bodyPost_ret (v := .tuple #[.agg #[.slice none 0 0, .slice none 0 0, .slice none 0 0], .int .i64 0, .int .i64 e]) (results_ctt rfl rfl rfl rfl hl) rfl ⟨none, 0, none, 0, none, 0, [], [], by rw [HP.out]; rfl, by rw [HP.out]; exact lnAt_no _ _, HB3.out, by rw [HP.out]; exact Nat.zero_le _⟩
 | false =>
  have he : e = 0 := by simpa using q
  have HE0 : Hid ((playedA ds).2 = 0) := by show _ = _; rw [HE.out]; exact he
  obtain ⟨bl, m, rfl, hl⟩ := HOK.out HE0.out; have HPK := Lib.hid (played_k HE0.out); have HMS := Lib.hid (quiet_mes HE0.out); have HP : Hid (quietA ds order = match quietN order (mes (quiet0 (playedA ds).1)) 0 (quiet0 (playedA ds).1) with
   | none => (noLn, 0, 0)
   | some r => (showA r.1, r.2, 0)) := by
   show _ = _; have hl := HLN.out; unfold quietA; rw [if_neg (by omega), if_neg (fun h => h HE0.out)]; rfl
  clear he HOK HE HE0; obtain ⟨l, HLL⟩ : ∃ l, Hid ((playedA ds).1 = l) := ⟨_, rfl⟩; rw [HLL.out] at hl HPK HP HMS; have HL := Lib.hid hl; have k18 := hl.box.cell 18 (v := .bool l.free) rfl; have j18 := hl.box.free 18; have kl := hl.box.lt; clear hl; obtain ⟨Y, hY⟩ : ∃ Y, X.setCell ⟨bl, 18, none⟩ (.bool true) = Y := ⟨_, rfl⟩; have HF := HL.out.setFree true; rw [hY] at HF; have HLY : Hid (Lo Y W.heap.size bl (qj l 0) m) := HF.1; have HBY : Hid (Below w.heap.size w Y) := HBX.out.trans ((HF.2.below HL.out).mono (by omega)); have HKY : Hid (Blk Y w.heap.size (.cells #[.slice none 0 0, .slice none 0 0, .slice none 0 0] 59)) := HKX.out.frame HF.2.fr (HL.out.ne HKX.out (by decide) (by decide) (by decide) (by decide)); clear HF; have y0 := HLY.out.box.cell 0 (v := .int .i64 l.e0.life) rfl; have y1 := HLY.out.box.cell 1 (v := .int .i64 l.e0.peer) rfl; have y2 := HLY.out.box.cell 2 (v := .int .i64 l.e0.phase) rfl; have y3 := HLY.out.box.cell 3 (v := .int .i64 l.e0.base) rfl; have y4 := HLY.out.box.cell 4 (v := .slice m.A0 l.e0.out.length m.c0) rfl; have y5 := HLY.out.box.cell 5 (v := .int .i64 l.e0.want) rfl; have y6 := HLY.out.box.cell 6 (v := .slice m.D0 l.e0.inn.length m.d0) rfl; have y7 := HLY.out.box.cell 7 (v := .int .i64 l.e1.life) rfl; have y8 := HLY.out.box.cell 8 (v := .int .i64 l.e1.peer) rfl; have y9 := HLY.out.box.cell 9 (v := .int .i64 l.e1.phase) rfl; have y10 := HLY.out.box.cell 10 (v := .int .i64 l.e1.base) rfl
  have y11 := HLY.out.box.cell 11 (v := .slice m.A1 l.e1.out.length m.c1) rfl; have y12 := HLY.out.box.cell 12 (v := .int .i64 l.e1.want) rfl; have y13 := HLY.out.box.cell 13 (v := .slice m.D1 l.e1.inn.length m.d1) rfl; have yl := HLY.out.box.lt; go_wp2_with fail
  go_loopg [35] 2 (fun g iv wr => ∃ (j : Nat) (M : Lm), j + g = 2 ∧ iv = .int .i64 (j : Int) ∧ Lo wr W.heap.size bl (qj l j) M ∧ Ls bl (qj l 0) m Y (qj l j) M wr)
  case atStart => exact ⟨0, m, rfl, rfl, HLY.out, Ls.refl _ _ _ _⟩
  case round =>
   obtain ⟨j, M, hj, rfl, hl, hs⟩ := hrel; have HJ := Lib.hid hj; have HLR := Lib.hid hl; have HSR := Lib.hid hs; have lr := hl.box.lt; clear hj hl hs; by_cases hlt : (j : Int) < 2
   ·have HJ2 : Hid (j < 2) := by show _ < _; omega
    have H01 : Hid ((j : Int) = 0 ∨ (j : Int) = 1) := by show _ ∨ _; omega
    have HQS := Lib.hid (qj_step (l := l) HJ2.out); have hw1 : IntKind.i64.wrap ((j : Int) + 1) = (j : Int) + 1 := wrap_ok ⟨by omega, by omega⟩; have HEJ : Hid (EnT wr (l.end_ j) (m.A j) (m.c j) (m.D j)) := (HLY.out.end_ H01.out).ls HLY.out HSR.out; have HGJ : Hid (goodB (l.end_ j) = true) := HPK.out.2.1.ok.good _; have HWJ : Hid ((qj l j).wire.length ≤ 4005) := by
     have h1 := HPK.out.2.1.bulk.wire; have h2 : j = 0 ∨ j = 1 := by have := HJ2.out; omega
     rcases h2 with rfl | rfl
     ·show l.wire.length ≤ _; omega
     ·have h3 := wayA_len (frm := 0) (tickA l.e0).1 { l with free := true }; have h4 := tick_packets l.e0; show (wayA { l with free := true } 0 (tickA l.e0).1).wire.length ≤ _; have h5 : ({ l with free := true } : Lp).wire.length = l.wire.length := rfl; omega
    have hidx := fun w' => idx107 l m H01.out w'; go_wp2_with fail
    obtain ⟨E, HE⟩ : ∃ E, Hid (l.end_ j = E) := ⟨_, rfl⟩; rw [HE.out] at HEJ HGJ HQS ⊢; obtain ⟨V, hV⟩ : ∃ V, wr.alloc (.cells #[.int .i64 E.life, .int .i64 E.peer, .int .i64 E.phase, .int .i64 E.base, .slice (m.A j) E.out.length (m.c j), .int .i64 E.want, .slice (m.D j) E.inn.length (m.d j)] 26) = V := ⟨_, rfl⟩; have HB : Hid (Below wr.heap.size wr V) := by rw [← hV]; exact (Below.refl _ wr).alloc (Nat.le_refl _) _
    rw [hV]; clear hV hidx; have HEV : Hid (EnT V E (m.A j) (m.c j) (m.D j)) := HEJ.out.frame (Frame.of_all (S := fun _ => False) HB.out) (fun _ _ _ h => h) (fun _ _ _ h => h); refine (tick_any E (m.A j) (m.c j) (m.D j) (m.d j) V HEV.out.at_ HEV.out.nl).mono ?_; rintro r wt ⟨vv, rfl, hOw, hBt⟩; obtain ⟨P, cp, rfl⟩ := own_fits hOw; have HBT : Hid (Below wr.heap.size wr wt) := below_in HB.out hBt; have HLT : Hid (Lo wt W.heap.size bl (qj l j) M) := HLR.out.below HBT.out; have HPL : Hid ((tickA E).1.length ≤ 5) := tick_packets E; have HOP : Hid (Off wt bl (qj l j) M P (pks (tickA E).1)) := off_own (HLR.out.below HB.out) hOw (by rw [pks_len]; have := HPL.out; omega); clear hOw hBt; go_wp2_with fail
    refine (way_any W.heap.size bl (qj l j) M (j : Int) P cp (tickA E).1 wt HLT.out H01.out HOP.out (by have := HWJ.out; have := HPL.out; omega)).mono ?_; rintro r w9 ⟨rfl, M9, hl9, hs9⟩; have HL9 := Lib.hid hl9; have HS9 := Lib.hid hs9; clear hl9 hs9; go_wp2_with fail
    go_roundg (1 - j)
    case measure => have := HJ.out; have := HJ2.out; omega
    case rel => exact ⟨j + 1, M9, by have := HJ2.out; omega, rfl, by rw [HQS.out]; exact HL9.out, by rw [HQS.out]; exact (HSR.out.trans (Ls.of_below HBT.out)).trans HS9.out⟩
   ·have hj2 : j = 2 := by have := HJ.out; omega
    subst hj2; have HLQ : Hid (Lo wr W.heap.size bl (quiet0 l) M) := HLR.out; have HBQ : Hid (Below w.heap.size w wr) := HBY.out.trans ((HSR.out.below HLY.out).mono (by omega)); have HKQ : Hid (Blk wr w.heap.size (.cells #[.slice none 0 0, .slice none 0 0, .slice none 0 0] 59)) := HKY.out.frame HSR.out.fr (HLY.out.ne HKY.out (by decide) (by decide) (by decide) (by decide)); have HKK : Hid (LineK (quiet0 l) 4010) := quiet0_k HPK.out.2.1; clear y0 y1 y2 y3 y4 y5 y6 y7 y8 y9 y10 y11 y12 y13 yl k18 j18 kl lr HLR HSR HJ HLY HBY HKY; go_wp2_with fail
    go_step3; go_wp2_with fail
    go_loopg [13] (mes (quiet0 l)) (fun g nv wr => ∃ (j : Nat) (L : Lp) (M : Lm), nv = .int .i64 (j : Int) ∧ mes L ≤ g ∧ j + g = mes (quiet0 l) ∧ Lo wr W.heap.size bl L M ∧ LineK L (4010 + 20 * j) ∧ quietN order g j L = quietN order (mes (quiet0 l)) 0 (quiet0 l) ∧ Below w.heap.size w wr ∧ Blk wr w.heap.size (.cells #[.slice none 0 0, .slice none 0 0, .slice none 0 0] 59))
    case atStart => exact ⟨0, quiet0 l, M, rfl, Nat.le_refl _, Nat.zero_add _, HLQ.out, HKK.out, rfl, HBQ.out, HKQ.out⟩
    case round =>
     obtain ⟨j, L, M, rfl, hm, hjg, hl, hk, hq, hb, hkb⟩ := hrel; have HM := Lib.hid hm; have HJG := Lib.hid hjg; have HLR := Lib.hid hl; have HKR := Lib.hid hk; have HQ := Lib.hid hq; have HBR := Lib.hid hb; have HKB := Lib.hid hkb; have c14 := hl.box.cell 14 (v := .slice M.W L.wire.length M.cw) rfl; have cl := hl.box.lt; have hj20 : j ≤ 20000 := by have := HMS.out; omega
     have hwb : L.wire.length ≤ 500000 := by have := hk.bulk.wire; omega
     clear hm hjg hl hk hq hb hkb; cases q0 : ((L.wire.length : Int) == 0) with
     | true =>
      have h0 : L.wire.length = 0 := by have := beq_iff_eq.1 q0; omega
      have HQA : Hid (quietA ds order = (showA L, (j : Int), 0)) := by
       show _ = _; rw [HP.out, ← HQ.out, quietN_end order h0]
      clear h0; go_wp2_with fail
      refine (show_any W.heap.size bl L M wr (4010 + 20 * j) HLR.out HKR.out.bulk (by omega)).mono ?_; rintro r w2 ⟨EA, ce, WA, cw, TA, ct, es, zs, rfl, hln, hB2, hct⟩; have HCT := Lib.hid hct; have HLN2 := Lib.hid hln; have hrs := HBR.out.size; have hwl := HKB.out.lt; have hk2 := HKB.out.below hB2 hwl; have HK2 := Lib.hid hk2; have HBW2 : Hid (Below w.heap.size w w2) := HBR.out.trans (hB2.mono hrs); clear hln hB2 hct c14 cl; obtain ⟨z0, z1, z2⟩ := Blk.c3 hk2; obtain ⟨x0, x1, x2, xl⟩ := Blk.g3 hk2; clear hk2; unfold lnV; obtain ⟨x, HX⟩ : ∃ x, Hid (showA L = x) := ⟨_, rfl⟩; rw [HX.out] at HLN2 HQA HCT ⊢; go_wp2; obtain ⟨W3, hW3⟩ : ∃ W3, ((w2.setCell ⟨w.heap.size, 0, none⟩ (.slice EA x.ends.length ce)).setCell ⟨w.heap.size, 1, none⟩ (.slice WA x.wire.length cw)).setCell ⟨w.heap.size, 2, none⟩ (.slice TA x.tales.length ct) = W3 := ⟨_, rfl⟩; have HK3 : Hid (Blk W3 w.heap.size (.cells #[.slice EA x.ends.length ce, .slice WA x.wire.length cw, .slice TA x.tales.length ct] 59)) := by rw [← hW3]; exact ((HK2.out.set 0 _).set 1 _).set 2 _
      have HB3 : Hid (Below w.heap.size w W3) := by rw [← hW3]; exact ((HBW2.out.setCell (Nat.le_refl _) _).setCell (Nat.le_refl _) _).setCell (Nat.le_refl _) _
      have HF3 : Hid (Frame (fun b => b = w.heap.size) w2 W3) := by
       rw [← hW3]; exact (((Frame.refl (fun b => b = w.heap.size) w2).setCell (p := ⟨w.heap.size, 0, none⟩) (.inl rfl) _).setCell (p := ⟨w.heap.size, 1, none⟩) (.inl rfl) _).setCell (p := ⟨w.heap.size, 2, none⟩) (.inl rfl) _
      rw [hW3]; obtain ⟨c0, c1, c2⟩ := Blk.c3 HK3.out; clear hW3 z0 z1 z2 x0 x1 x2 xl; have hl : (loadVar 59 ⟨w.heap.size, 0, none⟩).run Try.prog W3 = .ok (.agg #[.slice EA x.ends.length ce, .slice WA x.wire.length cw, .slice TA x.tales.length ct]) W3 := by go_simp
      have hln3 := HLN2.out.frame HF3.out (fun b e => by omega) (fun b cur hb e => by rw [e] at hb; exact blk_ne hb HK2.out (by decide) rfl) (fun b cur hb e => by rw [e] at hb; exact blk_ne hb HK2.out (by decide) rfl); first | rw [Exit.noGoto_ret] | skip
      refine bodyPost_ret (v := .tuple #[.agg #[.slice EA x.ends.length ce, .slice WA x.wire.length cw, .slice TA x.tales.length ct], .int .i64 (j : Int), .int .i64 0]) (results_ctt rfl rfl rfl rfl hl) rfl ⟨EA, ce, WA, cw, TA, ct, es, zs, by rw [HQA.out]; rfl, by rw [HQA.out]; exact hln3.mono (by omega), HB3.out, by rw [HQA.out]; exact HCT.out⟩
     | false =>
      have h0 : ¬ L.wire.length = 0 := by have := beq_eq_false_iff_ne.1 q0; omega
      have H0 := Lib.hid h0; have hw1 : IntKind.i64.wrap ((j : Int) + 1) = (j : Int) + 1 := wrap_ok ⟨by omega, by omega⟩; obtain ⟨kn, HKN⟩ : ∃ kn, Hid (nextK order j L.wire.length = kn) := ⟨_, rfl⟩; have HKL : Hid (kn < L.wire.length) := by show _ < _; rw [← HKN.out]; exact next_lt order j (by omega)
      obtain ⟨x, HX⟩ : ∃ x, Hid (L.wire[kn]? = some x) := ⟨_, List.getElem?_eq_getElem HKL.out⟩; have HCL := Lib.hid (carry_less HKR.out.ok HKL.out); have HQ2 : Hid (quietN order (gk - 1) (j + 1) (carryA L kn) = quietN order (mes (quiet0 l)) 0 (quiet0 l)) := by
       show _ = _; have h9 := quietN_step order (f := gk - 1) (n := j) h0; have h8 := HCL.out.2.1; have h7 := HM.out; rw [show gk - 1 + 1 = gk by omega, HKN.out] at h9; rw [← h9]; exact HQ.out
      have hne : ¬ (L.wire.length : Int) = 0 := by omega
      clear h0; by_cases hor : (0 : Int) < (order.length : Int)
      ·have qo : decide ((0 : Int) < (order.length : Int)) = true := decide_eq_true hor; have hno : ¬ (order.length : Int) = 0 := by omega
       have hon : ¬ order.length = 0 := by omega
       have hmod := Nat.mod_lt j (show 0 < order.length by omega); obtain ⟨o, b, oo, hox, hob, hix, hcx⟩ := ints_at (c := oc) (k := j % order.length) (HO.out.below HBR.out (Nat.le_refl _)) Try.underlying53 szInt hmod; rw [Int.ofNat_tmod] at hix; have HOX := Lib.hid hox; clear hox hmod; go_upto_region 17 with fail
       have hnl : ¬ L.wire.length = 0 := H0.out; obtain ⟨om, hom⟩ : ∃ om, Hid (o % 18446744073709551616 = om) := ⟨_, rfl⟩; have hu1 : IntKind.u64.wrap o = om := by rw [← hom.out]; rfl
       have hu2 : IntKind.u64.wrap (L.wire.length : Int) = (L.wire.length : Int) := by show (L.wire.length : Int) % 18446744073709551616 = _; omega
       have hu3 : om.tmod (L.wire.length : Int) = (kn : Int) := by
        have h1 : 0 ≤ om := by rw [← hom.out]; exact Int.emod_nonneg _ (by decide)
        have h2 := Int.emod_nonneg om hne; rw [Int.tmod_eq_emod_of_nonneg h1, ← HKN.out]; unfold nextK; rw [HOX.out]; simp only [hom.out]; omega
       have hu4 : IntKind.u64.wrap (kn : Int) = (kn : Int) := by have := HKL.out; show (kn : Int) % 18446744073709551616 = _; omega
       have hu5 : IntKind.i64.wrap (kn : Int) = (kn : Int) := wrap_ok (by have := HKL.out; exact ⟨by omega, by omega⟩); refine sall (by kernel_rfl) (by kernel_rfl) (fun Kq hKq => ?_); repeat still_step
       refine wpStill_nil (hKq _ ?_); clear hKq Kq; have HLRd := Lib.hid HLR.out.drew; have HBRd : Hid (Below w.heap.size w wr.drew) := HBR.out.drew; have HKBd := Lib.hid HKB.out.drew; clear HLR HBR HKB c14 cl hix hob hcx hu1 hu2 hu3 hu4 hu5; generalize wr.drew = wq at HLRd HBRd HKBd ⊢; obtain ⟨HLR, HBR, HKB⟩ := And.intro HLRd (And.intro HBRd HKBd); go_wp2_with fail
       refine (carry_any W.heap.size bl L M kn x HX.out wq (4010 + 20 * j) HLR.out HKR.out (by omega)).mono ?_; rintro r w9 ⟨rfl, M9, hl9, hs9⟩; have HL9 := Lib.hid hl9; have HS9 := Lib.hid hs9; clear hl9 hs9; go_wp2_with fail
       go_roundg (gk - 1)
       case measure => have h8 := HCL.out.2.1; have h7 := HM.out; omega
       case rel =>
        have h8 := HCL.out.2.1; have h7 := HM.out; have h6 := HJG.out; refine ⟨j + 1, _, M9, rfl, by omega, by omega, HL9.out, ?_, HQ2.out, HBR.out.trans ((HS9.out.below HLR.out).mono (by omega)), HKB.out.frame HS9.out.fr (HLR.out.ne HKB.out (by decide) (by decide) (by decide) (by decide))⟩; have h5 := carry_k HKR.out HKL.out; exact ⟨h5.ok, h5.now, h5.bulk.mono (by omega)⟩
      ·have qo : decide ((0 : Int) < (order.length : Int)) = false := decide_eq_false hor; have hkn : kn = 0 := by
        rw [← HKN.out]; have : order = [] := List.eq_nil_of_length_eq_zero (by omega); rw [this]; rfl
       subst hkn; go_wp2_with fail
       refine (carry_any W.heap.size bl L M 0 x HX.out wr (4010 + 20 * j) HLR.out HKR.out (by omega)).mono ?_; rintro r w9 ⟨rfl, M9, hl9, hs9⟩; have HL9 := Lib.hid hl9; have HS9 := Lib.hid hs9; clear hl9 hs9; go_wp2_with fail
       go_roundg (gk - 1)
       case measure => have h8 := HCL.out.2.1; have h7 := HM.out; omega
       case rel =>
        have h8 := HCL.out.2.1; have h7 := HM.out; have h6 := HJG.out; refine ⟨j + 1, _, M9, rfl, by omega, by omega, HL9.out, ?_, HQ2.out, HBR.out.trans ((HS9.out.below HLR.out).mono (by omega)), HKB.out.frame HS9.out.fr (HLR.out.ne HKB.out (by decide) (by decide) (by decide) (by decide))⟩; have h5 := carry_k HKR.out HKL.out; exact ⟨h5.ok, h5.now, h5.bulk.mono (by omega)⟩
theorem Blk.there {w : World} {b : Nat} {cs : Array Value} {t : TypeId} (h : Blk w b (.cells cs t)) : w.there b 0 cs.size := fun j hj => by
 rw [Nat.zero_add]; refine ⟨?_, h.free j⟩; rw [h.cell j (v := cs[j]) (by simp [hj])]; rfl
section
variable {ops : Array Oper} {rest : List Oper} {op : Oper} {a : Act} {w : World} {Q : Exit → Act → World → Prop}
theorem wpList_store26 {b : Nat} {e0 e : En} {A0 D0 A D : Option Addr} {c0 d0 c d : Nat} (hgd : op.guard = none) (x y : Operand) (ho : op.op = .store 26 x y) (h5 : Blk w b (.cells (enB e0 A0 c0 D0 d0) 26)) (hx : a.eval x = .pointer (some ⟨b, 0, none⟩)) (hy : a.eval y = enV e A c D d)
  (h : wpList Try.prog ops Q rest (a.put op.dst undef) (setEn w b e A c D d)) : wpList Try.prog ops Q (op :: rest) a w :=
 wpList_store_mid hgd 26 x y ho b 0 (enB e A c D d) hx hy h5.there sz26 (by simp [enB, Value.oneCell']) h
theorem wpList_store47 {b : Nat} {g : Gn} {P T L : Option Addr} {cp ct cl : Nat} {u0 u1 u2 : Value} (hgd : op.guard = none) (x y : Operand) (ho : op.op = .store 47 x y) (h5 : Blk w b (.cells #[u0, u1, u2] 47)) (hx : a.eval x = .pointer (some ⟨b, 0, none⟩)) (hy : a.eval y = gnV g P cp T ct L cl)
  (h : wpList Try.prog ops Q rest (a.put op.dst undef) (setGn w b g P cp T ct L cl)) : wpList Try.prog ops Q (op :: rest) a w :=
 wpList_store_mid hgd 47 x y ho b 0 (gnB g P cp T ct L cl) hx hy h5.there (by kernel_rfl) (by simp [gnB, Value.oneCell']) h
end
theorem neq44 (p q : Pk) (w : World) : (binOp .neq 44 (pkV p) (pkV q)).run Try.prog w = .ok (.bool (!decide (p = q))) w := by
 have hst := stood44; obtain ⟨a0, a1, a2, a3, a4, a5, a6⟩ := p; obtain ⟨b0, b1, b2, b3, b4, b5, b6⟩ := q; unfold pkV; by_cases e0 : a0 = b0
 ·by_cases e1 : a1 = b1
  ·by_cases e2 : a2 = b2
   ·by_cases e3 : a3 = b3
    ·by_cases e4 : a4 = b4
     ·by_cases e5 : a5 = b5
      ·by_cases e6 : a6 = b6
       ·subst e0 e1 e2 e3 e4 e5 e6; go_simp
       ·go_simp
      ·go_simp
     ·have e4' : ¬ a4.toList = b4.toList := fun h => e4 (toList_inj h); go_simp
    ·go_simp
   ·go_simp
  ·go_simp
 ·go_simp
theorem take_eq_all {α : Type} {a b : List α} (hl : a.length = b.length) {k : Nat} (hk : a.take k = b.take k) (h : a.length ≤ k) : a = b := by
 rwa [List.take_of_length_le h, List.take_of_length_le (by omega)] at hk
theorem same_packets (A : Option Addr) (ca : Nat) (a : List Pk) (B : Option Addr) (cb : Nat) (b : List Pk) (w : World) (ha : Cells w A (pks a)) (hb : Cells w B (pks b)) :
  Calls Try.prog 19 #[.slice A a.length ca, .slice B b.length cb] w fun r w' => r = .returned (.bool (decide (a = b))) ∧ Below w.heap.size w w' := by
 have HLB : Hid (a.length * 7 ≤ 17592186043904) := by have := ha.1; rw [pks_len] at this; exact this
 have HA := Lib.hid ha; have HB := Lib.hid hb; clear ha hb; go_enter Try.func19, Try.ntmps19
 by_cases hl : (a.length : Int) = (b.length : Int); rotate_left
 ·have q0 : ((a.length : Int) != (b.length : Int)) = true := by simpa using hl
  have HN : Hid (decide (a = b) = false) := decide_eq_false fun e => hl (by rw [e]); clear hl; go_wp2; go_ret; exact ⟨by rw [HN.out]; rfl, Below.refl _ _⟩
 have HL : Hid (a.length = b.length) := by show _ = _; omega
 have q0 : ((a.length : Int) != (b.length : Int)) = false := by simpa using hl
 clear hl; go_wp2; go_loopg [5] a.length (fun g iv wr => ∃ k : Nat, k + g = a.length ∧ iv = .int .i64 (k : Int) ∧ a.take k = b.take k ∧ Below w.heap.size w wr)
 case atStart => exact ⟨0, Nat.zero_add _, rfl, rfl, Below.refl _ _⟩
 case round =>
  obtain ⟨k, hk, rfl, htk, hB⟩ := hrel; have HK := Lib.hid hk; have HT := Lib.hid htk; have HBR := Lib.hid hB; clear hk htk hB; by_cases hlt : (k : Int) < (a.length : Int)
  ·obtain ⟨x, xb, xo, hx, hxb, hxi, hx0, hx1, hx2, hx3, hx4, hx5, hx6⟩ := pk_at (c := ca) (k := k) (HA.out.below HBR.out (Nat.le_refl _)) (by omega); obtain ⟨y, yb, yo, hy, hyb, hyi, hy0, hy1, hy2, hy3, hy4, hy5, hy6⟩ := pk_at (c := cb) (k := k) (HB.out.below HBR.out (Nat.le_refl _)) (by have := HL.out; omega); have HX := Lib.hid hx; have HY := Lib.hid hy; have hw1 : IntKind.i64.wrap ((k : Int) + 1) = (k : Int) + 1 := wrap_ok ⟨by omega, by have := HA.out.1; have := HLB.out; omega⟩; clear hx hy; have heq : ∀ w : World, (binOp .neq 44 (.agg #[.int .i64 x.kind, .int .i64 x.frm, .int .i64 x.to, .int .i64 x.num, .string x.t, .int .i64 x.ack, .int .i64 x.held]) (.agg #[.int .i64 y.kind, .int .i64 y.frm, .int .i64 y.to, .int .i64 y.num, .string y.t, .int .i64 y.ack, .int .i64 y.held])).run Try.prog w = .ok (.bool (!decide (x = y))) w := fun w => neq44 x y w; obtain ⟨nb, HNB⟩ : ∃ nb, decide (x = y) = nb := ⟨_, rfl⟩; go_upto_region 6 with fail
   cases nb with
   | true =>
    have HXY : Hid (x = y) := Lib.hid (of_decide_eq_true HNB); refine sall (by kernel_rfl) (by kernel_rfl) (fun Kq hKq => ?_); repeat still_step
    refine wpStill_nil (hKq _ ?_); clear hKq Kq; go_wp2_with fail
    go_roundg (a.length - (k + 1))
    case measure => have := HK.out; omega
    case rel => exact ⟨k + 1, by omega, rfl, by rw [take_succ_of HX.out, take_succ_of HY.out, HT.out, HXY.out], HBR.out.drew⟩
   | false =>
    have HN : Hid (decide (a = b) = false) := decide_eq_false fun e => by
     have h1 := HX.out; rw [e, HY.out] at h1; injection h1 with h1; exact of_decide_eq_false HNB h1.symm
    refine sall (by kernel_rfl) (by kernel_rfl) (fun Kq hKq => ?_); repeat still_step
    refine wpStill_nil (hKq _ ?_); clear hKq Kq; go_wp2; go_ret; exact ⟨by rw [HN.out]; rfl, HBR.out.drew⟩
  ·have HY : Hid (decide (a = b) = true) := decide_eq_true (take_eq_all HL.out HT.out (by omega)); go_wp2; go_ret; exact ⟨by rw [HY.out]; rfl, HBR.out⟩
theorem same_texts (A : Option Addr) (ca : Nat) (a : List ByteArray) (B : Option Addr) (cb : Nat) (b : List ByteArray) (w : World) (ha : Cells w A (strs a)) (hb : Cells w B (strs b)) :
  Calls Try.prog 36 #[.slice A a.length ca, .slice B b.length cb] w fun r w' => r = .returned (.bool (decide (a = b))) ∧ Below w.heap.size w w' := by
 have HLB : Hid (a.length ≤ 17592186043904) := by have := ha.1; rw [strs_len] at this; exact this
 have HA := Lib.hid ha; have HB := Lib.hid hb; clear ha hb; go_enter Try.func36, Try.ntmps36
 by_cases hl : (a.length : Int) = (b.length : Int); rotate_left
 ·have q0 : ((a.length : Int) != (b.length : Int)) = true := by simpa using hl
  have HN : Hid (decide (a = b) = false) := decide_eq_false fun e => hl (by rw [e]); clear hl; go_wp2; go_ret; exact ⟨by rw [HN.out]; rfl, Below.refl _ _⟩
 have HL : Hid (a.length = b.length) := by show _ = _; omega
 have q0 : ((a.length : Int) != (b.length : Int)) = false := by simpa using hl
 clear hl; go_wp2; go_loopg [5] a.length (fun g iv wr => ∃ k : Nat, k + g = a.length ∧ iv = .int .i64 (k : Int) ∧ a.take k = b.take k ∧ Below w.heap.size w wr)
 case atStart => exact ⟨0, Nat.zero_add _, rfl, rfl, Below.refl _ _⟩
 case round =>
  obtain ⟨k, hk, rfl, htk, hB⟩ := hrel; have HK := Lib.hid hk; have HT := Lib.hid htk; have HBR := Lib.hid hB; clear hk htk hB; by_cases hlt : (k : Int) < (a.length : Int)
  ·obtain ⟨x, xb, xo, hx, hxb, hxi, hx0⟩ := st_at (c := ca) (k := k) (HA.out.below HBR.out (Nat.le_refl _)) (by omega); obtain ⟨y, yb, yo, hy, hyb, hyi, hy0⟩ := st_at (c := cb) (k := k) (HB.out.below HBR.out (Nat.le_refl _)) (by have := HL.out; omega); have HX := Lib.hid hx; have HY := Lib.hid hy; have hw1 : IntKind.i64.wrap ((k : Int) + 1) = (k : Int) + 1 := wrap_ok ⟨by omega, by have := HA.out.1; have := HLB.out; omega⟩; clear hx hy; have heq : (x.toList == y.toList) = decide (x = y) := toList_eq; obtain ⟨nb, HNB⟩ : ∃ nb, decide (x = y) = nb := ⟨_, rfl⟩; go_upto_region 6 with fail
   cases nb with
   | true =>
    have HXY : Hid (x = y) := Lib.hid (of_decide_eq_true HNB); refine sall (by kernel_rfl) (by kernel_rfl) (fun Kq hKq => ?_); repeat still_step
    refine wpStill_nil (hKq _ ?_); clear hKq Kq; go_wp2_with fail
    go_roundg (a.length - (k + 1))
    case measure => have := HK.out; omega
    case rel => exact ⟨k + 1, by omega, rfl, by rw [take_succ_of HX.out, take_succ_of HY.out, HT.out, HXY.out], HBR.out.drew⟩
   | false =>
    have HN : Hid (decide (a = b) = false) := decide_eq_false fun e => by
     have h1 := HX.out; rw [e, HY.out] at h1; injection h1 with h1; exact of_decide_eq_false HNB h1.symm
    refine sall (by kernel_rfl) (by kernel_rfl) (fun Kq hKq => ?_); repeat still_step
    refine wpStill_nil (hKq _ ?_); clear hKq Kq; go_wp2; go_ret; exact ⟨by rw [HN.out]; rfl, HBR.out.drew⟩
  ·have HY : Hid (decide (a = b) = true) := decide_eq_true (take_eq_all HL.out HT.out (by omega)); go_wp2; go_ret; exact ⟨by rw [HY.out]; rfl, HBR.out⟩
end Go.Proofs.Ytejabnoidhlfaaa
