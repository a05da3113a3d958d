/- Take that refuses. -/
import Derived.Test.YtejabnoidhlfaaaDoorS22

/- Contract: Take; what is not as defined, and what is of an elder life. -/
namespace Go.Proofs.YtejabnoidhlfaaaDoor
open Go.RowKit Go.Maps

def TakePost (e : En) (p : Pk) (w : World) (r : Ending) (w' : World) : Prop := ∃ A c D d P cp T ct L cl, r = .returned (.tuple #[enV (takeA e p).1 A c D d, gnV (takeA e p).2.1 P cp T ct L cl, .int .i64 (takeA e p).2.2]) ∧ EnAt w' (takeA e p).1 A D ∧ GnAt w' (takeA e p).2.1 P T L ∧ (A = none → c = 0) ∧ (takeA e p).1.out.length ≤ c ∧ RowAt w' w.heap.size A (takeA e p).1.out ∧ ImAt w' D (takeA e p).1.inn ∧ (∀ a, T = some a → w.heap.size ≤ a.block) ∧ (∀ a, P = some a → w.heap.size ≤ a.block) ∧ (∀ a, L = some a → w.heap.size ≤ a.block) ∧ (T = none → ct = 0) ∧ (L = none → cl = 0) ∧ Below w.heap.size w w'
theorem tk_bad {e : En} {p : Pk} (h : (goodB e && properB p) = false) : takeA e p = (noEn, noGn, 2) := by unfold takeA; rw [if_pos h]

def setGn (w : World) (b : Nat) (g : Gn) (P : Option Addr) (cp : Nat) (T : Option Addr) (ct : Nat) (L : Option Addr) (cl : Nat) : World := ((w.setCell ⟨b, 0, none⟩ (.slice P g.packets.length cp)).setCell ⟨b, 1, none⟩ (.slice T g.taken.length ct)).setCell ⟨b, 2, none⟩ (.slice L g.lost.length cl)
theorem setGn_blk {w : World} {b : Nat} {g : Gn} {P T L : Option Addr} {cp ct cl : Nat} {x y z : Value} (h : Blk w b (.cells #[x, y, z] 44)) : Blk (setGn w b g P cp T ct L cl) b (.cells (gnB g P cp T ct L cl) 44) :=
 ((h.set 0 (.slice P g.packets.length cp)).set 1 (.slice T g.taken.length ct)).set 2 (.slice L g.lost.length cl)
theorem setGn_frame {S : Nat → Prop} {w0 w : World} {b : Nat} {g : Gn} {P T L : Option Addr} {cp ct cl : Nat} (h : Frame S w0 w) (hb : S b ∨ w0.heap.size ≤ b) : Frame S w0 (setGn w b g P cp T ct L cl) := ((h.setCell hb _).setCell hb _).setCell hb _
/-- The two results are stored. -/
theorem tk_end {X : World} {b4 b5 : Nat} {e0 e' : En} {A0 D0 A D P T L : Option Addr} {c0 d0 c d cp ct cl : Nat} {g : Gn} {x y z : Value} (h4 : Blk X b4 (.cells (enB e0 A0 c0 D0 d0) 38)) (h5 : Blk X b5 (.cells #[x, y, z] 44)) :
  Blk (setGn (setEn X b4 e' A c D d) b5 g P cp T ct L cl) b4 (.cells (enB e' A c D d) 38) ∧ Blk (setGn (setEn X b4 e' A c D d) b5 g P cp T ct L cl) b5 (.cells (gnB g P cp T ct L cl) 44) ∧ Frame (fun b => b = b4 ∨ b = b5) X (setGn (setEn X b4 e' A c D d) b5 g P cp T ct L cl) := by
 have hne : b4 ≠ b5 := blk_ne h4 h5 (by decide)
 have hs4 := setEn_blk (e := e') (A := A) (c := c) (B := D) (d := d) h4
 have hf4 : Frame (fun b => b = b4) X (setEn X b4 e' A c D d) := setEn_frame (Frame.refl (fun b => b = b4) X) (.inl rfl)
 have hs5 := h5.frame hf4 (fun e2 => hne e2.symm)
 have hf5 : Frame (fun b => b = b5) (setEn X b4 e' A c D d) (setGn (setEn X b4 e' A c D d) b5 g P cp T ct L cl) := setGn_frame (Frame.refl (fun b => b = b5) _) (.inl rfl)
 exact ⟨hs4.frame hf5 hne, setGn_blk hs5, (hf4.mono (fun b _ e2 => .inl e2)).trans hf5 (fun b _ e2 => .inr e2)⟩

set_option maxRecDepth 100000 in
set_option maxHeartbeats 16000000 in
theorem take_bad (e : En) (A : Option Addr) (c : Nat) (Bi : Option Addr) (d : Nat) (p : Pk) (w : World) (h : EnAt w e A Bi) (hts : p.t.size ≤ 1000000) (hbad : (goodB e && properB p) = false) :
  Calls Tryd.prog 11 #[enV e A c Bi d, pkV p] w (TakePost e p w) := by
 have HTK := Lib.hid (tk_bad hbad)
 have HBAD := Lib.hid hbad
 clear hbad
 have HE := Lib.hid h
 unfold enV pkV
 go_enter Tryd.func11, Tryd.ntmps11
 go_wp2_with fail
 obtain ⟨W, hW⟩ : ∃ W, (((w.alloc (.cells #[.int .i64 e.life, .int .i64 e.peer, .int .i64 e.phase, .int .i64 e.base, .slice A e.out.length c, .int .i64 e.want, .slice Bi e.inn.length d] 38)).alloc (.cells #[.int .i64 p.kind, .int .i64 p.frm, .int .i64 p.to, .int .i64 p.num, .string p.t, .int .i64 p.ack, .int .i64 p.held] 49)).alloc (.cells #[.int .i64 0, .int .i64 0, .int .i64 0, .int .i64 0, .slice none 0 0, .int .i64 0, .slice none 0 0] 38)).alloc (.cells #[.slice none 0 0, .slice none 0 0, .slice none 0 0] 44) = W := ⟨_, rfl⟩
 rw [hW]
 have HB0 : Hid (Below w.heap.size w W) := by rw [← hW]; exact ((((Below.refl _ w).alloc (Nat.le_refl _) _).alloc (by simp) _).alloc (by simp; omega) _).alloc (by simp; omega) _
 have hsW : W.heap.size = w.heap.size + 4 := by rw [← hW]; simp
 have HK1 : Hid (Blk W w.heap.size (.cells (enB e A c Bi d) 38)) := by rw [← hW]; exact (((Blk.new _ _).alloc _).alloc _).alloc _
 have HK3 : Hid (Blk W (w.heap.size + 1) (.cells (pkB p) 49)) := by
  rw [← hW]
  have e1 := Blk.new (w.alloc (.cells #[.int .i64 e.life, .int .i64 e.peer, .int .i64 e.phase, .int .i64 e.base, .slice A e.out.length c, .int .i64 e.want, .slice Bi e.inn.length d] 38)) (.cells #[.int .i64 p.kind, .int .i64 p.frm, .int .i64 p.to, .int .i64 p.num, .string p.t, .int .i64 p.ack, .int .i64 p.held] 49)
  rw [World.size_alloc] at e1
  exact (e1.alloc _).alloc _
 have HK4 : Hid (Blk W (w.heap.size + 1 + 1) (.cells (enB noEn none 0 none 0) 38)) := by
  rw [← hW]
  have e1 := Blk.new ((w.alloc (.cells #[.int .i64 e.life, .int .i64 e.peer, .int .i64 e.phase, .int .i64 e.base, .slice A e.out.length c, .int .i64 e.want, .slice Bi e.inn.length d] 38)).alloc (.cells #[.int .i64 p.kind, .int .i64 p.frm, .int .i64 p.to, .int .i64 p.num, .string p.t, .int .i64 p.ack, .int .i64 p.held] 49)) (.cells #[.int .i64 0, .int .i64 0, .int .i64 0, .int .i64 0, .slice none 0 0, .int .i64 0, .slice none 0 0] 38)
  rw [World.size_alloc, World.size_alloc] at e1
  exact e1.alloc _
 have HK5 : Hid (Blk W (w.heap.size + 1 + 1 + 1) (.cells #[.slice none 0 0, .slice none 0 0, .slice none 0 0] 44)) := by
  rw [← hW]
  have e1 := Blk.new (((w.alloc (.cells #[.int .i64 e.life, .int .i64 e.peer, .int .i64 e.phase, .int .i64 e.base, .slice A e.out.length c, .int .i64 e.want, .slice Bi e.inn.length d] 38)).alloc (.cells #[.int .i64 p.kind, .int .i64 p.frm, .int .i64 p.to, .int .i64 p.num, .string p.t, .int .i64 p.ack, .int .i64 p.held] 49)).alloc (.cells #[.int .i64 0, .int .i64 0, .int .i64 0, .int .i64 0, .slice none 0 0, .int .i64 0, .slice none 0 0] 38)) (.cells #[.slice none 0 0, .slice none 0 0, .slice none 0 0] 44)
  rw [World.size_alloc, World.size_alloc, World.size_alloc] at e1
  exact e1
 clear hW
 refine (fine_any e A c Bi d W (HE.out.below HB0.out)).mono ?_
 rintro r w1 ⟨rfl, hB1⟩
 have HB1 := Lib.hid hB1
 clear hB1
 obtain ⟨bg, hbg⟩ : ∃ b, Hid (goodB e = b) := ⟨_, rfl⟩
 rw [hbg.out]
 cases bg with
 | false =>
  have HBZ := HB1
  have h4z := HK4.out.below HBZ.out (by omega)
  have h5z := HK5.out.below HBZ.out (by omega)
  have H4Z := Lib.hid h4z
  have H5Z := Lib.hid h5z
  have z0 := h4z.cell 0 (v := .int .i64 0) rfl
  have z1 := h4z.cell 1 (v := .int .i64 0) rfl
  have z2 := h4z.cell 2 (v := .int .i64 0) rfl
  have z3 := h4z.cell 3 (v := .int .i64 0) rfl
  have z4 := h4z.cell 4 (v := .slice none 0 0) rfl
  have z5 := h4z.cell 5 (v := .int .i64 0) rfl
  have z6 := h4z.cell 6 (v := .slice none 0 0) rfl
  have y0 := h4z.free 0
  have y1 := h4z.free 1
  have y2 := h4z.free 2
  have y3 := h4z.free 3
  have y4 := h4z.free 4
  have y5 := h4z.free 5
  have y6 := h4z.free 6
  have yl := h4z.lt
  have g0 := h5z.cell 0 (v := .slice none 0 0) rfl
  have g1 := h5z.cell 1 (v := .slice none 0 0) rfl
  have g2 := h5z.cell 2 (v := .slice none 0 0) rfl
  have f0 := h5z.free 0
  have f1 := h5z.free 1
  have f2 := h5z.free 2
  have gl := h5z.lt
  have nz1 : ¬ w.heap.size + 1 + 1 = w.heap.size + 1 + 1 + 1 := by omega
  have nz2 : ¬ w.heap.size + 1 + 1 + 1 = w.heap.size + 1 + 1 := by omega
  clear h4z h5z
  go_wp2
  obtain ⟨q1, q2, q3⟩ := tk_end (e' := noEn) (A := none) (c := 0) (D := none) (d := 0) (g := noGn) (P := none) (cp := 0) (T := none) (ct := 0) (L := none) (cl := 0) H4Z.out H5Z.out
  have hl1 := load26 q1
  have hl2 := load47 q2
  refine bodyPost_ret (v := .tuple #[enV noEn none 0 none 0, gnV noGn none 0 none 0 none 0, .int .i64 2]) (results_cct rfl rfl rfl rfl hl1 hl2) rfl ?_
  refine ⟨none, 0, none, 0, none, 0, none, 0, none, 0, by rw [HTK.out], by rw [HTK.out]; exact enAt_noEn _, by rw [HTK.out]; exact ⟨Cells.nil _ _, Cells.nil _ _, Cells.nil _ _⟩, fun _ => rfl, by rw [HTK.out]; exact Nat.le_refl _, by rw [HTK.out]; exact fun h0 => absurd rfl h0, by rw [HTK.out]; exact fun h0 => absurd rfl h0, fun _ e2 => by (cases e2), fun _ e2 => by (cases e2), fun _ e2 => by (cases e2), fun _ => rfl, fun _ => rfl, ?_⟩
  exact (HB0.out.trans (HBZ.out.mono (by omega))).trans (q3.below (B := w.heap.size) (fun b e2 => by rcases e2 with e2 | e2 <;> omega) (by have := HBZ.out.size; omega))
 | true =>
  have hpr : properB p = false := by
   have := HBAD.out
   rw [hbg.out, Bool.true_and] at this
   exact this
  have h3 := HK3.out.below HB1.out (by omega)
  have d0 := h3.cell 0 (v := .int .i64 p.kind) rfl
  have d1 := h3.cell 1 (v := .int .i64 p.frm) rfl
  have d2 := h3.cell 2 (v := .int .i64 p.to) rfl
  have d3 := h3.cell 3 (v := .int .i64 p.num) rfl
  have d4 := h3.cell 4 (v := .string p.t) rfl
  have d5 := h3.cell 5 (v := .int .i64 p.ack) rfl
  have d6 := h3.cell 6 (v := .int .i64 p.held) rfl
  have dl := h3.lt
  clear h3
  go_wp2_with fail
  refine (proper_any p w1 hts).mono ?_
  rintro r w2 ⟨rfl, hB2⟩
  rw [hpr]
  have HBZ : Hid (Below W.heap.size W w2) := below_in HB1.out hB2
  clear hB2 d0 d1 d2 d3 d4 d5 d6 dl hpr
  have h4z := HK4.out.below HBZ.out (by omega)
  have h5z := HK5.out.below HBZ.out (by omega)
  have H4Z := Lib.hid h4z
  have H5Z := Lib.hid h5z
  have z0 := h4z.cell 0 (v := .int .i64 0) rfl
  have z1 := h4z.cell 1 (v := .int .i64 0) rfl
  have z2 := h4z.cell 2 (v := .int .i64 0) rfl
  have z3 := h4z.cell 3 (v := .int .i64 0) rfl
  have z4 := h4z.cell 4 (v := .slice none 0 0) rfl
  have z5 := h4z.cell 5 (v := .int .i64 0) rfl
  have z6 := h4z.cell 6 (v := .slice none 0 0) rfl
  have y0 := h4z.free 0
  have y1 := h4z.free 1
  have y2 := h4z.free 2
  have y3 := h4z.free 3
  have y4 := h4z.free 4
  have y5 := h4z.free 5
  have y6 := h4z.free 6
  have yl := h4z.lt
  have g0 := h5z.cell 0 (v := .slice none 0 0) rfl
  have g1 := h5z.cell 1 (v := .slice none 0 0) rfl
  have g2 := h5z.cell 2 (v := .slice none 0 0) rfl
  have f0 := h5z.free 0
  have f1 := h5z.free 1
  have f2 := h5z.free 2
  have gl := h5z.lt
  have nz1 : ¬ w.heap.size + 1 + 1 = w.heap.size + 1 + 1 + 1 := by omega
  have nz2 : ¬ w.heap.size + 1 + 1 + 1 = w.heap.size + 1 + 1 := by omega
  clear h4z h5z
  go_wp2
  obtain ⟨q1, q2, q3⟩ := tk_end (e' := noEn) (A := none) (c := 0) (D := none) (d := 0) (g := noGn) (P := none) (cp := 0) (T := none) (ct := 0) (L := none) (cl := 0) H4Z.out H5Z.out
  have hl1 := load26 q1
  have hl2 := load47 q2
  refine bodyPost_ret (v := .tuple #[enV noEn none 0 none 0, gnV noGn none 0 none 0 none 0, .int .i64 2]) (results_cct rfl rfl rfl rfl hl1 hl2) rfl ?_
  refine ⟨none, 0, none, 0, none, 0, none, 0, none, 0, by rw [HTK.out], by rw [HTK.out]; exact enAt_noEn _, by rw [HTK.out]; exact ⟨Cells.nil _ _, Cells.nil _ _, Cells.nil _ _⟩, fun _ => rfl, by rw [HTK.out]; exact Nat.le_refl _, by rw [HTK.out]; exact fun h0 => absurd rfl h0, by rw [HTK.out]; exact fun h0 => absurd rfl h0, fun _ e2 => by (cases e2), fun _ e2 => by (cases e2), fun _ e2 => by (cases e2), fun _ => rfl, fun _ => rfl, ?_⟩
  exact (HB0.out.trans (HBZ.out.mono (by omega))).trans (q3.below (B := w.heap.size) (fun b e2 => by rcases e2 with e2 | e2 <;> omega) (by have := HBZ.out.size; omega))
end Go.Proofs.YtejabnoidhlfaaaDoor
