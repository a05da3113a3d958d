/- Contract: Take. -/
import Derived.Test.YtejabnoidhlfaaaDoorS32
import Derived.Test.YtejabnoidhlfaaaDoorS27
import Derived.Test.YtejabnoidhlfaaaDoorS15
import Derived.Deep.CutRange

/- Contract: Take. -/
namespace Go.Proofs.YtejabnoidhlfaaaDoor
open Go.RowKit Go.Maps

theorem pks_app (a b : List Pk) : pks (a ++ b) = pks a ++ pks b := by simp [pks]
theorem row_of_own {w : World} {B c : Nat} {A : Option Addr} {l : List Ou} (h : w.ownsRow B 53 2 (.slice A l.length c) l.length (ous l)) : RowAt w B A l := fun hn => by
 rcases h.2 with ⟨_, h0⟩ | ⟨g, cap, cur, hv, hb, hh, _⟩
 ·exact absurd (List.eq_nil_of_length_eq_zero h0) hn
 ·injection hv with h1
  exact ⟨g, 0, cur, h1, hb, hh⟩
set_option maxRecDepth 100000 in
set_option maxHeartbeats 16000000 in
theorem take_go (e : En) (A : Option Addr) (c : Nat) (Bi : Option Addr) (d : Nat) (p : Pk) (w : World) (h : EnAt w e A Bi) (hA0 : A = none → e.out.length = 0 ∧ c = 0) (hts : p.t.size ≤ 1000000) (hgood : goodB e = true) (hproper : properB p = true) :
  Calls Tryd.prog 11 #[enV e A c Bi d, pkV p] w (TakePost e p w) := by
 have HG := Lib.hid (good_iff.1 hgood)
 have HPR := Lib.hid hproper
 have HE := Lib.hid h
 unfold enV pkV
 go_enter Tryd.func11, Tryd.ntmps11
 go_wp2_with fail
 obtain ⟨W, hW⟩ : ∃ W, (((w.alloc (.cells #[.int .i64 e.life, .int .i64 e.peer, .int .i64 e.phase, .int .i64 e.base, .slice A e.out.length c, .int .i64 e.want, .slice Bi e.inn.length d] 38)).alloc (.cells #[.int .i64 p.kind, .int .i64 p.frm, .int .i64 p.to, .int .i64 p.num, .string p.t, .int .i64 p.ack, .int .i64 p.held] 49)).alloc (.cells #[.int .i64 0, .int .i64 0, .int .i64 0, .int .i64 0, .slice none 0 0, .int .i64 0, .slice none 0 0] 38)).alloc (.cells #[.slice none 0 0, .slice none 0 0, .slice none 0 0] 44) = W := ⟨_, rfl⟩
 rw [hW]
 have HB0 : Hid (Below w.heap.size w W) := by rw [← hW]; exact ((((Below.refl _ w).alloc (Nat.le_refl _) _).alloc (by simp) _).alloc (by simp; omega) _).alloc (by simp; omega) _
 have hsW : W.heap.size = w.heap.size + 4 := by rw [← hW]; simp
 have HK1 : Hid (Blk W w.heap.size (.cells (enB e A c Bi d) 38)) := by rw [← hW]; exact (((Blk.new _ _).alloc _).alloc _).alloc _
 have HK3 : Hid (Blk W (w.heap.size + 1) (.cells (pkB p) 49)) := by
  rw [← hW]
  have e1 := Blk.new (w.alloc (.cells #[.int .i64 e.life, .int .i64 e.peer, .int .i64 e.phase, .int .i64 e.base, .slice A e.out.length c, .int .i64 e.want, .slice Bi e.inn.length d] 38)) (.cells #[.int .i64 p.kind, .int .i64 p.frm, .int .i64 p.to, .int .i64 p.num, .string p.t, .int .i64 p.ack, .int .i64 p.held] 49)
  rw [World.size_alloc] at e1
  exact (e1.alloc _).alloc _
 have HK4 : Hid (Blk W (w.heap.size + 1 + 1) (.cells (enB noEn none 0 none 0) 38)) := by
  rw [← hW]
  have e1 := Blk.new ((w.alloc (.cells #[.int .i64 e.life, .int .i64 e.peer, .int .i64 e.phase, .int .i64 e.base, .slice A e.out.length c, .int .i64 e.want, .slice Bi e.inn.length d] 38)).alloc (.cells #[.int .i64 p.kind, .int .i64 p.frm, .int .i64 p.to, .int .i64 p.num, .string p.t, .int .i64 p.ack, .int .i64 p.held] 49)) (.cells #[.int .i64 0, .int .i64 0, .int .i64 0, .int .i64 0, .slice none 0 0, .int .i64 0, .slice none 0 0] 38)
  rw [World.size_alloc, World.size_alloc] at e1
  exact e1.alloc _
 have HK5 : Hid (Blk W (w.heap.size + 1 + 1 + 1) (.cells #[.slice none 0 0, .slice none 0 0, .slice none 0 0] 44)) := by
  rw [← hW]
  have e1 := Blk.new (((w.alloc (.cells #[.int .i64 e.life, .int .i64 e.peer, .int .i64 e.phase, .int .i64 e.base, .slice A e.out.length c, .int .i64 e.want, .slice Bi e.inn.length d] 38)).alloc (.cells #[.int .i64 p.kind, .int .i64 p.frm, .int .i64 p.to, .int .i64 p.num, .string p.t, .int .i64 p.ack, .int .i64 p.held] 49)).alloc (.cells #[.int .i64 0, .int .i64 0, .int .i64 0, .int .i64 0, .slice none 0 0, .int .i64 0, .slice none 0 0] 38)) (.cells #[.slice none 0 0, .slice none 0 0, .slice none 0 0] 44)
  rw [World.size_alloc, World.size_alloc, World.size_alloc] at e1
  exact e1
 clear hW
 refine (fine_any e A c Bi d W (HE.out.below HB0.out)).mono ?_
 rintro r w1 ⟨rfl, hB1⟩
 have HB1 := Lib.hid hB1
 clear hB1
 rw [hgood]
 have h3 := HK3.out.below HB1.out (by omega)
 have d0 := h3.cell 0 (v := .int .i64 p.kind) rfl
 have d1 := h3.cell 1 (v := .int .i64 p.frm) rfl
 have d2 := h3.cell 2 (v := .int .i64 p.to) rfl
 have d3 := h3.cell 3 (v := .int .i64 p.num) rfl
 have d4 := h3.cell 4 (v := .string p.t) rfl
 have d5 := h3.cell 5 (v := .int .i64 p.ack) rfl
 have d6 := h3.cell 6 (v := .int .i64 p.held) rfl
 have dl := h3.lt
 clear h3
 go_wp2_with fail
 refine (proper_any p w1 hts).mono ?_
 rintro r w2 ⟨rfl, hB2⟩
 rw [hproper]
 have HB2 : Hid (Below W.heap.size W w2) := below_in HB1.out hB2
 clear hB2 d0 d1 d2 d3 d4 d5 d6 dl
 have h1 := HK1.out.below HB2.out (by omega)
 have d0 := h1.cell 0 (v := .int .i64 e.life) rfl
 have d1 := h1.cell 1 (v := .int .i64 e.peer) rfl
 have d2 := h1.cell 2 (v := .int .i64 e.phase) rfl
 have d3 := h1.cell 3 (v := .int .i64 e.base) rfl
 have d4 := h1.cell 4 (v := .slice A e.out.length c) rfl
 have d5 := h1.cell 5 (v := .int .i64 e.want) rfl
 have d6 := h1.cell 6 (v := .slice Bi e.inn.length d) rfl
 have dl := h1.lt
 clear h1
 go_wp2_with fail
 refine (open_any e A c Bi d w2 (HE.out.below (HB0.out.trans (HB2.out.mono (by omega)))) HG.out hA0).mono ?_
 rintro r w3 ⟨bx, bm, A1, c1, rfl, hX3, ho3, hbx, hbm, hB3⟩
 clear d0 d1 d2 d3 d4 d5 d6 dl
 go_wp2_with fail
 obtain ⟨X, hX⟩ : ∃ X, w3.alloc (.cells #[.slice none 0 0, .slice none 0 0, .slice none 0 0] 44) = X := ⟨_, rfl⟩
 rw [hX]
 obtain ⟨bg, hbg⟩ : ∃ bg, w3.heap.size = bg := ⟨_, rfl⟩
 rw [hbg]
 obtain ⟨ps, Hps⟩ : ∃ ps : List Pk, Hid (ps = []) := ⟨[], rfl⟩
 obtain ⟨tk, Htk⟩ : ∃ tk : List ByteArray, Hid (tk = []) := ⟨[], rfl⟩
 obtain ⟨ls, Hls⟩ : ∃ ls : List ByteArray, Hid (ls = []) := ⟨[], rfl⟩
 obtain ⟨N, hN⟩ : ∃ N, X.heap.size = N := ⟨_, rfl⟩
 obtain ⟨vi, hvi⟩ : ∃ vi, Value.slice Bi e.inn.length d = vi := ⟨_, rfl⟩
 obtain ⟨P, cp, T, ct, L, cl, HTS⟩ : ∃ P cp T ct L cl, Hid (Ts w X bx bm bg (w.heap.size + 1) (w.heap.size + 1 + 1) (w.heap.size + 1 + 1 + 1) N e p A1 c1 vi (.slice P ps.length cp) ps T ct tk L cl ls) := by
  refine ⟨none, 0, none, 0, none, 0, ?_⟩
  have hs2 := HB2.out.size
  have hs3 := hB3.size
  have hbX : Below w3.heap.size w3 X := by rw [← hX]; exact (Below.refl _ w3).alloc (Nat.le_refl _) _
  have hsX : X.heap.size = w3.heap.size + 1 := by rw [← hX]; simp
  have hb23 : Below W.heap.size W X := below_in HB2.out (hB3.trans (hbX.mono hs3))
  rw [hvi] at hX3
  show Ts _ _ _ _ _ _ _ _ _ _ _ _ _ _ _ _ _ _ _ _ _ _
  rw [Hps.out, Htk.out, Hls.out]
  refine ⟨hX3.below hbX, (row_of_own (own_mono ho3 (by omega))).frame (Frame.of_all (S := fun _ => False) hbX) (fun _ _ _ h => h), by rw [← hX, ← hbg]; exact Blk.new _ _, World.ownsRow_nil _ _ _ _, World.ownsRow_nil _ _ _ _, World.ownsRow_nil _ _ _ _, HK3.out.below hb23 (by omega), HK4.out.below hb23 (by omega), HK5.out.below hb23 (by omega), HB0.out.trans (hb23.mono (by omega)), by omega, by omega, by omega, by omega, by omega, by omega, by omega, by omega, by omega, by omega⟩
 clear hX hbg hN hvi hX3 ho3 hbx hbm hB3
 have hSX := HTS.out.nN
 have hpsb : ps.length ≤ 0 := by rw [Hps.out]; exact Nat.le_refl _
 have htkb : tk.length ≤ 0 := by rw [Htk.out]; exact Nat.le_refl _
 have hoN := HTS.out.oN
 obtain ⟨e1, He1⟩ : ∃ e1, Hid (e = e1) := ⟨e, rfl⟩
 have HTK : Hid (takeA e p = takeA e1 p) := by show _ = _; rw [He1.out]
 have G1 : Hid (GoodP e1) := by show GoodP _; rw [← He1.out]; exact HG.out
 rw [He1.out] at HTS
 have k3 := HTS.out.k3
 have bxx := HTS.out.xs.box
 have t0 := k3.cell 0 (v := .int .i64 p.kind) rfl
 have t1 := k3.cell 1 (v := .int .i64 p.frm) rfl
 have t2 := k3.cell 2 (v := .int .i64 p.to) rfl
 have t3 := k3.cell 3 (v := .int .i64 p.num) rfl
 have t4 := k3.cell 4 (v := .string p.t) rfl
 have t5 := k3.cell 5 (v := .int .i64 p.ack) rfl
 have t6 := k3.cell 6 (v := .int .i64 p.held) rfl
 have tl := k3.lt
 have u0 := bxx.cell 0 (v := .int .i64 e1.life) rfl
 have u1 := bxx.cell 1 (v := .int .i64 e1.peer) rfl
 have u2 := bxx.cell 2 (v := .int .i64 e1.phase) rfl
 have ul := bxx.lt
 clear k3 bxx
 by_cases hdrop : p.frm < e1.peer
 ·have HEND : Hid (takeA e p = (e1, ⟨ps, tk, ls⟩, 0)) := by
   show _ = _
   rw [HTK.out, Hps.out, Htk.out, Hls.out]
   unfold takeA
   rw [← He1.out] at hdrop ⊢
   rw [hgood, hproper]
   simp only [Bool.and_self, Bool.true_eq_false, if_false]
   rw [if_pos hdrop]
   rfl
  have HPSL : Hid (ps.length * 7 ≤ 17592186043904) := by show _ ≤ _; rw [Hps.out]; simp
  have HTKL : Hid (tk.length ≤ 17592186043904) := by show _ ≤ _; rw [Htk.out]; simp
  have HLSL : Hid (ls.length ≤ 17592186043904) := by show _ ≤ _; rw [Hls.out]; simp
  refine sall (by kernel_rfl) (by kernel_rfl) (fun Kq hKq => ?_)
  repeat still_step
  refine wpStill_nil (hKq _ ?_)
  clear hKq Kq
  go_wp2
  clear t0 t1 t2 t3 t4 t5 t6 tl u0 u1 u2 ul
  have HTS := Lib.hid HTS.out.drew
  generalize X.drew = X at HTS ⊢
  have HNE : Hid (ous e1.out ≠ [] → ∀ a, A1 = some a → a.block ≠ bx) := fun hn a ha e2 => by
   obtain ⟨b, off, cur, h1, h2, h3⟩ := HTS.out.row (by rintro h0; exact hn (by rw [h0]; rfl))
   rw [h1] at ha
   injection ha with ha
   rw [← ha] at e2
   exact blk_ne h3 HTS.out.xs.box (by decide) e2
  have hg := HTS.out.g
  have m0 := hg.cell 0 (v := .slice P ps.length cp) rfl
  have m1 := hg.cell 1 (v := .slice T tk.length ct) rfl
  have m2 := hg.cell 2 (v := .slice L ls.length cl) rfl
  have ml := hg.lt
  have n1 : ¬ (bg = bx ∨ bg = w.heap.size + 1 + 1 ∨ bg = w.heap.size + 1 + 1 + 1) := fun e2 => by
   rcases e2 with e2 | e2 | e2
   ·exact blk_ne hg HTS.out.xs.box (by decide) e2
   ·exact blk_ne hg HTS.out.k4 (by decide) e2
   ·exact HTS.out.ng5 e2
  have hnN := HTS.out.nN
  have hoN2 := HTS.out.oN
  clear hg
  refine draw (fun w' => Frame (fun b => b = bx ∨ b = w.heap.size + 1 + 1 ∨ b = w.heap.size + 1 + 1 + 1) X w') 6 rfl (by kernel_rfl) (fun Qd hQd => ?_)
  apply anyI_step 0 rfl (by kernel_rfl)
  focus (intro wI hI Kv hKv; have t0 := cell_frame hI ml n1 m0; have t1 := cell_frame hI ml n1 m1; have t2 := cell_frame hI ml n1 m2; go_simp; exact hKv)
  intro Kd hKd
  go_simp
  refine hKd _ ?_
  clear hKd Kd
  apply anyI_step 2 rfl (by kernel_rfl)
  focus (intro wI hI Kv hKv; have t0 := cell_frame hI ml n1 m0; have t1 := cell_frame hI ml n1 m1; have t2 := cell_frame hI ml n1 m2; go_simp; exact hKv)
  intro Kd hKd
  go_simp
  refine hKd _ ?_
  clear hKd Kd
  refine anyI_one' 1 rfl (by kernel_rfl) ((Frame.refl _ X).drew) (fun Kd hKd => ?_)
  go_wp2_with (go_at_call 31; go_must (refine (shut_any bx bm e1 A1 c1 vi w.heap.size _ HTS.out.xs.drew G1.out HTS.out.ox (by show w.heap.size ≤ X.heap.size; omega) HNE.out).mono ?_); rintro r w6 ⟨D, dd, rfl, hE6, hB6, hF6, hD6, hI6⟩; unfold enV)
  have HFx : Hid (Frame (fun b => b = bx) X w6) := (Frame.refl (fun b => b = bx) X).drew.trans hF6 (fun _ _ h => h)
  have HFS : Hid (Frame (fun b => b = bx ∨ b = w.heap.size + 1 + 1 ∨ b = w.heap.size + 1 + 1 + 1) X w6) := HFx.out.mono (fun b _ e2 => .inl e2)
  have h4z := HTS.out.k4.frame HFx.out (fun e2 => blk_ne HTS.out.k4 HTS.out.xs.box (by decide) e2)
  have h5z := HTS.out.k5.frame HFx.out (fun e2 => blk_ne HTS.out.k5 HTS.out.xs.box (by decide) e2)
  have H4Z := Lib.hid h4z
  have H5Z := Lib.hid h5z
  have HE6 := Lib.hid hE6
  have HD6 := Lib.hid hD6
  have HI6 := Lib.hid hI6
  have z0 := h4z.cell 0 (v := .int .i64 0) rfl
  have z1 := h4z.cell 1 (v := .int .i64 0) rfl
  have z2 := h4z.cell 2 (v := .int .i64 0) rfl
  have z3 := h4z.cell 3 (v := .int .i64 0) rfl
  have z4 := h4z.cell 4 (v := .slice none 0 0) rfl
  have z5 := h4z.cell 5 (v := .int .i64 0) rfl
  have z6 := h4z.cell 6 (v := .slice none 0 0) rfl
  have y0 := h4z.free 0
  have y1 := h4z.free 1
  have y2 := h4z.free 2
  have y3 := h4z.free 3
  have y4 := h4z.free 4
  have y5 := h4z.free 5
  have y6 := h4z.free 6
  have yl := h4z.lt
  have g0 := h5z.cell 0 (v := .slice none 0 0) rfl
  have g1 := h5z.cell 1 (v := .slice none 0 0) rfl
  have g2 := h5z.cell 2 (v := .slice none 0 0) rfl
  have f0 := h5z.free 0
  have f1 := h5z.free 1
  have f2 := h5z.free 2
  have gl := h5z.lt
  have nz1 : ¬ w.heap.size + 1 + 1 = w.heap.size + 1 + 1 + 1 := by omega
  have nz2 : ¬ w.heap.size + 1 + 1 + 1 = w.heap.size + 1 + 1 := by omega
  clear h4z h5z hE6 hB6 hF6 hD6 hI6 m0 m1 m2 ml n1
  refine anyI_one' 3 rfl (by kernel_rfl) (HFS.out) (fun Kd hKd => ?_)
  go_wp2
  refine anyI_one' 4 rfl (by kernel_rfl) ((setEn_frame (e := e1) (A := A1) (c := c1) (B := D) (d := dd) HFS.out (.inl (.inr (.inl rfl))))) (fun Kd hKd => ?_)
  go_wp2
  apply anyI_step 5 rfl (by kernel_rfl)
  focus (intro wI hI Kv hKv; go_simp; exact hKv)
  intro Kd hKd
  go_simp
  refine hKd _ ?_
  clear hKd Kd
  refine anyI_end (by kernel_rfl) ((setGn_frame (g := ⟨ps, tk, ls⟩) (P := P) (cp := cp) (T := T) (ct := ct) (L := L) (cl := cl) (setEn_frame (e := e1) (A := A1) (c := c1) (B := D) (d := dd) HFS.out (.inl (.inr (.inl rfl)))) (.inl (.inr (.inr rfl))))) (hQd _ _ ?_)
  clear hQd Qd
  go_wp2
  obtain ⟨q1, q2, q3⟩ := tk_end (e' := e1) (A := A1) (c := c1) (D := D) (d := dd) (g := ⟨ps, tk, ls⟩) (P := P) (cp := cp) (T := T) (ct := ct) (L := L) (cl := cl) H4Z.out H5Z.out
  have hl1 := load26 q1
  have hl2 := load47 q2
  refine bodyPost_ret (v := .tuple #[enV e1 A1 c1 D dd, gnV ⟨ps, tk, ls⟩ P cp T ct L cl, .int .i64 0]) (results_cct rfl rfl rfl rfl hl1 hl2) rfl ?_
  have hSz := HFx.out.size
  have hown : ∀ {e : TypeId} {size n : Nat} {v : Value} {xs : List Value}, X.ownsRow N e size v n xs → e ≠ 86 → e ≠ 38 → e ≠ 44 → World.ownsRow (setGn (setEn w6 (w.heap.size + 1 + 1) e1 A1 c1 D dd) (w.heap.size + 1 + 1 + 1) ⟨ps, tk, ls⟩ P cp T ct L cl) N e size v n xs := fun hr h1 h2 h3 => by
   have hr6 := own_frame hr HFx.out (fun g hg e2 => own_ne hr HTS.out.xs.box h1 (by rw [hg, e2]))
   exact own_frame hr6 q3 (fun g hg e2 => by
    rcases e2 with e2 | e2
    ·exact own_ne hr6 H4Z.out h2 (by rw [hg, e2])
    ·exact own_ne hr6 H5Z.out h3 (by rw [hg, e2]))
  have hnx : ∀ b cur, Blk X b (.cells cur 53) → ¬ b = bx := fun b cur hb e2 => blk_ne hb HTS.out.xs.box (by decide) e2
  have hrow6 := HTS.out.row.frame HFx.out hnx
  have hn45 : ∀ b cur, Blk w6 b (.cells cur 53) → ¬ (b = w.heap.size + 1 + 1 ∨ b = w.heap.size + 1 + 1 + 1) := fun b cur hb e2 => by
   rcases e2 with e2 | e2
   ·exact blk_ne hb H4Z.out (by decide) e2
   ·exact blk_ne hb H5Z.out (by decide) e2
  refine ⟨A1, c1, D, dd, P, cp, T, ct, L, cl, by rw [HEND.out], by rw [HEND.out]; exact ⟨hrow6.cells HE6.out.out q3 hn45, HE6.out.inn.frame q3 (fun _ a ha e2 => by have h1 := HD6.out a ha; have h2 := H4Z.out; have h4l := HTS.out.k4.lt; have h5l := HTS.out.k5.lt; have hsd : X.drew.heap.size = X.heap.size := rfl; rcases e2 with e2 | e2 <;> omega)⟩, by rw [HEND.out]; exact ⟨(Cells.of_own (hown HTS.out.rps (by decide) (by decide) (by decide)) (by rw [pks_len]; exact HPSL.out)).1, (Cells.of_own (hown HTS.out.rtk (by decide) (by decide) (by decide)) (by rw [strs_len]; exact HTKL.out)).1, (Cells.of_own (hown HTS.out.rls (by decide) (by decide) (by decide)) (by rw [strs_len]; exact HLSL.out)).1⟩, HTS.out.xs.nil, by rw [HEND.out]; exact HTS.out.xs.cap, by rw [HEND.out]; exact hrow6.frame q3 hn45, by rw [HEND.out]; exact HI6.out.frame q3 (fun b cur hb e2 => by rcases e2 with e2 | e2; exact blk_ne hb H4Z.out (by decide) e2; exact blk_ne hb H5Z.out (by decide) e2), fun a ha => by have h1 := (HTS.out.rtk.lt a.block (by rw [ha]; rfl)).1; have h2 := HTS.out.oN; omega, fun a ha => by have h1 := (HTS.out.rps.lt a.block (by rw [ha]; rfl)).1; have h2 := HTS.out.oN; omega, fun a ha => by have h1 := (HTS.out.rls.lt a.block (by rw [ha]; rfl)).1; have h2 := HTS.out.oN; omega, own_nil HTS.out.rtk, own_nil HTS.out.rls, ?_⟩
  exact (HTS.out.below.trans (HFx.out.below (B := w.heap.size) (fun b e2 => by have := HTS.out.ox; omega) (by omega))).trans (q3.below (B := w.heap.size) (fun b e2 => by rcases e2 with e2 | e2 <;> omega) (by omega))
 ·have HDR : Hid (¬ p.frm < e1.peer) := hdrop
  have q1 : decide (p.frm < e1.peer) = false := decide_eq_false hdrop
  refine sall (by kernel_rfl) (by kernel_rfl) (fun Kq hKq => ?_)
  repeat still_step
  refine wpStill_nil (hKq _ ?_)
  clear hKq Kq
  go_wp2
  clear t0 t1 t2 t3 t4 t5 t6 tl u0 u1 u2 ul
  have HTS := Lib.hid HTS.out.drew
  generalize X.drew = X at HTS ⊢
  have k3 := HTS.out.k3
  have bxx := HTS.out.xs.box
  have t0 := k3.cell 0 (v := .int .i64 p.kind) rfl
  have t1 := k3.cell 1 (v := .int .i64 p.frm) rfl
  have t2 := k3.cell 2 (v := .int .i64 p.to) rfl
  have t3 := k3.cell 3 (v := .int .i64 p.num) rfl
  have t4 := k3.cell 4 (v := .string p.t) rfl
  have t5 := k3.cell 5 (v := .int .i64 p.ack) rfl
  have t6 := k3.cell 6 (v := .int .i64 p.held) rfl
  have tl := k3.lt
  have u0 := bxx.cell 0 (v := .int .i64 e1.life) rfl
  have u1 := bxx.cell 1 (v := .int .i64 e1.peer) rfl
  have u2 := bxx.cell 2 (v := .int .i64 e1.phase) rfl
  have ul := bxx.lt
  clear k3 bxx
  obtain ⟨ov, hovd⟩ : ∃ b, decide (e1.peer < p.frm) = b := ⟨_, rfl⟩
  have hpf := proper_from HPR.out
  refine sall (by kernel_rfl) (by kernel_rfl) (fun Kq hKq => ?_)
  repeat still_step
  refine wpStill_nil (hKq _ ?_)
  clear hKq Kq
  go_upto_if 42 with fail
  go_cut [] from 12 (fun wx => ∃ e2 A2 c2 L2 cl2 ls2, Ts w wx bx bm bg (w.heap.size + 1) (w.heap.size + 1 + 1) (w.heap.size + 1 + 1 + 1) N e2 p A2 c2 vi (.slice P ps.length cp) ps T ct tk L2 cl2 ls2 ∧ (GoodP e2 ∧ e2.phase ≠ 1) ∧ takeA e p = takeB e2 ls2 p ∧ ls2.length ≤ 12)
  case first =>
   cases ov with
   | true =>
    have hov : e1.peer < p.frm := of_decide_eq_true hovd
    go_wp2_with fail
    refine (begin_any w.heap.size bx bm e1 A1 c1 vi p.frm X.drew HTS.out.drew.xs HTS.out.drew.row (fun h => HTS.out.noOut h) G1.out HTS.out.ox HTS.out.om (by have := HTS.out.nN; have := HTS.out.oN; show w.heap.size ≤ X.heap.size; omega)).mono ?_
    rintro r X2 ⟨⟨T', d', rfl, hL'⟩, ⟨A', c', hx', hr'⟩, hB', hF'⟩
    have HT2 := Lib.hid (HTS.out.drew.x hF' hx' hr' hB')
    have HL' : Hid (X2.ownsRow N 9 1 (.slice T' (overA e1 p.frm).2.length d') (overA e1 p.frm).2.length (strs (overA e1 p.frm).2)) := own_mono hL' (by have := HTS.out.nN; exact this)
    have hg2 := HT2.out.g
    have r0 := hg2.cell 2 (v := .slice L ls.length cl) rfl
    have r1 := hg2.free 2
    have r2 := hg2.lt
    clear t0 t1 t2 t3 t4 t5 t6 tl u0 u1 u2 ul
    clear hL' hx' hr' hB' hF' hg2
    go_wp2_with fail
    go_meet
    have HT3 := HT2.out.lost HL'.out
    exact ⟨(overA e1 p.frm).1, A', c', T', d', (overA e1 p.frm).2, HT3, ⟨over_good G1.out hpf.1 hpf.2.1, by show ¬ (2 : Int) = 1; omega⟩, (by rw [He1.out]; exact tk_go (by rw [← He1.out]; exact hgood) hproper (by have := HDR.out; omega) (if_pos hov)), (by have := G1.out.len; simp [overA]; omega)⟩
   | false =>
    have hov : ¬ e1.peer < p.frm := of_decide_eq_false hovd
    go_wp2_with fail
    go_meet
    exact ⟨e1, A1, c1, L, cl, ls, HTS.out.drew, ⟨G1.out, fun h1 => by
     have := (G1.out.cl (by omega)).2.2.2
     have := HDR.out
     omega⟩, (by rw [He1.out, Hls.out]; exact tk_go (by rw [← He1.out]; exact hgood) hproper (by have := HDR.out; omega) (if_neg (by omega))), (by rw [Hls.out]; exact Nat.zero_le _)⟩
  case rest =>
   obtain ⟨Y, rfl⟩ : ∃ Y, Y = wc := ⟨wc, rfl⟩
   obtain ⟨e2, A2, c2, L2, cl2, ls2, hT4, hG2, hTG, hLS⟩ := hcut
   have HTS2 := Lib.hid hT4
   have HTG : Hid (takeA e p = takeB e2 ls2 p) := hTG
   have G12 : Hid (GoodP e2) := hG2.1
   have HPH : Hid (e2.phase ≠ 1) := hG2.2
   have HLS : Hid (ls2.length ≤ 12) := hLS
   clear t0 t1 t2 t3 t4 t5 t6 tl u0 u1 u2 ul
   clear HTS He1 HTK hdrop HDR q1 G1 hT4 hG2 hTG hLS hovd
   have HTS := HTS2
   have G1 := G12
   clear HTS2 G12
   generalize Y = X at HTS ⊢
   generalize A2 = A1 at HTS
   generalize c2 = c1 at HTS
   generalize L2 = L at HTS
   generalize cl2 = cl at HTS
   generalize e2 = e1 at HTS HTG G1 HPH ⊢
   generalize ls2 = ls at HTS HTG HLS
   go_wp2_with fail
   obtain ⟨F, HF⟩ : ∃ F, Hid (flyN e1 = F) := ⟨_, rfl⟩
   have hF4 : F ≤ 4 := by rw [← HF.out]; exact (fly_le e1).2
   have hol := G1.out.len
   refine (sent_any bx bm e1 A1 c1 vi X HTS.out.xs (fun h => HTS.out.noOut h) (by omega)).mono ?_
   rintro r w9 ⟨⟨As, rfl, _⟩, rfl⟩
   rw [HF.out]
   have k3 := HTS.out.k3
   have bxx := HTS.out.xs.box
   have t0 := k3.cell 0 (v := .int .i64 p.kind) rfl
   have t1 := k3.cell 1 (v := .int .i64 p.frm) rfl
   have t2 := k3.cell 2 (v := .int .i64 p.to) rfl
   have t3 := k3.cell 3 (v := .int .i64 p.num) rfl
   have t4 := k3.cell 4 (v := .string p.t) rfl
   have t5 := k3.cell 5 (v := .int .i64 p.ack) rfl
   have t6 := k3.cell 6 (v := .int .i64 p.held) rfl
   have tl := k3.lt
   have u0 := bxx.cell 0 (v := .int .i64 e1.life) rfl
   have u1 := bxx.cell 1 (v := .int .i64 e1.peer) rfl
   have u2 := bxx.cell 2 (v := .int .i64 e1.phase) rfl
   have ul := bxx.lt
   clear k3 bxx
   obtain ⟨own, hown⟩ : ∃ b, (p.to == e1.life) = b := ⟨_, rfl⟩
   cases own with
   | false =>
    have HTB : Hid (takeA e p = (e1, ⟨[] ++ [helloA e1] ++ fromA e1 F, [], ls⟩, 0)) := by show _ = _; rw [HTG.out, tb_foreign hown, HF.out]
    go_wp2
    refine sall (by kernel_rfl) (by kernel_rfl) (fun Kq hKq => ?_)
    repeat still_step
    refine wpStill_nil (hKq _ ?_)
    clear hKq Kq
    go_wp2
    clear t0 t1 t2 t3 t4 t5 t6 tl u0 u1 u2 ul
    have HTS := Lib.hid HTS.out.drew
    generalize X.drew = X at HTS ⊢
    clear hown
    have hnb : ∀ b cs t, Blk X b (.cells cs t) → t ≠ 49 → ¬ (Value.slice P ps.length cp).ownBlock = some b := fun b cs t hb ht e2 => own_ne HTS.out.rps hb (fun e3 => ht e3.symm) e2
    have HNB := Lib.hid hnb
    clear hnb
    have hnN4 := HTS.out.nN
    have hoN4 := HTS.out.oN
    refine drawl (fun w' => Frame (fun b => (Value.slice P ps.length cp).ownBlock = some b) X w') 7 7 rfl (by kernel_rfl) (fun Qd hQd => ?_)
    have HRD := fun (wI : World) (hI : (fun w' => Frame (fun b => (Value.slice P ps.length cp).ownBlock = some b) X w') wI) => (have t0 := (HTS.out.g.frame hI (HNB.out _ _ _ HTS.out.g (by decide))).cell 0 (v := .slice P ps.length cp) rfl; have t1 := (HTS.out.g.frame hI (HNB.out _ _ _ HTS.out.g (by decide))).lt; And.intro t0 t1)
    apply anyL_step 0 (by kernel_rfl) rfl (by kernel_rfl)
    focus (intro wI hI Kv hKv; obtain ⟨t0, t1⟩ := HRD wI hI; go_simp; exact hKv)
    intro Kd hKd
    go_simp
    refine hKd _ ?_
    clear hKd Kd
    apply anyL_step 2 (by kernel_rfl) rfl (by kernel_rfl)
    focus (intro wI hI Kv hKv; obtain ⟨t0, t1⟩ := HRD wI hI; go_simp; exact hKv)
    intro Kd hKd
    go_simp
    refine hKd _ ?_
    clear hKd Kd
    apply anyL_step 1 (by kernel_rfl) rfl (by kernel_rfl)
    focus (intro wI hI Kv hKv; obtain ⟨t0, t1⟩ := HRD wI hI; go_simp; exact hKv)
    intro Kd hKd
    go_simp
    refine hKd _ ?_
    clear hKd Kd
    clear HRD
    refine anyL_one 3 rfl (by kernel_rfl) ((Frame.refl _ X).drew) (fun Kd hKd => ?_)
    go_wp2_with (go_at_call 25; go_must (refine (hello_any bx bm e1 A1 c1 vi _ HTS.out.drew.xs).mono ?_); rintro r w4 ⟨rfl, hB4⟩; unfold pkV)
    have HB4 : Hid (Below X.heap.size X w4) := (Below.refl _ X).drew.trans hB4
    have HO4 : Hid (w4.ownsRow N 49 7 (.slice P ps.length cp) ps.length (pks ps)) := own_frame HTS.out.rps (Frame.of_all (S := fun _ => False) HB4.out) (fun _ _ h => h)
    have hs4 := HB4.out.size
    clear hB4
    refine anyL_one 4 rfl (by kernel_rfl) ((Frame.of_all HB4.out)) (fun Kd hKd => ?_)
    go_wp2
    refine anyL_one 5 rfl (by kernel_rfl) (((Frame.of_all HB4.out).alloc _)) (fun Kd hKd => ?_)
    go_wp2_with (at_builtin; go_must (refine wpList_app1' rPk _ rfl _ _ rfl HO4.out rfl [_, _, _, _, _, _, _] 1 rfl rfl (by simp [Value.oneCell']) (by omega) (by omega) ?_); intro v6 w6 ho6 hB6 hg6 hloc6; obtain ⟨P6, cp6, rfl⟩ := own_fits ho6)
    have HF6 : Hid (Frame (fun b => (Value.slice P ps.length cp).ownBlock = some b) X w6) := (Frame.of_all (S := fun b => (Value.slice P ps.length cp).ownBlock = some b) HB4.out).trans (Frame.of_grown hg6) (fun _ _ h => h)
    have hg66 := HTS.out.g.frame HF6.out (HNB.out _ _ _ HTS.out.g (by decide))
    have r0 := hg66.cell 0 (v := .slice P ps.length cp) rfl
    have r1 := hg66.free 0
    have r2 := hg66.lt
    have h36 := HTS.out.k3.frame HF6.out (fun e2 => by have := (HTS.out.rps.lt _ e2).1; have := HTS.out.n3; omega)
    have r3 := h36.cell 0 (v := .int .i64 p.kind) rfl
    have r4 := h36.lt
    have r5 : ¬ w.heap.size + 1 = bg := fun e2 => blk_ne HTS.out.k3 HTS.out.g (by decide) e2
    have HO6 := Lib.hid ho6
    clear h36
    clear ho6 hB6 hg6 hloc6 hg66
    apply anyL_step 6 (by kernel_rfl) rfl (by kernel_rfl)
    focus (intro wI hI Kv hKv; go_simp; exact hKv)
    intro Kd hKd
    go_simp
    refine hKd _ ?_
    clear hKd Kd
    refine anyL_end rfl (by kernel_rfl) (HF6.out) (fun Kd hKd => ?_)
    go_wp2_with fail
    obtain ⟨X', hX'⟩ : ∃ X', w6.setCell ⟨bg, 0, none⟩ (.slice P6 (ps.length + 1) cp6) = X' := ⟨_, rfl⟩
    rw [hX']
    have hTg := (HTS.out.grow HF6.out (vP' := .slice P6 (ps.length + 1) cp6) (ps' := ps ++ [helloA e1]) (by rw [pks_snoc, List.length_append]; exact HO6.out)).2
    rw [hX'] at hTg
    have hpl' : (ps.length + 1) = (ps ++ [helloA e1]).length := by simp
    rw [hpl'] at hTg
    have hplb : (ps ++ [helloA e1]).length ≤ ps.length + 4 := by simp
    have HTg := Lib.hid hTg
    clear hTg hX' r0 r1 r2 r3 r4 r5 HTS hpl' HNB HB4 HO4 HF6 HO6
    have HTS := HTg
    clear HTg
    obtain ⟨ps, HPS1⟩ : ∃ q, Hid (ps ++ [helloA e1] = q) := ⟨_, rfl⟩
    rw [HPS1.out] at HTS hplb
    generalize X' = X at HTS ⊢
    generalize P6 = P at HTS ⊢
    generalize cp6 = cp at HTS ⊢
    obtain ⟨NN, HNN⟩ : ∃ NN, Hid (F = NN) := ⟨_, rfl⟩
    rw [HNN.out] at HTB hF4 ⊢
    have hnb : ∀ b cs t, Blk X b (.cells cs t) → t ≠ 49 → ¬ (Value.slice P ps.length cp).ownBlock = some b := fun b cs t hb ht e2 => own_ne HTS.out.rps hb (fun e3 => ht e3.symm) e2
    have HNB := Lib.hid hnb
    clear hnb
    have hnN4 := HTS.out.nN
    have hoN4 := HTS.out.oN
    refine drawl (fun w' => Frame (fun b => (Value.slice P ps.length cp).ownBlock = some b) X w') 7 7 rfl (by kernel_rfl) (fun Qd hQd => ?_)
    have HRD := fun (wI : World) (hI : (fun w' => Frame (fun b => (Value.slice P ps.length cp).ownBlock = some b) X w') wI) => (have t0 := (HTS.out.g.frame hI (HNB.out _ _ _ HTS.out.g (by decide))).cell 0 (v := .slice P ps.length cp) rfl; have t1 := (HTS.out.g.frame hI (HNB.out _ _ _ HTS.out.g (by decide))).lt; And.intro t0 t1)
    apply anyL_step 0 (by kernel_rfl) rfl (by kernel_rfl)
    focus (intro wI hI Kv hKv; obtain ⟨t0, t1⟩ := HRD wI hI; go_simp; exact hKv)
    intro Kd hKd
    go_simp
    refine hKd _ ?_
    clear hKd Kd
    apply anyL_step 2 (by kernel_rfl) rfl (by kernel_rfl)
    focus (intro wI hI Kv hKv; obtain ⟨t0, t1⟩ := HRD wI hI; go_simp; exact hKv)
    intro Kd hKd
    go_simp
    refine hKd _ ?_
    clear hKd Kd
    apply anyL_step 3 (by kernel_rfl) rfl (by kernel_rfl)
    focus (intro wI hI Kv hKv; obtain ⟨t0, t1⟩ := HRD wI hI; go_simp; exact hKv)
    intro Kd hKd
    go_simp
    refine hKd _ ?_
    clear hKd Kd
    apply anyL_step 1 (by kernel_rfl) rfl (by kernel_rfl)
    focus (intro wI hI Kv hKv; obtain ⟨t0, t1⟩ := HRD wI hI; go_simp; exact hKv)
    intro Kd hKd
    go_simp
    refine hKd _ ?_
    clear hKd Kd
    clear HRD
    refine anyL_one 4 rfl (by kernel_rfl) ((Frame.refl _ X).drew) (fun Kd hKd => ?_)
    go_wp2_with (go_at_call 35; go_must (refine (from_any bx bm e1 A1 c1 vi NN _ HTS.out.drew.xs (fun h => HTS.out.noOut h) G1.out (by omega)).mono ?_); rintro r w4 ⟨v4, rfl, hv4, hB4⟩; obtain ⟨Bv, cv, rfl⟩ := own_fits hv4)
    have hfl4 : (fromA e1 NN).length ≤ 4 := by rw [fromA_len]; have := (fly_le e1).2; omega
    have HV4 := Lib.hid (Cells.of_own hv4 (by rw [pks_len]; omega)).1
    have HV0 : Hid (Bv = none → (fromA e1 NN).length = 0 ∧ cv = 0) := fun hb => by
     have h1 := own_cap hv4
     have h2 := own_nil hv4 hb
     exact ⟨by omega, h2⟩
    clear hv4
    have HB4 : Hid (Below X.heap.size X w4) := (Below.refl _ X).drew.trans hB4
    have HO4 : Hid (w4.ownsRow N 49 7 (.slice P ps.length cp) ps.length (pks ps)) := own_frame HTS.out.rps (Frame.of_all (S := fun _ => False) HB4.out) (fun _ _ h => h)
    have hs4 := HB4.out.size
    clear hB4
    refine anyL_one 5 rfl (by kernel_rfl) ((Frame.of_all HB4.out)) (fun Kd hKd => ?_)
    go_wp2_with (at_builtin; go_must (refine wpList_appN rPk _ rfl _ _ rfl HO4.out rfl Bv (fromA e1 NN).length cv (pks (fromA e1 NN)) rfl HV0.out HV4.out (pks_len _) (pkC_one _) (by omega) (by omega) ?_); intro v6 w6 ho6 hB6 hg6 hloc6; obtain ⟨P6, cp6, rfl⟩ := own_fits ho6)
    have HF6 : Hid (Frame (fun b => (Value.slice P ps.length cp).ownBlock = some b) X w6) := (Frame.of_all (S := fun b => (Value.slice P ps.length cp).ownBlock = some b) HB4.out).trans (Frame.of_grown hg6) (fun _ _ h => h)
    have hg66 := HTS.out.g.frame HF6.out (HNB.out _ _ _ HTS.out.g (by decide))
    have r0 := hg66.cell 0 (v := .slice P ps.length cp) rfl
    have r1 := hg66.free 0
    have r2 := hg66.lt
    have h36 := HTS.out.k3.frame HF6.out (fun e2 => by have := (HTS.out.rps.lt _ e2).1; have := HTS.out.n3; omega)
    have r3 := h36.cell 0 (v := .int .i64 p.kind) rfl
    have r4 := h36.lt
    have r5 : ¬ w.heap.size + 1 = bg := fun e2 => blk_ne HTS.out.k3 HTS.out.g (by decide) e2
    have HO6 := Lib.hid ho6
    clear h36
    clear ho6 hB6 hg6 hloc6 hg66
    apply anyL_step 6 (by kernel_rfl) rfl (by kernel_rfl)
    focus (intro wI hI Kv hKv; go_simp; exact hKv)
    intro Kd hKd
    go_simp
    refine hKd _ ?_
    clear hKd Kd
    refine anyL_end rfl (by kernel_rfl) (HF6.out) (fun Kd hKd => ?_)
    go_wp2_with fail
    obtain ⟨X', hX'⟩ : ∃ X', w6.setCell ⟨bg, 0, none⟩ (.slice P6 (ps.length + (fromA e1 NN).length) cp6) = X' := ⟨_, rfl⟩
    rw [hX']
    have hTg := (HTS.out.grow HF6.out (vP' := .slice P6 (ps.length + (fromA e1 NN).length) cp6) (ps' := ps ++ fromA e1 NN) (by rw [pks_app, List.length_append]; exact HO6.out)).2
    rw [hX'] at hTg
    have hpl' : (ps.length + (fromA e1 NN).length) = (ps ++ fromA e1 NN).length := by simp
    rw [hpl'] at hTg
    have hplb : (ps ++ fromA e1 NN).length ≤ ps.length + 4 := by rw [List.length_append]; omega
    have HTg := Lib.hid hTg
    clear hTg hX' r0 r1 r2 r3 r4 r5 HTS hpl' HNB HB4 HO4 HF6 HO6
    have HTS := HTg
    clear HTg
    obtain ⟨ps, HPS2⟩ : ∃ q, Hid (ps ++ fromA e1 NN = q) := ⟨_, rfl⟩
    rw [HPS2.out] at HTS hplb
    generalize X' = X at HTS ⊢
    generalize P6 = P at HTS ⊢
    generalize cp6 = cp at HTS ⊢
    have HEND : Hid (takeA e p = (e1, ⟨ps, tk, ls⟩, 0)) := by show _ = _; rw [HTB.out, ← HPS2.out, ← HPS1.out, Hps.out, Htk.out]
    have HPSL : Hid (ps.length * 7 ≤ 17592186043904) := by show _ ≤ _; omega
    have HTKL : Hid (tk.length ≤ 17592186043904) := by show _ ≤ _; omega
    have HLSL : Hid (ls.length ≤ 17592186043904) := by show _ ≤ _; have := HLS.out; omega
    have HNE : Hid (ous e1.out ≠ [] → ∀ a, A1 = some a → a.block ≠ bx) := fun hn a ha e2 => by
     obtain ⟨b, off, cur, h1, h2, h3⟩ := HTS.out.row (by rintro h0; exact hn (by rw [h0]; rfl))
     rw [h1] at ha
     injection ha with ha
     rw [← ha] at e2
     exact blk_ne h3 HTS.out.xs.box (by decide) e2
    have hg := HTS.out.g
    have m0 := hg.cell 0 (v := .slice P ps.length cp) rfl
    have m1 := hg.cell 1 (v := .slice T tk.length ct) rfl
    have m2 := hg.cell 2 (v := .slice L ls.length cl) rfl
    have ml := hg.lt
    have n1 : ¬ (bg = bx ∨ bg = w.heap.size + 1 + 1 ∨ bg = w.heap.size + 1 + 1 + 1) := fun e2 => by
     rcases e2 with e2 | e2 | e2
     ·exact blk_ne hg HTS.out.xs.box (by decide) e2
     ·exact blk_ne hg HTS.out.k4 (by decide) e2
     ·exact HTS.out.ng5 e2
    have hnN := HTS.out.nN
    have hoN2 := HTS.out.oN
    clear hg
    refine draw (fun w' => Frame (fun b => b = bx ∨ b = w.heap.size + 1 + 1 ∨ b = w.heap.size + 1 + 1 + 1) X w') 6 rfl (by kernel_rfl) (fun Qd hQd => ?_)
    apply anyI_step 0 rfl (by kernel_rfl)
    focus (intro wI hI Kv hKv; have t0 := cell_frame hI ml n1 m0; have t1 := cell_frame hI ml n1 m1; have t2 := cell_frame hI ml n1 m2; go_simp; exact hKv)
    intro Kd hKd
    go_simp
    refine hKd _ ?_
    clear hKd Kd
    apply anyI_step 2 rfl (by kernel_rfl)
    focus (intro wI hI Kv hKv; have t0 := cell_frame hI ml n1 m0; have t1 := cell_frame hI ml n1 m1; have t2 := cell_frame hI ml n1 m2; go_simp; exact hKv)
    intro Kd hKd
    go_simp
    refine hKd _ ?_
    clear hKd Kd
    refine anyI_one' 1 rfl (by kernel_rfl) ((Frame.refl _ X).drew) (fun Kd hKd => ?_)
    go_wp2_with (go_at_call 31; go_must (refine (shut_any bx bm e1 A1 c1 vi w.heap.size _ HTS.out.xs.drew G1.out HTS.out.ox (by show w.heap.size ≤ X.heap.size; omega) HNE.out).mono ?_); rintro r w6 ⟨D, dd, rfl, hE6, hB6, hF6, hD6, hI6⟩; unfold enV)
    have HFx : Hid (Frame (fun b => b = bx) X w6) := (Frame.refl (fun b => b = bx) X).drew.trans hF6 (fun _ _ h => h)
    have HFS : Hid (Frame (fun b => b = bx ∨ b = w.heap.size + 1 + 1 ∨ b = w.heap.size + 1 + 1 + 1) X w6) := HFx.out.mono (fun b _ e2 => .inl e2)
    have h4z := HTS.out.k4.frame HFx.out (fun e2 => blk_ne HTS.out.k4 HTS.out.xs.box (by decide) e2)
    have h5z := HTS.out.k5.frame HFx.out (fun e2 => blk_ne HTS.out.k5 HTS.out.xs.box (by decide) e2)
    have H4Z := Lib.hid h4z
    have H5Z := Lib.hid h5z
    have HE6 := Lib.hid hE6
    have HD6 := Lib.hid hD6
    have HI6 := Lib.hid hI6
    have z0 := h4z.cell 0 (v := .int .i64 0) rfl
    have z1 := h4z.cell 1 (v := .int .i64 0) rfl
    have z2 := h4z.cell 2 (v := .int .i64 0) rfl
    have z3 := h4z.cell 3 (v := .int .i64 0) rfl
    have z4 := h4z.cell 4 (v := .slice none 0 0) rfl
    have z5 := h4z.cell 5 (v := .int .i64 0) rfl
    have z6 := h4z.cell 6 (v := .slice none 0 0) rfl
    have y0 := h4z.free 0
    have y1 := h4z.free 1
    have y2 := h4z.free 2
    have y3 := h4z.free 3
    have y4 := h4z.free 4
    have y5 := h4z.free 5
    have y6 := h4z.free 6
    have yl := h4z.lt
    have g0 := h5z.cell 0 (v := .slice none 0 0) rfl
    have g1 := h5z.cell 1 (v := .slice none 0 0) rfl
    have g2 := h5z.cell 2 (v := .slice none 0 0) rfl
    have f0 := h5z.free 0
    have f1 := h5z.free 1
    have f2 := h5z.free 2
    have gl := h5z.lt
    have nz1 : ¬ w.heap.size + 1 + 1 = w.heap.size + 1 + 1 + 1 := by omega
    have nz2 : ¬ w.heap.size + 1 + 1 + 1 = w.heap.size + 1 + 1 := by omega
    clear h4z h5z hE6 hB6 hF6 hD6 hI6 m0 m1 m2 ml n1
    refine anyI_one' 3 rfl (by kernel_rfl) (HFS.out) (fun Kd hKd => ?_)
    go_wp2
    refine anyI_one' 4 rfl (by kernel_rfl) ((setEn_frame (e := e1) (A := A1) (c := c1) (B := D) (d := dd) HFS.out (.inl (.inr (.inl rfl))))) (fun Kd hKd => ?_)
    go_wp2
    apply anyI_step 5 rfl (by kernel_rfl)
    focus (intro wI hI Kv hKv; go_simp; exact hKv)
    intro Kd hKd
    go_simp
    refine hKd _ ?_
    clear hKd Kd
    refine anyI_end (by kernel_rfl) ((setGn_frame (g := ⟨ps, tk, ls⟩) (P := P) (cp := cp) (T := T) (ct := ct) (L := L) (cl := cl) (setEn_frame (e := e1) (A := A1) (c := c1) (B := D) (d := dd) HFS.out (.inl (.inr (.inl rfl)))) (.inl (.inr (.inr rfl))))) (hQd _ _ ?_)
    clear hQd Qd
    go_wp2
    obtain ⟨q1, q2, q3⟩ := tk_end (e' := e1) (A := A1) (c := c1) (D := D) (d := dd) (g := ⟨ps, tk, ls⟩) (P := P) (cp := cp) (T := T) (ct := ct) (L := L) (cl := cl) H4Z.out H5Z.out
    have hl1 := load26 q1
    have hl2 := load47 q2
    refine bodyPost_ret (v := .tuple #[enV e1 A1 c1 D dd, gnV ⟨ps, tk, ls⟩ P cp T ct L cl, .int .i64 0]) (results_cct rfl rfl rfl rfl hl1 hl2) rfl ?_
    have hSz := HFx.out.size
    have hown : ∀ {e : TypeId} {size n : Nat} {v : Value} {xs : List Value}, X.ownsRow N e size v n xs → e ≠ 86 → e ≠ 38 → e ≠ 44 → World.ownsRow (setGn (setEn w6 (w.heap.size + 1 + 1) e1 A1 c1 D dd) (w.heap.size + 1 + 1 + 1) ⟨ps, tk, ls⟩ P cp T ct L cl) N e size v n xs := fun hr h1 h2 h3 => by
     have hr6 := own_frame hr HFx.out (fun g hg e2 => own_ne hr HTS.out.xs.box h1 (by rw [hg, e2]))
     exact own_frame hr6 q3 (fun g hg e2 => by
      rcases e2 with e2 | e2
      ·exact own_ne hr6 H4Z.out h2 (by rw [hg, e2])
      ·exact own_ne hr6 H5Z.out h3 (by rw [hg, e2]))
    have hnx : ∀ b cur, Blk X b (.cells cur 53) → ¬ b = bx := fun b cur hb e2 => blk_ne hb HTS.out.xs.box (by decide) e2
    have hrow6 := HTS.out.row.frame HFx.out hnx
    have hn45 : ∀ b cur, Blk w6 b (.cells cur 53) → ¬ (b = w.heap.size + 1 + 1 ∨ b = w.heap.size + 1 + 1 + 1) := fun b cur hb e2 => by
     rcases e2 with e2 | e2
     ·exact blk_ne hb H4Z.out (by decide) e2
     ·exact blk_ne hb H5Z.out (by decide) e2
    refine ⟨A1, c1, D, dd, P, cp, T, ct, L, cl, by rw [HEND.out], by rw [HEND.out]; exact ⟨hrow6.cells HE6.out.out q3 hn45, HE6.out.inn.frame q3 (fun _ a ha e2 => by have h1 := HD6.out a ha; have h2 := H4Z.out; have h4l := HTS.out.k4.lt; have h5l := HTS.out.k5.lt; have hsd : X.drew.heap.size = X.heap.size := rfl; rcases e2 with e2 | e2 <;> omega)⟩, by rw [HEND.out]; exact ⟨(Cells.of_own (hown HTS.out.rps (by decide) (by decide) (by decide)) (by rw [pks_len]; exact HPSL.out)).1, (Cells.of_own (hown HTS.out.rtk (by decide) (by decide) (by decide)) (by rw [strs_len]; exact HTKL.out)).1, (Cells.of_own (hown HTS.out.rls (by decide) (by decide) (by decide)) (by rw [strs_len]; exact HLSL.out)).1⟩, HTS.out.xs.nil, by rw [HEND.out]; exact HTS.out.xs.cap, by rw [HEND.out]; exact hrow6.frame q3 hn45, by rw [HEND.out]; exact HI6.out.frame q3 (fun b cur hb e2 => by rcases e2 with e2 | e2; exact blk_ne hb H4Z.out (by decide) e2; exact blk_ne hb H5Z.out (by decide) e2), fun a ha => by have h1 := (HTS.out.rtk.lt a.block (by rw [ha]; rfl)).1; have h2 := HTS.out.oN; omega, fun a ha => by have h1 := (HTS.out.rps.lt a.block (by rw [ha]; rfl)).1; have h2 := HTS.out.oN; omega, fun a ha => by have h1 := (HTS.out.rls.lt a.block (by rw [ha]; rfl)).1; have h2 := HTS.out.oN; omega, own_nil HTS.out.rtk, own_nil HTS.out.rls, ?_⟩
    exact (HTS.out.below.trans (HFx.out.below (B := w.heap.size) (fun b e2 => by have := HTS.out.ox; omega) (by omega))).trans (q3.below (B := w.heap.size) (fun b e2 => by rcases e2 with e2 | e2 <;> omega) (by omega))
   | true =>
    have HOWN := Lib.hid hown
    have hkk : p.kind = 1 ∨ p.kind = 2 ∨ p.kind = 3 := by
     have := (proper_iff.1 HPR.out).2
     omega
    obtain ⟨ph, hph⟩ : ∃ b, (e1.phase == 2) = b := ⟨_, rfl⟩
    rcases hkk with hk | hk | hk
    ·have k1 : (p.kind == 1) = true := beq_iff_eq.2 hk
     have k2 : (p.kind != 1) = false := by simp [hk]
     have k3' : (p.kind == 2) = false := beq_eq_false_iff_ne.2 (by omega)
     have HK := Lib.hid hk
     clear hk
     cases ph with
     | true =>
      have HPHY : Hid (e1.phase = 2) := beq_iff_eq.1 hph
      have HTB : Hid (takeA e p = (openE e1, ⟨[] ++ fromA (openE e1) F ++ [reportA (openE e1)], [], ls⟩, 0)) := by
       show _ = _
       rw [HTG.out, tb_hello HOWN.out HK.out, HF.out, if_pos (beq_iff_eq.2 HPHY.out)]
      go_wp2
      refine sall (by kernel_rfl) (by kernel_rfl) (fun Kq hKq => ?_)
      repeat still_step
      refine wpStill_nil (hKq _ ?_)
      clear hKq Kq
      go_wp2
      clear t0 t1 t2 t3 t4 t5 t6 tl u0 u1 u2 ul
      have HTS := Lib.hid HTS.out.drew
      generalize X.drew = X at HTS ⊢
      have k3 := HTS.out.k3
      have bxx := HTS.out.xs.box
      have t0 := k3.cell 0 (v := .int .i64 p.kind) rfl
      have t1 := k3.cell 1 (v := .int .i64 p.frm) rfl
      have t2 := k3.cell 2 (v := .int .i64 p.to) rfl
      have t3 := k3.cell 3 (v := .int .i64 p.num) rfl
      have t4 := k3.cell 4 (v := .string p.t) rfl
      have t5 := k3.cell 5 (v := .int .i64 p.ack) rfl
      have t6 := k3.cell 6 (v := .int .i64 p.held) rfl
      have tl := k3.lt
      have u0 := bxx.cell 0 (v := .int .i64 e1.life) rfl
      have u1 := bxx.cell 1 (v := .int .i64 e1.peer) rfl
      have u2 := bxx.cell 2 (v := .int .i64 e1.phase) rfl
      have ul := bxx.lt
      clear k3 bxx
      have nb : ¬ w.heap.size + 1 = bx := fun e2 => blk_ne HTS.out.k3 HTS.out.xs.box (by decide) e2
      have y2 := HTS.out.xs.box.free 2
      refine draw (fun w' => Frame (fun b => b = bx) X w') 9 rfl (by kernel_rfl) (fun Qd hQd => ?_)
      apply anyI_step 0 rfl (by kernel_rfl)
      focus (intro wI hI Kv hKv; have t9 := cell_frame hI tl nb t0; go_simp; exact hKv)
      intro Kd hKd
      go_simp
      refine hKd _ ?_
      clear hKd Kd
      apply anyI_step 1 rfl (by kernel_rfl)
      focus (intro wI hI Kv hKv; have t9 := cell_frame hI tl nb t0; go_simp; exact hKv)
      intro Kd hKd
      go_simp
      refine hKd _ ?_
      clear hKd Kd
      apply anyI_step 2 rfl (by kernel_rfl)
      focus (intro wI hI Kv hKv; have t9 := cell_frame hI tl nb t0; go_simp; exact hKv)
      intro Kd hKd
      go_simp
      refine hKd _ ?_
      clear hKd Kd
      apply anyI_step 4 rfl (by kernel_rfl)
      focus (intro wI hI Kv hKv; have t9 := cell_frame hI tl nb t0; go_simp; exact hKv)
      intro Kd hKd
      go_simp
      refine hKd _ ?_
      clear hKd Kd
      apply anyI_step 3 rfl (by kernel_rfl)
      focus (intro wI hI Kv hKv; have t9 := cell_frame hI tl nb t0; go_simp; exact hKv)
      intro Kd hKd
      go_simp
      refine hKd _ ?_
      clear hKd Kd
      apply anyI_step 5 rfl (by kernel_rfl)
      focus (intro wI hI Kv hKv; have t9 := cell_frame hI tl nb t0; go_simp; exact hKv)
      intro Kd hKd
      go_simp
      refine hKd _ ?_
      clear hKd Kd
      apply anyI_step 6 rfl (by kernel_rfl)
      focus (intro wI hI Kv hKv; have t9 := cell_frame hI tl nb t0; go_simp; exact hKv)
      intro Kd hKd
      go_simp
      refine hKd _ ?_
      clear hKd Kd
      refine anyI_one' 7 rfl (by kernel_rfl) ((Frame.refl _ X).drew) (fun Kd hKd => ?_)
      go_wp2
      have F7 := (Frame.refl (fun b => b = bx) X).setCell (p := ⟨bx, 2, none⟩) (.inl rfl) (.int .i64 3)
      apply anyI_step 8 rfl (by kernel_rfl)
      focus (intro wI hI Kv hKv; go_simp; exact hKv)
      intro Kd hKd
      go_simp
      refine hKd _ ?_
      clear hKd Kd
      refine anyI_end (by kernel_rfl) (F7.drew) (hQd _ _ ?_)
      clear hQd Qd
      have HTn := Lib.hid (HTS.out.xset (e' := { e1 with phase := 3 }) 2 (.int .i64 3) (HTS.out.xs.box.set 2 _) rfl rfl).drew
      have HG3 : Hid (GoodP { e1 with phase := 3 }) := opened_good G1.out HPHY.out
      have HOPE0 : Hid (openE e1 = { e1 with phase := 3 }) := by show _ = _; unfold openE; rw [if_pos (beq_iff_eq.2 HPHY.out)]
      have HFL0 : Hid (F ≤ flyN { e1 with phase := 3 }) := by show F ≤ _; rw [← HF.out]; unfold flyN; rw [if_neg (by have := HPHY.out; omega)]; exact Nat.zero_le _
      have HP30 : Hid (({ e1 with phase := 3 } : En).phase = 3) := rfl
      clear t0 t1 t2 t3 t4 t5 t6 tl u0 u1 u2 ul
      clear nb y2 F7
      generalize (X.setCell ⟨bx, 2, none⟩ (.int .i64 3)).drew = X at HTn ⊢
      obtain ⟨e2, HE2⟩ : ∃ e2 : En, Hid ({ e1 with phase := 3 } = e2) := ⟨_, rfl⟩
      rw [HE2.out] at HTn HG3 HOPE0 HFL0 HP30
      have HOPE := HOPE0
      have HTSo := HTn
      clear HTS HTn G1 hph HOPE0
      have HTS := HTSo
      clear HTSo
      have G1 := HG3
      have HFL := HFL0
      have HP3 := HP30
      clear HG3 HFL0 HP30
      rw [HOPE.out] at HTB
      generalize e2 = e1 at HTB HTS G1 HFL HP3 HOPE HE2
      have k3 := HTS.out.k3
      have bxx := HTS.out.xs.box
      have t0 := k3.cell 0 (v := .int .i64 p.kind) rfl
      have t1 := k3.cell 1 (v := .int .i64 p.frm) rfl
      have t2 := k3.cell 2 (v := .int .i64 p.to) rfl
      have t3 := k3.cell 3 (v := .int .i64 p.num) rfl
      have t4 := k3.cell 4 (v := .string p.t) rfl
      have t5 := k3.cell 5 (v := .int .i64 p.ack) rfl
      have t6 := k3.cell 6 (v := .int .i64 p.held) rfl
      have tl := k3.lt
      have u0 := bxx.cell 0 (v := .int .i64 e1.life) rfl
      have u1 := bxx.cell 1 (v := .int .i64 e1.peer) rfl
      have u2 := bxx.cell 2 (v := .int .i64 e1.phase) rfl
      have ul := bxx.lt
      clear k3 bxx
      go_wp2_with fail
      clear t0 t1 t2 t3 t4 t5 t6 tl u0 u1 u2 ul
      obtain ⟨NN, HNN⟩ : ∃ NN, Hid (F = NN) := ⟨_, rfl⟩
      rw [HNN.out] at HTB hF4 ⊢
      have hnb : ∀ b cs t, Blk X b (.cells cs t) → t ≠ 49 → ¬ (Value.slice P ps.length cp).ownBlock = some b := fun b cs t hb ht e2 => own_ne HTS.out.rps hb (fun e3 => ht e3.symm) e2
      have HNB := Lib.hid hnb
      clear hnb
      have hnN4 := HTS.out.nN
      have hoN4 := HTS.out.oN
      refine drawl (fun w' => Frame (fun b => (Value.slice P ps.length cp).ownBlock = some b) X w') 7 7 rfl (by kernel_rfl) (fun Qd hQd => ?_)
      have HRD := fun (wI : World) (hI : (fun w' => Frame (fun b => (Value.slice P ps.length cp).ownBlock = some b) X w') wI) => (have t0 := (HTS.out.g.frame hI (HNB.out _ _ _ HTS.out.g (by decide))).cell 0 (v := .slice P ps.length cp) rfl; have t1 := (HTS.out.g.frame hI (HNB.out _ _ _ HTS.out.g (by decide))).lt; And.intro t0 t1)
      apply anyL_step 0 (by kernel_rfl) rfl (by kernel_rfl)
      focus (intro wI hI Kv hKv; obtain ⟨t0, t1⟩ := HRD wI hI; go_simp; exact hKv)
      intro Kd hKd
      go_simp
      refine hKd _ ?_
      clear hKd Kd
      apply anyL_step 2 (by kernel_rfl) rfl (by kernel_rfl)
      focus (intro wI hI Kv hKv; obtain ⟨t0, t1⟩ := HRD wI hI; go_simp; exact hKv)
      intro Kd hKd
      go_simp
      refine hKd _ ?_
      clear hKd Kd
      apply anyL_step 3 (by kernel_rfl) rfl (by kernel_rfl)
      focus (intro wI hI Kv hKv; obtain ⟨t0, t1⟩ := HRD wI hI; go_simp; exact hKv)
      intro Kd hKd
      go_simp
      refine hKd _ ?_
      clear hKd Kd
      apply anyL_step 1 (by kernel_rfl) rfl (by kernel_rfl)
      focus (intro wI hI Kv hKv; obtain ⟨t0, t1⟩ := HRD wI hI; go_simp; exact hKv)
      intro Kd hKd
      go_simp
      refine hKd _ ?_
      clear hKd Kd
      clear HRD
      refine anyL_one 4 rfl (by kernel_rfl) ((Frame.refl _ X).drew) (fun Kd hKd => ?_)
      go_wp2_with (go_at_call 35; go_must (refine (from_any bx bm e1 A1 c1 vi NN _ HTS.out.drew.xs (fun h => HTS.out.noOut h) G1.out (by omega)).mono ?_); rintro r w4 ⟨v4, rfl, hv4, hB4⟩; obtain ⟨Bv, cv, rfl⟩ := own_fits hv4)
      have hfl4 : (fromA e1 NN).length ≤ 4 := by rw [fromA_len]; have := (fly_le e1).2; omega
      have HV4 := Lib.hid (Cells.of_own hv4 (by rw [pks_len]; omega)).1
      have HV0 : Hid (Bv = none → (fromA e1 NN).length = 0 ∧ cv = 0) := fun hb => by
       have h1 := own_cap hv4
       have h2 := own_nil hv4 hb
       exact ⟨by omega, h2⟩
      clear hv4
      have HB4 : Hid (Below X.heap.size X w4) := (Below.refl _ X).drew.trans hB4
      have HO4 : Hid (w4.ownsRow N 49 7 (.slice P ps.length cp) ps.length (pks ps)) := own_frame HTS.out.rps (Frame.of_all (S := fun _ => False) HB4.out) (fun _ _ h => h)
      have hs4 := HB4.out.size
      clear hB4
      refine anyL_one 5 rfl (by kernel_rfl) ((Frame.of_all HB4.out)) (fun Kd hKd => ?_)
      go_wp2_with (at_builtin; go_must (refine wpList_appN rPk _ rfl _ _ rfl HO4.out rfl Bv (fromA e1 NN).length cv (pks (fromA e1 NN)) rfl HV0.out HV4.out (pks_len _) (pkC_one _) (by omega) (by omega) ?_); intro v6 w6 ho6 hB6 hg6 hloc6; obtain ⟨P6, cp6, rfl⟩ := own_fits ho6)
      have HF6 : Hid (Frame (fun b => (Value.slice P ps.length cp).ownBlock = some b) X w6) := (Frame.of_all (S := fun b => (Value.slice P ps.length cp).ownBlock = some b) HB4.out).trans (Frame.of_grown hg6) (fun _ _ h => h)
      have hg66 := HTS.out.g.frame HF6.out (HNB.out _ _ _ HTS.out.g (by decide))
      have r0 := hg66.cell 0 (v := .slice P ps.length cp) rfl
      have r1 := hg66.free 0
      have r2 := hg66.lt
      have h36 := HTS.out.k3.frame HF6.out (fun e2 => by have := (HTS.out.rps.lt _ e2).1; have := HTS.out.n3; omega)
      have r3 := h36.cell 0 (v := .int .i64 p.kind) rfl
      have r4 := h36.lt
      have r5 : ¬ w.heap.size + 1 = bg := fun e2 => blk_ne HTS.out.k3 HTS.out.g (by decide) e2
      have HO6 := Lib.hid ho6
      clear h36
      clear ho6 hB6 hg6 hloc6 hg66
      apply anyL_step 6 (by kernel_rfl) rfl (by kernel_rfl)
      focus (intro wI hI Kv hKv; go_simp; exact hKv)
      intro Kd hKd
      go_simp
      refine hKd _ ?_
      clear hKd Kd
      refine anyL_end rfl (by kernel_rfl) (HF6.out) (fun Kd hKd => ?_)
      go_wp2_with fail
      obtain ⟨X', hX'⟩ : ∃ X', w6.setCell ⟨bg, 0, none⟩ (.slice P6 (ps.length + (fromA e1 NN).length) cp6) = X' := ⟨_, rfl⟩
      rw [hX']
      have hTg := (HTS.out.grow HF6.out (vP' := .slice P6 (ps.length + (fromA e1 NN).length) cp6) (ps' := ps ++ fromA e1 NN) (by rw [pks_app, List.length_append]; exact HO6.out)).2
      rw [hX'] at hTg
      have hpl' : (ps.length + (fromA e1 NN).length) = (ps ++ fromA e1 NN).length := by simp
      rw [hpl'] at hTg
      have hplb : (ps ++ fromA e1 NN).length ≤ ps.length + 4 := by rw [List.length_append]; omega
      have HTg := Lib.hid hTg
      clear hTg hX' r0 r1 r2 r3 r4 r5 HTS hpl' HNB HB4 HO4 HF6 HO6
      have HTS := HTg
      clear HTg
      obtain ⟨ps, HPS2⟩ : ∃ q, Hid (ps ++ fromA e1 NN = q) := ⟨_, rfl⟩
      rw [HPS2.out] at HTS hplb
      generalize X' = X at HTS ⊢
      generalize P6 = P at HTS ⊢
      generalize cp6 = cp at HTS ⊢
      have hnb : ∀ b cs t, Blk X b (.cells cs t) → t ≠ 49 → ¬ (Value.slice P ps.length cp).ownBlock = some b := fun b cs t hb ht e2 => own_ne HTS.out.rps hb (fun e3 => ht e3.symm) e2
      have HNB := Lib.hid hnb
      clear hnb
      have hnN4 := HTS.out.nN
      have hoN4 := HTS.out.oN
      refine drawl (fun w' => Frame (fun b => (Value.slice P ps.length cp).ownBlock = some b) X w') 7 7 rfl (by kernel_rfl) (fun Qd hQd => ?_)
      have HRD := fun (wI : World) (hI : (fun w' => Frame (fun b => (Value.slice P ps.length cp).ownBlock = some b) X w') wI) => (have t0 := (HTS.out.g.frame hI (HNB.out _ _ _ HTS.out.g (by decide))).cell 0 (v := .slice P ps.length cp) rfl; have t1 := (HTS.out.g.frame hI (HNB.out _ _ _ HTS.out.g (by decide))).lt; And.intro t0 t1)
      apply anyL_step 0 (by kernel_rfl) rfl (by kernel_rfl)
      focus (intro wI hI Kv hKv; obtain ⟨t0, t1⟩ := HRD wI hI; go_simp; exact hKv)
      intro Kd hKd
      go_simp
      refine hKd _ ?_
      clear hKd Kd
      apply anyL_step 2 (by kernel_rfl) rfl (by kernel_rfl)
      focus (intro wI hI Kv hKv; obtain ⟨t0, t1⟩ := HRD wI hI; go_simp; exact hKv)
      intro Kd hKd
      go_simp
      refine hKd _ ?_
      clear hKd Kd
      apply anyL_step 1 (by kernel_rfl) rfl (by kernel_rfl)
      focus (intro wI hI Kv hKv; obtain ⟨t0, t1⟩ := HRD wI hI; go_simp; exact hKv)
      intro Kd hKd
      go_simp
      refine hKd _ ?_
      clear hKd Kd
      clear HRD
      refine anyL_one 3 rfl (by kernel_rfl) ((Frame.refl _ X).drew) (fun Kd hKd => ?_)
      go_wp2_with (go_at_call 29; go_must (refine (report_any bx bm e1 A1 c1 vi _ HTS.out.drew.xs G1.out.want).mono ?_); rintro r w4 ⟨rfl, hB4⟩; unfold pkV)
      have HB4 : Hid (Below X.heap.size X w4) := (Below.refl _ X).drew.trans hB4
      have HO4 : Hid (w4.ownsRow N 49 7 (.slice P ps.length cp) ps.length (pks ps)) := own_frame HTS.out.rps (Frame.of_all (S := fun _ => False) HB4.out) (fun _ _ h => h)
      have hs4 := HB4.out.size
      clear hB4
      refine anyL_one 4 rfl (by kernel_rfl) ((Frame.of_all HB4.out)) (fun Kd hKd => ?_)
      go_wp2
      refine anyL_one 5 rfl (by kernel_rfl) (((Frame.of_all HB4.out).alloc _)) (fun Kd hKd => ?_)
      go_wp2_with (at_builtin; go_must (refine wpList_app1' rPk _ rfl _ _ rfl HO4.out rfl [_, _, _, _, _, _, _] 1 rfl rfl (by simp [Value.oneCell']) (by omega) (by omega) ?_); intro v6 w6 ho6 hB6 hg6 hloc6; obtain ⟨P6, cp6, rfl⟩ := own_fits ho6)
      have HF6 : Hid (Frame (fun b => (Value.slice P ps.length cp).ownBlock = some b) X w6) := (Frame.of_all (S := fun b => (Value.slice P ps.length cp).ownBlock = some b) HB4.out).trans (Frame.of_grown hg6) (fun _ _ h => h)
      have hg66 := HTS.out.g.frame HF6.out (HNB.out _ _ _ HTS.out.g (by decide))
      have r0 := hg66.cell 0 (v := .slice P ps.length cp) rfl
      have r1 := hg66.free 0
      have r2 := hg66.lt
      have h36 := HTS.out.k3.frame HF6.out (fun e2 => by have := (HTS.out.rps.lt _ e2).1; have := HTS.out.n3; omega)
      have r3 := h36.cell 0 (v := .int .i64 p.kind) rfl
      have r4 := h36.lt
      have r5 : ¬ w.heap.size + 1 = bg := fun e2 => blk_ne HTS.out.k3 HTS.out.g (by decide) e2
      have HO6 := Lib.hid ho6
      clear h36
      clear ho6 hB6 hg6 hloc6 hg66
      apply anyL_step 6 (by kernel_rfl) rfl (by kernel_rfl)
      focus (intro wI hI Kv hKv; go_simp; exact hKv)
      intro Kd hKd
      go_simp
      refine hKd _ ?_
      clear hKd Kd
      refine anyL_end rfl (by kernel_rfl) (HF6.out) (fun Kd hKd => ?_)
      go_wp2_with fail
      obtain ⟨X', hX'⟩ : ∃ X', w6.setCell ⟨bg, 0, none⟩ (.slice P6 (ps.length + 1) cp6) = X' := ⟨_, rfl⟩
      rw [hX']
      have hTg := (HTS.out.grow HF6.out (vP' := .slice P6 (ps.length + 1) cp6) (ps' := ps ++ [reportA e1]) (by rw [pks_snoc, List.length_append]; exact HO6.out)).2
      rw [hX'] at hTg
      have hpl' : (ps.length + 1) = (ps ++ [reportA e1]).length := by simp
      rw [hpl'] at hTg
      have hplb : (ps ++ [reportA e1]).length ≤ ps.length + 4 := by simp
      have HTg := Lib.hid hTg
      clear hTg hX' r0 r1 r2 r3 r4 r5 HTS hpl' HNB HB4 HO4 HF6 HO6
      have HTS := HTg
      clear HTg
      obtain ⟨ps, HPS3⟩ : ∃ q, Hid (ps ++ [reportA e1] = q) := ⟨_, rfl⟩
      rw [HPS3.out] at HTS hplb
      generalize X' = X at HTS ⊢
      generalize P6 = P at HTS ⊢
      generalize cp6 = cp at HTS ⊢
      have HEND : Hid (takeA e p = (e1, ⟨ps, tk, ls⟩, 0)) := by show _ = _; rw [HTB.out, ← HPS3.out, ← HPS2.out, Hps.out, Htk.out]
      have HPSL : Hid (ps.length * 7 ≤ 17592186043904) := by show _ ≤ _; omega
      have HTKL : Hid (tk.length ≤ 17592186043904) := by show _ ≤ _; omega
      have HLSL : Hid (ls.length ≤ 17592186043904) := by show _ ≤ _; have := HLS.out; omega
      have HNE : Hid (ous e1.out ≠ [] → ∀ a, A1 = some a → a.block ≠ bx) := fun hn a ha e2 => by
       obtain ⟨b, off, cur, h1, h2, h3⟩ := HTS.out.row (by rintro h0; exact hn (by rw [h0]; rfl))
       rw [h1] at ha
       injection ha with ha
       rw [← ha] at e2
       exact blk_ne h3 HTS.out.xs.box (by decide) e2
      have hg := HTS.out.g
      have m0 := hg.cell 0 (v := .slice P ps.length cp) rfl
      have m1 := hg.cell 1 (v := .slice T tk.length ct) rfl
      have m2 := hg.cell 2 (v := .slice L ls.length cl) rfl
      have ml := hg.lt
      have n1 : ¬ (bg = bx ∨ bg = w.heap.size + 1 + 1 ∨ bg = w.heap.size + 1 + 1 + 1) := fun e2 => by
       rcases e2 with e2 | e2 | e2
       ·exact blk_ne hg HTS.out.xs.box (by decide) e2
       ·exact blk_ne hg HTS.out.k4 (by decide) e2
       ·exact HTS.out.ng5 e2
      have hnN := HTS.out.nN
      have hoN2 := HTS.out.oN
      clear hg
      refine draw (fun w' => Frame (fun b => b = bx ∨ b = w.heap.size + 1 + 1 ∨ b = w.heap.size + 1 + 1 + 1) X w') 6 rfl (by kernel_rfl) (fun Qd hQd => ?_)
      apply anyI_step 0 rfl (by kernel_rfl)
      focus (intro wI hI Kv hKv; have t0 := cell_frame hI ml n1 m0; have t1 := cell_frame hI ml n1 m1; have t2 := cell_frame hI ml n1 m2; go_simp; exact hKv)
      intro Kd hKd
      go_simp
      refine hKd _ ?_
      clear hKd Kd
      apply anyI_step 2 rfl (by kernel_rfl)
      focus (intro wI hI Kv hKv; have t0 := cell_frame hI ml n1 m0; have t1 := cell_frame hI ml n1 m1; have t2 := cell_frame hI ml n1 m2; go_simp; exact hKv)
      intro Kd hKd
      go_simp
      refine hKd _ ?_
      clear hKd Kd
      refine anyI_one' 1 rfl (by kernel_rfl) ((Frame.refl _ X).drew) (fun Kd hKd => ?_)
      go_wp2_with (go_at_call 31; go_must (refine (shut_any bx bm e1 A1 c1 vi w.heap.size _ HTS.out.xs.drew G1.out HTS.out.ox (by show w.heap.size ≤ X.heap.size; omega) HNE.out).mono ?_); rintro r w6 ⟨D, dd, rfl, hE6, hB6, hF6, hD6, hI6⟩; unfold enV)
      have HFx : Hid (Frame (fun b => b = bx) X w6) := (Frame.refl (fun b => b = bx) X).drew.trans hF6 (fun _ _ h => h)
      have HFS : Hid (Frame (fun b => b = bx ∨ b = w.heap.size + 1 + 1 ∨ b = w.heap.size + 1 + 1 + 1) X w6) := HFx.out.mono (fun b _ e2 => .inl e2)
      have h4z := HTS.out.k4.frame HFx.out (fun e2 => blk_ne HTS.out.k4 HTS.out.xs.box (by decide) e2)
      have h5z := HTS.out.k5.frame HFx.out (fun e2 => blk_ne HTS.out.k5 HTS.out.xs.box (by decide) e2)
      have H4Z := Lib.hid h4z
      have H5Z := Lib.hid h5z
      have HE6 := Lib.hid hE6
      have HD6 := Lib.hid hD6
      have HI6 := Lib.hid hI6
      have z0 := h4z.cell 0 (v := .int .i64 0) rfl
      have z1 := h4z.cell 1 (v := .int .i64 0) rfl
      have z2 := h4z.cell 2 (v := .int .i64 0) rfl
      have z3 := h4z.cell 3 (v := .int .i64 0) rfl
      have z4 := h4z.cell 4 (v := .slice none 0 0) rfl
      have z5 := h4z.cell 5 (v := .int .i64 0) rfl
      have z6 := h4z.cell 6 (v := .slice none 0 0) rfl
      have y0 := h4z.free 0
      have y1 := h4z.free 1
      have y2 := h4z.free 2
      have y3 := h4z.free 3
      have y4 := h4z.free 4
      have y5 := h4z.free 5
      have y6 := h4z.free 6
      have yl := h4z.lt
      have g0 := h5z.cell 0 (v := .slice none 0 0) rfl
      have g1 := h5z.cell 1 (v := .slice none 0 0) rfl
      have g2 := h5z.cell 2 (v := .slice none 0 0) rfl
      have f0 := h5z.free 0
      have f1 := h5z.free 1
      have f2 := h5z.free 2
      have gl := h5z.lt
      have nz1 : ¬ w.heap.size + 1 + 1 = w.heap.size + 1 + 1 + 1 := by omega
      have nz2 : ¬ w.heap.size + 1 + 1 + 1 = w.heap.size + 1 + 1 := by omega
      clear h4z h5z hE6 hB6 hF6 hD6 hI6 m0 m1 m2 ml n1
      refine anyI_one' 3 rfl (by kernel_rfl) (HFS.out) (fun Kd hKd => ?_)
      go_wp2
      refine anyI_one' 4 rfl (by kernel_rfl) ((setEn_frame (e := e1) (A := A1) (c := c1) (B := D) (d := dd) HFS.out (.inl (.inr (.inl rfl))))) (fun Kd hKd => ?_)
      go_wp2
      apply anyI_step 5 rfl (by kernel_rfl)
      focus (intro wI hI Kv hKv; go_simp; exact hKv)
      intro Kd hKd
      go_simp
      refine hKd _ ?_
      clear hKd Kd
      refine anyI_end (by kernel_rfl) ((setGn_frame (g := ⟨ps, tk, ls⟩) (P := P) (cp := cp) (T := T) (ct := ct) (L := L) (cl := cl) (setEn_frame (e := e1) (A := A1) (c := c1) (B := D) (d := dd) HFS.out (.inl (.inr (.inl rfl)))) (.inl (.inr (.inr rfl))))) (hQd _ _ ?_)
      clear hQd Qd
      go_wp2
      obtain ⟨q1, q2, q3⟩ := tk_end (e' := e1) (A := A1) (c := c1) (D := D) (d := dd) (g := ⟨ps, tk, ls⟩) (P := P) (cp := cp) (T := T) (ct := ct) (L := L) (cl := cl) H4Z.out H5Z.out
      have hl1 := load26 q1
      have hl2 := load47 q2
      refine bodyPost_ret (v := .tuple #[enV e1 A1 c1 D dd, gnV ⟨ps, tk, ls⟩ P cp T ct L cl, .int .i64 0]) (results_cct rfl rfl rfl rfl hl1 hl2) rfl ?_
      have hSz := HFx.out.size
      have hown : ∀ {e : TypeId} {size n : Nat} {v : Value} {xs : List Value}, X.ownsRow N e size v n xs → e ≠ 86 → e ≠ 38 → e ≠ 44 → World.ownsRow (setGn (setEn w6 (w.heap.size + 1 + 1) e1 A1 c1 D dd) (w.heap.size + 1 + 1 + 1) ⟨ps, tk, ls⟩ P cp T ct L cl) N e size v n xs := fun hr h1 h2 h3 => by
       have hr6 := own_frame hr HFx.out (fun g hg e2 => own_ne hr HTS.out.xs.box h1 (by rw [hg, e2]))
       exact own_frame hr6 q3 (fun g hg e2 => by
        rcases e2 with e2 | e2
        ·exact own_ne hr6 H4Z.out h2 (by rw [hg, e2])
        ·exact own_ne hr6 H5Z.out h3 (by rw [hg, e2]))
      have hnx : ∀ b cur, Blk X b (.cells cur 53) → ¬ b = bx := fun b cur hb e2 => blk_ne hb HTS.out.xs.box (by decide) e2
      have hrow6 := HTS.out.row.frame HFx.out hnx
      have hn45 : ∀ b cur, Blk w6 b (.cells cur 53) → ¬ (b = w.heap.size + 1 + 1 ∨ b = w.heap.size + 1 + 1 + 1) := fun b cur hb e2 => by
       rcases e2 with e2 | e2
       ·exact blk_ne hb H4Z.out (by decide) e2
       ·exact blk_ne hb H5Z.out (by decide) e2
      refine ⟨A1, c1, D, dd, P, cp, T, ct, L, cl, by rw [HEND.out], by rw [HEND.out]; exact ⟨hrow6.cells HE6.out.out q3 hn45, HE6.out.inn.frame q3 (fun _ a ha e2 => by have h1 := HD6.out a ha; have h2 := H4Z.out; have h4l := HTS.out.k4.lt; have h5l := HTS.out.k5.lt; have hsd : X.drew.heap.size = X.heap.size := rfl; rcases e2 with e2 | e2 <;> omega)⟩, by rw [HEND.out]; exact ⟨(Cells.of_own (hown HTS.out.rps (by decide) (by decide) (by decide)) (by rw [pks_len]; exact HPSL.out)).1, (Cells.of_own (hown HTS.out.rtk (by decide) (by decide) (by decide)) (by rw [strs_len]; exact HTKL.out)).1, (Cells.of_own (hown HTS.out.rls (by decide) (by decide) (by decide)) (by rw [strs_len]; exact HLSL.out)).1⟩, HTS.out.xs.nil, by rw [HEND.out]; exact HTS.out.xs.cap, by rw [HEND.out]; exact hrow6.frame q3 hn45, by rw [HEND.out]; exact HI6.out.frame q3 (fun b cur hb e2 => by rcases e2 with e2 | e2; exact blk_ne hb H4Z.out (by decide) e2; exact blk_ne hb H5Z.out (by decide) e2), fun a ha => by have h1 := (HTS.out.rtk.lt a.block (by rw [ha]; rfl)).1; have h2 := HTS.out.oN; omega, fun a ha => by have h1 := (HTS.out.rps.lt a.block (by rw [ha]; rfl)).1; have h2 := HTS.out.oN; omega, fun a ha => by have h1 := (HTS.out.rls.lt a.block (by rw [ha]; rfl)).1; have h2 := HTS.out.oN; omega, own_nil HTS.out.rtk, own_nil HTS.out.rls, ?_⟩
      exact (HTS.out.below.trans (HFx.out.below (B := w.heap.size) (fun b e2 => by have := HTS.out.ox; omega) (by omega))).trans (q3.below (B := w.heap.size) (fun b e2 => by rcases e2 with e2 | e2 <;> omega) (by omega))
     | false =>
      have HPHN : Hid (¬ e1.phase = 2) := beq_eq_false_iff_ne.1 hph
      have HTB : Hid (takeA e p = (openE e1, ⟨[] ++ fromA (openE e1) F ++ [], [], ls⟩, 0)) := by
       show _ = _
       rw [HTG.out, tb_hello HOWN.out HK.out, HF.out, if_neg (by rw [beq_iff_eq]; exact HPHN.out)]
      have HP3 : Hid (e1.phase = 3) := by
       show _ = _
       by_cases h3 : e1.phase = 3
       ·exact h3
       ·have := (G1.out.cl h3).2.2.2
        have := HPH.out
        have := HPHN.out
        omega
      have HOPE : Hid (openE e1 = e1) := by show _ = _; unfold openE; rw [if_neg (by rw [beq_iff_eq]; exact HPHN.out)]
      have HFL : Hid (F ≤ flyN e1) := by show F ≤ _; rw [HF.out]; exact Nat.le_refl _
      obtain ⟨e2, HE2⟩ : ∃ e2 : En, Hid (e1 = e2) := ⟨e1, rfl⟩
      rw [HOPE.out] at HTB
      go_wp2
      refine sall (by kernel_rfl) (by kernel_rfl) (fun Kq hKq => ?_)
      repeat still_step
      refine wpStill_nil (hKq _ ?_)
      clear hKq Kq
      go_wp2_with fail
      clear t0 t1 t2 t3 t4 t5 t6 tl u0 u1 u2 ul
      have HTS := Lib.hid HTS.out.drew
      generalize X.drew = X at HTS ⊢
      clear hph
      obtain ⟨NN, HNN⟩ : ∃ NN, Hid (F = NN) := ⟨_, rfl⟩
      rw [HNN.out] at HTB hF4 ⊢
      have hnb : ∀ b cs t, Blk X b (.cells cs t) → t ≠ 49 → ¬ (Value.slice P ps.length cp).ownBlock = some b := fun b cs t hb ht e2 => own_ne HTS.out.rps hb (fun e3 => ht e3.symm) e2
      have HNB := Lib.hid hnb
      clear hnb
      have hnN4 := HTS.out.nN
      have hoN4 := HTS.out.oN
      refine drawl (fun w' => Frame (fun b => (Value.slice P ps.length cp).ownBlock = some b) X w') 7 7 rfl (by kernel_rfl) (fun Qd hQd => ?_)
      have HRD := fun (wI : World) (hI : (fun w' => Frame (fun b => (Value.slice P ps.length cp).ownBlock = some b) X w') wI) => (have t0 := (HTS.out.g.frame hI (HNB.out _ _ _ HTS.out.g (by decide))).cell 0 (v := .slice P ps.length cp) rfl; have t1 := (HTS.out.g.frame hI (HNB.out _ _ _ HTS.out.g (by decide))).lt; And.intro t0 t1)
      apply anyL_step 0 (by kernel_rfl) rfl (by kernel_rfl)
      focus (intro wI hI Kv hKv; obtain ⟨t0, t1⟩ := HRD wI hI; go_simp; exact hKv)
      intro Kd hKd
      go_simp
      refine hKd _ ?_
      clear hKd Kd
      apply anyL_step 2 (by kernel_rfl) rfl (by kernel_rfl)
      focus (intro wI hI Kv hKv; obtain ⟨t0, t1⟩ := HRD wI hI; go_simp; exact hKv)
      intro Kd hKd
      go_simp
      refine hKd _ ?_
      clear hKd Kd
      apply anyL_step 3 (by kernel_rfl) rfl (by kernel_rfl)
      focus (intro wI hI Kv hKv; obtain ⟨t0, t1⟩ := HRD wI hI; go_simp; exact hKv)
      intro Kd hKd
      go_simp
      refine hKd _ ?_
      clear hKd Kd
      apply anyL_step 1 (by kernel_rfl) rfl (by kernel_rfl)
      focus (intro wI hI Kv hKv; obtain ⟨t0, t1⟩ := HRD wI hI; go_simp; exact hKv)
      intro Kd hKd
      go_simp
      refine hKd _ ?_
      clear hKd Kd
      clear HRD
      refine anyL_one 4 rfl (by kernel_rfl) ((Frame.refl _ X).drew) (fun Kd hKd => ?_)
      go_wp2_with (go_at_call 35; go_must (refine (from_any bx bm e1 A1 c1 vi NN _ HTS.out.drew.xs (fun h => HTS.out.noOut h) G1.out (by omega)).mono ?_); rintro r w4 ⟨v4, rfl, hv4, hB4⟩; obtain ⟨Bv, cv, rfl⟩ := own_fits hv4)
      have hfl4 : (fromA e1 NN).length ≤ 4 := by rw [fromA_len]; have := (fly_le e1).2; omega
      have HV4 := Lib.hid (Cells.of_own hv4 (by rw [pks_len]; omega)).1
      have HV0 : Hid (Bv = none → (fromA e1 NN).length = 0 ∧ cv = 0) := fun hb => by
       have h1 := own_cap hv4
       have h2 := own_nil hv4 hb
       exact ⟨by omega, h2⟩
      clear hv4
      have HB4 : Hid (Below X.heap.size X w4) := (Below.refl _ X).drew.trans hB4
      have HO4 : Hid (w4.ownsRow N 49 7 (.slice P ps.length cp) ps.length (pks ps)) := own_frame HTS.out.rps (Frame.of_all (S := fun _ => False) HB4.out) (fun _ _ h => h)
      have hs4 := HB4.out.size
      clear hB4
      refine anyL_one 5 rfl (by kernel_rfl) ((Frame.of_all HB4.out)) (fun Kd hKd => ?_)
      go_wp2_with (at_builtin; go_must (refine wpList_appN rPk _ rfl _ _ rfl HO4.out rfl Bv (fromA e1 NN).length cv (pks (fromA e1 NN)) rfl HV0.out HV4.out (pks_len _) (pkC_one _) (by omega) (by omega) ?_); intro v6 w6 ho6 hB6 hg6 hloc6; obtain ⟨P6, cp6, rfl⟩ := own_fits ho6)
      have HF6 : Hid (Frame (fun b => (Value.slice P ps.length cp).ownBlock = some b) X w6) := (Frame.of_all (S := fun b => (Value.slice P ps.length cp).ownBlock = some b) HB4.out).trans (Frame.of_grown hg6) (fun _ _ h => h)
      have hg66 := HTS.out.g.frame HF6.out (HNB.out _ _ _ HTS.out.g (by decide))
      have r0 := hg66.cell 0 (v := .slice P ps.length cp) rfl
      have r1 := hg66.free 0
      have r2 := hg66.lt
      have h36 := HTS.out.k3.frame HF6.out (fun e2 => by have := (HTS.out.rps.lt _ e2).1; have := HTS.out.n3; omega)
      have r3 := h36.cell 0 (v := .int .i64 p.kind) rfl
      have r4 := h36.lt
      have r5 : ¬ w.heap.size + 1 = bg := fun e2 => blk_ne HTS.out.k3 HTS.out.g (by decide) e2
      have HO6 := Lib.hid ho6
      clear h36
      clear ho6 hB6 hg6 hloc6 hg66
      apply anyL_step 6 (by kernel_rfl) rfl (by kernel_rfl)
      focus (intro wI hI Kv hKv; go_simp; exact hKv)
      intro Kd hKd
      go_simp
      refine hKd _ ?_
      clear hKd Kd
      refine anyL_end rfl (by kernel_rfl) (HF6.out) (fun Kd hKd => ?_)
      go_wp2_with fail
      obtain ⟨X', hX'⟩ : ∃ X', w6.setCell ⟨bg, 0, none⟩ (.slice P6 (ps.length + (fromA e1 NN).length) cp6) = X' := ⟨_, rfl⟩
      rw [hX']
      have hTg := (HTS.out.grow HF6.out (vP' := .slice P6 (ps.length + (fromA e1 NN).length) cp6) (ps' := ps ++ fromA e1 NN) (by rw [pks_app, List.length_append]; exact HO6.out)).2
      rw [hX'] at hTg
      have hpl' : (ps.length + (fromA e1 NN).length) = (ps ++ fromA e1 NN).length := by simp
      rw [hpl'] at hTg
      have hplb : (ps ++ fromA e1 NN).length ≤ ps.length + 4 := by rw [List.length_append]; omega
      have HTg := Lib.hid hTg
      clear hTg hX' r0 r1 r2 r3 r4 r5 HTS hpl' HNB HB4 HO4 HF6 HO6
      have HTS := HTg
      clear HTg
      obtain ⟨ps, HPS2⟩ : ∃ q, Hid (ps ++ fromA e1 NN = q) := ⟨_, rfl⟩
      rw [HPS2.out] at HTS hplb
      generalize X' = X at HTS ⊢
      generalize P6 = P at HTS ⊢
      generalize cp6 = cp at HTS ⊢
      have HEND : Hid (takeA e p = (e1, ⟨ps, tk, ls⟩, 0)) := by show _ = _; rw [HTB.out, ← HPS2.out, Hps.out, Htk.out, List.append_nil]
      have HPSL : Hid (ps.length * 7 ≤ 17592186043904) := by show _ ≤ _; omega
      have HTKL : Hid (tk.length ≤ 17592186043904) := by show _ ≤ _; omega
      have HLSL : Hid (ls.length ≤ 17592186043904) := by show _ ≤ _; have := HLS.out; omega
      have HNE : Hid (ous e1.out ≠ [] → ∀ a, A1 = some a → a.block ≠ bx) := fun hn a ha e2 => by
       obtain ⟨b, off, cur, h1, h2, h3⟩ := HTS.out.row (by rintro h0; exact hn (by rw [h0]; rfl))
       rw [h1] at ha
       injection ha with ha
       rw [← ha] at e2
       exact blk_ne h3 HTS.out.xs.box (by decide) e2
      have hg := HTS.out.g
      have m0 := hg.cell 0 (v := .slice P ps.length cp) rfl
      have m1 := hg.cell 1 (v := .slice T tk.length ct) rfl
      have m2 := hg.cell 2 (v := .slice L ls.length cl) rfl
      have ml := hg.lt
      have n1 : ¬ (bg = bx ∨ bg = w.heap.size + 1 + 1 ∨ bg = w.heap.size + 1 + 1 + 1) := fun e2 => by
       rcases e2 with e2 | e2 | e2
       ·exact blk_ne hg HTS.out.xs.box (by decide) e2
       ·exact blk_ne hg HTS.out.k4 (by decide) e2
       ·exact HTS.out.ng5 e2
      have hnN := HTS.out.nN
      have hoN2 := HTS.out.oN
      clear hg
      refine draw (fun w' => Frame (fun b => b = bx ∨ b = w.heap.size + 1 + 1 ∨ b = w.heap.size + 1 + 1 + 1) X w') 6 rfl (by kernel_rfl) (fun Qd hQd => ?_)
      apply anyI_step 0 rfl (by kernel_rfl)
      focus (intro wI hI Kv hKv; have t0 := cell_frame hI ml n1 m0; have t1 := cell_frame hI ml n1 m1; have t2 := cell_frame hI ml n1 m2; go_simp; exact hKv)
      intro Kd hKd
      go_simp
      refine hKd _ ?_
      clear hKd Kd
      apply anyI_step 2 rfl (by kernel_rfl)
      focus (intro wI hI Kv hKv; have t0 := cell_frame hI ml n1 m0; have t1 := cell_frame hI ml n1 m1; have t2 := cell_frame hI ml n1 m2; go_simp; exact hKv)
      intro Kd hKd
      go_simp
      refine hKd _ ?_
      clear hKd Kd
      refine anyI_one' 1 rfl (by kernel_rfl) ((Frame.refl _ X).drew) (fun Kd hKd => ?_)
      go_wp2_with (go_at_call 31; go_must (refine (shut_any bx bm e1 A1 c1 vi w.heap.size _ HTS.out.xs.drew G1.out HTS.out.ox (by show w.heap.size ≤ X.heap.size; omega) HNE.out).mono ?_); rintro r w6 ⟨D, dd, rfl, hE6, hB6, hF6, hD6, hI6⟩; unfold enV)
      have HFx : Hid (Frame (fun b => b = bx) X w6) := (Frame.refl (fun b => b = bx) X).drew.trans hF6 (fun _ _ h => h)
      have HFS : Hid (Frame (fun b => b = bx ∨ b = w.heap.size + 1 + 1 ∨ b = w.heap.size + 1 + 1 + 1) X w6) := HFx.out.mono (fun b _ e2 => .inl e2)
      have h4z := HTS.out.k4.frame HFx.out (fun e2 => blk_ne HTS.out.k4 HTS.out.xs.box (by decide) e2)
      have h5z := HTS.out.k5.frame HFx.out (fun e2 => blk_ne HTS.out.k5 HTS.out.xs.box (by decide) e2)
      have H4Z := Lib.hid h4z
      have H5Z := Lib.hid h5z
      have HE6 := Lib.hid hE6
      have HD6 := Lib.hid hD6
      have HI6 := Lib.hid hI6
      have z0 := h4z.cell 0 (v := .int .i64 0) rfl
      have z1 := h4z.cell 1 (v := .int .i64 0) rfl
      have z2 := h4z.cell 2 (v := .int .i64 0) rfl
      have z3 := h4z.cell 3 (v := .int .i64 0) rfl
      have z4 := h4z.cell 4 (v := .slice none 0 0) rfl
      have z5 := h4z.cell 5 (v := .int .i64 0) rfl
      have z6 := h4z.cell 6 (v := .slice none 0 0) rfl
      have y0 := h4z.free 0
      have y1 := h4z.free 1
      have y2 := h4z.free 2
      have y3 := h4z.free 3
      have y4 := h4z.free 4
      have y5 := h4z.free 5
      have y6 := h4z.free 6
      have yl := h4z.lt
      have g0 := h5z.cell 0 (v := .slice none 0 0) rfl
      have g1 := h5z.cell 1 (v := .slice none 0 0) rfl
      have g2 := h5z.cell 2 (v := .slice none 0 0) rfl
      have f0 := h5z.free 0
      have f1 := h5z.free 1
      have f2 := h5z.free 2
      have gl := h5z.lt
      have nz1 : ¬ w.heap.size + 1 + 1 = w.heap.size + 1 + 1 + 1 := by omega
      have nz2 : ¬ w.heap.size + 1 + 1 + 1 = w.heap.size + 1 + 1 := by omega
      clear h4z h5z hE6 hB6 hF6 hD6 hI6 m0 m1 m2 ml n1
      refine anyI_one' 3 rfl (by kernel_rfl) (HFS.out) (fun Kd hKd => ?_)
      go_wp2
      refine anyI_one' 4 rfl (by kernel_rfl) ((setEn_frame (e := e1) (A := A1) (c := c1) (B := D) (d := dd) HFS.out (.inl (.inr (.inl rfl))))) (fun Kd hKd => ?_)
      go_wp2
      apply anyI_step 5 rfl (by kernel_rfl)
      focus (intro wI hI Kv hKv; go_simp; exact hKv)
      intro Kd hKd
      go_simp
      refine hKd _ ?_
      clear hKd Kd
      refine anyI_end (by kernel_rfl) ((setGn_frame (g := ⟨ps, tk, ls⟩) (P := P) (cp := cp) (T := T) (ct := ct) (L := L) (cl := cl) (setEn_frame (e := e1) (A := A1) (c := c1) (B := D) (d := dd) HFS.out (.inl (.inr (.inl rfl)))) (.inl (.inr (.inr rfl))))) (hQd _ _ ?_)
      clear hQd Qd
      go_wp2
      obtain ⟨q1, q2, q3⟩ := tk_end (e' := e1) (A := A1) (c := c1) (D := D) (d := dd) (g := ⟨ps, tk, ls⟩) (P := P) (cp := cp) (T := T) (ct := ct) (L := L) (cl := cl) H4Z.out H5Z.out
      have hl1 := load26 q1
      have hl2 := load47 q2
      refine bodyPost_ret (v := .tuple #[enV e1 A1 c1 D dd, gnV ⟨ps, tk, ls⟩ P cp T ct L cl, .int .i64 0]) (results_cct rfl rfl rfl rfl hl1 hl2) rfl ?_
      have hSz := HFx.out.size
      have hown : ∀ {e : TypeId} {size n : Nat} {v : Value} {xs : List Value}, X.ownsRow N e size v n xs → e ≠ 86 → e ≠ 38 → e ≠ 44 → World.ownsRow (setGn (setEn w6 (w.heap.size + 1 + 1) e1 A1 c1 D dd) (w.heap.size + 1 + 1 + 1) ⟨ps, tk, ls⟩ P cp T ct L cl) N e size v n xs := fun hr h1 h2 h3 => by
       have hr6 := own_frame hr HFx.out (fun g hg e2 => own_ne hr HTS.out.xs.box h1 (by rw [hg, e2]))
       exact own_frame hr6 q3 (fun g hg e2 => by
        rcases e2 with e2 | e2
        ·exact own_ne hr6 H4Z.out h2 (by rw [hg, e2])
        ·exact own_ne hr6 H5Z.out h3 (by rw [hg, e2]))
      have hnx : ∀ b cur, Blk X b (.cells cur 53) → ¬ b = bx := fun b cur hb e2 => blk_ne hb HTS.out.xs.box (by decide) e2
      have hrow6 := HTS.out.row.frame HFx.out hnx
      have hn45 : ∀ b cur, Blk w6 b (.cells cur 53) → ¬ (b = w.heap.size + 1 + 1 ∨ b = w.heap.size + 1 + 1 + 1) := fun b cur hb e2 => by
       rcases e2 with e2 | e2
       ·exact blk_ne hb H4Z.out (by decide) e2
       ·exact blk_ne hb H5Z.out (by decide) e2
      refine ⟨A1, c1, D, dd, P, cp, T, ct, L, cl, by rw [HEND.out], by rw [HEND.out]; exact ⟨hrow6.cells HE6.out.out q3 hn45, HE6.out.inn.frame q3 (fun _ a ha e2 => by have h1 := HD6.out a ha; have h2 := H4Z.out; have h4l := HTS.out.k4.lt; have h5l := HTS.out.k5.lt; have hsd : X.drew.heap.size = X.heap.size := rfl; rcases e2 with e2 | e2 <;> omega)⟩, by rw [HEND.out]; exact ⟨(Cells.of_own (hown HTS.out.rps (by decide) (by decide) (by decide)) (by rw [pks_len]; exact HPSL.out)).1, (Cells.of_own (hown HTS.out.rtk (by decide) (by decide) (by decide)) (by rw [strs_len]; exact HTKL.out)).1, (Cells.of_own (hown HTS.out.rls (by decide) (by decide) (by decide)) (by rw [strs_len]; exact HLSL.out)).1⟩, HTS.out.xs.nil, by rw [HEND.out]; exact HTS.out.xs.cap, by rw [HEND.out]; exact hrow6.frame q3 hn45, by rw [HEND.out]; exact HI6.out.frame q3 (fun b cur hb e2 => by rcases e2 with e2 | e2; exact blk_ne hb H4Z.out (by decide) e2; exact blk_ne hb H5Z.out (by decide) e2), fun a ha => by have h1 := (HTS.out.rtk.lt a.block (by rw [ha]; rfl)).1; have h2 := HTS.out.oN; omega, fun a ha => by have h1 := (HTS.out.rps.lt a.block (by rw [ha]; rfl)).1; have h2 := HTS.out.oN; omega, fun a ha => by have h1 := (HTS.out.rls.lt a.block (by rw [ha]; rfl)).1; have h2 := HTS.out.oN; omega, own_nil HTS.out.rtk, own_nil HTS.out.rls, ?_⟩
      exact (HTS.out.below.trans (HFx.out.below (B := w.heap.size) (fun b e2 => by have := HTS.out.ox; omega) (by omega))).trans (q3.below (B := w.heap.size) (fun b e2 => by rcases e2 with e2 | e2 <;> omega) (by omega))
    ·have k1 : (p.kind == 1) = false := beq_eq_false_iff_ne.2 (by omega)
     have k2 : (p.kind != 1) = true := by simp [hk]
     have k3' : (p.kind == 2) = true := beq_iff_eq.2 hk
     have HK := Lib.hid hk
     clear hk
     have HTB : Hid (takeA e p = ((cameA (ackedA (openE e1) p F) p).1, ⟨[] ++ fromA (cameA (ackedA (openE e1) p F) p).1 (F - goneA (openE e1) p F) ++ [reportA (cameA (ackedA (openE e1) p F) p).1], (cameA (ackedA (openE e1) p F) p).2, ls⟩, 0)) := by
      show _ = _
      rw [HTG.out, tb_data HOWN.out HK.out, HF.out]
     cases ph with
     | true =>
      have HPHY : Hid (e1.phase = 2) := beq_iff_eq.1 hph
      go_wp2
      refine sall (by kernel_rfl) (by kernel_rfl) (fun Kq hKq => ?_)
      repeat still_step
      refine wpStill_nil (hKq _ ?_)
      clear hKq Kq
      go_wp2
      clear t0 t1 t2 t3 t4 t5 t6 tl u0 u1 u2 ul
      have HTS := Lib.hid HTS.out.drew
      generalize X.drew = X at HTS ⊢
      have k3 := HTS.out.k3
      have bxx := HTS.out.xs.box
      have t0 := k3.cell 0 (v := .int .i64 p.kind) rfl
      have t1 := k3.cell 1 (v := .int .i64 p.frm) rfl
      have t2 := k3.cell 2 (v := .int .i64 p.to) rfl
      have t3 := k3.cell 3 (v := .int .i64 p.num) rfl
      have t4 := k3.cell 4 (v := .string p.t) rfl
      have t5 := k3.cell 5 (v := .int .i64 p.ack) rfl
      have t6 := k3.cell 6 (v := .int .i64 p.held) rfl
      have tl := k3.lt
      have u0 := bxx.cell 0 (v := .int .i64 e1.life) rfl
      have u1 := bxx.cell 1 (v := .int .i64 e1.peer) rfl
      have u2 := bxx.cell 2 (v := .int .i64 e1.phase) rfl
      have ul := bxx.lt
      clear k3 bxx
      have nb : ¬ w.heap.size + 1 = bx := fun e2 => blk_ne HTS.out.k3 HTS.out.xs.box (by decide) e2
      have y2 := HTS.out.xs.box.free 2
      refine draw (fun w' => Frame (fun b => b = bx) X w') 9 rfl (by kernel_rfl) (fun Qd hQd => ?_)
      apply anyI_step 0 rfl (by kernel_rfl)
      focus (intro wI hI Kv hKv; have t9 := cell_frame hI tl nb t0; go_simp; exact hKv)
      intro Kd hKd
      go_simp
      refine hKd _ ?_
      clear hKd Kd
      apply anyI_step 1 rfl (by kernel_rfl)
      focus (intro wI hI Kv hKv; have t9 := cell_frame hI tl nb t0; go_simp; exact hKv)
      intro Kd hKd
      go_simp
      refine hKd _ ?_
      clear hKd Kd
      apply anyI_step 2 rfl (by kernel_rfl)
      focus (intro wI hI Kv hKv; have t9 := cell_frame hI tl nb t0; go_simp; exact hKv)
      intro Kd hKd
      go_simp
      refine hKd _ ?_
      clear hKd Kd
      apply anyI_step 4 rfl (by kernel_rfl)
      focus (intro wI hI Kv hKv; have t9 := cell_frame hI tl nb t0; go_simp; exact hKv)
      intro Kd hKd
      go_simp
      refine hKd _ ?_
      clear hKd Kd
      apply anyI_step 3 rfl (by kernel_rfl)
      focus (intro wI hI Kv hKv; have t9 := cell_frame hI tl nb t0; go_simp; exact hKv)
      intro Kd hKd
      go_simp
      refine hKd _ ?_
      clear hKd Kd
      apply anyI_step 5 rfl (by kernel_rfl)
      focus (intro wI hI Kv hKv; have t9 := cell_frame hI tl nb t0; go_simp; exact hKv)
      intro Kd hKd
      go_simp
      refine hKd _ ?_
      clear hKd Kd
      apply anyI_step 6 rfl (by kernel_rfl)
      focus (intro wI hI Kv hKv; have t9 := cell_frame hI tl nb t0; go_simp; exact hKv)
      intro Kd hKd
      go_simp
      refine hKd _ ?_
      clear hKd Kd
      refine anyI_one' 7 rfl (by kernel_rfl) ((Frame.refl _ X).drew) (fun Kd hKd => ?_)
      go_wp2
      have F7 := (Frame.refl (fun b => b = bx) X).setCell (p := ⟨bx, 2, none⟩) (.inl rfl) (.int .i64 3)
      apply anyI_step 8 rfl (by kernel_rfl)
      focus (intro wI hI Kv hKv; go_simp; exact hKv)
      intro Kd hKd
      go_simp
      refine hKd _ ?_
      clear hKd Kd
      refine anyI_end (by kernel_rfl) (F7.drew) (hQd _ _ ?_)
      clear hQd Qd
      have HTn := Lib.hid (HTS.out.xset (e' := { e1 with phase := 3 }) 2 (.int .i64 3) (HTS.out.xs.box.set 2 _) rfl rfl).drew
      have HG3 : Hid (GoodP { e1 with phase := 3 }) := opened_good G1.out HPHY.out
      have HOPE0 : Hid (openE e1 = { e1 with phase := 3 }) := by show _ = _; unfold openE; rw [if_pos (beq_iff_eq.2 HPHY.out)]
      have HFL0 : Hid (F ≤ flyN { e1 with phase := 3 }) := by show F ≤ _; rw [← HF.out]; unfold flyN; rw [if_neg (by have := HPHY.out; omega)]; exact Nat.zero_le _
      have HP30 : Hid (({ e1 with phase := 3 } : En).phase = 3) := rfl
      clear t0 t1 t2 t3 t4 t5 t6 tl u0 u1 u2 ul
      clear nb y2 F7
      generalize (X.setCell ⟨bx, 2, none⟩ (.int .i64 3)).drew = X at HTn ⊢
      obtain ⟨e2, HE2⟩ : ∃ e2 : En, Hid ({ e1 with phase := 3 } = e2) := ⟨_, rfl⟩
      rw [HE2.out] at HTn HG3 HOPE0 HFL0 HP30
      have HOPE := HOPE0
      have HTSo := HTn
      clear HTS HTn G1 hph HOPE0
      have HTS := HTSo
      clear HTSo
      have G1 := HG3
      have HFL := HFL0
      have HP3 := HP30
      clear HG3 HFL0 HP30
      rw [HOPE.out] at HTB
      generalize e2 = e1 at HTB HTS G1 HFL HP3 HOPE HE2
      have k3 := HTS.out.k3
      have bxx := HTS.out.xs.box
      have t0 := k3.cell 0 (v := .int .i64 p.kind) rfl
      have t1 := k3.cell 1 (v := .int .i64 p.frm) rfl
      have t2 := k3.cell 2 (v := .int .i64 p.to) rfl
      have t3 := k3.cell 3 (v := .int .i64 p.num) rfl
      have t4 := k3.cell 4 (v := .string p.t) rfl
      have t5 := k3.cell 5 (v := .int .i64 p.ack) rfl
      have t6 := k3.cell 6 (v := .int .i64 p.held) rfl
      have tl := k3.lt
      have u0 := bxx.cell 0 (v := .int .i64 e1.life) rfl
      have u1 := bxx.cell 1 (v := .int .i64 e1.peer) rfl
      have u2 := bxx.cell 2 (v := .int .i64 e1.phase) rfl
      have ul := bxx.lt
      clear k3 bxx
      go_wp2_with fail
      clear t0 t1 t2 t3 t4 t5 t6 tl u0 u1 u2 ul
      have hheld : 0 ≤ p.held ∧ p.held ≤ 7 := by have := (proper_iff.1 HPR.out).2; have := HK.out; omega
      have hgF : goneA e1 p F ≤ F := (acked_base e1 p F).2.1
      refine (acked_any w.heap.size bx bm e1 A1 c1 vi p F X HTS.out.xs HTS.out.row G1.out HFL.out hheld HTS.out.ox (by have := HTS.out.nN; have := HTS.out.oN; omega)).mono ?_
      rintro r w5 ⟨rfl, A', c', hx5, hr5, hB5, hF5⟩
      have HT5 := Lib.hid (HTS.out.x (hF5.mono (fun b _ e2 => by rcases e2 with e2 | e2; exact .inl e2; exact .inr (.inr e2))) hx5 hr5 hB5)
      have HGA := Lib.hid (acked_good G1.out HP3.out p HFL.out)
      have HPA : Hid ((ackedA e1 p F).phase = 3) := by show _ = _; rw [(acked_base e1 p F).2.2.2.2]; exact HP3.out
      clear hx5 hr5 hB5 hF5
      obtain ⟨g, HGG⟩ : ∃ g, Hid (goneA e1 p F = g) := ⟨_, rfl⟩
      rw [HGG.out] at HTB hgF ⊢
      obtain ⟨NN, HNN⟩ : ∃ NN, Hid (F - g = NN) := ⟨_, rfl⟩
      have hwr : IntKind.i64.wrap ((F : Int) - (g : Int)) = (NN : Int) := by rw [wrap_ok ⟨by omega, by omega⟩, ← HNN.out]; omega
      have hN4 : NN ≤ 4 := by have := HNN.out; omega
      rw [HNN.out] at HTB
      obtain ⟨e5, HAE⟩ : ∃ e5, Hid (ackedA e1 p F = e5) := ⟨_, rfl⟩
      rw [HAE.out] at HTB HT5 HGA HPA
      clear HTS G1 HP3 HFL hheld HAE hF4 HGG HNN
      have hF4 := hN4
      have HTS := HT5
      have G1 := HGA
      have HP3 := HPA
      clear HT5 HGA HPA hN4
      generalize e5 = e1 at HTB HTS G1 HP3
      generalize A' = A1 at HTS
      generalize c' = c1 at HTS
      generalize w5 = X at HTS ⊢
      have k3 := HTS.out.k3
      have bxx := HTS.out.xs.box
      have t0 := k3.cell 0 (v := .int .i64 p.kind) rfl
      have t1 := k3.cell 1 (v := .int .i64 p.frm) rfl
      have t2 := k3.cell 2 (v := .int .i64 p.to) rfl
      have t3 := k3.cell 3 (v := .int .i64 p.num) rfl
      have t4 := k3.cell 4 (v := .string p.t) rfl
      have t5 := k3.cell 5 (v := .int .i64 p.ack) rfl
      have t6 := k3.cell 6 (v := .int .i64 p.held) rfl
      have tl := k3.lt
      have u0 := bxx.cell 0 (v := .int .i64 e1.life) rfl
      have u1 := bxx.cell 1 (v := .int .i64 e1.peer) rfl
      have u2 := bxx.cell 2 (v := .int .i64 e1.phase) rfl
      have ul := bxx.lt
      clear k3 bxx
      go_wp2_with fail
      have hfar : OutFar e1 A1 bx bm := fun hn a ha => by
       obtain ⟨b, off, cur, h1, h2, h3⟩ := HTS.out.row (by rintro h0; exact hn (by rw [h0]; rfl))
       rw [h1] at ha
       injection ha with ha
       rw [← ha]
       exact ⟨blk_ne h3 HTS.out.xs.box (by decide), fun e2 => HTS.out.xs.map.not_blk h3 e2.symm⟩
      refine (takes_any bx bm e1 A1 c1 vi p X HTS.out.xs G1.out hfar (by have := (proper_iff.1 HPR.out).2; have := HK.out; omega) (proper_data HPR.out HK.out).2).mono ?_
      rintro r w7 ⟨T', d', rfl, hown7, hx7, hF7⟩
      have hcb := came_base e1 p
      have HT7 := Lib.hid (HTS.out.x (hF7.mono (fun b _ e2 => by rcases e2 with e2 | e2; exact .inl e2; exact .inr (.inl e2))) hx7 (by rw [hcb.2.1]; exact HTS.out.row.frame hF7 (fun b cur hb e2 => by rcases e2 with e2 | e2; exact blk_ne hb HTS.out.xs.box (by decide) e2; exact HTS.out.xs.map.not_blk hb e2.symm)) (hF7.below (B := w.heap.size) (fun b e2 => by have := HTS.out.ox; have := HTS.out.om; rcases e2 with e2 | e2 <;> omega) (by have := HTS.out.nN; have := HTS.out.oN; omega)))
      have hL7 : Hid (w7.ownsRow N 9 1 (.slice T' (cameA e1 p).2.length d') (cameA e1 p).2.length (strs (cameA e1 p).2)) := own_mono hown7 (by have := HTS.out.nN; exact this)
      have hg2 := HT7.out.g
      have r0 := hg2.cell 1 (v := .slice T tk.length ct) rfl
      have r1 := hg2.free 1
      have r2 := hg2.lt
      have HGA := Lib.hid (came_good G1.out HP3.out (proper_data HPR.out HK.out).1 (proper_data HPR.out HK.out).2)
      have htl := came_len (p := p) G1.out
      clear t0 t1 t2 t3 t4 t5 t6 tl u0 u1 u2 ul
      clear hown7 hx7 hF7 hg2 hcb hfar hwr
      obtain ⟨e5, HAE⟩ : ∃ e5, Hid ((cameA e1 p).1 = e5) := ⟨_, rfl⟩
      rw [HAE.out] at HTB HT7 HGA
      obtain ⟨tk5, HTE⟩ : ∃ q, Hid ((cameA e1 p).2 = q) := ⟨_, rfl⟩
      rw [HTE.out] at HTB hL7 htl ⊢
      go_wp2_with fail
      have HT8 := Lib.hid (HT7.out.taken hL7.out)
      generalize w7.setCell ⟨bg, 1, none⟩ (.slice T' tk5.length d') = X at HT8 ⊢
      clear HTS G1 HP3 r0 r1 r2 HT7 hL7 HAE HTE htkb Htk
      have HTS := HT8
      have G1 := HGA
      have htkb := htl
      clear HT8 HGA htl
      generalize e5 = e1 at HTB HTS G1
      generalize tk5 = tk at HTB HTS htkb
      generalize T' = T at HTS
      generalize d' = ct at HTS
      have hnb : ∀ b cs t, Blk X b (.cells cs t) → t ≠ 49 → ¬ (Value.slice P ps.length cp).ownBlock = some b := fun b cs t hb ht e2 => own_ne HTS.out.rps hb (fun e3 => ht e3.symm) e2
      have HNB := Lib.hid hnb
      clear hnb
      have hnN4 := HTS.out.nN
      have hoN4 := HTS.out.oN
      refine drawl (fun w' => Frame (fun b => (Value.slice P ps.length cp).ownBlock = some b) X w') 7 7 rfl (by kernel_rfl) (fun Qd hQd => ?_)
      have HRD := fun (wI : World) (hI : (fun w' => Frame (fun b => (Value.slice P ps.length cp).ownBlock = some b) X w') wI) => (have t0 := (HTS.out.g.frame hI (HNB.out _ _ _ HTS.out.g (by decide))).cell 0 (v := .slice P ps.length cp) rfl; have t1 := (HTS.out.g.frame hI (HNB.out _ _ _ HTS.out.g (by decide))).lt; And.intro t0 t1)
      apply anyL_step 0 (by kernel_rfl) rfl (by kernel_rfl)
      focus (intro wI hI Kv hKv; obtain ⟨t0, t1⟩ := HRD wI hI; go_simp; exact hKv)
      intro Kd hKd
      go_simp
      refine hKd _ ?_
      clear hKd Kd
      apply anyL_step 2 (by kernel_rfl) rfl (by kernel_rfl)
      focus (intro wI hI Kv hKv; obtain ⟨t0, t1⟩ := HRD wI hI; go_simp; exact hKv)
      intro Kd hKd
      go_simp
      refine hKd _ ?_
      clear hKd Kd
      apply anyL_step 3 (by kernel_rfl) rfl (by kernel_rfl)
      focus (intro wI hI Kv hKv; obtain ⟨t0, t1⟩ := HRD wI hI; go_simp; exact hKv)
      intro Kd hKd
      go_simp
      refine hKd _ ?_
      clear hKd Kd
      apply anyL_step 1 (by kernel_rfl) rfl (by kernel_rfl)
      focus (intro wI hI Kv hKv; obtain ⟨t0, t1⟩ := HRD wI hI; go_simp; exact hKv)
      intro Kd hKd
      go_simp
      refine hKd _ ?_
      clear hKd Kd
      clear HRD
      refine anyL_one 4 rfl (by kernel_rfl) ((Frame.refl _ X).drew) (fun Kd hKd => ?_)
      go_wp2_with (go_at_call 35; go_must (refine (from_any bx bm e1 A1 c1 vi NN _ HTS.out.drew.xs (fun h => HTS.out.noOut h) G1.out (by omega)).mono ?_); rintro r w4 ⟨v4, rfl, hv4, hB4⟩; obtain ⟨Bv, cv, rfl⟩ := own_fits hv4)
      have hfl4 : (fromA e1 NN).length ≤ 4 := by rw [fromA_len]; have := (fly_le e1).2; omega
      have HV4 := Lib.hid (Cells.of_own hv4 (by rw [pks_len]; omega)).1
      have HV0 : Hid (Bv = none → (fromA e1 NN).length = 0 ∧ cv = 0) := fun hb => by
       have h1 := own_cap hv4
       have h2 := own_nil hv4 hb
       exact ⟨by omega, h2⟩
      clear hv4
      have HB4 : Hid (Below X.heap.size X w4) := (Below.refl _ X).drew.trans hB4
      have HO4 : Hid (w4.ownsRow N 49 7 (.slice P ps.length cp) ps.length (pks ps)) := own_frame HTS.out.rps (Frame.of_all (S := fun _ => False) HB4.out) (fun _ _ h => h)
      have hs4 := HB4.out.size
      clear hB4
      refine anyL_one 5 rfl (by kernel_rfl) ((Frame.of_all HB4.out)) (fun Kd hKd => ?_)
      go_wp2_with (at_builtin; go_must (refine wpList_appN rPk _ rfl _ _ rfl HO4.out rfl Bv (fromA e1 NN).length cv (pks (fromA e1 NN)) rfl HV0.out HV4.out (pks_len _) (pkC_one _) (by omega) (by omega) ?_); intro v6 w6 ho6 hB6 hg6 hloc6; obtain ⟨P6, cp6, rfl⟩ := own_fits ho6)
      have HF6 : Hid (Frame (fun b => (Value.slice P ps.length cp).ownBlock = some b) X w6) := (Frame.of_all (S := fun b => (Value.slice P ps.length cp).ownBlock = some b) HB4.out).trans (Frame.of_grown hg6) (fun _ _ h => h)
      have hg66 := HTS.out.g.frame HF6.out (HNB.out _ _ _ HTS.out.g (by decide))
      have r0 := hg66.cell 0 (v := .slice P ps.length cp) rfl
      have r1 := hg66.free 0
      have r2 := hg66.lt
      have h36 := HTS.out.k3.frame HF6.out (fun e2 => by have := (HTS.out.rps.lt _ e2).1; have := HTS.out.n3; omega)
      have r3 := h36.cell 0 (v := .int .i64 p.kind) rfl
      have r4 := h36.lt
      have r5 : ¬ w.heap.size + 1 = bg := fun e2 => blk_ne HTS.out.k3 HTS.out.g (by decide) e2
      have HO6 := Lib.hid ho6
      clear h36
      clear ho6 hB6 hg6 hloc6 hg66
      apply anyL_step 6 (by kernel_rfl) rfl (by kernel_rfl)
      focus (intro wI hI Kv hKv; go_simp; exact hKv)
      intro Kd hKd
      go_simp
      refine hKd _ ?_
      clear hKd Kd
      refine anyL_end rfl (by kernel_rfl) (HF6.out) (fun Kd hKd => ?_)
      go_wp2_with fail
      obtain ⟨X', hX'⟩ : ∃ X', w6.setCell ⟨bg, 0, none⟩ (.slice P6 (ps.length + (fromA e1 NN).length) cp6) = X' := ⟨_, rfl⟩
      rw [hX']
      have hTg := (HTS.out.grow HF6.out (vP' := .slice P6 (ps.length + (fromA e1 NN).length) cp6) (ps' := ps ++ fromA e1 NN) (by rw [pks_app, List.length_append]; exact HO6.out)).2
      rw [hX'] at hTg
      have hpl' : (ps.length + (fromA e1 NN).length) = (ps ++ fromA e1 NN).length := by simp
      rw [hpl'] at hTg
      have hplb : (ps ++ fromA e1 NN).length ≤ ps.length + 4 := by rw [List.length_append]; omega
      have HTg := Lib.hid hTg
      clear hTg hX' r0 r1 r2 r3 r4 r5 HTS hpl' HNB HB4 HO4 HF6 HO6
      have HTS := HTg
      clear HTg
      obtain ⟨ps, HPS2⟩ : ∃ q, Hid (ps ++ fromA e1 NN = q) := ⟨_, rfl⟩
      rw [HPS2.out] at HTS hplb
      generalize X' = X at HTS ⊢
      generalize P6 = P at HTS ⊢
      generalize cp6 = cp at HTS ⊢
      have hnb : ∀ b cs t, Blk X b (.cells cs t) → t ≠ 49 → ¬ (Value.slice P ps.length cp).ownBlock = some b := fun b cs t hb ht e2 => own_ne HTS.out.rps hb (fun e3 => ht e3.symm) e2
      have HNB := Lib.hid hnb
      clear hnb
      have hnN4 := HTS.out.nN
      have hoN4 := HTS.out.oN
      refine drawl (fun w' => Frame (fun b => (Value.slice P ps.length cp).ownBlock = some b) X w') 7 7 rfl (by kernel_rfl) (fun Qd hQd => ?_)
      have HRD := fun (wI : World) (hI : (fun w' => Frame (fun b => (Value.slice P ps.length cp).ownBlock = some b) X w') wI) => (have t0 := (HTS.out.g.frame hI (HNB.out _ _ _ HTS.out.g (by decide))).cell 0 (v := .slice P ps.length cp) rfl; have t1 := (HTS.out.g.frame hI (HNB.out _ _ _ HTS.out.g (by decide))).lt; And.intro t0 t1)
      apply anyL_step 0 (by kernel_rfl) rfl (by kernel_rfl)
      focus (intro wI hI Kv hKv; obtain ⟨t0, t1⟩ := HRD wI hI; go_simp; exact hKv)
      intro Kd hKd
      go_simp
      refine hKd _ ?_
      clear hKd Kd
      apply anyL_step 2 (by kernel_rfl) rfl (by kernel_rfl)
      focus (intro wI hI Kv hKv; obtain ⟨t0, t1⟩ := HRD wI hI; go_simp; exact hKv)
      intro Kd hKd
      go_simp
      refine hKd _ ?_
      clear hKd Kd
      apply anyL_step 1 (by kernel_rfl) rfl (by kernel_rfl)
      focus (intro wI hI Kv hKv; obtain ⟨t0, t1⟩ := HRD wI hI; go_simp; exact hKv)
      intro Kd hKd
      go_simp
      refine hKd _ ?_
      clear hKd Kd
      clear HRD
      refine anyL_one 3 rfl (by kernel_rfl) ((Frame.refl _ X).drew) (fun Kd hKd => ?_)
      go_wp2_with (go_at_call 29; go_must (refine (report_any bx bm e1 A1 c1 vi _ HTS.out.drew.xs G1.out.want).mono ?_); rintro r w4 ⟨rfl, hB4⟩; unfold pkV)
      have HB4 : Hid (Below X.heap.size X w4) := (Below.refl _ X).drew.trans hB4
      have HO4 : Hid (w4.ownsRow N 49 7 (.slice P ps.length cp) ps.length (pks ps)) := own_frame HTS.out.rps (Frame.of_all (S := fun _ => False) HB4.out) (fun _ _ h => h)
      have hs4 := HB4.out.size
      clear hB4
      refine anyL_one 4 rfl (by kernel_rfl) ((Frame.of_all HB4.out)) (fun Kd hKd => ?_)
      go_wp2
      refine anyL_one 5 rfl (by kernel_rfl) (((Frame.of_all HB4.out).alloc _)) (fun Kd hKd => ?_)
      go_wp2_with (at_builtin; go_must (refine wpList_app1' rPk _ rfl _ _ rfl HO4.out rfl [_, _, _, _, _, _, _] 1 rfl rfl (by simp [Value.oneCell']) (by omega) (by omega) ?_); intro v6 w6 ho6 hB6 hg6 hloc6; obtain ⟨P6, cp6, rfl⟩ := own_fits ho6)
      have HF6 : Hid (Frame (fun b => (Value.slice P ps.length cp).ownBlock = some b) X w6) := (Frame.of_all (S := fun b => (Value.slice P ps.length cp).ownBlock = some b) HB4.out).trans (Frame.of_grown hg6) (fun _ _ h => h)
      have hg66 := HTS.out.g.frame HF6.out (HNB.out _ _ _ HTS.out.g (by decide))
      have r0 := hg66.cell 0 (v := .slice P ps.length cp) rfl
      have r1 := hg66.free 0
      have r2 := hg66.lt
      have h36 := HTS.out.k3.frame HF6.out (fun e2 => by have := (HTS.out.rps.lt _ e2).1; have := HTS.out.n3; omega)
      have r3 := h36.cell 0 (v := .int .i64 p.kind) rfl
      have r4 := h36.lt
      have r5 : ¬ w.heap.size + 1 = bg := fun e2 => blk_ne HTS.out.k3 HTS.out.g (by decide) e2
      have HO6 := Lib.hid ho6
      clear h36
      clear ho6 hB6 hg6 hloc6 hg66
      apply anyL_step 6 (by kernel_rfl) rfl (by kernel_rfl)
      focus (intro wI hI Kv hKv; go_simp; exact hKv)
      intro Kd hKd
      go_simp
      refine hKd _ ?_
      clear hKd Kd
      refine anyL_end rfl (by kernel_rfl) (HF6.out) (fun Kd hKd => ?_)
      go_wp2_with fail
      obtain ⟨X', hX'⟩ : ∃ X', w6.setCell ⟨bg, 0, none⟩ (.slice P6 (ps.length + 1) cp6) = X' := ⟨_, rfl⟩
      rw [hX']
      have hTg := (HTS.out.grow HF6.out (vP' := .slice P6 (ps.length + 1) cp6) (ps' := ps ++ [reportA e1]) (by rw [pks_snoc, List.length_append]; exact HO6.out)).2
      rw [hX'] at hTg
      have hpl' : (ps.length + 1) = (ps ++ [reportA e1]).length := by simp
      rw [hpl'] at hTg
      have hplb : (ps ++ [reportA e1]).length ≤ ps.length + 4 := by simp
      have HTg := Lib.hid hTg
      clear hTg hX' r0 r1 r2 r3 r4 r5 HTS hpl' HNB HB4 HO4 HF6 HO6
      have HTS := HTg
      clear HTg
      obtain ⟨ps, HPS3⟩ : ∃ q, Hid (ps ++ [reportA e1] = q) := ⟨_, rfl⟩
      rw [HPS3.out] at HTS hplb
      generalize X' = X at HTS ⊢
      generalize P6 = P at HTS ⊢
      generalize cp6 = cp at HTS ⊢
      have HEND : Hid (takeA e p = (e1, ⟨ps, tk, ls⟩, 0)) := by show _ = _; rw [HTB.out, ← HPS3.out, ← HPS2.out, Hps.out]
      have HPSL : Hid (ps.length * 7 ≤ 17592186043904) := by show _ ≤ _; omega
      have HTKL : Hid (tk.length ≤ 17592186043904) := by show _ ≤ _; omega
      have HLSL : Hid (ls.length ≤ 17592186043904) := by show _ ≤ _; have := HLS.out; omega
      have HNE : Hid (ous e1.out ≠ [] → ∀ a, A1 = some a → a.block ≠ bx) := fun hn a ha e2 => by
       obtain ⟨b, off, cur, h1, h2, h3⟩ := HTS.out.row (by rintro h0; exact hn (by rw [h0]; rfl))
       rw [h1] at ha
       injection ha with ha
       rw [← ha] at e2
       exact blk_ne h3 HTS.out.xs.box (by decide) e2
      have hg := HTS.out.g
      have m0 := hg.cell 0 (v := .slice P ps.length cp) rfl
      have m1 := hg.cell 1 (v := .slice T tk.length ct) rfl
      have m2 := hg.cell 2 (v := .slice L ls.length cl) rfl
      have ml := hg.lt
      have n1 : ¬ (bg = bx ∨ bg = w.heap.size + 1 + 1 ∨ bg = w.heap.size + 1 + 1 + 1) := fun e2 => by
       rcases e2 with e2 | e2 | e2
       ·exact blk_ne hg HTS.out.xs.box (by decide) e2
       ·exact blk_ne hg HTS.out.k4 (by decide) e2
       ·exact HTS.out.ng5 e2
      have hnN := HTS.out.nN
      have hoN2 := HTS.out.oN
      clear hg
      refine draw (fun w' => Frame (fun b => b = bx ∨ b = w.heap.size + 1 + 1 ∨ b = w.heap.size + 1 + 1 + 1) X w') 6 rfl (by kernel_rfl) (fun Qd hQd => ?_)
      apply anyI_step 0 rfl (by kernel_rfl)
      focus (intro wI hI Kv hKv; have t0 := cell_frame hI ml n1 m0; have t1 := cell_frame hI ml n1 m1; have t2 := cell_frame hI ml n1 m2; go_simp; exact hKv)
      intro Kd hKd
      go_simp
      refine hKd _ ?_
      clear hKd Kd
      apply anyI_step 2 rfl (by kernel_rfl)
      focus (intro wI hI Kv hKv; have t0 := cell_frame hI ml n1 m0; have t1 := cell_frame hI ml n1 m1; have t2 := cell_frame hI ml n1 m2; go_simp; exact hKv)
      intro Kd hKd
      go_simp
      refine hKd _ ?_
      clear hKd Kd
      refine anyI_one' 1 rfl (by kernel_rfl) ((Frame.refl _ X).drew) (fun Kd hKd => ?_)
      go_wp2_with (go_at_call 31; go_must (refine (shut_any bx bm e1 A1 c1 vi w.heap.size _ HTS.out.xs.drew G1.out HTS.out.ox (by show w.heap.size ≤ X.heap.size; omega) HNE.out).mono ?_); rintro r w6 ⟨D, dd, rfl, hE6, hB6, hF6, hD6, hI6⟩; unfold enV)
      have HFx : Hid (Frame (fun b => b = bx) X w6) := (Frame.refl (fun b => b = bx) X).drew.trans hF6 (fun _ _ h => h)
      have HFS : Hid (Frame (fun b => b = bx ∨ b = w.heap.size + 1 + 1 ∨ b = w.heap.size + 1 + 1 + 1) X w6) := HFx.out.mono (fun b _ e2 => .inl e2)
      have h4z := HTS.out.k4.frame HFx.out (fun e2 => blk_ne HTS.out.k4 HTS.out.xs.box (by decide) e2)
      have h5z := HTS.out.k5.frame HFx.out (fun e2 => blk_ne HTS.out.k5 HTS.out.xs.box (by decide) e2)
      have H4Z := Lib.hid h4z
      have H5Z := Lib.hid h5z
      have HE6 := Lib.hid hE6
      have HD6 := Lib.hid hD6
      have HI6 := Lib.hid hI6
      have z0 := h4z.cell 0 (v := .int .i64 0) rfl
      have z1 := h4z.cell 1 (v := .int .i64 0) rfl
      have z2 := h4z.cell 2 (v := .int .i64 0) rfl
      have z3 := h4z.cell 3 (v := .int .i64 0) rfl
      have z4 := h4z.cell 4 (v := .slice none 0 0) rfl
      have z5 := h4z.cell 5 (v := .int .i64 0) rfl
      have z6 := h4z.cell 6 (v := .slice none 0 0) rfl
      have y0 := h4z.free 0
      have y1 := h4z.free 1
      have y2 := h4z.free 2
      have y3 := h4z.free 3
      have y4 := h4z.free 4
      have y5 := h4z.free 5
      have y6 := h4z.free 6
      have yl := h4z.lt
      have g0 := h5z.cell 0 (v := .slice none 0 0) rfl
      have g1 := h5z.cell 1 (v := .slice none 0 0) rfl
      have g2 := h5z.cell 2 (v := .slice none 0 0) rfl
      have f0 := h5z.free 0
      have f1 := h5z.free 1
      have f2 := h5z.free 2
      have gl := h5z.lt
      have nz1 : ¬ w.heap.size + 1 + 1 = w.heap.size + 1 + 1 + 1 := by omega
      have nz2 : ¬ w.heap.size + 1 + 1 + 1 = w.heap.size + 1 + 1 := by omega
      clear h4z h5z hE6 hB6 hF6 hD6 hI6 m0 m1 m2 ml n1
      refine anyI_one' 3 rfl (by kernel_rfl) (HFS.out) (fun Kd hKd => ?_)
      go_wp2
      refine anyI_one' 4 rfl (by kernel_rfl) ((setEn_frame (e := e1) (A := A1) (c := c1) (B := D) (d := dd) HFS.out (.inl (.inr (.inl rfl))))) (fun Kd hKd => ?_)
      go_wp2
      apply anyI_step 5 rfl (by kernel_rfl)
      focus (intro wI hI Kv hKv; go_simp; exact hKv)
      intro Kd hKd
      go_simp
      refine hKd _ ?_
      clear hKd Kd
      refine anyI_end (by kernel_rfl) ((setGn_frame (g := ⟨ps, tk, ls⟩) (P := P) (cp := cp) (T := T) (ct := ct) (L := L) (cl := cl) (setEn_frame (e := e1) (A := A1) (c := c1) (B := D) (d := dd) HFS.out (.inl (.inr (.inl rfl)))) (.inl (.inr (.inr rfl))))) (hQd _ _ ?_)
      clear hQd Qd
      go_wp2
      obtain ⟨q1, q2, q3⟩ := tk_end (e' := e1) (A := A1) (c := c1) (D := D) (d := dd) (g := ⟨ps, tk, ls⟩) (P := P) (cp := cp) (T := T) (ct := ct) (L := L) (cl := cl) H4Z.out H5Z.out
      have hl1 := load26 q1
      have hl2 := load47 q2
      refine bodyPost_ret (v := .tuple #[enV e1 A1 c1 D dd, gnV ⟨ps, tk, ls⟩ P cp T ct L cl, .int .i64 0]) (results_cct rfl rfl rfl rfl hl1 hl2) rfl ?_
      have hSz := HFx.out.size
      have hown : ∀ {e : TypeId} {size n : Nat} {v : Value} {xs : List Value}, X.ownsRow N e size v n xs → e ≠ 86 → e ≠ 38 → e ≠ 44 → World.ownsRow (setGn (setEn w6 (w.heap.size + 1 + 1) e1 A1 c1 D dd) (w.heap.size + 1 + 1 + 1) ⟨ps, tk, ls⟩ P cp T ct L cl) N e size v n xs := fun hr h1 h2 h3 => by
       have hr6 := own_frame hr HFx.out (fun g hg e2 => own_ne hr HTS.out.xs.box h1 (by rw [hg, e2]))
       exact own_frame hr6 q3 (fun g hg e2 => by
        rcases e2 with e2 | e2
        ·exact own_ne hr6 H4Z.out h2 (by rw [hg, e2])
        ·exact own_ne hr6 H5Z.out h3 (by rw [hg, e2]))
      have hnx : ∀ b cur, Blk X b (.cells cur 53) → ¬ b = bx := fun b cur hb e2 => blk_ne hb HTS.out.xs.box (by decide) e2
      have hrow6 := HTS.out.row.frame HFx.out hnx
      have hn45 : ∀ b cur, Blk w6 b (.cells cur 53) → ¬ (b = w.heap.size + 1 + 1 ∨ b = w.heap.size + 1 + 1 + 1) := fun b cur hb e2 => by
       rcases e2 with e2 | e2
       ·exact blk_ne hb H4Z.out (by decide) e2
       ·exact blk_ne hb H5Z.out (by decide) e2
      refine ⟨A1, c1, D, dd, P, cp, T, ct, L, cl, by rw [HEND.out], by rw [HEND.out]; exact ⟨hrow6.cells HE6.out.out q3 hn45, HE6.out.inn.frame q3 (fun _ a ha e2 => by have h1 := HD6.out a ha; have h2 := H4Z.out; have h4l := HTS.out.k4.lt; have h5l := HTS.out.k5.lt; have hsd : X.drew.heap.size = X.heap.size := rfl; rcases e2 with e2 | e2 <;> omega)⟩, by rw [HEND.out]; exact ⟨(Cells.of_own (hown HTS.out.rps (by decide) (by decide) (by decide)) (by rw [pks_len]; exact HPSL.out)).1, (Cells.of_own (hown HTS.out.rtk (by decide) (by decide) (by decide)) (by rw [strs_len]; exact HTKL.out)).1, (Cells.of_own (hown HTS.out.rls (by decide) (by decide) (by decide)) (by rw [strs_len]; exact HLSL.out)).1⟩, HTS.out.xs.nil, by rw [HEND.out]; exact HTS.out.xs.cap, by rw [HEND.out]; exact hrow6.frame q3 hn45, by rw [HEND.out]; exact HI6.out.frame q3 (fun b cur hb e2 => by rcases e2 with e2 | e2; exact blk_ne hb H4Z.out (by decide) e2; exact blk_ne hb H5Z.out (by decide) e2), fun a ha => by have h1 := (HTS.out.rtk.lt a.block (by rw [ha]; rfl)).1; have h2 := HTS.out.oN; omega, fun a ha => by have h1 := (HTS.out.rps.lt a.block (by rw [ha]; rfl)).1; have h2 := HTS.out.oN; omega, fun a ha => by have h1 := (HTS.out.rls.lt a.block (by rw [ha]; rfl)).1; have h2 := HTS.out.oN; omega, own_nil HTS.out.rtk, own_nil HTS.out.rls, ?_⟩
      exact (HTS.out.below.trans (HFx.out.below (B := w.heap.size) (fun b e2 => by have := HTS.out.ox; omega) (by omega))).trans (q3.below (B := w.heap.size) (fun b e2 => by rcases e2 with e2 | e2 <;> omega) (by omega))
     | false =>
      have HPHN : Hid (¬ e1.phase = 2) := beq_eq_false_iff_ne.1 hph
      have HP3 : Hid (e1.phase = 3) := by
       show _ = _
       by_cases h3 : e1.phase = 3
       ·exact h3
       ·have := (G1.out.cl h3).2.2.2
        have := HPH.out
        have := HPHN.out
        omega
      have HOPE : Hid (openE e1 = e1) := by show _ = _; unfold openE; rw [if_neg (by rw [beq_iff_eq]; exact HPHN.out)]
      have HFL : Hid (F ≤ flyN e1) := by show F ≤ _; rw [HF.out]; exact Nat.le_refl _
      obtain ⟨e2, HE2⟩ : ∃ e2 : En, Hid (e1 = e2) := ⟨e1, rfl⟩
      rw [HOPE.out] at HTB
      go_wp2
      refine sall (by kernel_rfl) (by kernel_rfl) (fun Kq hKq => ?_)
      repeat still_step
      refine wpStill_nil (hKq _ ?_)
      clear hKq Kq
      go_wp2_with fail
      clear t0 t1 t2 t3 t4 t5 t6 tl u0 u1 u2 ul
      have HTS := Lib.hid HTS.out.drew
      generalize X.drew = X at HTS ⊢
      clear hph
      have hheld : 0 ≤ p.held ∧ p.held ≤ 7 := by have := (proper_iff.1 HPR.out).2; have := HK.out; omega
      have hgF : goneA e1 p F ≤ F := (acked_base e1 p F).2.1
      refine (acked_any w.heap.size bx bm e1 A1 c1 vi p F X HTS.out.xs HTS.out.row G1.out HFL.out hheld HTS.out.ox (by have := HTS.out.nN; have := HTS.out.oN; omega)).mono ?_
      rintro r w5 ⟨rfl, A', c', hx5, hr5, hB5, hF5⟩
      have HT5 := Lib.hid (HTS.out.x (hF5.mono (fun b _ e2 => by rcases e2 with e2 | e2; exact .inl e2; exact .inr (.inr e2))) hx5 hr5 hB5)
      have HGA := Lib.hid (acked_good G1.out HP3.out p HFL.out)
      have HPA : Hid ((ackedA e1 p F).phase = 3) := by show _ = _; rw [(acked_base e1 p F).2.2.2.2]; exact HP3.out
      clear hx5 hr5 hB5 hF5
      obtain ⟨g, HGG⟩ : ∃ g, Hid (goneA e1 p F = g) := ⟨_, rfl⟩
      rw [HGG.out] at HTB hgF ⊢
      obtain ⟨NN, HNN⟩ : ∃ NN, Hid (F - g = NN) := ⟨_, rfl⟩
      have hwr : IntKind.i64.wrap ((F : Int) - (g : Int)) = (NN : Int) := by rw [wrap_ok ⟨by omega, by omega⟩, ← HNN.out]; omega
      have hN4 : NN ≤ 4 := by have := HNN.out; omega
      rw [HNN.out] at HTB
      obtain ⟨e5, HAE⟩ : ∃ e5, Hid (ackedA e1 p F = e5) := ⟨_, rfl⟩
      rw [HAE.out] at HTB HT5 HGA HPA
      clear HTS G1 HP3 HFL hheld HAE hF4 HGG HNN
      have hF4 := hN4
      have HTS := HT5
      have G1 := HGA
      have HP3 := HPA
      clear HT5 HGA HPA hN4
      generalize e5 = e1 at HTB HTS G1 HP3
      generalize A' = A1 at HTS
      generalize c' = c1 at HTS
      generalize w5 = X at HTS ⊢
      have k3 := HTS.out.k3
      have bxx := HTS.out.xs.box
      have t0 := k3.cell 0 (v := .int .i64 p.kind) rfl
      have t1 := k3.cell 1 (v := .int .i64 p.frm) rfl
      have t2 := k3.cell 2 (v := .int .i64 p.to) rfl
      have t3 := k3.cell 3 (v := .int .i64 p.num) rfl
      have t4 := k3.cell 4 (v := .string p.t) rfl
      have t5 := k3.cell 5 (v := .int .i64 p.ack) rfl
      have t6 := k3.cell 6 (v := .int .i64 p.held) rfl
      have tl := k3.lt
      have u0 := bxx.cell 0 (v := .int .i64 e1.life) rfl
      have u1 := bxx.cell 1 (v := .int .i64 e1.peer) rfl
      have u2 := bxx.cell 2 (v := .int .i64 e1.phase) rfl
      have ul := bxx.lt
      clear k3 bxx
      go_wp2_with fail
      have hfar : OutFar e1 A1 bx bm := fun hn a ha => by
       obtain ⟨b, off, cur, h1, h2, h3⟩ := HTS.out.row (by rintro h0; exact hn (by rw [h0]; rfl))
       rw [h1] at ha
       injection ha with ha
       rw [← ha]
       exact ⟨blk_ne h3 HTS.out.xs.box (by decide), fun e2 => HTS.out.xs.map.not_blk h3 e2.symm⟩
      refine (takes_any bx bm e1 A1 c1 vi p X HTS.out.xs G1.out hfar (by have := (proper_iff.1 HPR.out).2; have := HK.out; omega) (proper_data HPR.out HK.out).2).mono ?_
      rintro r w7 ⟨T', d', rfl, hown7, hx7, hF7⟩
      have hcb := came_base e1 p
      have HT7 := Lib.hid (HTS.out.x (hF7.mono (fun b _ e2 => by rcases e2 with e2 | e2; exact .inl e2; exact .inr (.inl e2))) hx7 (by rw [hcb.2.1]; exact HTS.out.row.frame hF7 (fun b cur hb e2 => by rcases e2 with e2 | e2; exact blk_ne hb HTS.out.xs.box (by decide) e2; exact HTS.out.xs.map.not_blk hb e2.symm)) (hF7.below (B := w.heap.size) (fun b e2 => by have := HTS.out.ox; have := HTS.out.om; rcases e2 with e2 | e2 <;> omega) (by have := HTS.out.nN; have := HTS.out.oN; omega)))
      have hL7 : Hid (w7.ownsRow N 9 1 (.slice T' (cameA e1 p).2.length d') (cameA e1 p).2.length (strs (cameA e1 p).2)) := own_mono hown7 (by have := HTS.out.nN; exact this)
      have hg2 := HT7.out.g
      have r0 := hg2.cell 1 (v := .slice T tk.length ct) rfl
      have r1 := hg2.free 1
      have r2 := hg2.lt
      have HGA := Lib.hid (came_good G1.out HP3.out (proper_data HPR.out HK.out).1 (proper_data HPR.out HK.out).2)
      have htl := came_len (p := p) G1.out
      clear t0 t1 t2 t3 t4 t5 t6 tl u0 u1 u2 ul
      clear hown7 hx7 hF7 hg2 hcb hfar hwr
      obtain ⟨e5, HAE⟩ : ∃ e5, Hid ((cameA e1 p).1 = e5) := ⟨_, rfl⟩
      rw [HAE.out] at HTB HT7 HGA
      obtain ⟨tk5, HTE⟩ : ∃ q, Hid ((cameA e1 p).2 = q) := ⟨_, rfl⟩
      rw [HTE.out] at HTB hL7 htl ⊢
      go_wp2_with fail
      have HT8 := Lib.hid (HT7.out.taken hL7.out)
      generalize w7.setCell ⟨bg, 1, none⟩ (.slice T' tk5.length d') = X at HT8 ⊢
      clear HTS G1 HP3 r0 r1 r2 HT7 hL7 HAE HTE htkb Htk
      have HTS := HT8
      have G1 := HGA
      have htkb := htl
      clear HT8 HGA htl
      generalize e5 = e1 at HTB HTS G1
      generalize tk5 = tk at HTB HTS htkb
      generalize T' = T at HTS
      generalize d' = ct at HTS
      have hnb : ∀ b cs t, Blk X b (.cells cs t) → t ≠ 49 → ¬ (Value.slice P ps.length cp).ownBlock = some b := fun b cs t hb ht e2 => own_ne HTS.out.rps hb (fun e3 => ht e3.symm) e2
      have HNB := Lib.hid hnb
      clear hnb
      have hnN4 := HTS.out.nN
      have hoN4 := HTS.out.oN
      refine drawl (fun w' => Frame (fun b => (Value.slice P ps.length cp).ownBlock = some b) X w') 7 7 rfl (by kernel_rfl) (fun Qd hQd => ?_)
      have HRD := fun (wI : World) (hI : (fun w' => Frame (fun b => (Value.slice P ps.length cp).ownBlock = some b) X w') wI) => (have t0 := (HTS.out.g.frame hI (HNB.out _ _ _ HTS.out.g (by decide))).cell 0 (v := .slice P ps.length cp) rfl; have t1 := (HTS.out.g.frame hI (HNB.out _ _ _ HTS.out.g (by decide))).lt; And.intro t0 t1)
      apply anyL_step 0 (by kernel_rfl) rfl (by kernel_rfl)
      focus (intro wI hI Kv hKv; obtain ⟨t0, t1⟩ := HRD wI hI; go_simp; exact hKv)
      intro Kd hKd
      go_simp
      refine hKd _ ?_
      clear hKd Kd
      apply anyL_step 2 (by kernel_rfl) rfl (by kernel_rfl)
      focus (intro wI hI Kv hKv; obtain ⟨t0, t1⟩ := HRD wI hI; go_simp; exact hKv)
      intro Kd hKd
      go_simp
      refine hKd _ ?_
      clear hKd Kd
      apply anyL_step 3 (by kernel_rfl) rfl (by kernel_rfl)
      focus (intro wI hI Kv hKv; obtain ⟨t0, t1⟩ := HRD wI hI; go_simp; exact hKv)
      intro Kd hKd
      go_simp
      refine hKd _ ?_
      clear hKd Kd
      apply anyL_step 1 (by kernel_rfl) rfl (by kernel_rfl)
      focus (intro wI hI Kv hKv; obtain ⟨t0, t1⟩ := HRD wI hI; go_simp; exact hKv)
      intro Kd hKd
      go_simp
      refine hKd _ ?_
      clear hKd Kd
      clear HRD
      refine anyL_one 4 rfl (by kernel_rfl) ((Frame.refl _ X).drew) (fun Kd hKd => ?_)
      go_wp2_with (go_at_call 35; go_must (refine (from_any bx bm e1 A1 c1 vi NN _ HTS.out.drew.xs (fun h => HTS.out.noOut h) G1.out (by omega)).mono ?_); rintro r w4 ⟨v4, rfl, hv4, hB4⟩; obtain ⟨Bv, cv, rfl⟩ := own_fits hv4)
      have hfl4 : (fromA e1 NN).length ≤ 4 := by rw [fromA_len]; have := (fly_le e1).2; omega
      have HV4 := Lib.hid (Cells.of_own hv4 (by rw [pks_len]; omega)).1
      have HV0 : Hid (Bv = none → (fromA e1 NN).length = 0 ∧ cv = 0) := fun hb => by
       have h1 := own_cap hv4
       have h2 := own_nil hv4 hb
       exact ⟨by omega, h2⟩
      clear hv4
      have HB4 : Hid (Below X.heap.size X w4) := (Below.refl _ X).drew.trans hB4
      have HO4 : Hid (w4.ownsRow N 49 7 (.slice P ps.length cp) ps.length (pks ps)) := own_frame HTS.out.rps (Frame.of_all (S := fun _ => False) HB4.out) (fun _ _ h => h)
      have hs4 := HB4.out.size
      clear hB4
      refine anyL_one 5 rfl (by kernel_rfl) ((Frame.of_all HB4.out)) (fun Kd hKd => ?_)
      go_wp2_with (at_builtin; go_must (refine wpList_appN rPk _ rfl _ _ rfl HO4.out rfl Bv (fromA e1 NN).length cv (pks (fromA e1 NN)) rfl HV0.out HV4.out (pks_len _) (pkC_one _) (by omega) (by omega) ?_); intro v6 w6 ho6 hB6 hg6 hloc6; obtain ⟨P6, cp6, rfl⟩ := own_fits ho6)
      have HF6 : Hid (Frame (fun b => (Value.slice P ps.length cp).ownBlock = some b) X w6) := (Frame.of_all (S := fun b => (Value.slice P ps.length cp).ownBlock = some b) HB4.out).trans (Frame.of_grown hg6) (fun _ _ h => h)
      have hg66 := HTS.out.g.frame HF6.out (HNB.out _ _ _ HTS.out.g (by decide))
      have r0 := hg66.cell 0 (v := .slice P ps.length cp) rfl
      have r1 := hg66.free 0
      have r2 := hg66.lt
      have h36 := HTS.out.k3.frame HF6.out (fun e2 => by have := (HTS.out.rps.lt _ e2).1; have := HTS.out.n3; omega)
      have r3 := h36.cell 0 (v := .int .i64 p.kind) rfl
      have r4 := h36.lt
      have r5 : ¬ w.heap.size + 1 = bg := fun e2 => blk_ne HTS.out.k3 HTS.out.g (by decide) e2
      have HO6 := Lib.hid ho6
      clear h36
      clear ho6 hB6 hg6 hloc6 hg66
      apply anyL_step 6 (by kernel_rfl) rfl (by kernel_rfl)
      focus (intro wI hI Kv hKv; go_simp; exact hKv)
      intro Kd hKd
      go_simp
      refine hKd _ ?_
      clear hKd Kd
      refine anyL_end rfl (by kernel_rfl) (HF6.out) (fun Kd hKd => ?_)
      go_wp2_with fail
      obtain ⟨X', hX'⟩ : ∃ X', w6.setCell ⟨bg, 0, none⟩ (.slice P6 (ps.length + (fromA e1 NN).length) cp6) = X' := ⟨_, rfl⟩
      rw [hX']
      have hTg := (HTS.out.grow HF6.out (vP' := .slice P6 (ps.length + (fromA e1 NN).length) cp6) (ps' := ps ++ fromA e1 NN) (by rw [pks_app, List.length_append]; exact HO6.out)).2
      rw [hX'] at hTg
      have hpl' : (ps.length + (fromA e1 NN).length) = (ps ++ fromA e1 NN).length := by simp
      rw [hpl'] at hTg
      have hplb : (ps ++ fromA e1 NN).length ≤ ps.length + 4 := by rw [List.length_append]; omega
      have HTg := Lib.hid hTg
      clear hTg hX' r0 r1 r2 r3 r4 r5 HTS hpl' HNB HB4 HO4 HF6 HO6
      have HTS := HTg
      clear HTg
      obtain ⟨ps, HPS2⟩ : ∃ q, Hid (ps ++ fromA e1 NN = q) := ⟨_, rfl⟩
      rw [HPS2.out] at HTS hplb
      generalize X' = X at HTS ⊢
      generalize P6 = P at HTS ⊢
      generalize cp6 = cp at HTS ⊢
      have hnb : ∀ b cs t, Blk X b (.cells cs t) → t ≠ 49 → ¬ (Value.slice P ps.length cp).ownBlock = some b := fun b cs t hb ht e2 => own_ne HTS.out.rps hb (fun e3 => ht e3.symm) e2
      have HNB := Lib.hid hnb
      clear hnb
      have hnN4 := HTS.out.nN
      have hoN4 := HTS.out.oN
      refine drawl (fun w' => Frame (fun b => (Value.slice P ps.length cp).ownBlock = some b) X w') 7 7 rfl (by kernel_rfl) (fun Qd hQd => ?_)
      have HRD := fun (wI : World) (hI : (fun w' => Frame (fun b => (Value.slice P ps.length cp).ownBlock = some b) X w') wI) => (have t0 := (HTS.out.g.frame hI (HNB.out _ _ _ HTS.out.g (by decide))).cell 0 (v := .slice P ps.length cp) rfl; have t1 := (HTS.out.g.frame hI (HNB.out _ _ _ HTS.out.g (by decide))).lt; And.intro t0 t1)
      apply anyL_step 0 (by kernel_rfl) rfl (by kernel_rfl)
      focus (intro wI hI Kv hKv; obtain ⟨t0, t1⟩ := HRD wI hI; go_simp; exact hKv)
      intro Kd hKd
      go_simp
      refine hKd _ ?_
      clear hKd Kd
      apply anyL_step 2 (by kernel_rfl) rfl (by kernel_rfl)
      focus (intro wI hI Kv hKv; obtain ⟨t0, t1⟩ := HRD wI hI; go_simp; exact hKv)
      intro Kd hKd
      go_simp
      refine hKd _ ?_
      clear hKd Kd
      apply anyL_step 1 (by kernel_rfl) rfl (by kernel_rfl)
      focus (intro wI hI Kv hKv; obtain ⟨t0, t1⟩ := HRD wI hI; go_simp; exact hKv)
      intro Kd hKd
      go_simp
      refine hKd _ ?_
      clear hKd Kd
      clear HRD
      refine anyL_one 3 rfl (by kernel_rfl) ((Frame.refl _ X).drew) (fun Kd hKd => ?_)
      go_wp2_with (go_at_call 29; go_must (refine (report_any bx bm e1 A1 c1 vi _ HTS.out.drew.xs G1.out.want).mono ?_); rintro r w4 ⟨rfl, hB4⟩; unfold pkV)
      have HB4 : Hid (Below X.heap.size X w4) := (Below.refl _ X).drew.trans hB4
      have HO4 : Hid (w4.ownsRow N 49 7 (.slice P ps.length cp) ps.length (pks ps)) := own_frame HTS.out.rps (Frame.of_all (S := fun _ => False) HB4.out) (fun _ _ h => h)
      have hs4 := HB4.out.size
      clear hB4
      refine anyL_one 4 rfl (by kernel_rfl) ((Frame.of_all HB4.out)) (fun Kd hKd => ?_)
      go_wp2
      refine anyL_one 5 rfl (by kernel_rfl) (((Frame.of_all HB4.out).alloc _)) (fun Kd hKd => ?_)
      go_wp2_with (at_builtin; go_must (refine wpList_app1' rPk _ rfl _ _ rfl HO4.out rfl [_, _, _, _, _, _, _] 1 rfl rfl (by simp [Value.oneCell']) (by omega) (by omega) ?_); intro v6 w6 ho6 hB6 hg6 hloc6; obtain ⟨P6, cp6, rfl⟩ := own_fits ho6)
      have HF6 : Hid (Frame (fun b => (Value.slice P ps.length cp).ownBlock = some b) X w6) := (Frame.of_all (S := fun b => (Value.slice P ps.length cp).ownBlock = some b) HB4.out).trans (Frame.of_grown hg6) (fun _ _ h => h)
      have hg66 := HTS.out.g.frame HF6.out (HNB.out _ _ _ HTS.out.g (by decide))
      have r0 := hg66.cell 0 (v := .slice P ps.length cp) rfl
      have r1 := hg66.free 0
      have r2 := hg66.lt
      have h36 := HTS.out.k3.frame HF6.out (fun e2 => by have := (HTS.out.rps.lt _ e2).1; have := HTS.out.n3; omega)
      have r3 := h36.cell 0 (v := .int .i64 p.kind) rfl
      have r4 := h36.lt
      have r5 : ¬ w.heap.size + 1 = bg := fun e2 => blk_ne HTS.out.k3 HTS.out.g (by decide) e2
      have HO6 := Lib.hid ho6
      clear h36
      clear ho6 hB6 hg6 hloc6 hg66
      apply anyL_step 6 (by kernel_rfl) rfl (by kernel_rfl)
      focus (intro wI hI Kv hKv; go_simp; exact hKv)
      intro Kd hKd
      go_simp
      refine hKd _ ?_
      clear hKd Kd
      refine anyL_end rfl (by kernel_rfl) (HF6.out) (fun Kd hKd => ?_)
      go_wp2_with fail
      obtain ⟨X', hX'⟩ : ∃ X', w6.setCell ⟨bg, 0, none⟩ (.slice P6 (ps.length + 1) cp6) = X' := ⟨_, rfl⟩
      rw [hX']
      have hTg := (HTS.out.grow HF6.out (vP' := .slice P6 (ps.length + 1) cp6) (ps' := ps ++ [reportA e1]) (by rw [pks_snoc, List.length_append]; exact HO6.out)).2
      rw [hX'] at hTg
      have hpl' : (ps.length + 1) = (ps ++ [reportA e1]).length := by simp
      rw [hpl'] at hTg
      have hplb : (ps ++ [reportA e1]).length ≤ ps.length + 4 := by simp
      have HTg := Lib.hid hTg
      clear hTg hX' r0 r1 r2 r3 r4 r5 HTS hpl' HNB HB4 HO4 HF6 HO6
      have HTS := HTg
      clear HTg
      obtain ⟨ps, HPS3⟩ : ∃ q, Hid (ps ++ [reportA e1] = q) := ⟨_, rfl⟩
      rw [HPS3.out] at HTS hplb
      generalize X' = X at HTS ⊢
      generalize P6 = P at HTS ⊢
      generalize cp6 = cp at HTS ⊢
      have HEND : Hid (takeA e p = (e1, ⟨ps, tk, ls⟩, 0)) := by show _ = _; rw [HTB.out, ← HPS3.out, ← HPS2.out, Hps.out]
      have HPSL : Hid (ps.length * 7 ≤ 17592186043904) := by show _ ≤ _; omega
      have HTKL : Hid (tk.length ≤ 17592186043904) := by show _ ≤ _; omega
      have HLSL : Hid (ls.length ≤ 17592186043904) := by show _ ≤ _; have := HLS.out; omega
      have HNE : Hid (ous e1.out ≠ [] → ∀ a, A1 = some a → a.block ≠ bx) := fun hn a ha e2 => by
       obtain ⟨b, off, cur, h1, h2, h3⟩ := HTS.out.row (by rintro h0; exact hn (by rw [h0]; rfl))
       rw [h1] at ha
       injection ha with ha
       rw [← ha] at e2
       exact blk_ne h3 HTS.out.xs.box (by decide) e2
      have hg := HTS.out.g
      have m0 := hg.cell 0 (v := .slice P ps.length cp) rfl
      have m1 := hg.cell 1 (v := .slice T tk.length ct) rfl
      have m2 := hg.cell 2 (v := .slice L ls.length cl) rfl
      have ml := hg.lt
      have n1 : ¬ (bg = bx ∨ bg = w.heap.size + 1 + 1 ∨ bg = w.heap.size + 1 + 1 + 1) := fun e2 => by
       rcases e2 with e2 | e2 | e2
       ·exact blk_ne hg HTS.out.xs.box (by decide) e2
       ·exact blk_ne hg HTS.out.k4 (by decide) e2
       ·exact HTS.out.ng5 e2
      have hnN := HTS.out.nN
      have hoN2 := HTS.out.oN
      clear hg
      refine draw (fun w' => Frame (fun b => b = bx ∨ b = w.heap.size + 1 + 1 ∨ b = w.heap.size + 1 + 1 + 1) X w') 6 rfl (by kernel_rfl) (fun Qd hQd => ?_)
      apply anyI_step 0 rfl (by kernel_rfl)
      focus (intro wI hI Kv hKv; have t0 := cell_frame hI ml n1 m0; have t1 := cell_frame hI ml n1 m1; have t2 := cell_frame hI ml n1 m2; go_simp; exact hKv)
      intro Kd hKd
      go_simp
      refine hKd _ ?_
      clear hKd Kd
      apply anyI_step 2 rfl (by kernel_rfl)
      focus (intro wI hI Kv hKv; have t0 := cell_frame hI ml n1 m0; have t1 := cell_frame hI ml n1 m1; have t2 := cell_frame hI ml n1 m2; go_simp; exact hKv)
      intro Kd hKd
      go_simp
      refine hKd _ ?_
      clear hKd Kd
      refine anyI_one' 1 rfl (by kernel_rfl) ((Frame.refl _ X).drew) (fun Kd hKd => ?_)
      go_wp2_with (go_at_call 31; go_must (refine (shut_any bx bm e1 A1 c1 vi w.heap.size _ HTS.out.xs.drew G1.out HTS.out.ox (by show w.heap.size ≤ X.heap.size; omega) HNE.out).mono ?_); rintro r w6 ⟨D, dd, rfl, hE6, hB6, hF6, hD6, hI6⟩; unfold enV)
      have HFx : Hid (Frame (fun b => b = bx) X w6) := (Frame.refl (fun b => b = bx) X).drew.trans hF6 (fun _ _ h => h)
      have HFS : Hid (Frame (fun b => b = bx ∨ b = w.heap.size + 1 + 1 ∨ b = w.heap.size + 1 + 1 + 1) X w6) := HFx.out.mono (fun b _ e2 => .inl e2)
      have h4z := HTS.out.k4.frame HFx.out (fun e2 => blk_ne HTS.out.k4 HTS.out.xs.box (by decide) e2)
      have h5z := HTS.out.k5.frame HFx.out (fun e2 => blk_ne HTS.out.k5 HTS.out.xs.box (by decide) e2)
      have H4Z := Lib.hid h4z
      have H5Z := Lib.hid h5z
      have HE6 := Lib.hid hE6
      have HD6 := Lib.hid hD6
      have HI6 := Lib.hid hI6
      have z0 := h4z.cell 0 (v := .int .i64 0) rfl
      have z1 := h4z.cell 1 (v := .int .i64 0) rfl
      have z2 := h4z.cell 2 (v := .int .i64 0) rfl
      have z3 := h4z.cell 3 (v := .int .i64 0) rfl
      have z4 := h4z.cell 4 (v := .slice none 0 0) rfl
      have z5 := h4z.cell 5 (v := .int .i64 0) rfl
      have z6 := h4z.cell 6 (v := .slice none 0 0) rfl
      have y0 := h4z.free 0
      have y1 := h4z.free 1
      have y2 := h4z.free 2
      have y3 := h4z.free 3
      have y4 := h4z.free 4
      have y5 := h4z.free 5
      have y6 := h4z.free 6
      have yl := h4z.lt
      have g0 := h5z.cell 0 (v := .slice none 0 0) rfl
      have g1 := h5z.cell 1 (v := .slice none 0 0) rfl
      have g2 := h5z.cell 2 (v := .slice none 0 0) rfl
      have f0 := h5z.free 0
      have f1 := h5z.free 1
      have f2 := h5z.free 2
      have gl := h5z.lt
      have nz1 : ¬ w.heap.size + 1 + 1 = w.heap.size + 1 + 1 + 1 := by omega
      have nz2 : ¬ w.heap.size + 1 + 1 + 1 = w.heap.size + 1 + 1 := by omega
      clear h4z h5z hE6 hB6 hF6 hD6 hI6 m0 m1 m2 ml n1
      refine anyI_one' 3 rfl (by kernel_rfl) (HFS.out) (fun Kd hKd => ?_)
      go_wp2
      refine anyI_one' 4 rfl (by kernel_rfl) ((setEn_frame (e := e1) (A := A1) (c := c1) (B := D) (d := dd) HFS.out (.inl (.inr (.inl rfl))))) (fun Kd hKd => ?_)
      go_wp2
      apply anyI_step 5 rfl (by kernel_rfl)
      focus (intro wI hI Kv hKv; go_simp; exact hKv)
      intro Kd hKd
      go_simp
      refine hKd _ ?_
      clear hKd Kd
      refine anyI_end (by kernel_rfl) ((setGn_frame (g := ⟨ps, tk, ls⟩) (P := P) (cp := cp) (T := T) (ct := ct) (L := L) (cl := cl) (setEn_frame (e := e1) (A := A1) (c := c1) (B := D) (d := dd) HFS.out (.inl (.inr (.inl rfl)))) (.inl (.inr (.inr rfl))))) (hQd _ _ ?_)
      clear hQd Qd
      go_wp2
      obtain ⟨q1, q2, q3⟩ := tk_end (e' := e1) (A := A1) (c := c1) (D := D) (d := dd) (g := ⟨ps, tk, ls⟩) (P := P) (cp := cp) (T := T) (ct := ct) (L := L) (cl := cl) H4Z.out H5Z.out
      have hl1 := load26 q1
      have hl2 := load47 q2
      refine bodyPost_ret (v := .tuple #[enV e1 A1 c1 D dd, gnV ⟨ps, tk, ls⟩ P cp T ct L cl, .int .i64 0]) (results_cct rfl rfl rfl rfl hl1 hl2) rfl ?_
      have hSz := HFx.out.size
      have hown : ∀ {e : TypeId} {size n : Nat} {v : Value} {xs : List Value}, X.ownsRow N e size v n xs → e ≠ 86 → e ≠ 38 → e ≠ 44 → World.ownsRow (setGn (setEn w6 (w.heap.size + 1 + 1) e1 A1 c1 D dd) (w.heap.size + 1 + 1 + 1) ⟨ps, tk, ls⟩ P cp T ct L cl) N e size v n xs := fun hr h1 h2 h3 => by
       have hr6 := own_frame hr HFx.out (fun g hg e2 => own_ne hr HTS.out.xs.box h1 (by rw [hg, e2]))
       exact own_frame hr6 q3 (fun g hg e2 => by
        rcases e2 with e2 | e2
        ·exact own_ne hr6 H4Z.out h2 (by rw [hg, e2])
        ·exact own_ne hr6 H5Z.out h3 (by rw [hg, e2]))
      have hnx : ∀ b cur, Blk X b (.cells cur 53) → ¬ b = bx := fun b cur hb e2 => blk_ne hb HTS.out.xs.box (by decide) e2
      have hrow6 := HTS.out.row.frame HFx.out hnx
      have hn45 : ∀ b cur, Blk w6 b (.cells cur 53) → ¬ (b = w.heap.size + 1 + 1 ∨ b = w.heap.size + 1 + 1 + 1) := fun b cur hb e2 => by
       rcases e2 with e2 | e2
       ·exact blk_ne hb H4Z.out (by decide) e2
       ·exact blk_ne hb H5Z.out (by decide) e2
      refine ⟨A1, c1, D, dd, P, cp, T, ct, L, cl, by rw [HEND.out], by rw [HEND.out]; exact ⟨hrow6.cells HE6.out.out q3 hn45, HE6.out.inn.frame q3 (fun _ a ha e2 => by have h1 := HD6.out a ha; have h2 := H4Z.out; have h4l := HTS.out.k4.lt; have h5l := HTS.out.k5.lt; have hsd : X.drew.heap.size = X.heap.size := rfl; rcases e2 with e2 | e2 <;> omega)⟩, by rw [HEND.out]; exact ⟨(Cells.of_own (hown HTS.out.rps (by decide) (by decide) (by decide)) (by rw [pks_len]; exact HPSL.out)).1, (Cells.of_own (hown HTS.out.rtk (by decide) (by decide) (by decide)) (by rw [strs_len]; exact HTKL.out)).1, (Cells.of_own (hown HTS.out.rls (by decide) (by decide) (by decide)) (by rw [strs_len]; exact HLSL.out)).1⟩, HTS.out.xs.nil, by rw [HEND.out]; exact HTS.out.xs.cap, by rw [HEND.out]; exact hrow6.frame q3 hn45, by rw [HEND.out]; exact HI6.out.frame q3 (fun b cur hb e2 => by rcases e2 with e2 | e2; exact blk_ne hb H4Z.out (by decide) e2; exact blk_ne hb H5Z.out (by decide) e2), fun a ha => by have h1 := (HTS.out.rtk.lt a.block (by rw [ha]; rfl)).1; have h2 := HTS.out.oN; omega, fun a ha => by have h1 := (HTS.out.rps.lt a.block (by rw [ha]; rfl)).1; have h2 := HTS.out.oN; omega, fun a ha => by have h1 := (HTS.out.rls.lt a.block (by rw [ha]; rfl)).1; have h2 := HTS.out.oN; omega, own_nil HTS.out.rtk, own_nil HTS.out.rls, ?_⟩
      exact (HTS.out.below.trans (HFx.out.below (B := w.heap.size) (fun b e2 => by have := HTS.out.ox; omega) (by omega))).trans (q3.below (B := w.heap.size) (fun b e2 => by rcases e2 with e2 | e2 <;> omega) (by omega))
    ·have k1 : (p.kind == 1) = false := beq_eq_false_iff_ne.2 (by omega)
     have k2 : (p.kind != 1) = true := by simp [hk]
     have k3' : (p.kind == 2) = false := beq_eq_false_iff_ne.2 (by omega)
     have HK := Lib.hid hk
     clear hk
     have HTB : Hid (takeA e p = (ackedA (openE e1) p F, ⟨[] ++ fromA (ackedA (openE e1) p F) (F - goneA (openE e1) p F), [], ls⟩, 0)) := by
      show _ = _
      rw [HTG.out, tb_ack HOWN.out HK.out, HF.out]
     cases ph with
     | true =>
      have HPHY : Hid (e1.phase = 2) := beq_iff_eq.1 hph
      go_wp2
      refine sall (by kernel_rfl) (by kernel_rfl) (fun Kq hKq => ?_)
      repeat still_step
      refine wpStill_nil (hKq _ ?_)
      clear hKq Kq
      go_wp2
      clear t0 t1 t2 t3 t4 t5 t6 tl u0 u1 u2 ul
      have HTS := Lib.hid HTS.out.drew
      generalize X.drew = X at HTS ⊢
      have k3 := HTS.out.k3
      have bxx := HTS.out.xs.box
      have t0 := k3.cell 0 (v := .int .i64 p.kind) rfl
      have t1 := k3.cell 1 (v := .int .i64 p.frm) rfl
      have t2 := k3.cell 2 (v := .int .i64 p.to) rfl
      have t3 := k3.cell 3 (v := .int .i64 p.num) rfl
      have t4 := k3.cell 4 (v := .string p.t) rfl
      have t5 := k3.cell 5 (v := .int .i64 p.ack) rfl
      have t6 := k3.cell 6 (v := .int .i64 p.held) rfl
      have tl := k3.lt
      have u0 := bxx.cell 0 (v := .int .i64 e1.life) rfl
      have u1 := bxx.cell 1 (v := .int .i64 e1.peer) rfl
      have u2 := bxx.cell 2 (v := .int .i64 e1.phase) rfl
      have ul := bxx.lt
      clear k3 bxx
      have nb : ¬ w.heap.size + 1 = bx := fun e2 => blk_ne HTS.out.k3 HTS.out.xs.box (by decide) e2
      have y2 := HTS.out.xs.box.free 2
      refine draw (fun w' => Frame (fun b => b = bx) X w') 9 rfl (by kernel_rfl) (fun Qd hQd => ?_)
      apply anyI_step 0 rfl (by kernel_rfl)
      focus (intro wI hI Kv hKv; have t9 := cell_frame hI tl nb t0; go_simp; exact hKv)
      intro Kd hKd
      go_simp
      refine hKd _ ?_
      clear hKd Kd
      apply anyI_step 1 rfl (by kernel_rfl)
      focus (intro wI hI Kv hKv; have t9 := cell_frame hI tl nb t0; go_simp; exact hKv)
      intro Kd hKd
      go_simp
      refine hKd _ ?_
      clear hKd Kd
      apply anyI_step 2 rfl (by kernel_rfl)
      focus (intro wI hI Kv hKv; have t9 := cell_frame hI tl nb t0; go_simp; exact hKv)
      intro Kd hKd
      go_simp
      refine hKd _ ?_
      clear hKd Kd
      apply anyI_step 4 rfl (by kernel_rfl)
      focus (intro wI hI Kv hKv; have t9 := cell_frame hI tl nb t0; go_simp; exact hKv)
      intro Kd hKd
      go_simp
      refine hKd _ ?_
      clear hKd Kd
      apply anyI_step 3 rfl (by kernel_rfl)
      focus (intro wI hI Kv hKv; have t9 := cell_frame hI tl nb t0; go_simp; exact hKv)
      intro Kd hKd
      go_simp
      refine hKd _ ?_
      clear hKd Kd
      apply anyI_step 5 rfl (by kernel_rfl)
      focus (intro wI hI Kv hKv; have t9 := cell_frame hI tl nb t0; go_simp; exact hKv)
      intro Kd hKd
      go_simp
      refine hKd _ ?_
      clear hKd Kd
      apply anyI_step 6 rfl (by kernel_rfl)
      focus (intro wI hI Kv hKv; have t9 := cell_frame hI tl nb t0; go_simp; exact hKv)
      intro Kd hKd
      go_simp
      refine hKd _ ?_
      clear hKd Kd
      refine anyI_one' 7 rfl (by kernel_rfl) ((Frame.refl _ X).drew) (fun Kd hKd => ?_)
      go_wp2
      have F7 := (Frame.refl (fun b => b = bx) X).setCell (p := ⟨bx, 2, none⟩) (.inl rfl) (.int .i64 3)
      apply anyI_step 8 rfl (by kernel_rfl)
      focus (intro wI hI Kv hKv; go_simp; exact hKv)
      intro Kd hKd
      go_simp
      refine hKd _ ?_
      clear hKd Kd
      refine anyI_end (by kernel_rfl) (F7.drew) (hQd _ _ ?_)
      clear hQd Qd
      have HTn := Lib.hid (HTS.out.xset (e' := { e1 with phase := 3 }) 2 (.int .i64 3) (HTS.out.xs.box.set 2 _) rfl rfl).drew
      have HG3 : Hid (GoodP { e1 with phase := 3 }) := opened_good G1.out HPHY.out
      have HOPE0 : Hid (openE e1 = { e1 with phase := 3 }) := by show _ = _; unfold openE; rw [if_pos (beq_iff_eq.2 HPHY.out)]
      have HFL0 : Hid (F ≤ flyN { e1 with phase := 3 }) := by show F ≤ _; rw [← HF.out]; unfold flyN; rw [if_neg (by have := HPHY.out; omega)]; exact Nat.zero_le _
      have HP30 : Hid (({ e1 with phase := 3 } : En).phase = 3) := rfl
      clear t0 t1 t2 t3 t4 t5 t6 tl u0 u1 u2 ul
      clear nb y2 F7
      generalize (X.setCell ⟨bx, 2, none⟩ (.int .i64 3)).drew = X at HTn ⊢
      obtain ⟨e2, HE2⟩ : ∃ e2 : En, Hid ({ e1 with phase := 3 } = e2) := ⟨_, rfl⟩
      rw [HE2.out] at HTn HG3 HOPE0 HFL0 HP30
      have HOPE := HOPE0
      have HTSo := HTn
      clear HTS HTn G1 hph HOPE0
      have HTS := HTSo
      clear HTSo
      have G1 := HG3
      have HFL := HFL0
      have HP3 := HP30
      clear HG3 HFL0 HP30
      rw [HOPE.out] at HTB
      generalize e2 = e1 at HTB HTS G1 HFL HP3 HOPE HE2
      have k3 := HTS.out.k3
      have bxx := HTS.out.xs.box
      have t0 := k3.cell 0 (v := .int .i64 p.kind) rfl
      have t1 := k3.cell 1 (v := .int .i64 p.frm) rfl
      have t2 := k3.cell 2 (v := .int .i64 p.to) rfl
      have t3 := k3.cell 3 (v := .int .i64 p.num) rfl
      have t4 := k3.cell 4 (v := .string p.t) rfl
      have t5 := k3.cell 5 (v := .int .i64 p.ack) rfl
      have t6 := k3.cell 6 (v := .int .i64 p.held) rfl
      have tl := k3.lt
      have u0 := bxx.cell 0 (v := .int .i64 e1.life) rfl
      have u1 := bxx.cell 1 (v := .int .i64 e1.peer) rfl
      have u2 := bxx.cell 2 (v := .int .i64 e1.phase) rfl
      have ul := bxx.lt
      clear k3 bxx
      go_wp2_with fail
      clear t0 t1 t2 t3 t4 t5 t6 tl u0 u1 u2 ul
      have hheld : 0 ≤ p.held ∧ p.held ≤ 7 := by have := (proper_iff.1 HPR.out).2; have := HK.out; omega
      have hgF : goneA e1 p F ≤ F := (acked_base e1 p F).2.1
      refine (acked_any w.heap.size bx bm e1 A1 c1 vi p F X HTS.out.xs HTS.out.row G1.out HFL.out hheld HTS.out.ox (by have := HTS.out.nN; have := HTS.out.oN; omega)).mono ?_
      rintro r w5 ⟨rfl, A', c', hx5, hr5, hB5, hF5⟩
      have HT5 := Lib.hid (HTS.out.x (hF5.mono (fun b _ e2 => by rcases e2 with e2 | e2; exact .inl e2; exact .inr (.inr e2))) hx5 hr5 hB5)
      have HGA := Lib.hid (acked_good G1.out HP3.out p HFL.out)
      have HPA : Hid ((ackedA e1 p F).phase = 3) := by show _ = _; rw [(acked_base e1 p F).2.2.2.2]; exact HP3.out
      clear hx5 hr5 hB5 hF5
      obtain ⟨g, HGG⟩ : ∃ g, Hid (goneA e1 p F = g) := ⟨_, rfl⟩
      rw [HGG.out] at HTB hgF ⊢
      obtain ⟨NN, HNN⟩ : ∃ NN, Hid (F - g = NN) := ⟨_, rfl⟩
      have hwr : IntKind.i64.wrap ((F : Int) - (g : Int)) = (NN : Int) := by rw [wrap_ok ⟨by omega, by omega⟩, ← HNN.out]; omega
      have hN4 : NN ≤ 4 := by have := HNN.out; omega
      rw [HNN.out] at HTB
      obtain ⟨e5, HAE⟩ : ∃ e5, Hid (ackedA e1 p F = e5) := ⟨_, rfl⟩
      rw [HAE.out] at HTB HT5 HGA HPA
      clear HTS G1 HP3 HFL hheld HAE hF4 HGG HNN
      have hF4 := hN4
      have HTS := HT5
      have G1 := HGA
      have HP3 := HPA
      clear HT5 HGA HPA hN4
      generalize e5 = e1 at HTB HTS G1 HP3
      generalize A' = A1 at HTS
      generalize c' = c1 at HTS
      generalize w5 = X at HTS ⊢
      have k3 := HTS.out.k3
      have bxx := HTS.out.xs.box
      have t0 := k3.cell 0 (v := .int .i64 p.kind) rfl
      have t1 := k3.cell 1 (v := .int .i64 p.frm) rfl
      have t2 := k3.cell 2 (v := .int .i64 p.to) rfl
      have t3 := k3.cell 3 (v := .int .i64 p.num) rfl
      have t4 := k3.cell 4 (v := .string p.t) rfl
      have t5 := k3.cell 5 (v := .int .i64 p.ack) rfl
      have t6 := k3.cell 6 (v := .int .i64 p.held) rfl
      have tl := k3.lt
      have u0 := bxx.cell 0 (v := .int .i64 e1.life) rfl
      have u1 := bxx.cell 1 (v := .int .i64 e1.peer) rfl
      have u2 := bxx.cell 2 (v := .int .i64 e1.phase) rfl
      have ul := bxx.lt
      clear k3 bxx
      go_wp2_with fail
      clear t0 t1 t2 t3 t4 t5 t6 tl u0 u1 u2 ul
      clear hwr
      have hnb : ∀ b cs t, Blk X b (.cells cs t) → t ≠ 49 → ¬ (Value.slice P ps.length cp).ownBlock = some b := fun b cs t hb ht e2 => own_ne HTS.out.rps hb (fun e3 => ht e3.symm) e2
      have HNB := Lib.hid hnb
      clear hnb
      have hnN4 := HTS.out.nN
      have hoN4 := HTS.out.oN
      refine drawl (fun w' => Frame (fun b => (Value.slice P ps.length cp).ownBlock = some b) X w') 7 7 rfl (by kernel_rfl) (fun Qd hQd => ?_)
      have HRD := fun (wI : World) (hI : (fun w' => Frame (fun b => (Value.slice P ps.length cp).ownBlock = some b) X w') wI) => (have t0 := (HTS.out.g.frame hI (HNB.out _ _ _ HTS.out.g (by decide))).cell 0 (v := .slice P ps.length cp) rfl; have t1 := (HTS.out.g.frame hI (HNB.out _ _ _ HTS.out.g (by decide))).lt; And.intro t0 t1)
      apply anyL_step 0 (by kernel_rfl) rfl (by kernel_rfl)
      focus (intro wI hI Kv hKv; obtain ⟨t0, t1⟩ := HRD wI hI; go_simp; exact hKv)
      intro Kd hKd
      go_simp
      refine hKd _ ?_
      clear hKd Kd
      apply anyL_step 2 (by kernel_rfl) rfl (by kernel_rfl)
      focus (intro wI hI Kv hKv; obtain ⟨t0, t1⟩ := HRD wI hI; go_simp; exact hKv)
      intro Kd hKd
      go_simp
      refine hKd _ ?_
      clear hKd Kd
      apply anyL_step 3 (by kernel_rfl) rfl (by kernel_rfl)
      focus (intro wI hI Kv hKv; obtain ⟨t0, t1⟩ := HRD wI hI; go_simp; exact hKv)
      intro Kd hKd
      go_simp
      refine hKd _ ?_
      clear hKd Kd
      apply anyL_step 1 (by kernel_rfl) rfl (by kernel_rfl)
      focus (intro wI hI Kv hKv; obtain ⟨t0, t1⟩ := HRD wI hI; go_simp; exact hKv)
      intro Kd hKd
      go_simp
      refine hKd _ ?_
      clear hKd Kd
      clear HRD
      refine anyL_one 4 rfl (by kernel_rfl) ((Frame.refl _ X).drew) (fun Kd hKd => ?_)
      go_wp2_with (go_at_call 35; go_must (refine (from_any bx bm e1 A1 c1 vi NN _ HTS.out.drew.xs (fun h => HTS.out.noOut h) G1.out (by omega)).mono ?_); rintro r w4 ⟨v4, rfl, hv4, hB4⟩; obtain ⟨Bv, cv, rfl⟩ := own_fits hv4)
      have hfl4 : (fromA e1 NN).length ≤ 4 := by rw [fromA_len]; have := (fly_le e1).2; omega
      have HV4 := Lib.hid (Cells.of_own hv4 (by rw [pks_len]; omega)).1
      have HV0 : Hid (Bv = none → (fromA e1 NN).length = 0 ∧ cv = 0) := fun hb => by
       have h1 := own_cap hv4
       have h2 := own_nil hv4 hb
       exact ⟨by omega, h2⟩
      clear hv4
      have HB4 : Hid (Below X.heap.size X w4) := (Below.refl _ X).drew.trans hB4
      have HO4 : Hid (w4.ownsRow N 49 7 (.slice P ps.length cp) ps.length (pks ps)) := own_frame HTS.out.rps (Frame.of_all (S := fun _ => False) HB4.out) (fun _ _ h => h)
      have hs4 := HB4.out.size
      clear hB4
      refine anyL_one 5 rfl (by kernel_rfl) ((Frame.of_all HB4.out)) (fun Kd hKd => ?_)
      go_wp2_with (at_builtin; go_must (refine wpList_appN rPk _ rfl _ _ rfl HO4.out rfl Bv (fromA e1 NN).length cv (pks (fromA e1 NN)) rfl HV0.out HV4.out (pks_len _) (pkC_one _) (by omega) (by omega) ?_); intro v6 w6 ho6 hB6 hg6 hloc6; obtain ⟨P6, cp6, rfl⟩ := own_fits ho6)
      have HF6 : Hid (Frame (fun b => (Value.slice P ps.length cp).ownBlock = some b) X w6) := (Frame.of_all (S := fun b => (Value.slice P ps.length cp).ownBlock = some b) HB4.out).trans (Frame.of_grown hg6) (fun _ _ h => h)
      have hg66 := HTS.out.g.frame HF6.out (HNB.out _ _ _ HTS.out.g (by decide))
      have r0 := hg66.cell 0 (v := .slice P ps.length cp) rfl
      have r1 := hg66.free 0
      have r2 := hg66.lt
      have h36 := HTS.out.k3.frame HF6.out (fun e2 => by have := (HTS.out.rps.lt _ e2).1; have := HTS.out.n3; omega)
      have r3 := h36.cell 0 (v := .int .i64 p.kind) rfl
      have r4 := h36.lt
      have r5 : ¬ w.heap.size + 1 = bg := fun e2 => blk_ne HTS.out.k3 HTS.out.g (by decide) e2
      have HO6 := Lib.hid ho6
      clear h36
      clear ho6 hB6 hg6 hloc6 hg66
      apply anyL_step 6 (by kernel_rfl) rfl (by kernel_rfl)
      focus (intro wI hI Kv hKv; go_simp; exact hKv)
      intro Kd hKd
      go_simp
      refine hKd _ ?_
      clear hKd Kd
      refine anyL_end rfl (by kernel_rfl) (HF6.out) (fun Kd hKd => ?_)
      go_wp2_with fail
      obtain ⟨X', hX'⟩ : ∃ X', w6.setCell ⟨bg, 0, none⟩ (.slice P6 (ps.length + (fromA e1 NN).length) cp6) = X' := ⟨_, rfl⟩
      rw [hX']
      have hTg := (HTS.out.grow HF6.out (vP' := .slice P6 (ps.length + (fromA e1 NN).length) cp6) (ps' := ps ++ fromA e1 NN) (by rw [pks_app, List.length_append]; exact HO6.out)).2
      rw [hX'] at hTg
      have hpl' : (ps.length + (fromA e1 NN).length) = (ps ++ fromA e1 NN).length := by simp
      rw [hpl'] at hTg
      have hplb : (ps ++ fromA e1 NN).length ≤ ps.length + 4 := by rw [List.length_append]; omega
      have HTg := Lib.hid hTg
      clear hTg hX' r0 r1 r2 r3 r4 r5 HTS hpl' HNB HB4 HO4 HF6 HO6
      have HTS := HTg
      clear HTg
      obtain ⟨ps, HPS2⟩ : ∃ q, Hid (ps ++ fromA e1 NN = q) := ⟨_, rfl⟩
      rw [HPS2.out] at HTS hplb
      generalize X' = X at HTS ⊢
      generalize P6 = P at HTS ⊢
      generalize cp6 = cp at HTS ⊢
      have HEND : Hid (takeA e p = (e1, ⟨ps, tk, ls⟩, 0)) := by show _ = _; rw [HTB.out, ← HPS2.out, Hps.out, Htk.out]
      have HPSL : Hid (ps.length * 7 ≤ 17592186043904) := by show _ ≤ _; omega
      have HTKL : Hid (tk.length ≤ 17592186043904) := by show _ ≤ _; omega
      have HLSL : Hid (ls.length ≤ 17592186043904) := by show _ ≤ _; have := HLS.out; omega
      have HNE : Hid (ous e1.out ≠ [] → ∀ a, A1 = some a → a.block ≠ bx) := fun hn a ha e2 => by
       obtain ⟨b, off, cur, h1, h2, h3⟩ := HTS.out.row (by rintro h0; exact hn (by rw [h0]; rfl))
       rw [h1] at ha
       injection ha with ha
       rw [← ha] at e2
       exact blk_ne h3 HTS.out.xs.box (by decide) e2
      have hg := HTS.out.g
      have m0 := hg.cell 0 (v := .slice P ps.length cp) rfl
      have m1 := hg.cell 1 (v := .slice T tk.length ct) rfl
      have m2 := hg.cell 2 (v := .slice L ls.length cl) rfl
      have ml := hg.lt
      have n1 : ¬ (bg = bx ∨ bg = w.heap.size + 1 + 1 ∨ bg = w.heap.size + 1 + 1 + 1) := fun e2 => by
       rcases e2 with e2 | e2 | e2
       ·exact blk_ne hg HTS.out.xs.box (by decide) e2
       ·exact blk_ne hg HTS.out.k4 (by decide) e2
       ·exact HTS.out.ng5 e2
      have hnN := HTS.out.nN
      have hoN2 := HTS.out.oN
      clear hg
      refine draw (fun w' => Frame (fun b => b = bx ∨ b = w.heap.size + 1 + 1 ∨ b = w.heap.size + 1 + 1 + 1) X w') 6 rfl (by kernel_rfl) (fun Qd hQd => ?_)
      apply anyI_step 0 rfl (by kernel_rfl)
      focus (intro wI hI Kv hKv; have t0 := cell_frame hI ml n1 m0; have t1 := cell_frame hI ml n1 m1; have t2 := cell_frame hI ml n1 m2; go_simp; exact hKv)
      intro Kd hKd
      go_simp
      refine hKd _ ?_
      clear hKd Kd
      apply anyI_step 2 rfl (by kernel_rfl)
      focus (intro wI hI Kv hKv; have t0 := cell_frame hI ml n1 m0; have t1 := cell_frame hI ml n1 m1; have t2 := cell_frame hI ml n1 m2; go_simp; exact hKv)
      intro Kd hKd
      go_simp
      refine hKd _ ?_
      clear hKd Kd
      refine anyI_one' 1 rfl (by kernel_rfl) ((Frame.refl _ X).drew) (fun Kd hKd => ?_)
      go_wp2_with (go_at_call 31; go_must (refine (shut_any bx bm e1 A1 c1 vi w.heap.size _ HTS.out.xs.drew G1.out HTS.out.ox (by show w.heap.size ≤ X.heap.size; omega) HNE.out).mono ?_); rintro r w6 ⟨D, dd, rfl, hE6, hB6, hF6, hD6, hI6⟩; unfold enV)
      have HFx : Hid (Frame (fun b => b = bx) X w6) := (Frame.refl (fun b => b = bx) X).drew.trans hF6 (fun _ _ h => h)
      have HFS : Hid (Frame (fun b => b = bx ∨ b = w.heap.size + 1 + 1 ∨ b = w.heap.size + 1 + 1 + 1) X w6) := HFx.out.mono (fun b _ e2 => .inl e2)
      have h4z := HTS.out.k4.frame HFx.out (fun e2 => blk_ne HTS.out.k4 HTS.out.xs.box (by decide) e2)
      have h5z := HTS.out.k5.frame HFx.out (fun e2 => blk_ne HTS.out.k5 HTS.out.xs.box (by decide) e2)
      have H4Z := Lib.hid h4z
      have H5Z := Lib.hid h5z
      have HE6 := Lib.hid hE6
      have HD6 := Lib.hid hD6
      have HI6 := Lib.hid hI6
      have z0 := h4z.cell 0 (v := .int .i64 0) rfl
      have z1 := h4z.cell 1 (v := .int .i64 0) rfl
      have z2 := h4z.cell 2 (v := .int .i64 0) rfl
      have z3 := h4z.cell 3 (v := .int .i64 0) rfl
      have z4 := h4z.cell 4 (v := .slice none 0 0) rfl
      have z5 := h4z.cell 5 (v := .int .i64 0) rfl
      have z6 := h4z.cell 6 (v := .slice none 0 0) rfl
      have y0 := h4z.free 0
      have y1 := h4z.free 1
      have y2 := h4z.free 2
      have y3 := h4z.free 3
      have y4 := h4z.free 4
      have y5 := h4z.free 5
      have y6 := h4z.free 6
      have yl := h4z.lt
      have g0 := h5z.cell 0 (v := .slice none 0 0) rfl
      have g1 := h5z.cell 1 (v := .slice none 0 0) rfl
      have g2 := h5z.cell 2 (v := .slice none 0 0) rfl
      have f0 := h5z.free 0
      have f1 := h5z.free 1
      have f2 := h5z.free 2
      have gl := h5z.lt
      have nz1 : ¬ w.heap.size + 1 + 1 = w.heap.size + 1 + 1 + 1 := by omega
      have nz2 : ¬ w.heap.size + 1 + 1 + 1 = w.heap.size + 1 + 1 := by omega
      clear h4z h5z hE6 hB6 hF6 hD6 hI6 m0 m1 m2 ml n1
      refine anyI_one' 3 rfl (by kernel_rfl) (HFS.out) (fun Kd hKd => ?_)
      go_wp2
      refine anyI_one' 4 rfl (by kernel_rfl) ((setEn_frame (e := e1) (A := A1) (c := c1) (B := D) (d := dd) HFS.out (.inl (.inr (.inl rfl))))) (fun Kd hKd => ?_)
      go_wp2
      apply anyI_step 5 rfl (by kernel_rfl)
      focus (intro wI hI Kv hKv; go_simp; exact hKv)
      intro Kd hKd
      go_simp
      refine hKd _ ?_
      clear hKd Kd
      refine anyI_end (by kernel_rfl) ((setGn_frame (g := ⟨ps, tk, ls⟩) (P := P) (cp := cp) (T := T) (ct := ct) (L := L) (cl := cl) (setEn_frame (e := e1) (A := A1) (c := c1) (B := D) (d := dd) HFS.out (.inl (.inr (.inl rfl)))) (.inl (.inr (.inr rfl))))) (hQd _ _ ?_)
      clear hQd Qd
      go_wp2
      obtain ⟨q1, q2, q3⟩ := tk_end (e' := e1) (A := A1) (c := c1) (D := D) (d := dd) (g := ⟨ps, tk, ls⟩) (P := P) (cp := cp) (T := T) (ct := ct) (L := L) (cl := cl) H4Z.out H5Z.out
      have hl1 := load26 q1
      have hl2 := load47 q2
      refine bodyPost_ret (v := .tuple #[enV e1 A1 c1 D dd, gnV ⟨ps, tk, ls⟩ P cp T ct L cl, .int .i64 0]) (results_cct rfl rfl rfl rfl hl1 hl2) rfl ?_
      have hSz := HFx.out.size
      have hown : ∀ {e : TypeId} {size n : Nat} {v : Value} {xs : List Value}, X.ownsRow N e size v n xs → e ≠ 86 → e ≠ 38 → e ≠ 44 → World.ownsRow (setGn (setEn w6 (w.heap.size + 1 + 1) e1 A1 c1 D dd) (w.heap.size + 1 + 1 + 1) ⟨ps, tk, ls⟩ P cp T ct L cl) N e size v n xs := fun hr h1 h2 h3 => by
       have hr6 := own_frame hr HFx.out (fun g hg e2 => own_ne hr HTS.out.xs.box h1 (by rw [hg, e2]))
       exact own_frame hr6 q3 (fun g hg e2 => by
        rcases e2 with e2 | e2
        ·exact own_ne hr6 H4Z.out h2 (by rw [hg, e2])
        ·exact own_ne hr6 H5Z.out h3 (by rw [hg, e2]))
      have hnx : ∀ b cur, Blk X b (.cells cur 53) → ¬ b = bx := fun b cur hb e2 => blk_ne hb HTS.out.xs.box (by decide) e2
      have hrow6 := HTS.out.row.frame HFx.out hnx
      have hn45 : ∀ b cur, Blk w6 b (.cells cur 53) → ¬ (b = w.heap.size + 1 + 1 ∨ b = w.heap.size + 1 + 1 + 1) := fun b cur hb e2 => by
       rcases e2 with e2 | e2
       ·exact blk_ne hb H4Z.out (by decide) e2
       ·exact blk_ne hb H5Z.out (by decide) e2
      refine ⟨A1, c1, D, dd, P, cp, T, ct, L, cl, by rw [HEND.out], by rw [HEND.out]; exact ⟨hrow6.cells HE6.out.out q3 hn45, HE6.out.inn.frame q3 (fun _ a ha e2 => by have h1 := HD6.out a ha; have h2 := H4Z.out; have h4l := HTS.out.k4.lt; have h5l := HTS.out.k5.lt; have hsd : X.drew.heap.size = X.heap.size := rfl; rcases e2 with e2 | e2 <;> omega)⟩, by rw [HEND.out]; exact ⟨(Cells.of_own (hown HTS.out.rps (by decide) (by decide) (by decide)) (by rw [pks_len]; exact HPSL.out)).1, (Cells.of_own (hown HTS.out.rtk (by decide) (by decide) (by decide)) (by rw [strs_len]; exact HTKL.out)).1, (Cells.of_own (hown HTS.out.rls (by decide) (by decide) (by decide)) (by rw [strs_len]; exact HLSL.out)).1⟩, HTS.out.xs.nil, by rw [HEND.out]; exact HTS.out.xs.cap, by rw [HEND.out]; exact hrow6.frame q3 hn45, by rw [HEND.out]; exact HI6.out.frame q3 (fun b cur hb e2 => by rcases e2 with e2 | e2; exact blk_ne hb H4Z.out (by decide) e2; exact blk_ne hb H5Z.out (by decide) e2), fun a ha => by have h1 := (HTS.out.rtk.lt a.block (by rw [ha]; rfl)).1; have h2 := HTS.out.oN; omega, fun a ha => by have h1 := (HTS.out.rps.lt a.block (by rw [ha]; rfl)).1; have h2 := HTS.out.oN; omega, fun a ha => by have h1 := (HTS.out.rls.lt a.block (by rw [ha]; rfl)).1; have h2 := HTS.out.oN; omega, own_nil HTS.out.rtk, own_nil HTS.out.rls, ?_⟩
      exact (HTS.out.below.trans (HFx.out.below (B := w.heap.size) (fun b e2 => by have := HTS.out.ox; omega) (by omega))).trans (q3.below (B := w.heap.size) (fun b e2 => by rcases e2 with e2 | e2 <;> omega) (by omega))
     | false =>
      have HPHN : Hid (¬ e1.phase = 2) := beq_eq_false_iff_ne.1 hph
      have HP3 : Hid (e1.phase = 3) := by
       show _ = _
       by_cases h3 : e1.phase = 3
       ·exact h3
       ·have := (G1.out.cl h3).2.2.2
        have := HPH.out
        have := HPHN.out
        omega
      have HOPE : Hid (openE e1 = e1) := by show _ = _; unfold openE; rw [if_neg (by rw [beq_iff_eq]; exact HPHN.out)]
      have HFL : Hid (F ≤ flyN e1) := by show F ≤ _; rw [HF.out]; exact Nat.le_refl _
      obtain ⟨e2, HE2⟩ : ∃ e2 : En, Hid (e1 = e2) := ⟨e1, rfl⟩
      rw [HOPE.out] at HTB
      go_wp2
      refine sall (by kernel_rfl) (by kernel_rfl) (fun Kq hKq => ?_)
      repeat still_step
      refine wpStill_nil (hKq _ ?_)
      clear hKq Kq
      go_wp2_with fail
      clear t0 t1 t2 t3 t4 t5 t6 tl u0 u1 u2 ul
      have HTS := Lib.hid HTS.out.drew
      generalize X.drew = X at HTS ⊢
      clear hph
      have hheld : 0 ≤ p.held ∧ p.held ≤ 7 := by have := (proper_iff.1 HPR.out).2; have := HK.out; omega
      have hgF : goneA e1 p F ≤ F := (acked_base e1 p F).2.1
      refine (acked_any w.heap.size bx bm e1 A1 c1 vi p F X HTS.out.xs HTS.out.row G1.out HFL.out hheld HTS.out.ox (by have := HTS.out.nN; have := HTS.out.oN; omega)).mono ?_
      rintro r w5 ⟨rfl, A', c', hx5, hr5, hB5, hF5⟩
      have HT5 := Lib.hid (HTS.out.x (hF5.mono (fun b _ e2 => by rcases e2 with e2 | e2; exact .inl e2; exact .inr (.inr e2))) hx5 hr5 hB5)
      have HGA := Lib.hid (acked_good G1.out HP3.out p HFL.out)
      have HPA : Hid ((ackedA e1 p F).phase = 3) := by show _ = _; rw [(acked_base e1 p F).2.2.2.2]; exact HP3.out
      clear hx5 hr5 hB5 hF5
      obtain ⟨g, HGG⟩ : ∃ g, Hid (goneA e1 p F = g) := ⟨_, rfl⟩
      rw [HGG.out] at HTB hgF ⊢
      obtain ⟨NN, HNN⟩ : ∃ NN, Hid (F - g = NN) := ⟨_, rfl⟩
      have hwr : IntKind.i64.wrap ((F : Int) - (g : Int)) = (NN : Int) := by rw [wrap_ok ⟨by omega, by omega⟩, ← HNN.out]; omega
      have hN4 : NN ≤ 4 := by have := HNN.out; omega
      rw [HNN.out] at HTB
      obtain ⟨e5, HAE⟩ : ∃ e5, Hid (ackedA e1 p F = e5) := ⟨_, rfl⟩
      rw [HAE.out] at HTB HT5 HGA HPA
      clear HTS G1 HP3 HFL hheld HAE hF4 HGG HNN
      have hF4 := hN4
      have HTS := HT5
      have G1 := HGA
      have HP3 := HPA
      clear HT5 HGA HPA hN4
      generalize e5 = e1 at HTB HTS G1 HP3
      generalize A' = A1 at HTS
      generalize c' = c1 at HTS
      generalize w5 = X at HTS ⊢
      have k3 := HTS.out.k3
      have bxx := HTS.out.xs.box
      have t0 := k3.cell 0 (v := .int .i64 p.kind) rfl
      have t1 := k3.cell 1 (v := .int .i64 p.frm) rfl
      have t2 := k3.cell 2 (v := .int .i64 p.to) rfl
      have t3 := k3.cell 3 (v := .int .i64 p.num) rfl
      have t4 := k3.cell 4 (v := .string p.t) rfl
      have t5 := k3.cell 5 (v := .int .i64 p.ack) rfl
      have t6 := k3.cell 6 (v := .int .i64 p.held) rfl
      have tl := k3.lt
      have u0 := bxx.cell 0 (v := .int .i64 e1.life) rfl
      have u1 := bxx.cell 1 (v := .int .i64 e1.peer) rfl
      have u2 := bxx.cell 2 (v := .int .i64 e1.phase) rfl
      have ul := bxx.lt
      clear k3 bxx
      go_wp2_with fail
      clear t0 t1 t2 t3 t4 t5 t6 tl u0 u1 u2 ul
      clear hwr
      have hnb : ∀ b cs t, Blk X b (.cells cs t) → t ≠ 49 → ¬ (Value.slice P ps.length cp).ownBlock = some b := fun b cs t hb ht e2 => own_ne HTS.out.rps hb (fun e3 => ht e3.symm) e2
      have HNB := Lib.hid hnb
      clear hnb
      have hnN4 := HTS.out.nN
      have hoN4 := HTS.out.oN
      refine drawl (fun w' => Frame (fun b => (Value.slice P ps.length cp).ownBlock = some b) X w') 7 7 rfl (by kernel_rfl) (fun Qd hQd => ?_)
      have HRD := fun (wI : World) (hI : (fun w' => Frame (fun b => (Value.slice P ps.length cp).ownBlock = some b) X w') wI) => (have t0 := (HTS.out.g.frame hI (HNB.out _ _ _ HTS.out.g (by decide))).cell 0 (v := .slice P ps.length cp) rfl; have t1 := (HTS.out.g.frame hI (HNB.out _ _ _ HTS.out.g (by decide))).lt; And.intro t0 t1)
      apply anyL_step 0 (by kernel_rfl) rfl (by kernel_rfl)
      focus (intro wI hI Kv hKv; obtain ⟨t0, t1⟩ := HRD wI hI; go_simp; exact hKv)
      intro Kd hKd
      go_simp
      refine hKd _ ?_
      clear hKd Kd
      apply anyL_step 2 (by kernel_rfl) rfl (by kernel_rfl)
      focus (intro wI hI Kv hKv; obtain ⟨t0, t1⟩ := HRD wI hI; go_simp; exact hKv)
      intro Kd hKd
      go_simp
      refine hKd _ ?_
      clear hKd Kd
      apply anyL_step 3 (by kernel_rfl) rfl (by kernel_rfl)
      focus (intro wI hI Kv hKv; obtain ⟨t0, t1⟩ := HRD wI hI; go_simp; exact hKv)
      intro Kd hKd
      go_simp
      refine hKd _ ?_
      clear hKd Kd
      apply anyL_step 1 (by kernel_rfl) rfl (by kernel_rfl)
      focus (intro wI hI Kv hKv; obtain ⟨t0, t1⟩ := HRD wI hI; go_simp; exact hKv)
      intro Kd hKd
      go_simp
      refine hKd _ ?_
      clear hKd Kd
      clear HRD
      refine anyL_one 4 rfl (by kernel_rfl) ((Frame.refl _ X).drew) (fun Kd hKd => ?_)
      go_wp2_with (go_at_call 35; go_must (refine (from_any bx bm e1 A1 c1 vi NN _ HTS.out.drew.xs (fun h => HTS.out.noOut h) G1.out (by omega)).mono ?_); rintro r w4 ⟨v4, rfl, hv4, hB4⟩; obtain ⟨Bv, cv, rfl⟩ := own_fits hv4)
      have hfl4 : (fromA e1 NN).length ≤ 4 := by rw [fromA_len]; have := (fly_le e1).2; omega
      have HV4 := Lib.hid (Cells.of_own hv4 (by rw [pks_len]; omega)).1
      have HV0 : Hid (Bv = none → (fromA e1 NN).length = 0 ∧ cv = 0) := fun hb => by
       have h1 := own_cap hv4
       have h2 := own_nil hv4 hb
       exact ⟨by omega, h2⟩
      clear hv4
      have HB4 : Hid (Below X.heap.size X w4) := (Below.refl _ X).drew.trans hB4
      have HO4 : Hid (w4.ownsRow N 49 7 (.slice P ps.length cp) ps.length (pks ps)) := own_frame HTS.out.rps (Frame.of_all (S := fun _ => False) HB4.out) (fun _ _ h => h)
      have hs4 := HB4.out.size
      clear hB4
      refine anyL_one 5 rfl (by kernel_rfl) ((Frame.of_all HB4.out)) (fun Kd hKd => ?_)
      go_wp2_with (at_builtin; go_must (refine wpList_appN rPk _ rfl _ _ rfl HO4.out rfl Bv (fromA e1 NN).length cv (pks (fromA e1 NN)) rfl HV0.out HV4.out (pks_len _) (pkC_one _) (by omega) (by omega) ?_); intro v6 w6 ho6 hB6 hg6 hloc6; obtain ⟨P6, cp6, rfl⟩ := own_fits ho6)
      have HF6 : Hid (Frame (fun b => (Value.slice P ps.length cp).ownBlock = some b) X w6) := (Frame.of_all (S := fun b => (Value.slice P ps.length cp).ownBlock = some b) HB4.out).trans (Frame.of_grown hg6) (fun _ _ h => h)
      have hg66 := HTS.out.g.frame HF6.out (HNB.out _ _ _ HTS.out.g (by decide))
      have r0 := hg66.cell 0 (v := .slice P ps.length cp) rfl
      have r1 := hg66.free 0
      have r2 := hg66.lt
      have h36 := HTS.out.k3.frame HF6.out (fun e2 => by have := (HTS.out.rps.lt _ e2).1; have := HTS.out.n3; omega)
      have r3 := h36.cell 0 (v := .int .i64 p.kind) rfl
      have r4 := h36.lt
      have r5 : ¬ w.heap.size + 1 = bg := fun e2 => blk_ne HTS.out.k3 HTS.out.g (by decide) e2
      have HO6 := Lib.hid ho6
      clear h36
      clear ho6 hB6 hg6 hloc6 hg66
      apply anyL_step 6 (by kernel_rfl) rfl (by kernel_rfl)
      focus (intro wI hI Kv hKv; go_simp; exact hKv)
      intro Kd hKd
      go_simp
      refine hKd _ ?_
      clear hKd Kd
      refine anyL_end rfl (by kernel_rfl) (HF6.out) (fun Kd hKd => ?_)
      go_wp2_with fail
      obtain ⟨X', hX'⟩ : ∃ X', w6.setCell ⟨bg, 0, none⟩ (.slice P6 (ps.length + (fromA e1 NN).length) cp6) = X' := ⟨_, rfl⟩
      rw [hX']
      have hTg := (HTS.out.grow HF6.out (vP' := .slice P6 (ps.length + (fromA e1 NN).length) cp6) (ps' := ps ++ fromA e1 NN) (by rw [pks_app, List.length_append]; exact HO6.out)).2
      rw [hX'] at hTg
      have hpl' : (ps.length + (fromA e1 NN).length) = (ps ++ fromA e1 NN).length := by simp
      rw [hpl'] at hTg
      have hplb : (ps ++ fromA e1 NN).length ≤ ps.length + 4 := by rw [List.length_append]; omega
      have HTg := Lib.hid hTg
      clear hTg hX' r0 r1 r2 r3 r4 r5 HTS hpl' HNB HB4 HO4 HF6 HO6
      have HTS := HTg
      clear HTg
      obtain ⟨ps, HPS2⟩ : ∃ q, Hid (ps ++ fromA e1 NN = q) := ⟨_, rfl⟩
      rw [HPS2.out] at HTS hplb
      generalize X' = X at HTS ⊢
      generalize P6 = P at HTS ⊢
      generalize cp6 = cp at HTS ⊢
      have HEND : Hid (takeA e p = (e1, ⟨ps, tk, ls⟩, 0)) := by show _ = _; rw [HTB.out, ← HPS2.out, Hps.out, Htk.out]
      have HPSL : Hid (ps.length * 7 ≤ 17592186043904) := by show _ ≤ _; omega
      have HTKL : Hid (tk.length ≤ 17592186043904) := by show _ ≤ _; omega
      have HLSL : Hid (ls.length ≤ 17592186043904) := by show _ ≤ _; have := HLS.out; omega
      have HNE : Hid (ous e1.out ≠ [] → ∀ a, A1 = some a → a.block ≠ bx) := fun hn a ha e2 => by
       obtain ⟨b, off, cur, h1, h2, h3⟩ := HTS.out.row (by rintro h0; exact hn (by rw [h0]; rfl))
       rw [h1] at ha
       injection ha with ha
       rw [← ha] at e2
       exact blk_ne h3 HTS.out.xs.box (by decide) e2
      have hg := HTS.out.g
      have m0 := hg.cell 0 (v := .slice P ps.length cp) rfl
      have m1 := hg.cell 1 (v := .slice T tk.length ct) rfl
      have m2 := hg.cell 2 (v := .slice L ls.length cl) rfl
      have ml := hg.lt
      have n1 : ¬ (bg = bx ∨ bg = w.heap.size + 1 + 1 ∨ bg = w.heap.size + 1 + 1 + 1) := fun e2 => by
       rcases e2 with e2 | e2 | e2
       ·exact blk_ne hg HTS.out.xs.box (by decide) e2
       ·exact blk_ne hg HTS.out.k4 (by decide) e2
       ·exact HTS.out.ng5 e2
      have hnN := HTS.out.nN
      have hoN2 := HTS.out.oN
      clear hg
      refine draw (fun w' => Frame (fun b => b = bx ∨ b = w.heap.size + 1 + 1 ∨ b = w.heap.size + 1 + 1 + 1) X w') 6 rfl (by kernel_rfl) (fun Qd hQd => ?_)
      apply anyI_step 0 rfl (by kernel_rfl)
      focus (intro wI hI Kv hKv; have t0 := cell_frame hI ml n1 m0; have t1 := cell_frame hI ml n1 m1; have t2 := cell_frame hI ml n1 m2; go_simp; exact hKv)
      intro Kd hKd
      go_simp
      refine hKd _ ?_
      clear hKd Kd
      apply anyI_step 2 rfl (by kernel_rfl)
      focus (intro wI hI Kv hKv; have t0 := cell_frame hI ml n1 m0; have t1 := cell_frame hI ml n1 m1; have t2 := cell_frame hI ml n1 m2; go_simp; exact hKv)
      intro Kd hKd
      go_simp
      refine hKd _ ?_
      clear hKd Kd
      refine anyI_one' 1 rfl (by kernel_rfl) ((Frame.refl _ X).drew) (fun Kd hKd => ?_)
      go_wp2_with (go_at_call 31; go_must (refine (shut_any bx bm e1 A1 c1 vi w.heap.size _ HTS.out.xs.drew G1.out HTS.out.ox (by show w.heap.size ≤ X.heap.size; omega) HNE.out).mono ?_); rintro r w6 ⟨D, dd, rfl, hE6, hB6, hF6, hD6, hI6⟩; unfold enV)
      have HFx : Hid (Frame (fun b => b = bx) X w6) := (Frame.refl (fun b => b = bx) X).drew.trans hF6 (fun _ _ h => h)
      have HFS : Hid (Frame (fun b => b = bx ∨ b = w.heap.size + 1 + 1 ∨ b = w.heap.size + 1 + 1 + 1) X w6) := HFx.out.mono (fun b _ e2 => .inl e2)
      have h4z := HTS.out.k4.frame HFx.out (fun e2 => blk_ne HTS.out.k4 HTS.out.xs.box (by decide) e2)
      have h5z := HTS.out.k5.frame HFx.out (fun e2 => blk_ne HTS.out.k5 HTS.out.xs.box (by decide) e2)
      have H4Z := Lib.hid h4z
      have H5Z := Lib.hid h5z
      have HE6 := Lib.hid hE6
      have HD6 := Lib.hid hD6
      have HI6 := Lib.hid hI6
      have z0 := h4z.cell 0 (v := .int .i64 0) rfl
      have z1 := h4z.cell 1 (v := .int .i64 0) rfl
      have z2 := h4z.cell 2 (v := .int .i64 0) rfl
      have z3 := h4z.cell 3 (v := .int .i64 0) rfl
      have z4 := h4z.cell 4 (v := .slice none 0 0) rfl
      have z5 := h4z.cell 5 (v := .int .i64 0) rfl
      have z6 := h4z.cell 6 (v := .slice none 0 0) rfl
      have y0 := h4z.free 0
      have y1 := h4z.free 1
      have y2 := h4z.free 2
      have y3 := h4z.free 3
      have y4 := h4z.free 4
      have y5 := h4z.free 5
      have y6 := h4z.free 6
      have yl := h4z.lt
      have g0 := h5z.cell 0 (v := .slice none 0 0) rfl
      have g1 := h5z.cell 1 (v := .slice none 0 0) rfl
      have g2 := h5z.cell 2 (v := .slice none 0 0) rfl
      have f0 := h5z.free 0
      have f1 := h5z.free 1
      have f2 := h5z.free 2
      have gl := h5z.lt
      have nz1 : ¬ w.heap.size + 1 + 1 = w.heap.size + 1 + 1 + 1 := by omega
      have nz2 : ¬ w.heap.size + 1 + 1 + 1 = w.heap.size + 1 + 1 := by omega
      clear h4z h5z hE6 hB6 hF6 hD6 hI6 m0 m1 m2 ml n1
      refine anyI_one' 3 rfl (by kernel_rfl) (HFS.out) (fun Kd hKd => ?_)
      go_wp2
      refine anyI_one' 4 rfl (by kernel_rfl) ((setEn_frame (e := e1) (A := A1) (c := c1) (B := D) (d := dd) HFS.out (.inl (.inr (.inl rfl))))) (fun Kd hKd => ?_)
      go_wp2
      apply anyI_step 5 rfl (by kernel_rfl)
      focus (intro wI hI Kv hKv; go_simp; exact hKv)
      intro Kd hKd
      go_simp
      refine hKd _ ?_
      clear hKd Kd
      refine anyI_end (by kernel_rfl) ((setGn_frame (g := ⟨ps, tk, ls⟩) (P := P) (cp := cp) (T := T) (ct := ct) (L := L) (cl := cl) (setEn_frame (e := e1) (A := A1) (c := c1) (B := D) (d := dd) HFS.out (.inl (.inr (.inl rfl)))) (.inl (.inr (.inr rfl))))) (hQd _ _ ?_)
      clear hQd Qd
      go_wp2
      obtain ⟨q1, q2, q3⟩ := tk_end (e' := e1) (A := A1) (c := c1) (D := D) (d := dd) (g := ⟨ps, tk, ls⟩) (P := P) (cp := cp) (T := T) (ct := ct) (L := L) (cl := cl) H4Z.out H5Z.out
      have hl1 := load26 q1
      have hl2 := load47 q2
      refine bodyPost_ret (v := .tuple #[enV e1 A1 c1 D dd, gnV ⟨ps, tk, ls⟩ P cp T ct L cl, .int .i64 0]) (results_cct rfl rfl rfl rfl hl1 hl2) rfl ?_
      have hSz := HFx.out.size
      have hown : ∀ {e : TypeId} {size n : Nat} {v : Value} {xs : List Value}, X.ownsRow N e size v n xs → e ≠ 86 → e ≠ 38 → e ≠ 44 → World.ownsRow (setGn (setEn w6 (w.heap.size + 1 + 1) e1 A1 c1 D dd) (w.heap.size + 1 + 1 + 1) ⟨ps, tk, ls⟩ P cp T ct L cl) N e size v n xs := fun hr h1 h2 h3 => by
       have hr6 := own_frame hr HFx.out (fun g hg e2 => own_ne hr HTS.out.xs.box h1 (by rw [hg, e2]))
       exact own_frame hr6 q3 (fun g hg e2 => by
        rcases e2 with e2 | e2
        ·exact own_ne hr6 H4Z.out h2 (by rw [hg, e2])
        ·exact own_ne hr6 H5Z.out h3 (by rw [hg, e2]))
      have hnx : ∀ b cur, Blk X b (.cells cur 53) → ¬ b = bx := fun b cur hb e2 => blk_ne hb HTS.out.xs.box (by decide) e2
      have hrow6 := HTS.out.row.frame HFx.out hnx
      have hn45 : ∀ b cur, Blk w6 b (.cells cur 53) → ¬ (b = w.heap.size + 1 + 1 ∨ b = w.heap.size + 1 + 1 + 1) := fun b cur hb e2 => by
       rcases e2 with e2 | e2
       ·exact blk_ne hb H4Z.out (by decide) e2
       ·exact blk_ne hb H5Z.out (by decide) e2
      refine ⟨A1, c1, D, dd, P, cp, T, ct, L, cl, by rw [HEND.out], by rw [HEND.out]; exact ⟨hrow6.cells HE6.out.out q3 hn45, HE6.out.inn.frame q3 (fun _ a ha e2 => by have h1 := HD6.out a ha; have h2 := H4Z.out; have h4l := HTS.out.k4.lt; have h5l := HTS.out.k5.lt; have hsd : X.drew.heap.size = X.heap.size := rfl; rcases e2 with e2 | e2 <;> omega)⟩, by rw [HEND.out]; exact ⟨(Cells.of_own (hown HTS.out.rps (by decide) (by decide) (by decide)) (by rw [pks_len]; exact HPSL.out)).1, (Cells.of_own (hown HTS.out.rtk (by decide) (by decide) (by decide)) (by rw [strs_len]; exact HTKL.out)).1, (Cells.of_own (hown HTS.out.rls (by decide) (by decide) (by decide)) (by rw [strs_len]; exact HLSL.out)).1⟩, HTS.out.xs.nil, by rw [HEND.out]; exact HTS.out.xs.cap, by rw [HEND.out]; exact hrow6.frame q3 hn45, by rw [HEND.out]; exact HI6.out.frame q3 (fun b cur hb e2 => by rcases e2 with e2 | e2; exact blk_ne hb H4Z.out (by decide) e2; exact blk_ne hb H5Z.out (by decide) e2), fun a ha => by have h1 := (HTS.out.rtk.lt a.block (by rw [ha]; rfl)).1; have h2 := HTS.out.oN; omega, fun a ha => by have h1 := (HTS.out.rps.lt a.block (by rw [ha]; rfl)).1; have h2 := HTS.out.oN; omega, fun a ha => by have h1 := (HTS.out.rls.lt a.block (by rw [ha]; rfl)).1; have h2 := HTS.out.oN; omega, own_nil HTS.out.rtk, own_nil HTS.out.rls, ?_⟩
      exact (HTS.out.below.trans (HFx.out.below (B := w.heap.size) (fun b e2 => by have := HTS.out.ox; omega) (by omega))).trans (q3.below (B := w.heap.size) (fun b e2 => by rcases e2 with e2 | e2 <;> omega) (by omega))
theorem take_any (e : En) (A : Option Addr) (c : Nat) (Bi : Option Addr) (d : Nat) (p : Pk) (w : World) (h : EnAt w e A Bi) (hA0 : A = none → e.out.length = 0 ∧ c = 0) (hts : p.t.size ≤ 1000000) :
  Calls Tryd.prog 11 #[enV e A c Bi d, pkV p] w (TakePost e p w) := by
 cases hg : goodB e with
 | false => exact take_bad e A c Bi d p w h hts (by rw [hg]; rfl)
 | true =>
  cases hp : properB p with
  | false => exact take_bad e A c Bi d p w h hts (by rw [hg, hp]; rfl)
  | true => exact take_go e A c Bi d p w h hA0 hts hg hp
end Go.Proofs.YtejabnoidhlfaaaDoor
