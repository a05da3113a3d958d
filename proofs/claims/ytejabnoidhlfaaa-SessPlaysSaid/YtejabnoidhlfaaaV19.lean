/- Contracts and lemmas that the claim uses. -/
import Derived.Test.YtejabnoidhlfaaaV18
import Derived.Test.YtejabnoidhlfaaaV14
import Derived.Deep.CutRange
set_option maxRecDepth 100000
set_option maxHeartbeats 16000000
namespace Go.Proofs.Ytejabnoidhlfaaa
open Go.RowKit Go.Maps
theorem pks_app (a b : List Pk) : pks (a ++ b) = pks a ++ pks b := by simp [pks]
theorem row_of_own {w : World} {B c : Nat} {A : Option Addr} {l : List Ou} (h : w.ownsRow B 71 2 (.slice A l.length c) l.length (ous l)) : RowAt w B A l := fun hn => by
 rcases h.2 with ⟨_, h0⟩ | ⟨g, cap, cur, hv, hb, hh, _⟩
 ·exact absurd (List.eq_nil_of_length_eq_zero h0) hn
 ·injection hv with h1; exact ⟨g, 0, cur, h1, hb, hh⟩
theorem tb_all {e1 e2 e3 e4 : En} {ls ts : List ByteArray} {p : Pk} {mine b2 kh kn kd : Bool} (hm : (p.to == e1.life) = mine) (h2 : (e1.phase == 2) = b2) (hk : (p.kind == 1) = kh) (hn : (p.kind != 1) = kn) (hd : (p.kind == 2) = kd)
  (he2 : (if mine && b2 then ({ e1 with phase := 3 } : En) else e1) = e2) (he3 : (if mine && kn then ackedA e2 p (flyN e1) else e2) = e3) (he4 : (if mine && kd then cameA e3 p else (e3, [])) = (e4, ts)) :
  takeB e1 ls p = (e4, ⟨(if mine then [] else [helloA e4]) ++ fromA e4 (e1.base + (flyN e1 : Int) - e4.base).toNat ++ (if mine && b2 && kh || (mine && kd) then [reportA e4] else []), ts, ls⟩, 0) := by
 unfold takeB; simp only [hm, h2, hk, hn, hd, he2, he3, he4]
theorem take_go (e : En) (A : Option Addr) (c : Nat) (Bi : Option Addr) (d : Nat) (p : Pk) (w : World) (h : EnAt w e A Bi) (hA0 : A = none → e.out.length = 0 ∧ c = 0) (hts : p.t.size ≤ 1000000) (hgood : goodB e = true) (hproper : properB p = true) :
  Calls Try.prog 20 #[enV e A c Bi d, pkV p] w (TakePost e p w) := by
 have HG := Lib.hid (good_iff.1 hgood); have HPR := Lib.hid hproper; have HE := Lib.hid h; unfold enV pkV; go_enter Try.func20, Try.ntmps20
 go_wp2_with fail
 obtain ⟨W, hW⟩ : ∃ W, (((w.alloc (.cells #[.int .i64 e.life, .int .i64 e.peer, .int .i64 e.phase, .int .i64 e.base, .slice A e.out.length c, .int .i64 e.want, .slice Bi e.inn.length d] 26)).alloc (.cells #[.int .i64 p.kind, .int .i64 p.frm, .int .i64 p.to, .int .i64 p.num, .string p.t, .int .i64 p.ack, .int .i64 p.held] 44)).alloc (.cells #[.int .i64 0, .int .i64 0, .int .i64 0, .int .i64 0, .slice none 0 0, .int .i64 0, .slice none 0 0] 26)).alloc (.cells #[.slice none 0 0, .slice none 0 0, .slice none 0 0] 47) = W := ⟨_, rfl⟩; rw [hW]; have HB0 : Hid (Below w.heap.size w W) := by rw [← hW]; exact ((((Below.refl _ w).alloc (Nat.le_refl _) _).alloc (by simp) _).alloc (by simp; omega) _).alloc (by simp; omega) _
 have hsW : W.heap.size = w.heap.size + 4 := by rw [← hW]; simp
 have HK1 : Hid (Blk W w.heap.size (.cells (enB e A c Bi d) 26)) := by rw [← hW]; exact (((Blk.new _ _).alloc _).alloc _).alloc _
 have HK3 : Hid (Blk W (w.heap.size + 1) (.cells (pkB p) 44)) := by
  rw [← hW]; have e1 := Blk.new (w.alloc (.cells #[.int .i64 e.life, .int .i64 e.peer, .int .i64 e.phase, .int .i64 e.base, .slice A e.out.length c, .int .i64 e.want, .slice Bi e.inn.length d] 26)) (.cells #[.int .i64 p.kind, .int .i64 p.frm, .int .i64 p.to, .int .i64 p.num, .string p.t, .int .i64 p.ack, .int .i64 p.held] 44); rw [World.size_alloc] at e1; exact (e1.alloc _).alloc _
 have HK4 : Hid (Blk W (w.heap.size + 1 + 1) (.cells (enB noEn none 0 none 0) 26)) := by
  rw [← hW]; have e1 := Blk.new ((w.alloc (.cells #[.int .i64 e.life, .int .i64 e.peer, .int .i64 e.phase, .int .i64 e.base, .slice A e.out.length c, .int .i64 e.want, .slice Bi e.inn.length d] 26)).alloc (.cells #[.int .i64 p.kind, .int .i64 p.frm, .int .i64 p.to, .int .i64 p.num, .string p.t, .int .i64 p.ack, .int .i64 p.held] 44)) (.cells #[.int .i64 0, .int .i64 0, .int .i64 0, .int .i64 0, .slice none 0 0, .int .i64 0, .slice none 0 0] 26); rw [World.size_alloc, World.size_alloc] at e1; exact e1.alloc _
 have HK5 : Hid (Blk W (w.heap.size + 1 + 1 + 1) (.cells #[.slice none 0 0, .slice none 0 0, .slice none 0 0] 47)) := by
  rw [← hW]; have e1 := Blk.new (((w.alloc (.cells #[.int .i64 e.life, .int .i64 e.peer, .int .i64 e.phase, .int .i64 e.base, .slice A e.out.length c, .int .i64 e.want, .slice Bi e.inn.length d] 26)).alloc (.cells #[.int .i64 p.kind, .int .i64 p.frm, .int .i64 p.to, .int .i64 p.num, .string p.t, .int .i64 p.ack, .int .i64 p.held] 44)).alloc (.cells #[.int .i64 0, .int .i64 0, .int .i64 0, .int .i64 0, .slice none 0 0, .int .i64 0, .slice none 0 0] 26)) (.cells #[.slice none 0 0, .slice none 0 0, .slice none 0 0] 47); rw [World.size_alloc, World.size_alloc, World.size_alloc] at e1; exact e1
 clear hW; refine (fine_any e A c Bi d W (HE.out.below HB0.out)).mono ?_; rintro r w1 ⟨rfl, hB1⟩; have HB1 := Lib.hid hB1; clear hB1; rw [hgood]; have h3 := HK3.out.below HB1.out (by omega); obtain ⟨d0, d1, d2, d3, d4, d5, d6, dl⟩ := Blk.d7 h3; clear h3; go_wp2_with fail
 refine (proper_any p w1 hts).mono ?_; rintro r w2 ⟨rfl, hB2⟩; rw [hproper]; have HB2 : Hid (Below W.heap.size W w2) := below_in HB1.out hB2; clear hB2 d0 d1 d2 d3 d4 d5 d6 dl; have h1 := HK1.out.below HB2.out (by omega); obtain ⟨d0, d1, d2, d3, d4, d5, d6, dl⟩ := Blk.d7 h1; clear h1; go_wp2_with fail
 refine (open_any e A c Bi d w2 (HE.out.below (HB0.out.trans (HB2.out.mono (by omega)))) HG.out hA0).mono ?_; rintro r w3 ⟨bx, bm, A1, c1, rfl, hX3, ho3, hbx, hbm, hB3⟩; clear d0 d1 d2 d3 d4 d5 d6 dl; go_wp2_with fail
 obtain ⟨X, hX⟩ : ∃ X, w3.alloc (.cells #[.slice none 0 0, .slice none 0 0, .slice none 0 0] 47) = X := ⟨_, rfl⟩; rw [hX]; obtain ⟨bg, hbg⟩ : ∃ bg, w3.heap.size = bg := ⟨_, rfl⟩; rw [hbg]; obtain ⟨ps, Hps⟩ : ∃ ps : List Pk, Hid (ps = []) := ⟨[], rfl⟩; obtain ⟨tk, Htk⟩ : ∃ tk : List ByteArray, Hid (tk = []) := ⟨[], rfl⟩; obtain ⟨ls, Hls⟩ : ∃ ls : List ByteArray, Hid (ls = []) := ⟨[], rfl⟩; obtain ⟨N, hN⟩ : ∃ N, X.heap.size = N := ⟨_, rfl⟩; obtain ⟨vi, hvi⟩ : ∃ vi, Value.slice Bi e.inn.length d = vi := ⟨_, rfl⟩; obtain ⟨P, cp, T, ct, L, cl, HTS⟩ : ∃ P cp T ct L cl, Hid (Ts w X bx bm bg (w.heap.size + 1) (w.heap.size + 1 + 1) (w.heap.size + 1 + 1 + 1) N e p A1 c1 vi (.slice P ps.length cp) ps T ct tk L cl ls) := by
  refine ⟨none, 0, none, 0, none, 0, ?_⟩; have hs2 := HB2.out.size; have hs3 := hB3.size; have hbX : Below w3.heap.size w3 X := by rw [← hX]; exact (Below.refl _ w3).alloc (Nat.le_refl _) _
  have hsX : X.heap.size = w3.heap.size + 1 := by rw [← hX]; simp
  have hb23 : Below W.heap.size W X := below_in HB2.out (hB3.trans (hbX.mono hs3)); rw [hvi] at hX3; show Ts _ _ _ _ _ _ _ _ _ _ _ _ _ _ _ _ _ _ _ _ _ _; rw [Hps.out, Htk.out, Hls.out]; refine ⟨hX3.below hbX, (row_of_own (own_mono ho3 (by omega))).frame (Frame.of_all (S := fun _ => False) hbX) (fun _ _ _ h => h), by rw [← hX, ← hbg]; exact Blk.new _ _, World.ownsRow_nil _ _ _ _, World.ownsRow_nil _ _ _ _, World.ownsRow_nil _ _ _ _, HK3.out.below hb23 (by omega), HK4.out.below hb23 (by omega), HK5.out.below hb23 (by omega), HB0.out.trans (hb23.mono (by omega)), by omega, by omega, by omega, by omega, by omega, by omega, by omega, by omega, by omega, by omega⟩
 clear hX hbg hN hvi hX3 ho3 hbx hbm hB3; have hSX := HTS.out.nN; have hpsb : ps.length ≤ 0 := by rw [Hps.out]; exact Nat.le_refl _
 have htkb : tk.length ≤ 0 := by rw [Htk.out]; exact Nat.le_refl _
 have hoN := HTS.out.oN; obtain ⟨e1, He1⟩ : ∃ e1, Hid (e = e1) := ⟨e, rfl⟩; have HTK : Hid (takeA e p = takeA e1 p) := by show _ = _; rw [He1.out]
 have G1 : Hid (GoodP e1) := by show GoodP _; rw [← He1.out]; exact HG.out
 rw [He1.out] at HTS; have k3 := HTS.out.k3; have bxx := HTS.out.xs.box; obtain ⟨t0, t1, t2, t3, t4, t5, t6, tl⟩ := Blk.d7 k3; have u0 := bxx.cell 0 (v := .int .i64 e1.life) rfl; have u1 := bxx.cell 1 (v := .int .i64 e1.peer) rfl; have u2 := bxx.cell 2 (v := .int .i64 e1.phase) rfl; have ul := bxx.lt; clear k3 bxx; by_cases hdrop : p.frm < e1.peer
 ·have HEND : Hid (takeA e p = (e1, ⟨ps, tk, ls⟩, 0)) := by
   show _ = _; rw [HTK.out, Hps.out, Htk.out, Hls.out]; unfold takeA; rw [← He1.out] at hdrop ⊢; rw [hgood, hproper]; simp only [Bool.and_self, Bool.true_eq_false, if_false]; rw [if_pos hdrop]; rfl
  have HPSL : Hid (ps.length * 7 ≤ 17592186043904) := by show _ ≤ _; rw [Hps.out]; simp
  have HTKL : Hid (tk.length ≤ 17592186043904) := by show _ ≤ _; rw [Htk.out]; simp
  have HLSL : Hid (ls.length ≤ 17592186043904) := by show _ ≤ _; rw [Hls.out]; simp
  refine sall (by kernel_rfl) (by kernel_rfl) (fun Kq hKq => ?_); repeat still_step
  refine wpStill_nil (hKq _ ?_); clear hKq Kq; go_wp2; clear t0 t1 t2 t3 t4 t5 t6 tl u0 u1 u2 ul; have HTS := Lib.hid HTS.out.drew; generalize X.drew = X at HTS ⊢; have HNE : Hid (ous e1.out ≠ [] → ∀ a, A1 = some a → a.block ≠ bx) := fun hn a ha e2 => by
   obtain ⟨b, off, cur, h1, h2, h3⟩ := HTS.out.row (by rintro h0; exact hn (by rw [h0]; rfl)); rw [h1] at ha; injection ha with ha; rw [← ha] at e2; exact blk_ne h3 HTS.out.xs.box (by decide) e2
  have hg := HTS.out.g; obtain ⟨m0, m1, m2, ml⟩ := Blk.d3 hg; have n1 : ¬ (bg = bx ∨ bg = w.heap.size + 1 + 1 ∨ bg = w.heap.size + 1 + 1 + 1) := fun e2 => by
   rcases e2 with e2 | e2 | e2
   ·exact blk_ne hg HTS.out.xs.box (by decide) e2
   ·exact blk_ne hg HTS.out.k4 (by decide) e2
   ·exact HTS.out.ng5 e2
  have hnN := HTS.out.nN; have hoN2 := HTS.out.oN; clear hg; refine draw (fun w' => Frame (fun b => b = bx ∨ b = w.heap.size + 1 + 1 ∨ b = w.heap.size + 1 + 1 + 1) X w') 6 rfl (by kernel_rfl) (fun Qd hQd => ?_); iterate 2 (first | apply sI 0 (by rfl) rfl (by kernel_rfl) | apply sI 2 (by rfl) rfl (by kernel_rfl)); (focus intro wI hI Kv hKv; have t0 := cell_frame hI ml n1 m0; have t1 := cell_frame hI ml n1 m1; have t2 := cell_frame hI ml n1 m2; go_simp; exact hKv); intro Kd hKd; go_simp; refine hKd _ ?_; clear hKd Kd
  refine anyI_one' 1 rfl (by kernel_rfl) ((Frame.refl _ X).drew) (fun Kd hKd => ?_); go_wp2_with (go_at_call 42; go_must (refine (shut_any bx bm e1 A1 c1 vi w.heap.size _ HTS.out.xs.drew G1.out HTS.out.ox (by show w.heap.size ≤ X.heap.size; omega) HNE.out).mono ?_); rintro r w6 ⟨D, dd, rfl, hE6, hB6, hF6, hD6, hI6⟩; unfold enV)
  have HFx : Hid (Frame (fun b => b = bx) X w6) := (Frame.refl (fun b => b = bx) X).drew.trans hF6 (fun _ _ h => h); have HFS : Hid (Frame (fun b => b = bx ∨ b = w.heap.size + 1 + 1 ∨ b = w.heap.size + 1 + 1 + 1) X w6) := HFx.out.mono (fun b _ e2 => .inl e2); have h4z := HTS.out.k4.frame HFx.out (fun e2 => blk_ne HTS.out.k4 HTS.out.xs.box (by decide) e2); have h5z := HTS.out.k5.frame HFx.out (fun e2 => blk_ne HTS.out.k5 HTS.out.xs.box (by decide) e2); have H4Z := Lib.hid h4z; have H5Z := Lib.hid h5z; have HE6 := Lib.hid hE6; have HD6 := Lib.hid hD6; have HI6 := Lib.hid hI6; obtain ⟨z0, z1, z2, z3, z4, z5, z6⟩ := Blk.c7 h4z; obtain ⟨y0, y1, y2, y3, y4, y5, y6, yl⟩ := Blk.g7 h4z; obtain ⟨g0, g1, g2⟩ := Blk.c3 h5z; obtain ⟨f0, f1, f2, gl⟩ := Blk.g3 h5z; have nz1 : ¬ w.heap.size + 1 + 1 = w.heap.size + 1 + 1 + 1 := by omega
  have nz2 : ¬ w.heap.size + 1 + 1 + 1 = w.heap.size + 1 + 1 := by omega
  clear h4z h5z hE6 hB6 hF6 hD6 hI6 m0 m1 m2 ml n1; refine anyI_one' 3 rfl (by kernel_rfl) (HFS.out) (fun Kd hKd => ?_); go_wp2; refine anyI_one' 4 rfl (by kernel_rfl) ((setEn_frame (e := e1) (A := A1) (c := c1) (B := D) (d := dd) HFS.out (.inl (.inr (.inl rfl))))) (fun Kd hKd => ?_); go_wp2; apply anyI_step 5 rfl (by kernel_rfl); (focus intro wI hI Kv hKv; go_simp; exact hKv); intro Kd hKd; go_simp; refine hKd _ ?_; clear hKd Kd
  refine anyI_end (by kernel_rfl) ((setGn_frame (g := ⟨ps, tk, ls⟩) (P := P) (cp := cp) (T := T) (ct := ct) (L := L) (cl := cl) (setEn_frame (e := e1) (A := A1) (c := c1) (B := D) (d := dd) HFS.out (.inl (.inr (.inl rfl)))) (.inl (.inr (.inr rfl))))) (hQd _ _ ?_); clear hQd Qd; go_wp2; obtain ⟨q1, q2, q3⟩ := tk_end (e' := e1) (A := A1) (c := c1) (D := D) (d := dd) (g := ⟨ps, tk, ls⟩) (P := P) (cp := cp) (T := T) (ct := ct) (L := L) (cl := cl) H4Z.out H5Z.out; have hl1 := load26 q1; have hl2 := load47 q2; refine bodyPost_ret (v := .tuple #[enV e1 A1 c1 D dd, gnV ⟨ps, tk, ls⟩ P cp T ct L cl, .int .i64 0]) (results_cct rfl rfl rfl rfl hl1 hl2) rfl ?_; have hSz := HFx.out.size; have hown : ∀ {e : TypeId} {size n : Nat} {v : Value} {xs : List Value}, X.ownsRow N e size v n xs → e ≠ 84 → e ≠ 26 → e ≠ 47 → World.ownsRow (setGn (setEn w6 (w.heap.size + 1 + 1) e1 A1 c1 D dd) (w.heap.size + 1 + 1 + 1) ⟨ps, tk, ls⟩ P cp T ct L cl) N e size v n xs := fun hr h1 h2 h3 => by
   have hr6 := own_frame hr HFx.out (fun g hg e2 => own_ne hr HTS.out.xs.box h1 (by rw [hg, e2])); exact own_frame hr6 q3 (fun g hg e2 => by
    rcases e2 with e2 | e2
    ·exact own_ne hr6 H4Z.out h2 (by rw [hg, e2])
    ·exact own_ne hr6 H5Z.out h3 (by rw [hg, e2]))
  have hnx : ∀ b cur, Blk X b (.cells cur 71) → ¬ b = bx := fun b cur hb e2 => blk_ne hb HTS.out.xs.box (by decide) e2; have hrow6 := HTS.out.row.frame HFx.out hnx; have hn45 : ∀ b cur, Blk w6 b (.cells cur 71) → ¬ (b = w.heap.size + 1 + 1 ∨ b = w.heap.size + 1 + 1 + 1) := fun b cur hb e2 => by
   rcases e2 with e2 | e2
   ·exact blk_ne hb H4Z.out (by decide) e2
   ·exact blk_ne hb H5Z.out (by decide) e2
  refine ⟨A1, c1, D, dd, P, cp, T, ct, L, cl, by rw [HEND.out], by rw [HEND.out]; exact ⟨hrow6.cells HE6.out.out q3 hn45, HE6.out.inn.frame q3 (fun _ a ha e2 => by have h1 := HD6.out a ha; have h2 := H4Z.out; have h4l := HTS.out.k4.lt; have h5l := HTS.out.k5.lt; have hsd : X.drew.heap.size = X.heap.size := rfl; rcases e2 with e2 | e2 <;> omega)⟩, by rw [HEND.out]; exact ⟨(Cells.of_own (hown HTS.out.rps (by decide) (by decide) (by decide)) (by rw [pks_len]; exact HPSL.out)).1, (Cells.of_own (hown HTS.out.rtk (by decide) (by decide) (by decide)) (by rw [strs_len]; exact HTKL.out)).1, (Cells.of_own (hown HTS.out.rls (by decide) (by decide) (by decide)) (by rw [strs_len]; exact HLSL.out)).1⟩, HTS.out.xs.nil, by rw [HEND.out]; exact HTS.out.xs.cap, by rw [HEND.out]; exact hrow6.frame q3 hn45, by rw [HEND.out]; exact HI6.out.frame q3 (fun b cur hb e2 => by rcases e2 with e2 | e2; exact blk_ne hb H4Z.out (by decide) e2; exact blk_ne hb H5Z.out (by decide) e2), fun a ha => by have h1 := (HTS.out.rtk.lt a.block (by rw [ha]; rfl)).1; have h2 := HTS.out.oN; omega, fun a ha => by have h1 := (HTS.out.rps.lt a.block (by rw [ha]; rfl)).1; have h2 := HTS.out.oN; omega, fun a ha => by have h1 := (HTS.out.rls.lt a.block (by rw [ha]; rfl)).1; have h2 := HTS.out.oN; omega, own_nil HTS.out.rtk, own_nil HTS.out.rls, ?_⟩
  exact (HTS.out.below.trans (HFx.out.below (B := w.heap.size) (fun b e2 => by have := HTS.out.ox; omega) (by omega))).trans (q3.below (B := w.heap.size) (fun b e2 => by rcases e2 with e2 | e2 <;> omega) (by omega))
 ·have HDR : Hid (¬ p.frm < e1.peer) := hdrop; have q1 : decide (p.frm < e1.peer) = false := decide_eq_false hdrop; refine sall (by kernel_rfl) (by kernel_rfl) (fun Kq hKq => ?_); repeat still_step
  refine wpStill_nil (hKq _ ?_); clear hKq Kq; go_wp2; clear t0 t1 t2 t3 t4 t5 t6 tl u0 u1 u2 ul; have HTS := Lib.hid HTS.out.drew; generalize X.drew = X at HTS ⊢; have k3 := HTS.out.k3; have bxx := HTS.out.xs.box; obtain ⟨t0, t1, t2, t3, t4, t5, t6, tl⟩ := Blk.d7 k3; have u0 := bxx.cell 0 (v := .int .i64 e1.life) rfl; have u1 := bxx.cell 1 (v := .int .i64 e1.peer) rfl; have u2 := bxx.cell 2 (v := .int .i64 e1.phase) rfl; have ul := bxx.lt; clear k3 bxx; obtain ⟨ov, hovd⟩ : ∃ b, decide (e1.peer < p.frm) = b := ⟨_, rfl⟩; have hpf := proper_from HPR.out; refine sall (by kernel_rfl) (by kernel_rfl) (fun Kq hKq => ?_); repeat still_step
  refine wpStill_nil (hKq _ ?_); clear hKq Kq; go_upto_if 42 with fail
  go_cut [] from 12 (fun wx => ∃ e2 A2 c2 L2 cl2 ls2, Ts w wx bx bm bg (w.heap.size + 1) (w.heap.size + 1 + 1) (w.heap.size + 1 + 1 + 1) N e2 p A2 c2 vi (.slice P ps.length cp) ps T ct tk L2 cl2 ls2 ∧ (GoodP e2 ∧ e2.phase ≠ 1) ∧ takeA e p = takeB e2 ls2 p ∧ ls2.length ≤ 12)
  case first =>
   cases ov with
   | true =>
    have hov : e1.peer < p.frm := of_decide_eq_true hovd; go_wp2_with fail
    refine (begin_any w.heap.size bx bm e1 A1 c1 vi p.frm X.drew HTS.out.drew.xs HTS.out.drew.row (fun h => HTS.out.noOut h) G1.out HTS.out.ox HTS.out.om (by have := HTS.out.nN; have := HTS.out.oN; show w.heap.size ≤ X.heap.size; omega)).mono ?_; rintro r X2 ⟨⟨T', d', rfl, hL'⟩, ⟨A', c', hx', hr'⟩, hB', hF'⟩; have HT2 := Lib.hid (HTS.out.drew.x hF' hx' hr' hB'); have HL' : Hid (X2.ownsRow N 9 1 (.slice T' (overA e1 p.frm).2.length d') (overA e1 p.frm).2.length (strs (overA e1 p.frm).2)) := own_mono hL' (by have := HTS.out.nN; exact this); have hg2 := HT2.out.g; have r0 := hg2.cell 2 (v := .slice L ls.length cl) rfl; have r1 := hg2.free 2; have r2 := hg2.lt; clear t0 t1 t2 t3 t4 t5 t6 tl u0 u1 u2 ul; clear hL' hx' hr' hB' hF' hg2; go_wp2_with fail
    go_meet; have HT3 := HT2.out.lost HL'.out; exact ⟨(overA e1 p.frm).1, A', c', T', d', (overA e1 p.frm).2, HT3, ⟨over_good G1.out hpf.1 hpf.2.1, by show ¬ (2 : Int) = 1; omega⟩, (by rw [He1.out]; exact tk_go (by rw [← He1.out]; exact hgood) hproper (by have := HDR.out; omega) (if_pos hov)), (by have := G1.out.len; simp [overA]; omega)⟩
   | false =>
    have hov : ¬ e1.peer < p.frm := of_decide_eq_false hovd; go_wp2_with fail
    go_meet; exact ⟨e1, A1, c1, L, cl, ls, HTS.out.drew, ⟨G1.out, fun h1 => by
     have := (G1.out.cl (by omega)).2.2.2; have := HDR.out; omega⟩, (by rw [He1.out, Hls.out]; exact tk_go (by rw [← He1.out]; exact hgood) hproper (by have := HDR.out; omega) (if_neg (by omega))), (by rw [Hls.out]; exact Nat.zero_le _)⟩
  case rest =>
   obtain ⟨Y, rfl⟩ : ∃ Y, Y = wc := ⟨wc, rfl⟩; obtain ⟨e2, A2, c2, L2, cl2, ls2, hT4, hG2, hTG, hLS⟩ := hcut; have HTS2 := Lib.hid hT4; have HTG : Hid (takeA e p = takeB e2 ls2 p) := hTG; have G12 : Hid (GoodP e2) := hG2.1; have HPH : Hid (e2.phase ≠ 1) := hG2.2; have HLS : Hid (ls2.length ≤ 12) := hLS; clear t0 t1 t2 t3 t4 t5 t6 tl u0 u1 u2 ul; clear HTS He1 HTK hdrop HDR q1 G1 hT4 hG2 hTG hLS hovd; have HTS := HTS2; have G1 := G12; clear HTS2 G12; generalize Y = X at HTS ⊢; generalize A2 = A1 at HTS; generalize c2 = c1 at HTS; generalize L2 = L at HTS; generalize cl2 = cl at HTS; generalize e2 = e1 at HTS HTG G1 HPH ⊢; generalize ls2 = ls at HTS HTG HLS; go_wp2_with fail
   obtain ⟨F, HF⟩ : ∃ F, Hid (flyN e1 = F) := ⟨_, rfl⟩; have HF4 : Hid (F ≤ 4) := by show _ ≤ _; rw [← HF.out]; exact (fly_le e1).2
   have hol := G1.out.len; refine (sent_any bx bm e1 A1 c1 vi X HTS.out.xs (fun h => HTS.out.noOut h) (by omega)).mono ?_; rintro r w9 ⟨⟨As, rfl, _⟩, rfl⟩; rw [HF.out]; obtain ⟨mine, hmine⟩ : ∃ b, (p.to == e1.life) = b := ⟨_, rfl⟩; obtain ⟨b2, hb2⟩ : ∃ b, (e1.phase == 2) = b := ⟨_, rfl⟩; obtain ⟨kh, hkh⟩ : ∃ b, (p.kind == 1) = b := ⟨_, rfl⟩; obtain ⟨kn, hkn⟩ : ∃ b, (p.kind != 1) = b := ⟨_, rfl⟩; obtain ⟨kd, hkd⟩ : ∃ b, (p.kind == 2) = b := ⟨_, rfl⟩; obtain ⟨e0, HE0⟩ : ∃ e0, Hid (e1 = e0) := ⟨_, rfl⟩; have HM0 : Hid ((p.to == e0.life) = mine) := by rw [← HE0.out]; exact hmine
   have H20 : Hid ((e0.phase == 2) = b2) := by rw [← HE0.out]; exact hb2
   have HF0 : Hid (flyN e0 = F) := by rw [← HE0.out]; exact HF.out
   rw [HE0.out] at HTG; have HB2 := Lib.hid hb2; have HKH := Lib.hid hkh; have HKN := Lib.hid hkn; have HKD := Lib.hid hkd; obtain ⟨mb, HMB⟩ : ∃ b, Hid ((mine && b2) = b) := ⟨_, rfl⟩; obtain ⟨op, HOP⟩ : ∃ b, Hid ((mine && b2 && kh) = b) := ⟨_, rfl⟩; obtain ⟨ma, HMA⟩ : ∃ b, Hid ((mine && kn) = b) := ⟨_, rfl⟩; obtain ⟨tb, HTT⟩ : ∃ b, Hid ((op || (mine && kd)) = b) := ⟨_, rfl⟩; have k3 := HTS.out.k3; have bxx := HTS.out.xs.box; obtain ⟨t0, t1, t2, t3, t4, t5, t6, tl⟩ := Blk.d7 k3; have u0 := bxx.cell 0 (v := .int .i64 e1.life) rfl; have u1 := bxx.cell 1 (v := .int .i64 e1.peer) rfl; have u2 := bxx.cell 2 (v := .int .i64 e1.phase) rfl; have ul := bxx.lt; clear k3 bxx; go_wp2; refine sall (by kernel_rfl) (by kernel_rfl) (fun Kq hKq => ?_); repeat still_step
   refine wpStill_nil (hKq _ ?_); clear hKq Kq; clear t0 t1 t2 t3 t4 t5 t6 tl u0 u1 u2 ul; have HTS := Lib.hid HTS.out.drew; generalize X.drew = X at HTS ⊢; have k3 := HTS.out.k3; have bxx := HTS.out.xs.box; obtain ⟨t0, t1, t2, t3, t4, t5, t6, tl⟩ := Blk.d7 k3; have u0 := bxx.cell 0 (v := .int .i64 e1.life) rfl; have u1 := bxx.cell 1 (v := .int .i64 e1.peer) rfl; have u2 := bxx.cell 2 (v := .int .i64 e1.phase) rfl; have ul := bxx.lt; clear k3 bxx; go_upto_region 12 with fail
   go_cut [67] from 12 (fun q wx => q = Value.bool mb ∧ wx = X)
   case first =>
    cases mine with
    | false =>
     go_wp2_with fail
     go_meet; exact ⟨by rw [← HMB.out]; rfl, rfl⟩
    | true =>
     go_wp2_with fail
     go_meet; exact ⟨by rw [← HMB.out]; cases b2 <;> rfl, rfl⟩
   obtain ⟨rfl, hwc⟩ := hcut; obtain rfl := hwc.symm; clear hwc; go_upto_if 67 with fail
   go_cut [11] from 12 (fun v11 wx => ∃ e2 : En, v11 = Value.bool op ∧ (if mine && b2 then ({ e1 with phase := 3 } : En) else e1) = e2 ∧ Ts w wx bx bm bg (w.heap.size + 1) (w.heap.size + 1 + 1) (w.heap.size + 1 + 1 + 1) N e2 p A1 c1 vi (.slice P ps.length cp) ps T ct tk L cl ls ∧ (GoodP e2 ∧ (mine = true → e2.phase = 3)) ∧ e2.base = e1.base ∧ F ≤ flyN e2)
   case first =>
    cases mb with
    | false =>
     have HP3 : Hid (mine = true → e1.phase = 3) := fun h9 => by
      have h0 := HMB.out; rw [h9, Bool.true_and] at h0; have h1 := HB2.out; rw [h0] at h1; have h2 := beq_eq_false_iff_ne.1 h1; have h3 := HPH.out; by_cases h4 : e1.phase = 3
      ·exact h4
      ·have := (G1.out.cl h4).2.2.2; omega
     go_wp2_with fail
     go_meet; exact ⟨e1, by rw [← HOP.out, HMB.out]; rfl, if_neg (by rw [HMB.out]; decide), HTS.out, ⟨G1.out, HP3.out⟩, rfl, Nat.le_of_eq HF.out.symm⟩
    | true =>
     have hbb := HMB.out; rw [Bool.and_eq_true] at hbb; have HPP : Hid (e1.phase = 2) := by
      have h1 := HB2.out; rw [hbb.2] at h1; exact beq_iff_eq.1 h1
     clear hbb; go_wp2_with fail
     have nb : ¬ w.heap.size + 1 = bx := fun e2 => blk_ne HTS.out.k3 HTS.out.xs.box (by decide) e2; have y2 := HTS.out.xs.box.free 2; refine draw (fun w' => Frame (fun b => b = bx) X w') 9 rfl (by kernel_rfl) (fun Qd hQd => ?_); iterate 7 (first | apply sI 0 (by rfl) rfl (by kernel_rfl) | apply sI 1 (by rfl) rfl (by kernel_rfl) | apply sI 2 (by rfl) rfl (by kernel_rfl) | apply sI 4 (by rfl) rfl (by kernel_rfl) | apply sI 3 (by rfl) rfl (by kernel_rfl) | apply sI 5 (by rfl) rfl (by kernel_rfl) | apply sI 6 (by rfl) rfl (by kernel_rfl)); (focus intro wI hI Kv hKv; have t9 := cell_frame hI tl nb t0; go_simp; exact hKv); intro Kd hKd; go_simp; refine hKd _ ?_; clear hKd Kd
     refine anyI_one' 7 rfl (by kernel_rfl) ((Frame.refl _ X).drew) (fun Kd hKd => ?_); go_wp2; have F7 := (Frame.refl (fun b => b = bx) X).setCell (p := ⟨bx, 2, none⟩) (.inl rfl) (.int .i64 3); apply anyI_step 8 rfl (by kernel_rfl); (focus intro wI hI Kv hKv; go_simp; exact hKv); intro Kd hKd; go_simp; refine hKd _ ?_; clear hKd Kd
     refine anyI_end (by kernel_rfl) (F7.drew) (hQd _ _ ?_); clear hQd Qd; have HTn := Lib.hid (HTS.out.xset (e' := { e1 with phase := 3 }) 2 (.int .i64 3) (HTS.out.xs.box.set 2 _) rfl rfl).drew; have hf0 : F = 0 := by
      rw [← HF.out]; unfold flyN; rw [if_neg (by have := HPP.out; omega)]
     go_wp2_with fail
     go_meet; exact ⟨{ e1 with phase := 3 }, by rw [← HOP.out, HMB.out]; cases kh <;> rfl, if_pos HMB.out, HTn.out, ⟨opened_good G1.out HPP.out, fun _ => rfl⟩, rfl, by rw [hf0]; exact Nat.zero_le _⟩
   case rest =>
    clear t0 t1 t2 t3 t4 t5 t6 tl u0 u1 u2 ul; clear hmine hb2 hkh HB2 hol; obtain ⟨Y, rfl⟩ : ∃ Y, Y = wc := ⟨wc, rfl⟩; obtain ⟨e2, rfl, he2, hts, ⟨hg2, hph2⟩, hbs2, hF2⟩ := hcut; rw [HE0.out] at he2 hbs2; have HE2 := Lib.hid he2; have HBS := Lib.hid hbs2; have HP3 := Lib.hid hph2; have HFL := Lib.hid hF2; have HTS2 := Lib.hid hts; have G2 := Lib.hid hg2; clear he2 hts hg2 hph2 hbs2 hF2 HTS G1; generalize Y = X at HTS2 ⊢; have k3 := HTS2.out.k3; have bxx := HTS2.out.xs.box; obtain ⟨t0, t1, t2, t3, t4, t5, t6, tl⟩ := Blk.d7 k3; have u0 := bxx.cell 0 (v := .int .i64 e2.life) rfl; have u1 := bxx.cell 1 (v := .int .i64 e2.peer) rfl; have u2 := bxx.cell 2 (v := .int .i64 e2.phase) rfl; have ul := bxx.lt; clear k3 bxx; go_upto_region 14 with fail
    go_cut [80] from 12 (fun q wx => q = Value.bool ma ∧ wx = X)
    case first =>
     cases mine with
     | false =>
      go_wp2_with fail
      go_meet; exact ⟨by rw [← HMA.out]; rfl, rfl⟩
     | true =>
      go_wp2_with fail
      go_meet; exact ⟨by rw [← HMA.out]; cases kn <;> rfl, rfl⟩
    obtain ⟨rfl, hwc⟩ := hcut; obtain rfl := hwc.symm; clear hwc; go_upto_if 80 with fail
    go_cut [9] from 12 (fun v9 wx => ∃ (e4 : En) (A4 : Option Addr) (c4 : Nat) (T4 : Option Addr) (ct4 : Nat) (tk4 : List ByteArray) (NN : Nat), v9 = Value.int .i64 (NN : Int) ∧ NN ≤ 4 ∧ (if mine && kd then cameA (if mine && kn then ackedA e2 p F else e2) p else ((if mine && kn then ackedA e2 p F else e2), [])) = (e4, tk4) ∧ Ts w wx bx bm bg (w.heap.size + 1) (w.heap.size + 1 + 1) (w.heap.size + 1 + 1 + 1) N e4 p A4 c4 vi (.slice P ps.length cp) ps T4 ct4 tk4 L cl ls ∧ GoodP e4 ∧ e4.base + (NN : Int) = e2.base + (F : Int) ∧ tk4.length ≤ 4)
    case first =>
     cases ma with
     | false =>
      have HKF : Hid ((mine && kd) = false) := by
       show _ = _; have h1 := HMA.out; cases mine with
       | false => rfl
       | true =>
        rw [Bool.true_and] at h1; have h2 := HKN.out; rw [h1] at h2; have h3 : p.kind = 1 := by simpa using h2
        rw [← HKD.out, Bool.true_and]; exact beq_eq_false_iff_ne.2 (by omega)
      go_wp2_with fail
      go_meet; exact ⟨e2, A1, c1, T, ct, tk, F, rfl, HF4.out, by simp only [HKF.out, HMA.out, Htk.out, Bool.false_eq_true, if_false], HTS2.out, G2.out, rfl, by rw [Htk.out]; exact Nat.zero_le _⟩
     | true =>
      have hmk := HMA.out; rw [Bool.and_eq_true] at hmk; have HMK := Lib.hid hmk; have HK : Hid (p.kind = 2 ∨ p.kind = 3) := by
       show _ ∨ _; have h2 := HKN.out; rw [hmk.2] at h2; have h3 : ¬ p.kind = 1 := by simpa using h2
       have h4 := (proper_iff.1 HPR.out).2; omega
      have hheld : 0 ≤ p.held ∧ p.held ≤ 7 := by have := (proper_iff.1 HPR.out).2; have := HK.out; omega
      have hgF : goneA e2 p F ≤ F := (acked_base e2 p F).2.1; have HP4 := Lib.hid (HP3.out hmk.1); have hF4 := HF4.out; clear hmk; go_wp2_with fail
      refine (acked_any w.heap.size bx bm e2 A1 c1 vi p F X HTS2.out.xs HTS2.out.row G2.out HFL.out hheld HTS2.out.ox (by have := HTS2.out.nN; have := HTS2.out.oN; omega)).mono ?_; rintro r w5 ⟨rfl, A', c', hx5, hr5, hB5, hF5⟩; have HT5 := Lib.hid (HTS2.out.x (hF5.mono (fun b _ e2 => by rcases e2 with e2 | e2; exact .inl e2; exact .inr (.inr e2))) hx5 hr5 hB5); have HGA := Lib.hid (acked_good G2.out HP4.out p HFL.out); have HPA : Hid ((ackedA e2 p F).phase = 3) := by show _ = _; rw [(acked_base e2 p F).2.2.2.2]; exact HP4.out
      have hba := (acked_base e2 p F).1; clear hx5 hr5 hB5 hF5 hheld; obtain ⟨g, HGG⟩ : ∃ g, Hid (goneA e2 p F = g) := ⟨_, rfl⟩; rw [HGG.out] at hba hgF ⊢; obtain ⟨NN, HNN⟩ : ∃ NN, Hid (F - g = NN) := ⟨_, rfl⟩; have hwr : IntKind.i64.wrap ((F : Int) - (g : Int)) = (NN : Int) := by rw [wrap_ok ⟨by omega, by omega⟩, ← HNN.out]; omega
      have HN4 : Hid (NN ≤ 4) := by show _ ≤ _; have := HNN.out; omega
      obtain ⟨e3, HE3⟩ : ∃ e3, Hid (ackedA e2 p F = e3) := ⟨_, rfl⟩; rw [HE3.out] at HT5 HGA HPA hba; have HBA : Hid (e3.base + (NN : Int) = e2.base + (F : Int)) := by show _ = _; have := HNN.out; omega
      clear t0 t1 t2 t3 t4 t5 t6 tl u0 u1 u2 ul; clear hba hgF hF4; have k3 := HT5.out.k3; have bxx := HT5.out.xs.box; obtain ⟨t0, t1, t2, t3, t4, t5, t6, tl⟩ := Blk.d7 k3; have u0 := bxx.cell 0 (v := .int .i64 e3.life) rfl; have u1 := bxx.cell 1 (v := .int .i64 e3.peer) rfl; have u2 := bxx.cell 2 (v := .int .i64 e3.phase) rfl; have ul := bxx.lt; clear k3 bxx; cases kd with
      | false =>
       go_wp2_with fail
       go_meet; exact ⟨e3, A', c', T, ct, tk, NN, rfl, HN4.out, by simp only [HMA.out, Htk.out, Bool.and_false, Bool.false_eq_true, if_false, if_true, HE3.out], HT5.out, HGA.out, HBA.out, by rw [Htk.out]; exact Nat.zero_le _⟩
      | true =>
       have HK2 : Hid (p.kind = 2) := beq_iff_eq.1 hkd; go_wp2_with fail
       have hfar : OutFar e3 A' bx bm := fun hn a ha => by
        obtain ⟨b, off, cur, h1, h2, h3⟩ := HT5.out.row (by rintro h0; exact hn (by rw [h0]; rfl)); rw [h1] at ha; injection ha with ha; rw [← ha]; exact ⟨blk_ne h3 HT5.out.xs.box (by decide), fun e2 => HT5.out.xs.map.not_blk h3 e2.symm⟩
       refine (takes_any bx bm e3 A' c' vi p w5 HT5.out.xs HGA.out hfar (by have := (proper_iff.1 HPR.out).2; have := HK.out; omega) (proper_data HPR.out HK2.out).2).mono ?_; rintro r w7 ⟨T', d', rfl, hown7, hx7, hF7⟩; have hcb := came_base e3 p; have HT7 := Lib.hid (HT5.out.x (hF7.mono (fun b _ e2 => by rcases e2 with e2 | e2; exact .inl e2; exact .inr (.inl e2))) hx7 (by rw [hcb.2.1]; exact HT5.out.row.frame hF7 (fun b cur hb e2 => by rcases e2 with e2 | e2; exact blk_ne hb HT5.out.xs.box (by decide) e2; exact HT5.out.xs.map.not_blk hb e2.symm)) (hF7.below (B := w.heap.size) (fun b e2 => by have := HT5.out.ox; have := HT5.out.om; rcases e2 with e2 | e2 <;> omega) (by have := HT5.out.nN; have := HT5.out.oN; omega)))
       have hL7 : Hid (w7.ownsRow N 9 1 (.slice T' (cameA e3 p).2.length d') (cameA e3 p).2.length (strs (cameA e3 p).2)) := own_mono hown7 (by have := HT5.out.nN; exact this); have hg2 := HT7.out.g; have r0 := hg2.cell 1 (v := .slice T tk.length ct) rfl; have r1 := hg2.free 1; have r2 := hg2.lt; have HGB := Lib.hid (came_good HGA.out HPA.out (proper_data HPR.out HK2.out).1 (proper_data HPR.out HK2.out).2); have HCB := Lib.hid hcb.1; have HTL := Lib.hid (came_len (p := p) HGA.out); clear t0 t1 t2 t3 t4 t5 t6 tl u0 u1 u2 ul; clear hown7 hx7 hF7 hg2 hcb hfar hwr; go_wp2_with fail
       go_meet; exact ⟨(cameA e3 p).1, A', c', T', d', (cameA e3 p).2, NN, rfl, HN4.out, by simp only [HMK.out.1, HMK.out.2, Bool.and_true, if_true, HE3.out], HT7.out.taken hL7.out, HGB.out, by rw [HCB.out]; exact HBA.out, HTL.out⟩
    case rest =>
     clear t0 t1 t2 t3 t4 t5 t6 tl u0 u1 u2 ul; clear hkn; obtain ⟨Y, rfl⟩ : ∃ Y, Y = wc := ⟨wc, rfl⟩; obtain ⟨e4, A4, c4, T4, ct4, tk4, NN, rfl, hN4, he4, hts, hg4, hbb, htk4⟩ := hcut; have HE4 := Lib.hid he4; have HBB := Lib.hid hbb; have HTS := Lib.hid hts; have G1 := Lib.hid hg4; clear he4 hts hg4 hbb HTS2 G2 HP3 HFL htkb Htk; have htkb := htk4; clear htk4; generalize Y = X at HTS ⊢; generalize A4 = A1 at HTS; generalize c4 = c1 at HTS; generalize T4 = T at HTS; generalize ct4 = ct at HTS; generalize tk4 = tk at HTS HE4 htkb; generalize e4 = e1 at HTS G1 HE4 HBB; have HTB : Hid (takeA e p = (e1, ⟨(if mine then [] else [helloA e1]) ++ fromA e1 NN ++ (if op || (mine && kd) then [reportA e1] else []), tk, ls⟩, 0)) := by
      show _ = _; have h1 := tb_all (ls := ls) (e4 := e1) (ts := tk) HM0.out H20.out HKH.out HKN.out HKD.out HE2.out rfl (by rw [HF0.out]; exact HE4.out); rw [HTG.out, h1, HF0.out, show (e0.base + (F : Int) - e1.base).toNat = NN by have := HBB.out; have := HBS.out; omega, HOP.out]
     clear HE4 HE2 HM0 H20 HF0 HBB HBS HF; go_upto_if 95 with fail
     go_cut [] from 12 (fun wx => ∃ (P1 : Option Addr) (cp1 : Nat) (ps1 : List Pk), ps ++ (if mine then [] else [helloA e1]) = ps1 ∧ ps1.length ≤ 4 ∧ Ts w wx bx bm bg (w.heap.size + 1) (w.heap.size + 1 + 1) (w.heap.size + 1 + 1 + 1) N e1 p A1 c1 vi (.slice P1 ps1.length cp1) ps1 T ct tk L cl ls)
     case first =>
      cases mine with
      | true =>
       go_wp2_with fail
       go_meet; exact ⟨P, cp, ps, List.append_nil _, by omega, HTS.out⟩
      | false =>
       go_wp2_with fail
       have hnb : ∀ b cs t, Blk X b (.cells cs t) → t ≠ 44 → ¬ (Value.slice P ps.length cp).ownBlock = some b := fun b cs t hb ht e2 => own_ne HTS.out.rps hb (fun e3 => ht e3.symm) e2; have HNB := Lib.hid hnb; clear hnb; have hnN4 := HTS.out.nN; have hoN4 := HTS.out.oN; refine drawl (fun w' => Frame (fun b => (Value.slice P ps.length cp).ownBlock = some b) X w') 7 7 rfl (by kernel_rfl) (fun Qd hQd => ?_); iterate 3 (first | apply sL 0 (by rfl) (by kernel_rfl) rfl (by kernel_rfl) | apply sL 2 (by rfl) (by kernel_rfl) rfl (by kernel_rfl) | apply sL 1 (by rfl) (by kernel_rfl) rfl (by kernel_rfl)); (focus intro wI hI Kv hKv; have t0 := (HTS.out.g.frame hI (HNB.out _ _ _ HTS.out.g (by decide))).cell 0 (v := .slice P ps.length cp) rfl; have t1 := (HTS.out.g.frame hI (HNB.out _ _ _ HTS.out.g (by decide))).lt; go_simp; exact hKv); intro Kd hKd; go_simp; refine hKd _ ?_; clear hKd Kd
       refine anyL_one 3 rfl (by kernel_rfl) ((Frame.refl _ X).drew) (fun Kd hKd => ?_); go_wp2_with (go_at_call 47; go_must (refine (hello_any bx bm e1 A1 c1 vi _ HTS.out.drew.xs).mono ?_); rintro r w4 ⟨rfl, hB4⟩; unfold pkV)
       have HB4 : Hid (Below X.heap.size X w4) := (Below.refl _ X).drew.trans hB4; have HO4 : Hid (w4.ownsRow N 44 7 (.slice P ps.length cp) ps.length (pks ps)) := own_frame HTS.out.rps (Frame.of_all (S := fun _ => False) HB4.out) (fun _ _ h => h); have hs4 := HB4.out.size; clear hB4; refine anyL_one 4 rfl (by kernel_rfl) ((Frame.of_all HB4.out)) (fun Kd hKd => ?_); go_wp2; refine anyL_one 5 rfl (by kernel_rfl) (((Frame.of_all HB4.out).alloc _)) (fun Kd hKd => ?_); go_wp2_with (at_builtin; go_must (refine wpList_app1' rPk _ rfl _ _ rfl HO4.out rfl [_, _, _, _, _, _, _] 1 rfl rfl (by simp [Value.oneCell']) (by omega) (by omega) ?_); intro v6 w6 ho6 hB6 hg6 hloc6; obtain ⟨P6, cp6, rfl⟩ := own_fits ho6)
       have HF6 : Hid (Frame (fun b => (Value.slice P ps.length cp).ownBlock = some b) X w6) := (Frame.of_all (S := fun b => (Value.slice P ps.length cp).ownBlock = some b) HB4.out).trans (Frame.of_grown hg6) (fun _ _ h => h); have hg66 := HTS.out.g.frame HF6.out (HNB.out _ _ _ HTS.out.g (by decide)); have r0 := hg66.cell 0 (v := .slice P ps.length cp) rfl; have r1 := hg66.free 0; have r2 := hg66.lt; have h36 := HTS.out.k3.frame HF6.out (fun e2 => by have := (HTS.out.rps.lt _ e2).1; have := HTS.out.n3; omega); have r3 := h36.cell 0 (v := .int .i64 p.kind) rfl; have r4 := h36.lt; have r5 : ¬ w.heap.size + 1 = bg := fun e2 => blk_ne HTS.out.k3 HTS.out.g (by decide) e2; have HO6 := Lib.hid ho6; clear h36; clear ho6 hB6 hg6 hloc6 hg66; apply anyL_step 6 (by kernel_rfl) rfl (by kernel_rfl); (focus intro wI hI Kv hKv; go_simp; exact hKv); intro Kd hKd; go_simp; refine hKd _ ?_; clear hKd Kd
       refine anyL_end rfl (by kernel_rfl) (HF6.out) (fun Kd hKd => ?_); go_wp2_with fail
       obtain ⟨X', hX'⟩ : ∃ X', w6.setCell ⟨bg, 0, none⟩ (.slice P6 (ps.length + 1) cp6) = X' := ⟨_, rfl⟩; rw [hX']; have hTg := (HTS.out.grow HF6.out (vP' := .slice P6 (ps.length + 1) cp6) (ps' := ps ++ [helloA e1]) (by rw [pks_snoc, List.length_append]; exact HO6.out)).2; rw [hX'] at hTg; have hpl' : (ps.length + 1) = (ps ++ [helloA e1]).length := by simp
       rw [hpl'] at hTg; have hplb : (ps ++ [helloA e1]).length ≤ ps.length + 4 := by simp
       have HTg := Lib.hid hTg; clear hTg hX' r0 r1 r2 r3 r4 r5 HTS hpl' HNB HB4 HO4 HF6 HO6; have HTS := HTg; clear HTg; obtain ⟨ps, HPS1⟩ : ∃ q, Hid (ps ++ [helloA e1] = q) := ⟨_, rfl⟩; rw [HPS1.out] at HTS hplb; generalize X' = X at HTS ⊢; generalize P6 = P at HTS ⊢; generalize cp6 = cp at HTS ⊢; go_wp2_with fail
       go_meet; exact ⟨P, cp, ps, HPS1.out, by omega, HTS.out⟩
     case rest =>
      obtain ⟨Y, rfl⟩ : ∃ Y, Y = wc := ⟨wc, rfl⟩; obtain ⟨P1, cp1, ps1, hps1, hl1, hts⟩ := hcut; have HPS1 := Lib.hid hps1; have HTS1 := Lib.hid hts; clear hps1 hts HTS hpsb; have HTS := HTS1; have hpsb := hl1; clear HTS1 hl1; generalize Y = X at HTS ⊢; generalize P1 = P at HTS; generalize cp1 = cp at HTS; generalize ps1 = ps at HTS HPS1 hpsb; go_wp2_with fail
      have hnb : ∀ b cs t, Blk X b (.cells cs t) → t ≠ 44 → ¬ (Value.slice P ps.length cp).ownBlock = some b := fun b cs t hb ht e2 => own_ne HTS.out.rps hb (fun e3 => ht e3.symm) e2; have HNB := Lib.hid hnb; clear hnb; have hnN4 := HTS.out.nN; have hoN4 := HTS.out.oN; refine drawl (fun w' => Frame (fun b => (Value.slice P ps.length cp).ownBlock = some b) X w') 7 7 rfl (by kernel_rfl) (fun Qd hQd => ?_); iterate 4 (first | apply sL 0 (by rfl) (by kernel_rfl) rfl (by kernel_rfl) | apply sL 2 (by rfl) (by kernel_rfl) rfl (by kernel_rfl) | apply sL 3 (by rfl) (by kernel_rfl) rfl (by kernel_rfl) | apply sL 1 (by rfl) (by kernel_rfl) rfl (by kernel_rfl)); (focus intro wI hI Kv hKv; have t0 := (HTS.out.g.frame hI (HNB.out _ _ _ HTS.out.g (by decide))).cell 0 (v := .slice P ps.length cp) rfl; have t1 := (HTS.out.g.frame hI (HNB.out _ _ _ HTS.out.g (by decide))).lt; go_simp; exact hKv); intro Kd hKd; go_simp; refine hKd _ ?_; clear hKd Kd
      refine anyL_one 4 rfl (by kernel_rfl) ((Frame.refl _ X).drew) (fun Kd hKd => ?_); go_wp2_with (go_at_call 43; go_must (refine (from_any bx bm e1 A1 c1 vi NN _ HTS.out.drew.xs (fun h => HTS.out.noOut h) G1.out (by omega)).mono ?_); rintro r w4 ⟨v4, rfl, hv4, hB4⟩; obtain ⟨Bv, cv, rfl⟩ := own_fits hv4)
      have hfl4 : (fromA e1 NN).length ≤ 4 := by rw [fromA_len]; have := (fly_le e1).2; omega
      have HV4 := Lib.hid (Cells.of_own hv4 (by rw [pks_len]; omega)).1; have HV0 : Hid (Bv = none → (fromA e1 NN).length = 0 ∧ cv = 0) := fun hb => by
       have h1 := own_cap hv4; have h2 := own_nil hv4 hb; exact ⟨by omega, h2⟩
      clear hv4; have HB4 : Hid (Below X.heap.size X w4) := (Below.refl _ X).drew.trans hB4; have HO4 : Hid (w4.ownsRow N 44 7 (.slice P ps.length cp) ps.length (pks ps)) := own_frame HTS.out.rps (Frame.of_all (S := fun _ => False) HB4.out) (fun _ _ h => h); have hs4 := HB4.out.size; clear hB4; refine anyL_one 5 rfl (by kernel_rfl) ((Frame.of_all HB4.out)) (fun Kd hKd => ?_); go_wp2_with (at_builtin; go_must (refine wpList_appN rPk _ rfl _ _ rfl HO4.out rfl Bv (fromA e1 NN).length cv (pks (fromA e1 NN)) rfl HV0.out HV4.out (pks_len _) (pkC_one _) (by omega) (by omega) ?_); intro v6 w6 ho6 hB6 hg6 hloc6; obtain ⟨P6, cp6, rfl⟩ := own_fits ho6)
      have HF6 : Hid (Frame (fun b => (Value.slice P ps.length cp).ownBlock = some b) X w6) := (Frame.of_all (S := fun b => (Value.slice P ps.length cp).ownBlock = some b) HB4.out).trans (Frame.of_grown hg6) (fun _ _ h => h); have hg66 := HTS.out.g.frame HF6.out (HNB.out _ _ _ HTS.out.g (by decide)); have r0 := hg66.cell 0 (v := .slice P ps.length cp) rfl; have r1 := hg66.free 0; have r2 := hg66.lt; have h36 := HTS.out.k3.frame HF6.out (fun e2 => by have := (HTS.out.rps.lt _ e2).1; have := HTS.out.n3; omega); have r3 := h36.cell 0 (v := .int .i64 p.kind) rfl; have r4 := h36.lt; have r5 : ¬ w.heap.size + 1 = bg := fun e2 => blk_ne HTS.out.k3 HTS.out.g (by decide) e2; have HO6 := Lib.hid ho6; clear h36; clear ho6 hB6 hg6 hloc6 hg66; apply anyL_step 6 (by kernel_rfl) rfl (by kernel_rfl); (focus intro wI hI Kv hKv; go_simp; exact hKv); intro Kd hKd; go_simp; refine hKd _ ?_; clear hKd Kd
      refine anyL_end rfl (by kernel_rfl) (HF6.out) (fun Kd hKd => ?_); go_upto_region 21 with fail
      obtain ⟨X', hX'⟩ : ∃ X', w6.setCell ⟨bg, 0, none⟩ (.slice P6 (ps.length + (fromA e1 NN).length) cp6) = X' := ⟨_, rfl⟩; rw [hX']; have hTg := (HTS.out.grow HF6.out (vP' := .slice P6 (ps.length + (fromA e1 NN).length) cp6) (ps' := ps ++ fromA e1 NN) (by rw [pks_app, List.length_append]; exact HO6.out)).2; rw [hX'] at hTg; have hpl' : (ps.length + (fromA e1 NN).length) = (ps ++ fromA e1 NN).length := by simp
      rw [hpl'] at hTg; have hplb : (ps ++ fromA e1 NN).length ≤ ps.length + 4 := by rw [List.length_append]; omega
      have HTg := Lib.hid hTg; clear hTg hX' r0 r1 r2 r3 r4 r5 HTS hpl' HNB HB4 HO4 HF6 HO6; have HTS := HTg; clear HTg; obtain ⟨ps, HPS2⟩ : ∃ q, Hid (ps ++ fromA e1 NN = q) := ⟨_, rfl⟩; rw [HPS2.out] at HTS hplb; generalize X' = X at HTS ⊢; generalize P6 = P at HTS ⊢; generalize cp6 = cp at HTS ⊢; have k3 := HTS.out.k3; have bxx := HTS.out.xs.box; obtain ⟨t0, t1, t2, t3, t4, t5, t6, tl⟩ := Blk.d7 k3; have u0 := bxx.cell 0 (v := .int .i64 e1.life) rfl; have u1 := bxx.cell 1 (v := .int .i64 e1.peer) rfl; have u2 := bxx.cell 2 (v := .int .i64 e1.phase) rfl; have ul := bxx.lt; clear k3 bxx; go_cut [118] from 12 (fun q wx => q = Value.bool tb ∧ wx = X)
      case first =>
       cases op with
       | true =>
        go_wp2_with fail
        go_meet; exact ⟨by rw [← HTT.out]; rfl, rfl⟩
       | false =>
        cases mine with
        | false =>
         go_wp2_with fail
         go_meet; exact ⟨by rw [← HTT.out]; rfl, rfl⟩
        | true =>
         go_wp2_with fail
         go_meet; exact ⟨by rw [← HTT.out]; cases kd <;> rfl, rfl⟩
      obtain ⟨rfl, hwc⟩ := hcut; obtain rfl := hwc.symm; clear hwc; clear t0 t1 t2 t3 t4 t5 t6 tl u0 u1 u2 ul; clear hkd; go_upto_if 118 with fail
      go_cut [] from 12 (fun wx => ∃ (P1 : Option Addr) (cp1 : Nat) (ps1 : List Pk), ps ++ (if tb then [reportA e1] else []) = ps1 ∧ ps1.length ≤ 12 ∧ Ts w wx bx bm bg (w.heap.size + 1) (w.heap.size + 1 + 1) (w.heap.size + 1 + 1 + 1) N e1 p A1 c1 vi (.slice P1 ps1.length cp1) ps1 T ct tk L cl ls)
      case first =>
       cases tb with
       | false =>
        go_wp2_with fail
        go_meet; exact ⟨P, cp, ps, List.append_nil _, by omega, HTS.out⟩
       | true =>
        go_wp2_with fail
        have hnb : ∀ b cs t, Blk X b (.cells cs t) → t ≠ 44 → ¬ (Value.slice P ps.length cp).ownBlock = some b := fun b cs t hb ht e2 => own_ne HTS.out.rps hb (fun e3 => ht e3.symm) e2; have HNB := Lib.hid hnb; clear hnb; have hnN4 := HTS.out.nN; have hoN4 := HTS.out.oN; refine drawl (fun w' => Frame (fun b => (Value.slice P ps.length cp).ownBlock = some b) X w') 7 7 rfl (by kernel_rfl) (fun Qd hQd => ?_); iterate 3 (first | apply sL 0 (by rfl) (by kernel_rfl) rfl (by kernel_rfl) | apply sL 2 (by rfl) (by kernel_rfl) rfl (by kernel_rfl) | apply sL 1 (by rfl) (by kernel_rfl) rfl (by kernel_rfl)); (focus intro wI hI Kv hKv; have t0 := (HTS.out.g.frame hI (HNB.out _ _ _ HTS.out.g (by decide))).cell 0 (v := .slice P ps.length cp) rfl; have t1 := (HTS.out.g.frame hI (HNB.out _ _ _ HTS.out.g (by decide))).lt; go_simp; exact hKv); intro Kd hKd; go_simp; refine hKd _ ?_; clear hKd Kd
        refine anyL_one 3 rfl (by kernel_rfl) ((Frame.refl _ X).drew) (fun Kd hKd => ?_); go_wp2_with (go_at_call 50; go_must (refine (report_any bx bm e1 A1 c1 vi _ HTS.out.drew.xs G1.out.want).mono ?_); rintro r w4 ⟨rfl, hB4⟩; unfold pkV)
        have HB4 : Hid (Below X.heap.size X w4) := (Below.refl _ X).drew.trans hB4; have HO4 : Hid (w4.ownsRow N 44 7 (.slice P ps.length cp) ps.length (pks ps)) := own_frame HTS.out.rps (Frame.of_all (S := fun _ => False) HB4.out) (fun _ _ h => h); have hs4 := HB4.out.size; clear hB4; refine anyL_one 4 rfl (by kernel_rfl) ((Frame.of_all HB4.out)) (fun Kd hKd => ?_); go_wp2; refine anyL_one 5 rfl (by kernel_rfl) (((Frame.of_all HB4.out).alloc _)) (fun Kd hKd => ?_); go_wp2_with (at_builtin; go_must (refine wpList_app1' rPk _ rfl _ _ rfl HO4.out rfl [_, _, _, _, _, _, _] 1 rfl rfl (by simp [Value.oneCell']) (by omega) (by omega) ?_); intro v6 w6 ho6 hB6 hg6 hloc6; obtain ⟨P6, cp6, rfl⟩ := own_fits ho6)
        have HF6 : Hid (Frame (fun b => (Value.slice P ps.length cp).ownBlock = some b) X w6) := (Frame.of_all (S := fun b => (Value.slice P ps.length cp).ownBlock = some b) HB4.out).trans (Frame.of_grown hg6) (fun _ _ h => h); have hg66 := HTS.out.g.frame HF6.out (HNB.out _ _ _ HTS.out.g (by decide)); have r0 := hg66.cell 0 (v := .slice P ps.length cp) rfl; have r1 := hg66.free 0; have r2 := hg66.lt; have h36 := HTS.out.k3.frame HF6.out (fun e2 => by have := (HTS.out.rps.lt _ e2).1; have := HTS.out.n3; omega); have r3 := h36.cell 0 (v := .int .i64 p.kind) rfl; have r4 := h36.lt; have r5 : ¬ w.heap.size + 1 = bg := fun e2 => blk_ne HTS.out.k3 HTS.out.g (by decide) e2; have HO6 := Lib.hid ho6; clear h36; clear ho6 hB6 hg6 hloc6 hg66; apply anyL_step 6 (by kernel_rfl) rfl (by kernel_rfl); (focus intro wI hI Kv hKv; go_simp; exact hKv); intro Kd hKd; go_simp; refine hKd _ ?_; clear hKd Kd
        refine anyL_end rfl (by kernel_rfl) (HF6.out) (fun Kd hKd => ?_); go_wp2_with fail
        obtain ⟨X', hX'⟩ : ∃ X', w6.setCell ⟨bg, 0, none⟩ (.slice P6 (ps.length + 1) cp6) = X' := ⟨_, rfl⟩; rw [hX']; have hTg := (HTS.out.grow HF6.out (vP' := .slice P6 (ps.length + 1) cp6) (ps' := ps ++ [reportA e1]) (by rw [pks_snoc, List.length_append]; exact HO6.out)).2; rw [hX'] at hTg; have hpl' : (ps.length + 1) = (ps ++ [reportA e1]).length := by simp
        rw [hpl'] at hTg; have hplb : (ps ++ [reportA e1]).length ≤ ps.length + 4 := by simp
        have HTg := Lib.hid hTg; clear hTg hX' r0 r1 r2 r3 r4 r5 HTS hpl' HNB HB4 HO4 HF6 HO6; have HTS := HTg; clear HTg; obtain ⟨ps, HPS3⟩ : ∃ q, Hid (ps ++ [reportA e1] = q) := ⟨_, rfl⟩; rw [HPS3.out] at HTS hplb; generalize X' = X at HTS ⊢; generalize P6 = P at HTS ⊢; generalize cp6 = cp at HTS ⊢; go_wp2_with fail
        go_meet; exact ⟨P, cp, ps, HPS3.out, by omega, HTS.out⟩
      case rest =>
       obtain ⟨Y, rfl⟩ : ∃ Y, Y = wc := ⟨wc, rfl⟩; obtain ⟨P1, cp1, ps1, hps1, hl1, hts⟩ := hcut; have HPS3 := Lib.hid hps1; have HTS1 := Lib.hid hts; clear hps1 hts HTS; have HTS := HTS1; clear HTS1; generalize Y = X at HTS ⊢; generalize P1 = P at HTS; generalize cp1 = cp at HTS; generalize ps1 = ps at HTS HPS3 hl1; have HEND : Hid (takeA e p = (e1, ⟨ps, tk, ls⟩, 0)) := by show _ = _; rw [HTB.out, ← HPS3.out, ← HPS2.out, ← HPS1.out, Hps.out, HTT.out, List.nil_append]
       have HPSL : Hid (ps.length * 7 ≤ 17592186043904) := by show _ ≤ _; omega
       have HTKL : Hid (tk.length ≤ 17592186043904) := by show _ ≤ _; omega
       have HLSL : Hid (ls.length ≤ 17592186043904) := by show _ ≤ _; have := HLS.out; omega
       go_wp2_with fail
       have HNE : Hid (ous e1.out ≠ [] → ∀ a, A1 = some a → a.block ≠ bx) := fun hn a ha e2 => by
        obtain ⟨b, off, cur, h1, h2, h3⟩ := HTS.out.row (by rintro h0; exact hn (by rw [h0]; rfl)); rw [h1] at ha; injection ha with ha; rw [← ha] at e2; exact blk_ne h3 HTS.out.xs.box (by decide) e2
       have hg := HTS.out.g; obtain ⟨m0, m1, m2, ml⟩ := Blk.d3 hg; have n1 : ¬ (bg = bx ∨ bg = w.heap.size + 1 + 1 ∨ bg = w.heap.size + 1 + 1 + 1) := fun e2 => by
        rcases e2 with e2 | e2 | e2
        ·exact blk_ne hg HTS.out.xs.box (by decide) e2
        ·exact blk_ne hg HTS.out.k4 (by decide) e2
        ·exact HTS.out.ng5 e2
       have hnN := HTS.out.nN; have hoN2 := HTS.out.oN; clear hg; refine draw (fun w' => Frame (fun b => b = bx ∨ b = w.heap.size + 1 + 1 ∨ b = w.heap.size + 1 + 1 + 1) X w') 6 rfl (by kernel_rfl) (fun Qd hQd => ?_); iterate 2 (first | apply sI 0 (by rfl) rfl (by kernel_rfl) | apply sI 2 (by rfl) rfl (by kernel_rfl)); (focus intro wI hI Kv hKv; have t0 := cell_frame hI ml n1 m0; have t1 := cell_frame hI ml n1 m1; have t2 := cell_frame hI ml n1 m2; go_simp; exact hKv); intro Kd hKd; go_simp; refine hKd _ ?_; clear hKd Kd
       refine anyI_one' 1 rfl (by kernel_rfl) ((Frame.refl _ X).drew) (fun Kd hKd => ?_); go_wp2_with (go_at_call 42; go_must (refine (shut_any bx bm e1 A1 c1 vi w.heap.size _ HTS.out.xs.drew G1.out HTS.out.ox (by show w.heap.size ≤ X.heap.size; omega) HNE.out).mono ?_); rintro r w6 ⟨D, dd, rfl, hE6, hB6, hF6, hD6, hI6⟩; unfold enV)
       have HFx : Hid (Frame (fun b => b = bx) X w6) := (Frame.refl (fun b => b = bx) X).drew.trans hF6 (fun _ _ h => h); have HFS : Hid (Frame (fun b => b = bx ∨ b = w.heap.size + 1 + 1 ∨ b = w.heap.size + 1 + 1 + 1) X w6) := HFx.out.mono (fun b _ e2 => .inl e2); have h4z := HTS.out.k4.frame HFx.out (fun e2 => blk_ne HTS.out.k4 HTS.out.xs.box (by decide) e2); have h5z := HTS.out.k5.frame HFx.out (fun e2 => blk_ne HTS.out.k5 HTS.out.xs.box (by decide) e2); have H4Z := Lib.hid h4z; have H5Z := Lib.hid h5z; have HE6 := Lib.hid hE6; have HD6 := Lib.hid hD6; have HI6 := Lib.hid hI6; obtain ⟨z0, z1, z2, z3, z4, z5, z6⟩ := Blk.c7 h4z; obtain ⟨y0, y1, y2, y3, y4, y5, y6, yl⟩ := Blk.g7 h4z; obtain ⟨g0, g1, g2⟩ := Blk.c3 h5z; obtain ⟨f0, f1, f2, gl⟩ := Blk.g3 h5z; have nz1 : ¬ w.heap.size + 1 + 1 = w.heap.size + 1 + 1 + 1 := by omega
       have nz2 : ¬ w.heap.size + 1 + 1 + 1 = w.heap.size + 1 + 1 := by omega
       clear h4z h5z hE6 hB6 hF6 hD6 hI6 m0 m1 m2 ml n1; refine anyI_one' 3 rfl (by kernel_rfl) (HFS.out) (fun Kd hKd => ?_); go_wp2; refine anyI_one' 4 rfl (by kernel_rfl) ((setEn_frame (e := e1) (A := A1) (c := c1) (B := D) (d := dd) HFS.out (.inl (.inr (.inl rfl))))) (fun Kd hKd => ?_); go_wp2; apply anyI_step 5 rfl (by kernel_rfl); (focus intro wI hI Kv hKv; go_simp; exact hKv); intro Kd hKd; go_simp; refine hKd _ ?_; clear hKd Kd
       refine anyI_end (by kernel_rfl) ((setGn_frame (g := ⟨ps, tk, ls⟩) (P := P) (cp := cp) (T := T) (ct := ct) (L := L) (cl := cl) (setEn_frame (e := e1) (A := A1) (c := c1) (B := D) (d := dd) HFS.out (.inl (.inr (.inl rfl)))) (.inl (.inr (.inr rfl))))) (hQd _ _ ?_); clear hQd Qd; go_wp2; obtain ⟨q1, q2, q3⟩ := tk_end (e' := e1) (A := A1) (c := c1) (D := D) (d := dd) (g := ⟨ps, tk, ls⟩) (P := P) (cp := cp) (T := T) (ct := ct) (L := L) (cl := cl) H4Z.out H5Z.out; have hl1 := load26 q1; have hl2 := load47 q2; refine bodyPost_ret (v := .tuple #[enV e1 A1 c1 D dd, gnV ⟨ps, tk, ls⟩ P cp T ct L cl, .int .i64 0]) (results_cct rfl rfl rfl rfl hl1 hl2) rfl ?_; have hSz := HFx.out.size; have hown : ∀ {e : TypeId} {size n : Nat} {v : Value} {xs : List Value}, X.ownsRow N e size v n xs → e ≠ 84 → e ≠ 26 → e ≠ 47 → World.ownsRow (setGn (setEn w6 (w.heap.size + 1 + 1) e1 A1 c1 D dd) (w.heap.size + 1 + 1 + 1) ⟨ps, tk, ls⟩ P cp T ct L cl) N e size v n xs := fun hr h1 h2 h3 => by
        have hr6 := own_frame hr HFx.out (fun g hg e2 => own_ne hr HTS.out.xs.box h1 (by rw [hg, e2])); exact own_frame hr6 q3 (fun g hg e2 => by
         rcases e2 with e2 | e2
         ·exact own_ne hr6 H4Z.out h2 (by rw [hg, e2])
         ·exact own_ne hr6 H5Z.out h3 (by rw [hg, e2]))
       have hnx : ∀ b cur, Blk X b (.cells cur 71) → ¬ b = bx := fun b cur hb e2 => blk_ne hb HTS.out.xs.box (by decide) e2; have hrow6 := HTS.out.row.frame HFx.out hnx; have hn45 : ∀ b cur, Blk w6 b (.cells cur 71) → ¬ (b = w.heap.size + 1 + 1 ∨ b = w.heap.size + 1 + 1 + 1) := fun b cur hb e2 => by
        rcases e2 with e2 | e2
        ·exact blk_ne hb H4Z.out (by decide) e2
        ·exact blk_ne hb H5Z.out (by decide) e2
       refine ⟨A1, c1, D, dd, P, cp, T, ct, L, cl, by rw [HEND.out], by rw [HEND.out]; exact ⟨hrow6.cells HE6.out.out q3 hn45, HE6.out.inn.frame q3 (fun _ a ha e2 => by have h1 := HD6.out a ha; have h2 := H4Z.out; have h4l := HTS.out.k4.lt; have h5l := HTS.out.k5.lt; have hsd : X.drew.heap.size = X.heap.size := rfl; rcases e2 with e2 | e2 <;> omega)⟩, by rw [HEND.out]; exact ⟨(Cells.of_own (hown HTS.out.rps (by decide) (by decide) (by decide)) (by rw [pks_len]; exact HPSL.out)).1, (Cells.of_own (hown HTS.out.rtk (by decide) (by decide) (by decide)) (by rw [strs_len]; exact HTKL.out)).1, (Cells.of_own (hown HTS.out.rls (by decide) (by decide) (by decide)) (by rw [strs_len]; exact HLSL.out)).1⟩, HTS.out.xs.nil, by rw [HEND.out]; exact HTS.out.xs.cap, by rw [HEND.out]; exact hrow6.frame q3 hn45, by rw [HEND.out]; exact HI6.out.frame q3 (fun b cur hb e2 => by rcases e2 with e2 | e2; exact blk_ne hb H4Z.out (by decide) e2; exact blk_ne hb H5Z.out (by decide) e2), fun a ha => by have h1 := (HTS.out.rtk.lt a.block (by rw [ha]; rfl)).1; have h2 := HTS.out.oN; omega, fun a ha => by have h1 := (HTS.out.rps.lt a.block (by rw [ha]; rfl)).1; have h2 := HTS.out.oN; omega, fun a ha => by have h1 := (HTS.out.rls.lt a.block (by rw [ha]; rfl)).1; have h2 := HTS.out.oN; omega, own_nil HTS.out.rtk, own_nil HTS.out.rls, ?_⟩
       exact (HTS.out.below.trans (HFx.out.below (B := w.heap.size) (fun b e2 => by have := HTS.out.ox; omega) (by omega))).trans (q3.below (B := w.heap.size) (fun b e2 => by rcases e2 with e2 | e2 <;> omega) (by omega))
theorem take_any (e : En) (A : Option Addr) (c : Nat) (Bi : Option Addr) (d : Nat) (p : Pk) (w : World) (h : EnAt w e A Bi) (hA0 : A = none → e.out.length = 0 ∧ c = 0) (hts : p.t.size ≤ 1000000) :
  Calls Try.prog 20 #[enV e A c Bi d, pkV p] w (TakePost e p w) := by
 cases hg : goodB e with
 | false => exact take_bad e A c Bi d p w h hts (by rw [hg]; rfl)
 | true =>
  cases hp : properB p with
  | false => exact take_bad e A c Bi d p w h hts (by rw [hg, hp]; rfl)
  | true => exact take_go e A c Bi d p w h hA0 hts hg hp
end Go.Proofs.Ytejabnoidhlfaaa
