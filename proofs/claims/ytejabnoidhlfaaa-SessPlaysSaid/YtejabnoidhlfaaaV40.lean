/- Contracts and lemmas that the claim uses. -/
import Derived.Test.YtejabnoidhlfaaaV39
set_option maxRecDepth 100000
set_option maxHeartbeats 16000000
namespace Go.Proofs.Ytejabnoidhlfaaa
open Go.RowKit Go.Maps
def RTakePost (e : En) (p : Pk) (w : World) (r : Ending) (w' : World) : Prop := ∃ A c D d P cp T ct L cl, r = .returned (.tuple #[enV (takeA e p).1 A c D d, gnV (takeA e p).2.1 P cp T ct L cl, .int .i64 (takeA e p).2.2]) ∧ To w w' (takeA e p) A c D P T ct L cl ∧ (D = none → d = 0) ∧ Below w.heap.size w w'
theorem rtake_any (e : En) (A : Option Addr) (c : Nat) (D : Option Addr) (d : Nat) (p : Pk) (w : World) (h : EnAt w e A D) (hwf : Wf e) (hA : A = none → e.out.length = 0 ∧ c = 0) (hD : D = none → e.inn.length = 0 ∧ d = 0) :
  Calls Try.prog 21 #[enV e A c D d, pkV p] w (RTakePost e p w) := by
 have HE := Lib.hid h; have HWF := Lib.hid hwf; clear h hwf; unfold enV pkV; go_enter Try.func21, Try.ntmps21
 obtain ⟨W, hW⟩ : ∃ W, (((w.alloc (.cells #[.int .i64 e.life, .int .i64 e.peer, .int .i64 e.phase, .int .i64 e.base, .slice A e.out.length c, .int .i64 e.want, .slice D e.inn.length d] 26)).alloc (.cells #[.int .i64 p.kind, .int .i64 p.frm, .int .i64 p.to, .int .i64 p.num, .string p.t, .int .i64 p.ack, .int .i64 p.held] 44)).alloc (.cells #[.int .i64 0, .int .i64 0, .int .i64 0, .int .i64 0, .slice none 0 0, .int .i64 0, .slice none 0 0] 26)).alloc (.cells #[.slice none 0 0, .slice none 0 0, .slice none 0 0] 47) = W := ⟨_, rfl⟩; have HBW : Hid (Below w.heap.size w W) := by rw [← hW]; exact ((((Below.refl _ w).alloc (Nat.le_refl _) _).alloc (by simp) _).alloc (by simp; omega) _).alloc (by simp; omega) _
 have hsW : W.heap.size = w.heap.size + 4 := by rw [← hW]; simp
 have HK1 : Hid (Blk W w.heap.size (.cells (enB e A c D d) 26)) := by rw [← hW]; exact (((Blk.new _ _).alloc _).alloc _).alloc _
 have HKP : Hid (Blk W (w.heap.size + 1) (.cells (pkB p) 44)) := by
  rw [← hW]; have e1 := Blk.new (w.alloc (.cells (enB e A c D d) 26)) (.cells (pkB p) 44); rw [World.size_alloc] at e1; exact (e1.alloc _).alloc _
 have HK4 : Hid (Blk W (w.heap.size + 1 + 1) (.cells (enB noEn none 0 none 0) 26)) := by
  rw [← hW]; have e1 := Blk.new ((w.alloc (.cells (enB e A c D d) 26)).alloc (.cells (pkB p) 44)) (.cells (enB noEn none 0 none 0) 26); rw [World.size_alloc, World.size_alloc] at e1; exact e1.alloc _
 have HK5 : Hid (Blk W (w.heap.size + 1 + 1 + 1) (.cells #[.slice none 0 0, .slice none 0 0, .slice none 0 0] 47)) := by
  rw [← hW]; have e1 := Blk.new (((w.alloc (.cells (enB e A c D d) 26)).alloc (.cells (pkB p) 44)).alloc (.cells (enB noEn none 0 none 0) 26)) (.cells #[.slice none 0 0, .slice none 0 0, .slice none 0 0] 47); rw [World.size_alloc, World.size_alloc, World.size_alloc] at e1; exact e1
 obtain ⟨x0, x1, x2, x3, x4, x5, x6, xl⟩ := Blk.d7 HK1.out; go_wp2_with fail
 clear hW; clear x0 x1 x2 x3 x4 x5 x6 xl; refine (good_any e A c D d W (HE.out.below HBW.out) HWF.out).mono ?_; rintro r w1 ⟨rfl, hB1⟩; have HB1 := Lib.hid hB1; clear hB1; obtain ⟨bg, hbg⟩ : ∃ b, Hid (goodB e = b) := ⟨_, rfl⟩; rw [hbg.out]; cases bg with
 | false =>
  have HTK : Hid (takeA e p = (noEn, noGn, 2)) := tk_bad (by rw [hbg.out]; rfl); have HBZ := HB1; have h4z := HK4.out.below HBZ.out (by omega); have h5z := HK5.out.below HBZ.out (by omega); have H4Z := Lib.hid h4z; have H5Z := Lib.hid h5z; obtain ⟨z0, z1, z2, z3, z4, z5, z6⟩ := Blk.c7 h4z; obtain ⟨y0, y1, y2, y3, y4, y5, y6, yl⟩ := Blk.g7 h4z; obtain ⟨g0, g1, g2⟩ := Blk.c3 h5z; obtain ⟨f0, f1, f2, gl⟩ := Blk.g3 h5z; have nz1 : ¬ w.heap.size + 1 + 1 = w.heap.size + 1 + 1 + 1 := by omega
  have nz2 : ¬ w.heap.size + 1 + 1 + 1 = w.heap.size + 1 + 1 := by omega
  clear h4z h5z; go_wp2; obtain ⟨q1, q2, q3⟩ := tk_end (e' := noEn) (A := none) (c := 0) (D := none) (d := 0) (g := noGn) (P := none) (cp := 0) (T := none) (ct := 0) (L := none) (cl := 0) H4Z.out H5Z.out; have hl1 := load26 q1; have hl2 := load47 q2; refine bodyPost_ret (v := .tuple #[enV noEn none 0 none 0, gnV noGn none 0 none 0 none 0, .int .i64 2]) (results_cct rfl rfl rfl rfl hl1 hl2) rfl ?_; refine ⟨none, 0, none, 0, none, 0, none, 0, none, 0, by rw [HTK.out], by rw [HTK.out]; exact ⟨enAt_noEn _, ⟨Cells.nil _ _, Cells.nil _ _, Cells.nil _ _⟩, fun _ => rfl, Nat.le_refl _, fun h0 => absurd rfl h0, fun h0 => absurd rfl h0, fun a ha => (by cases ha), fun a ha => (by cases ha), fun a ha => (by cases ha), fun _ => rfl, fun _ => rfl⟩, fun _ => rfl, ?_⟩; exact (HBW.out.trans (HBZ.out.mono (by omega))).trans (q3.below (B := w.heap.size) (fun b e2 => by rcases e2 with e2 | e2 <;> omega) (by have := HBZ.out.size; omega))
 | true =>
  obtain ⟨pp0, pp1, pp2, pp3, pp4, pp5, pp6, ppl⟩ := Blk.d7 (HKP.out.below HB1.out HKP.out.lt); go_wp2_with fail
  refine (proper57_any p w1).mono ?_; rintro r w2 ⟨rfl, hB2⟩; have HBZ : Hid (Below W.heap.size W w2) := below_in HB1.out hB2; clear hB2 HB1; clear pp0 pp1 pp2 pp3 pp4 pp5 pp6 ppl; obtain ⟨bp, hbp⟩ : ∃ b, Hid (properB p = b) := ⟨_, rfl⟩; rw [hbp.out]; cases bp with
  | false =>
   have HTK : Hid (takeA e p = (noEn, noGn, 2)) := tk_bad (by rw [hbg.out, hbp.out]; rfl); have h4z := HK4.out.below HBZ.out (by omega); have h5z := HK5.out.below HBZ.out (by omega); have H4Z := Lib.hid h4z; have H5Z := Lib.hid h5z; obtain ⟨z0, z1, z2, z3, z4, z5, z6⟩ := Blk.c7 h4z; obtain ⟨y0, y1, y2, y3, y4, y5, y6, yl⟩ := Blk.g7 h4z; obtain ⟨g0, g1, g2⟩ := Blk.c3 h5z; obtain ⟨f0, f1, f2, gl⟩ := Blk.g3 h5z; have nz1 : ¬ w.heap.size + 1 + 1 = w.heap.size + 1 + 1 + 1 := by omega
   have nz2 : ¬ w.heap.size + 1 + 1 + 1 = w.heap.size + 1 + 1 := by omega
   clear h4z h5z; go_wp2; obtain ⟨q1, q2, q3⟩ := tk_end (e' := noEn) (A := none) (c := 0) (D := none) (d := 0) (g := noGn) (P := none) (cp := 0) (T := none) (ct := 0) (L := none) (cl := 0) H4Z.out H5Z.out; have hl1 := load26 q1; have hl2 := load47 q2; refine bodyPost_ret (v := .tuple #[enV noEn none 0 none 0, gnV noGn none 0 none 0 none 0, .int .i64 2]) (results_cct rfl rfl rfl rfl hl1 hl2) rfl ?_; refine ⟨none, 0, none, 0, none, 0, none, 0, none, 0, by rw [HTK.out], by rw [HTK.out]; exact ⟨enAt_noEn _, ⟨Cells.nil _ _, Cells.nil _ _, Cells.nil _ _⟩, fun _ => rfl, Nat.le_refl _, fun h0 => absurd rfl h0, fun h0 => absurd rfl h0, fun a ha => (by cases ha), fun a ha => (by cases ha), fun a ha => (by cases ha), fun _ => rfl, fun _ => rfl⟩, fun _ => rfl, ?_⟩; exact (HBW.out.trans (HBZ.out.mono (by omega))).trans (q3.below (B := w.heap.size) (fun b e2 => by rcases e2 with e2 | e2 <;> omega) (by have := HBZ.out.size; omega))
  | true =>
   have HG : Hid (GoodP e) := good_iff.1 hbg.out; have hsz2 := HBZ.out.size; obtain ⟨x0, x1, x2, x3, x4, x5, x6, xl⟩ := Blk.d7 (HK1.out.below HBZ.out HK1.out.lt); go_wp2_with fail
   refine (twin_any e A c D d w2 (HE.out.below (HBW.out.trans (HBZ.out.mono (by omega)))) hA hD (by have := HG.out.len; omega) (by have := HG.out.ins_len; omega)).mono ?_; rintro r w3 ⟨A1, c1, D1, d1, rfl, hr1, hr2, hB3⟩; clear x0 x1 x2 x3 x4 x5 x6 xl; have HB3 : Hid (Below W.heap.size W w3) := below_in HBZ.out hB3; have HR1 := Lib.hid hr1; have HR2 := Lib.hid hr2; have hs3 := HB3.out.size; clear hr1 hr2 hB3; have HK1c := Lib.hid (HK1.out.below HB3.out (by omega)); have q9 := HK1c.out; obtain ⟨x0, x1, x2, x3, x4, x5, x6, xl⟩ := Blk.d7 q9; obtain ⟨y0, y1, y2, y3, y4, y5, y6⟩ := Blk.f7 q9; clear q9; unfold enV; go_upto_region 5 with fail
   obtain ⟨V, hV⟩ : ∃ V, (((((((w3.setCell ⟨w.heap.size, 0, none⟩ (.int .i64 e.life)).setCell ⟨w.heap.size, 1, none⟩ (.int .i64 e.peer)).setCell ⟨w.heap.size, 2, none⟩ (.int .i64 e.phase)).setCell ⟨w.heap.size, 3, none⟩ (.int .i64 e.base)).setCell ⟨w.heap.size, 4, none⟩ (.slice A1 e.out.length c1)).setCell ⟨w.heap.size, 5, none⟩ (.int .i64 e.want)).setCell ⟨w.heap.size, 6, none⟩ (.slice D1 e.inn.length d1)).alloc (.cells #[.slice none 0 0, .slice none 0 0, .slice none 0 0] 47) = V := ⟨_, rfl⟩; have HST : Hid (Rs w V w3.heap.size p e A1 c1 D1 d1 noGn none 0 none 0 none 0 ∧ Ep w V e A1 c1 D1 d1) := by
    rw [← hV]; exact Rs.start (HBW.out.trans (HB3.out.mono (by omega))) HK1c.out (HKP.out.below HB3.out (by omega)) (HK4.out.below HB3.out (by omega)) (HK5.out.below HB3.out (by omega)) HR1.out HR2.out (by omega) HG.out.len (by have := HG.out.ins_len; omega)
   obtain ⟨b7, hb7⟩ : ∃ b, w3.heap.size = b := ⟨_, rfl⟩; rw [hb7] at HST ⊢; have HRs := Lib.hid HST.out.1; have HEp := Lib.hid HST.out.2; rw [hV]; clear x0 x1 x2 x3 x4 x5 x6 xl; clear y0 y1 y2 y3 y4 y5 y6 HST hV hb7 HR1 HR2 HK1c hs3 HB3 HBZ hsz2 HK1 HKP HK4 HK5 hsW HBW; obtain ⟨x0, x1, x2, x3, x4, x5, x6, xl⟩ := Blk.d7 HRs.out.be; obtain ⟨pp0, pp1, pp2, pp3, pp4, pp5, pp6, ppl⟩ := Blk.d7 HRs.out.bp; by_cases hold : p.frm < e.peer
   ·skip
    have HTK : Hid (takeA e p = (e, noGn, 0)) := tk_old hbg.out hbp.out hold; have q1 : decide (p.frm < e.peer) = true := decide_eq_true hold; clear hold; go_upto_region 6 with fail
    obtain ⟨X, rfl⟩ : ∃ X, X = V := ⟨_, rfl⟩; clear x0 x1 x2 x3 x4 x5 x6 xl; clear pp0 pp1 pp2 pp3 pp4 pp5 pp6 ppl; clear q1; have HGL : Hid (noGn.packets.length ≤ 1000 ∧ noGn.taken.length ≤ 1000 ∧ noGn.lost.length ≤ 1000) := ⟨Nat.zero_le _, Nat.zero_le _, Nat.zero_le _⟩; have HRd := Lib.hid (HRs.out.below (Below.refl _ X).drew); have HEd := Lib.hid (HEp.out.below (Below.refl _ X).drew); have hr7 := HRs.out.h7; have hn26 : ¬ (w.heap.size = w.heap.size + 1 + 1 ∨ w.heap.size = w.heap.size + 1 + 1 + 1) := by omega
    have hn47 : ¬ (b7 = w.heap.size + 1 + 1 ∨ b7 = w.heap.size + 1 + 1 + 1) := by omega
    refine draw (fun w' => Frame (fun b => b = w.heap.size + 1 + 1 ∨ b = w.heap.size + 1 + 1 + 1) X w') 5 rfl (by kernel_rfl) (fun Qd hQd => ?_); iterate 2 (first | apply sI 0 (by rfl) rfl (by kernel_rfl) | apply sI 1 (by rfl) rfl (by kernel_rfl)); (focus intro wI hI Kv hKv; obtain ⟨x0, x1, x2, x3, x4, x5, x6, xl⟩ := Blk.d7 (HRs.out.be.frame hI hn26); obtain ⟨g0, g1, g2, gl⟩ := Blk.d3 (HRs.out.k7.frame hI hn47); go_simp; exact hKv); intro Kd hKd; go_simp; refine hKd _ ?_; clear hKd Kd
    have HF1 : Hid (Frame (fun b => b = w.heap.size + 1 + 1 ∨ b = w.heap.size + 1 + 1 + 1) X (setEn X.drew (w.heap.size + 1 + 1) e A1 c1 D1 d1)) := setEn_frame (Frame.refl _ X).drew (.inl (.inl rfl)); have HK5 := Lib.hid (HRd.out.k5.frame (setEn_frame (e := e) (A := A1) (c := c1) (B := D1) (d := d1) (Frame.refl (fun b => b = w.heap.size + 1 + 1) X.drew) (.inl rfl)) (by show ¬ _ = _; omega)); refine anyI_one' 2 rfl (by kernel_rfl) ((Frame.refl _ X).drew) (fun Kd hKd => ?_); refine wpList_store26 (e := e) (A := A1) (c := c1) (D := D1) (d := d1) rfl _ _ rfl HRd.out.k4 rfl rfl ?_; refine ⟨rfl, hKd _ _ ?_⟩; clear hKd Kd; refine anyI_one' 3 rfl (by kernel_rfl) (HF1.out) (fun Kd hKd => ?_); refine wpList_store47 (g := noGn) (P := none) (cp := 0) (T := none) (ct := 0) (L := none) (cl := 0) rfl _ _ rfl HK5.out rfl rfl ?_; refine ⟨rfl, hKd _ _ ?_⟩; clear hKd Kd; apply anyI_step 4 rfl (by kernel_rfl); (focus intro wI hI Kv hKv; go_simp; exact hKv); intro Kd hKd; go_simp; refine hKd _ ?_; clear hKd Kd
    refine anyI_end (by kernel_rfl) ((setGn_frame HF1.out (.inl (.inr rfl)))) (hQd _ _ ?_); clear hQd Qd; go_wp2_with fail
    obtain ⟨q1, q2, q3⟩ := tk_end (e' := e) (A := A1) (c := c1) (D := D1) (d := d1) (g := noGn) (P := none) (cp := 0) (T := none) (ct := 0) (L := none) (cl := 0) HRd.out.k4 HRd.out.k5; have hl1 := load26 q1; have hl2 := load47 q2; have n26 : ∀ {b : Nat} {cs : Array Value} {t : TypeId}, Blk X.drew b (.cells cs t) → t ≠ 26 → t ≠ 47 → ¬ (b = w.heap.size + 1 + 1 ∨ b = w.heap.size + 1 + 1 + 1) := fun hb t1 t2 e2 => by
     rcases e2 with e2 | e2
     ·exact blk_ne hb HRd.out.k4 t1 e2
     ·exact blk_ne hb HRd.out.k5 t2 e2
    have hen := HEd.out.frame q3 (fun b cur hb => n26 hb (by decide) (by decide)) (fun b cur hb => n26 hb (by decide) (by decide)); have hgn := HRd.out.gp.frame q3 (fun b cur hb => n26 hb (by decide) (by decide)) (fun b cur hb => n26 hb (by decide) (by decide)); refine bodyPost_ret (v := .tuple #[enV e A1 c1 D1 d1, gnV noGn none 0 none 0 none 0, .int .i64 0]) (results_cct rfl rfl rfl rfl hl1 hl2) rfl ?_; exact ⟨A1, c1, D1, d1, none, 0, none, 0, none, 0, by rw [HTK.out], by rw [HTK.out]; exact ⟨hen.at_, hgn.at_ HGL.out.1 HGL.out.2.1 HGL.out.2.2, hen.nil, hen.cap, hen.row, hen.im, fun a ha => (hgn.tk.lt a.block (by rw [ha]; rfl)).1, fun a ha => Nat.le_trans (Nat.le_add_right _ 4) (hgn.pk.lt a.block (by rw [ha]; rfl)).1, fun a ha => (hgn.ls.lt a.block (by rw [ha]; rfl)).1, own_nil hgn.tk, own_nil hgn.ls⟩, hen.dnil, HRd.out.bel.trans (q3.below (B := w.heap.size) (fun b e2 => by rcases e2 with e2 | e2 <;> omega) HRd.out.bel.size)⟩
   have q1 : decide (p.frm < e.peer) = false := decide_eq_false hold; have HOLD := Lib.hid hold; clear hold; have hpf := proper_from hbp.out; have HPF := Lib.hid hpf; obtain ⟨bo, hbo⟩ : ∃ b, decide (e.peer < p.frm) = b := ⟨_, rfl⟩; have HPE := Lib.hid (proper_iff.1 hbp.out); clear hpf; go_upto_if 36 with fail
   go_cut [] from 13 (fun wx => ∃ e1 A1 c1 D1 d1 ls L cl, (Rs w wx b7 p e1 A1 c1 D1 d1 ⟨[], [], ls⟩ none 0 none 0 L cl ∧ Ep w wx e1 A1 c1 D1 d1) ∧ (GoodP e1 ∧ e1.phase ≠ 1) ∧ takeA e p = takeB e1 ls p ∧ ls.length ≤ 12)
   case first =>
    cases bo with
    | true =>
     have hov0 := of_decide_eq_true hbo; have HOV := Lib.hid hov0; clear hov0; go_wp2_with fail
     refine (over58_any e A1 c1 D1 d1 p.frm V HEp.out.at_ HEp.out.cap HG.out.len).mono ?_; rintro r w4 ⟨T4, ct4, rfl, ho4, hB4⟩; have HR4 := Lib.hid (HRs.out.below hB4); have HE4 := Lib.hid (HEp.out.below hB4); have HO4 := Lib.hid ho4; have HSZ : Hid (w.heap.size ≤ V.heap.size) := HRs.out.bel.size; clear ho4 hB4; clear x0 x1 x2 x3 x4 x5 x6 xl; clear pp0 pp1 pp2 pp3 pp4 pp5 pp6 ppl; have q9 := HR4.out.be; obtain ⟨x0, x1, x2, x3, x4, x5, x6, xl⟩ := Blk.d7 q9; obtain ⟨y0, y1, y2, y3, y4, y5, y6⟩ := Blk.f7 q9; clear q9; have q9 := HR4.out.k7; have g2 := q9.cell 2 (v := .slice none 0 0) rfl; have f2 := q9.free 2; have fl := q9.lt; have n7 : ¬ b7 = w.heap.size := by have := HR4.out.h7; omega
     have n7' : ¬ w.heap.size = b7 := by have := HR4.out.h7; omega
     clear q9; obtain ⟨E1, hE1⟩ : ∃ E1, overE e p.frm = E1 := ⟨_, rfl⟩; obtain ⟨A5, hA5⟩ : ∃ A5, cutA A1 c1 (flyN e) = A5 := ⟨_, rfl⟩; obtain ⟨c5, hc5⟩ : ∃ c5, c1 - flyN e = c5 := ⟨_, rfl⟩; have HE1 := Lib.hid hE1; have HA5 := Lib.hid hA5; have HC5 := Lib.hid hc5; rw [hE1, hA5, hc5]; clear hE1 hA5 hc5 q1 hbo; unfold enV; go_wp2_with fail
     go_meet; rw [← HE1.out, ← HA5.out, ← HC5.out]; have hel : (e.out.take (flyN e)).length = flyN e := by have := (fly_le e).1; rw [List.length_take]; omega
     have hel2 : ((e.out.take (flyN e)).map (·.t)).length = flyN e := by rw [List.length_map, hel]
     have hfl := fly_le e; have hov := overE_eq (e := e) (outOk_iff _ _ _ |>.2 (fun j x hx => by rw [Nat.zero_add]; exact HG.out.outs j x hx)) p.frm; have hep : Ep w w4 (overE e p.frm) (cutA A1 c1 (flyN e)) (c1 - flyN e) none 0 := ⟨cut_cells HE4.out.out hfl.1 HE4.out.cap, cut_row HE4.out.row HE4.out.cap, by show (e.out.drop (flyN e)).length ≤ _; rw [List.length_drop]; have := HE4.out.cap; omega, cut_nil HE4.out.nil, Cells.nil _ _, fun h0 => absurd rfl h0, Nat.le_refl _, fun _ => rfl⟩; obtain ⟨k1, k2⟩ := HR4.out.setE hep; have ho5 : (setEn w4 w.heap.size (overE e p.frm) (cutA A1 c1 (flyN e)) (c1 - flyN e) none 0).ownsRow V.heap.size 9 1 (.slice T4 ((e.out.take (flyN e)).map (·.t)).length ct4) ((e.out.take (flyN e)).map (·.t)).length (strs ((e.out.take (flyN e)).map (·.t))) := by
      rw [hel2]; exact own_away HO4.out (setEn_frame (Frame.refl (fun b => b = w.heap.size) w4) (.inl rfl)) (fun b cur hb e2 => blk_ne hb HR4.out.be (by decide) e2)
     obtain ⟨ts, hts⟩ : ∃ ts, (e.out.take (flyN e)).map (·.t) = ts := ⟨_, rfl⟩; rw [hts] at ho5 hel2 hov; have k3 := k1.setL k2 ho5 HSZ.out; rw [hel2] at k3; refine ⟨overE e p.frm, cutA A1 c1 (flyN e), c1 - flyN e, none, 0, ts, T4, ct4, k3, ⟨?_, by show (2 : Int) ≠ 1; decide⟩, ?_, by rw [hel2]; omega⟩
     ·have h9 := over_good HG.out HPF.out.1 HPF.out.2.1; rw [hov] at h9; exact h9
     ·exact tk_go hbg.out hbp.out (by have := HOLD.out; omega) (by rw [if_pos HOV.out, hov])
    | false =>
     have hov0 := of_decide_eq_false hbo; have HOV := Lib.hid hov0; clear hov0; go_wp2_with fail
     go_meet; refine ⟨e, A1, c1, D1, d1, [], none, 0, ⟨HRs.out, HEp.out⟩, ⟨HG.out, fun hph => ?_⟩, tk_go hbg.out hbp.out (by have := HOLD.out; omega) (if_neg (by have := HOV.out; omega)), Nat.zero_le _⟩; have h1 := HOV.out; have h2 := HOLD.out; have h3 := HPF.out.1; have h4 := (HG.out.cl (by omega)).2.2.2; omega
   case rest =>
    clear x0 x1 x2 x3 x4 x5 x6 xl; clear pp0 pp1 pp2 pp3 pp4 pp5 pp6 ppl; clear q1 hbo HRs HEp; obtain ⟨V1, rfl⟩ : ∃ V1, V1 = wc := ⟨wc, rfl⟩; obtain ⟨e1, A2, c2, D2, d2, ls, L, cl, ⟨hrs, hep⟩, ⟨hg1, hph⟩, htk, hls⟩ := hcut; have HRs := Lib.hid hrs; have HEp := Lib.hid hep; have HG1 := Lib.hid hg1; have HPH := Lib.hid hph; have HTB := Lib.hid htk; have HLS := Lib.hid hls; clear hrs hep hg1 hph htk hls; obtain ⟨F, HF⟩ : ∃ F, Hid (flyN e1 = F) := ⟨_, rfl⟩; have hfl := fly_le e1; rw [HF.out] at hfl; obtain ⟨x0, x1, x2, x3, x4, x5, x6, xl⟩ := Blk.d7 HRs.out.be; go_wp2_with fail
    refine (flying_any e1 A2 c2 D2 d2 V1).mono ?_; rintro r w5 ⟨rfl, hB⟩; rw [HF.out]; have HR5 := Lib.hid (HRs.out.below hB); have HE5 := Lib.hid (HEp.out.below hB); clear hB HRs HEp; clear x0 x1 x2 x3 x4 x5 x6 xl; have q9 := HR5.out.be; obtain ⟨x0, x1, x2, x3, x4, x5, x6, xl⟩ := Blk.d7 q9; obtain ⟨y0, y1, y2, y3, y4, y5, y6⟩ := Blk.f7 q9; clear q9; obtain ⟨pp0, pp1, pp2, pp3, pp4, pp5, pp6, ppl⟩ := Blk.d7 HR5.out.bp; obtain ⟨mine, hmine⟩ : ∃ b, (p.to == e1.life) = b := ⟨_, rfl⟩; obtain ⟨b2, hb2⟩ : ∃ b, (e1.phase == 2) = b := ⟨_, rfl⟩; obtain ⟨kh, hkh⟩ : ∃ b, (p.kind == 1) = b := ⟨_, rfl⟩; have HMI := Lib.hid hmine; have HB2 := Lib.hid hb2; have HKH := Lib.hid hkh; have hbr : 0 ≤ e1.base ∧ e1.base + e1.out.length ≤ 1000000000 := ⟨HG1.out.base, HG1.out.room⟩; have HBR := Lib.hid hbr; have hwb : IntKind.i64.wrap (e1.base + (F : Int)) = e1.base + (F : Int) := wrap_ok ⟨by omega, by omega⟩; clear hbr; obtain ⟨mb, hmb⟩ : ∃ b, (mine && b2) = b := ⟨_, rfl⟩; have HMB := Lib.hid hmb; clear hmb; go_upto_region 13 with fail
    go_cut [61] from 13 (fun q wx => q = Value.bool mb ∧ wx = w5)
    case first =>
     cases mine with
     | false =>
      go_wp2_with fail
      go_meet; exact ⟨by rw [← HMB.out]; rfl, rfl⟩
     | true =>
      go_wp2_with fail
      go_meet; exact ⟨by rw [← HMB.out]; cases b2 <;> rfl, rfl⟩
    obtain ⟨rfl, hwc⟩ := hcut; obtain rfl := hwc.symm; clear hwc; obtain ⟨op, hop⟩ : ∃ b, (mine && b2 && kh) = b := ⟨_, rfl⟩; have HOP := Lib.hid hop; clear hop; go_upto_if 61 with fail
    go_cut [11] from 13 (fun v11 wx => ∃ e2 : En, v11 = Value.bool op ∧ (if mine && b2 then ({ e1 with phase := 3 } : En) else e1) = e2 ∧ (Rs w wx b7 p e2 A2 c2 D2 d2 ⟨[], [], ls⟩ none 0 none 0 L cl ∧ Ep w wx e2 A2 c2 D2 d2) ∧ (GoodP e2 ∧ (mine = true → e2.phase = 3)) ∧ e2.out = e1.out ∧ e2.base = e1.base ∧ F ≤ flyN e2)
    case first =>
     cases mb with
     | false =>
      have HP3 : Hid (mine = true → e1.phase = 3) := fun h9 => by
       have h0 := HMB.out; rw [h9, Bool.true_and] at h0; have h1 := HB2.out; rw [h0] at h1; have h2 := beq_eq_false_iff_ne.1 h1; have h3 := HPH.out; by_cases h4 : e1.phase = 3
       ·exact h4
       ·have := (HG1.out.cl h4).2.2.2; omega
      go_wp2_with fail
      go_meet; exact ⟨e1, by rw [← HOP.out, HMB.out]; rfl, if_neg (by rw [HMB.out]; decide), ⟨HR5.out, HE5.out⟩, ⟨HG1.out, HP3.out⟩, rfl, rfl, Nat.le_of_eq HF.out.symm⟩
     | true =>
      have hbb := HMB.out; rw [Bool.and_eq_true] at hbb; have HBB := Lib.hid hbb; have HPP : Hid (e1.phase = 2) := by
       have h1 := HB2.out; rw [hbb.2] at h1; exact beq_iff_eq.1 h1
      clear hbb; go_wp2_with fail
      go_meet; have hst := HR5.out.setPh HE5.out; have hf0 : F = 0 := by
       rw [← HF.out]; unfold flyN; rw [if_neg (by have := HPP.out; omega)]
      exact ⟨{ e1 with phase := 3 }, by rw [← HOP.out, HMB.out]; cases kh <;> rfl, if_pos HMB.out, hst, ⟨opened_good HG1.out HPP.out, fun _ => rfl⟩, rfl, rfl, by rw [hf0]; exact Nat.zero_le _⟩
    case rest =>
     clear x0 x1 x2 x3 x4 x5 x6 xl; clear pp0 pp1 pp2 pp3 pp4 pp5 pp6 ppl; clear y0 y1 y2 y3 y4 y5 y6 hwb HR5 HE5 hb2 hkh; obtain ⟨V2, rfl⟩ : ∃ V2, V2 = wc := ⟨wc, rfl⟩; obtain ⟨e2, rfl, he2, ⟨hrs, hep⟩, ⟨hg2, hph2⟩, ho2, hbs2, hF2⟩ := hcut; have HRs := Lib.hid hrs; have HEp := Lib.hid hep; have HG2 := Lib.hid hg2; have HPH2 := Lib.hid hph2; have HE2 := Lib.hid he2; have HO2 := Lib.hid ho2; have HBS2 := Lib.hid hbs2; have HF2 := Lib.hid hF2; clear hrs hep hg2 hph2 he2 ho2 hbs2 hF2; obtain ⟨kn, hkn⟩ : ∃ b, (p.kind != 1) = b := ⟨_, rfl⟩; have HKN := Lib.hid hkn; obtain ⟨ma, hma⟩ : ∃ b, (mine && kn) = b := ⟨_, rfl⟩; have HMA := Lib.hid hma; clear hma; obtain ⟨x0, x1, x2, x3, x4, x5, x6, xl⟩ := Blk.d7 HRs.out.be; obtain ⟨pp0, pp1, pp2, pp3, pp4, pp5, pp6, ppl⟩ := Blk.d7 HRs.out.bp; go_upto_region 16 with fail
     go_cut [71] from 13 (fun q wx => q = Value.bool ma ∧ wx = V2)
     case first =>
      cases mine with
      | false =>
       go_wp2_with fail
       go_meet; exact ⟨by rw [← HMA.out]; rfl, rfl⟩
      | true =>
       go_wp2_with fail
       go_meet; exact ⟨by rw [← HMA.out]; cases kn <;> rfl, rfl⟩
     obtain ⟨rfl, hwc⟩ := hcut; obtain rfl := hwc.symm; clear hwc; go_upto_if 71 with fail
     go_cut [] from 13 (fun wx => ∃ (e3 : En) (A3 : Option Addr) (c3 : Nat), (if mine && kn then ackedA e2 p F else e2) = e3 ∧ (Rs w wx b7 p e3 A3 c3 D2 d2 ⟨[], [], ls⟩ none 0 none 0 L cl ∧ Ep w wx e3 A3 c3 D2 d2) ∧ GoodP e3 ∧ (mine = true → e3.phase = 3))
     case first =>
      cases ma with
      | false =>
       go_wp2_with fail
       go_meet; exact ⟨e2, A2, c2, if_neg (by rw [HMA.out]; decide), ⟨HRs.out, HEp.out⟩, HG2.out, HPH2.out⟩
      | true =>
       have hbb := HMA.out; rw [Bool.and_eq_true] at hbb; have HMT : Hid (mine = true) := hbb.1; have HAH : Hid ((0 ≤ p.ack ∧ p.ack ≤ 1000000000) ∧ (0 ≤ p.held ∧ p.held ≤ 7)) := by
        have h1 := HKN.out; rw [hbb.2] at h1; have h2 : p.kind ≠ 1 := by simpa using h1
        rcases HPE.out.2 with h3 | h3 | h3
        ·exact absurd h3.1 h2
        ·exact ⟨⟨h3.2.2.2.2.2.1, h3.2.2.2.2.2.2.1⟩, h3.2.2.2.2.2.2.2⟩
        ·exact ⟨⟨h3.2.2.2.2.1, h3.2.2.2.2.2.1⟩, h3.2.2.2.2.2.2⟩
       clear hbb; go_wp2_with fail
       refine (acked59_any w.heap.size e2 A2 c2 D2 d2 p F V2 HEp.out.at_ HEp.out.row HEp.out.cap HEp.out.nil ⟨HG2.out.base, by have := HG2.out.room; omega⟩ HAH.out.1 HAH.out.2 (Nat.le_trans HF2.out (fly_le e2).1) HG2.out.len HRs.out.bel.size).mono ?_; rintro r w6 ⟨A6, c6, rfl, hak⟩; have HR6 := Lib.hid (HRs.out.frame hak.fr (fun b hb => hb)); have HE6 := Lib.hid (HEp.out.acked hak); clear x0 x1 x2 x3 x4 x5 x6 xl; clear pp0 pp1 pp2 pp3 pp4 pp5 pp6 ppl; clear hak; obtain ⟨E3, hE3⟩ : ∃ E3, ackedA e2 p F = E3 := ⟨_, rfl⟩; have HE3 := Lib.hid hE3; rw [hE3] at HE6 ⊢; clear hE3; have q9 := HR6.out.be; obtain ⟨x0, x1, x2, x3, x4, x5, x6, xl⟩ := Blk.d7 q9; obtain ⟨y0, y1, y2, y3, y4, y5, y6⟩ := Blk.f7 q9; clear q9; unfold enV; go_wp2_with fail
       go_meet; have hst := HR6.out.setE HE6.out; exact ⟨E3, A6, c6, (if_pos HMA.out).trans HE3.out, hst, by rw [← HE3.out]; exact acked_good HG2.out (HPH2.out HMT.out) p HF2.out, fun h9 => by rw [← HE3.out, (acked_base e2 p F).2.2.2.2]; exact HPH2.out h9⟩
     case rest =>
      clear x0 x1 x2 x3 x4 x5 x6 xl; clear pp0 pp1 pp2 pp3 pp4 pp5 pp6 ppl; clear hkn; obtain ⟨V3, rfl⟩ : ∃ V3, V3 = wc := ⟨wc, rfl⟩; obtain ⟨e3, A3, c3, he3, ⟨hrs, hep⟩, hg3, hph3⟩ := hcut; have HRs := Lib.hid hrs; have HEp := Lib.hid hep; have HG3 := Lib.hid hg3; have HPH3 := Lib.hid hph3; have HE3 := Lib.hid he3; clear hrs hep hg3 hph3 he3; obtain ⟨kd, hkd⟩ : ∃ b, (p.kind == 2) = b := ⟨_, rfl⟩; have HKD := Lib.hid hkd; obtain ⟨mc, hmc⟩ : ∃ b, (mine && kd) = b := ⟨_, rfl⟩; have HMC := Lib.hid hmc; clear hmc; obtain ⟨x0, x1, x2, x3, x4, x5, x6, xl⟩ := Blk.d7 HRs.out.be; obtain ⟨pp0, pp1, pp2, pp3, pp4, pp5, pp6, ppl⟩ := Blk.d7 HRs.out.bp; go_upto_region 18 with fail
      go_cut [81] from 13 (fun q wx => q = Value.bool mc ∧ wx = V3)
      case first =>
       cases mine with
       | false =>
        go_wp2_with fail
        go_meet; exact ⟨by rw [← HMC.out]; rfl, rfl⟩
       | true =>
        go_wp2_with fail
        go_meet; exact ⟨by rw [← HMC.out]; cases kd <;> rfl, rfl⟩
      obtain ⟨rfl, hwc⟩ := hcut; obtain rfl := hwc.symm; clear hwc; go_upto_if 81 with fail
      go_cut [] from 13 (fun wx => ∃ (e4 : En) (D4 : Option Addr) (d4 : Nat) (ts : List ByteArray) (T : Option Addr) (ct : Nat), (if mine && kd then cameA e3 p else (e3, [])) = (e4, ts) ∧ (Rs w wx b7 p e4 A3 c3 D4 d4 ⟨[], ts, ls⟩ none 0 T ct L cl ∧ Ep w wx e4 A3 c3 D4 d4) ∧ GoodP e4 ∧ ts.length ≤ 12)
      case first =>
       cases mc with
       | false =>
        go_wp2_with fail
        go_meet; exact ⟨e3, D2, d2, [], none, 0, if_neg (by rw [HMC.out]; decide), ⟨HRs.out, HEp.out⟩, HG3.out, Nat.zero_le _⟩
       | true =>
        have hbb := HMC.out; rw [Bool.and_eq_true] at hbb; have HMT : Hid (mine = true) := hbb.1; have HNM : Hid ((0 ≤ p.num ∧ p.num < most) ∧ p.t.size ≤ 20) := by
         have h1 := HKD.out; rw [hbb.2] at h1; have h2 : p.kind = 2 := beq_iff_eq.1 h1; rcases HPE.out.2 with h3 | h3 | h3
         ·have := h3.1; omega
         ·exact ⟨⟨h3.2.2.1, h3.2.2.2.1⟩, h3.2.2.2.2.1⟩
         ·have := h3.1; omega
        clear hbb; go_wp2_with fail
        refine (came60_any e3 A3 c3 D2 d2 p V3 HEp.out.at_ HEp.out.im HEp.out.dcap HEp.out.dnil HG3.out.want ⟨HNM.out.1.1, Int.le_of_lt HNM.out.1.2⟩ (by have := HG3.out.ins_len; omega)).mono ?_; rintro r w6 ⟨D6, d6, T6, ct6, rfl, hc6, hi6, hdc6, hdn6, ho6, hB6⟩; have HR6 := Lib.hid (HRs.out.below hB6); have HE6 := Lib.hid (HEp.out.came hB6 hc6 hi6 hdc6 hdn6); have HO6 := Lib.hid ho6; have HSZ : Hid (w.heap.size ≤ V3.heap.size) := HRs.out.bel.size; have HGC : Hid (GoodP (cameA e3 p).1) := came_good HG3.out (HPH3.out HMT.out) HNM.out.1.2 HNM.out.2; have HLC : Hid ((cameA e3 p).2.length ≤ 4) := came_len HG3.out; clear x0 x1 x2 x3 x4 x5 x6 xl; clear pp0 pp1 pp2 pp3 pp4 pp5 pp6 ppl; clear hc6 hi6 hdc6 hdn6 ho6 hB6; obtain ⟨R, hR⟩ : ∃ R, cameA e3 p = R := ⟨_, rfl⟩; have HR := Lib.hid hR; rw [hR] at HE6 HO6 HGC HLC ⊢; clear hR; have q9 := HR6.out.be; obtain ⟨x0, x1, x2, x3, x4, x5, x6, xl⟩ := Blk.d7 q9; obtain ⟨y0, y1, y2, y3, y4, y5, y6⟩ := Blk.f7 q9; clear q9; have q9 := HR6.out.k7; have g1 := q9.cell 1 (v := .slice none 0 0) rfl; have f1 := q9.free 1; have fl := q9.lt; have n7 : ¬ b7 = w.heap.size := by have := HR6.out.h7; omega
        have n7' : ¬ w.heap.size = b7 := by have := HR6.out.h7; omega
        clear q9; unfold enV; go_wp2_with fail
        go_meet; obtain ⟨k1, k2⟩ := HR6.out.setE HE6.out; have hst := k1.setT k2 (own_away HO6.out (setEn_frame (e := R.1) (A := A3) (c := c3) (B := D6) (d := d6) (Frame.refl (fun b => b = w.heap.size) w6) (.inl rfl)) (fun b cur hb e2 => blk_ne hb HR6.out.be (by decide) e2)) HSZ.out; exact ⟨R.1, D6, d6, R.2, T6, ct6, (if_pos HMC.out).trans HR.out, hst, HGC.out, by have := HLC.out; omega⟩
      case rest =>
       clear x0 x1 x2 x3 x4 x5 x6 xl; clear pp0 pp1 pp2 pp3 pp4 pp5 pp6 ppl; clear hkd; obtain ⟨V4, rfl⟩ : ∃ V4, V4 = wc := ⟨wc, rfl⟩; obtain ⟨e4, D4, d4, ts, T, ct, he4, ⟨hrs, hep⟩, hg4, hts⟩ := hcut; have HRs := Lib.hid hrs; have HEp := Lib.hid hep; have HG4 := Lib.hid hg4; have HE4 := Lib.hid he4; have HTS := Lib.hid hts; clear hrs hep hg4 he4 hts; go_upto_if 90 with fail
       go_cut [] from 13 (fun wx => ∃ (P : Option Addr) (cp : Nat), Rs w wx b7 p e4 A3 c3 D4 d4 ⟨(if mine then [] else [helloA e4]), ts, ls⟩ P cp T ct L cl ∧ Ep w wx e4 A3 c3 D4 d4)
       case first =>
        cases mine with
        | true =>
         go_wp2_with fail
         go_meet; exact ⟨none, 0, HRs.out, HEp.out⟩
        | false =>
         obtain ⟨ps, hps⟩ : ∃ ps : List Pk, ([] : List Pk) = ps := ⟨_, rfl⟩; obtain ⟨P, hP⟩ : ∃ P : Option Addr, (none : Option Addr) = P := ⟨_, rfl⟩; obtain ⟨cp, hcp⟩ : ∃ cp : Nat, 0 = cp := ⟨_, rfl⟩; have HR7 : Hid (Rs w V4 b7 p e4 A3 c3 D4 d4 ⟨ps, ts, ls⟩ P cp T ct L cl) := by rw [← hps, ← hP, ← hcp]; exact HRs.out
         have hpl : ps.length ≤ 100 := by rw [← hps]; exact Nat.zero_le _
         have HPS := Lib.hid hps; clear hps hP hcp; go_upto_region 21 with fail
         obtain ⟨X, rfl⟩ : ∃ X, X = V4 := ⟨_, rfl⟩; refine drawl (fun w' => Frame (fun b => (Value.slice P ps.length cp).ownBlock = some b) X w') 7 7 rfl (by kernel_rfl) (fun Qd hQd => ?_); have hb4 : w.heap.size + 4 ≤ X.heap.size := by have := HR7.out.h7; have := HR7.out.k7.lt; omega
         iterate 3 (first | apply sL 0 (by rfl) (by kernel_rfl) rfl (by kernel_rfl) | apply sL 2 (by rfl) (by kernel_rfl) rfl (by kernel_rfl) | apply sL 1 (by rfl) (by kernel_rfl) rfl (by kernel_rfl)); (focus intro wI hI Kv hKv; have q9 := HR7.out.be.frame hI (own_ne HR7.out.gp.pk HR7.out.be (by decide)); obtain ⟨x0, x1, x2, x3, x4, x5, x6, xl⟩ := Blk.d7 q9; clear q9; have q9 := HR7.out.k7.frame hI (own_ne HR7.out.gp.pk HR7.out.k7 (by decide)); have g0 := q9.cell 0 (v := .slice P ps.length cp) rfl; have gl := q9.lt; clear q9; go_simp; exact hKv); intro Kd hKd; go_simp; refine hKd _ ?_; clear hKd Kd
         refine anyL_one 3 rfl (by kernel_rfl) ((Frame.refl _ X).drew) (fun Kd hKd => ?_); go_wp2_with (go_at_call 51; go_must (refine (greeting_any e4 A3 c3 D4 d4 _).mono ?_); rintro r u1 ⟨rfl, hBu⟩; unfold pkV)
         have HBu : Hid (Below X.heap.size X u1) := below_in (Below.refl _ X).drew hBu; have HOu := Lib.hid (own_frame HR7.out.gp.pk (Frame.of_all (S := fun _ => False) HBu.out) (fun _ _ h => h)); have HFu : Hid (Frame (fun b => (Value.slice P ps.length cp).ownBlock = some b) X u1) := Frame.of_all HBu.out; have hsu := HBu.out.size; clear hBu; refine anyL_one 4 rfl (by kernel_rfl) (HFu.out) (fun Kd hKd => ?_); go_wp2; refine anyL_one 5 rfl (by kernel_rfl) ((HFu.out.alloc _)) (fun Kd hKd => ?_); go_wp2_with (at_builtin; go_must (refine wpList_app1' rPk _ rfl _ _ rfl HOu.out rfl [_, _, _, _, _, _, _] 1 rfl rfl (by simp [Value.oneCell']) (by show (ps.length + 1) * 64 ≤ _; omega) (by omega) ?_); intro v6 w6 ho6 hB6 hg6 hloc6; obtain ⟨P6, c6, rfl⟩ := own_fits ho6)
         have HG6 : Hid (Frame (fun b => (Value.slice P ps.length cp).ownBlock = some b) X w6) := HFu.out.trans (Frame.of_grown hg6) (fun _ _ h => h); have bx6 := HR7.out.k7.frame HG6.out (own_ne HR7.out.gp.pk HR7.out.k7 (by decide)); have k2 := bx6.cell 0 (v := .slice P ps.length cp) rfl; have k3 := bx6.free 0; have k4 := bx6.lt; have HO6 := Lib.hid ho6; clear ho6 hB6 hg6 hloc6 bx6; apply anyL_step 6 (by kernel_rfl) rfl (by kernel_rfl); (focus intro wI hI Kv hKv; go_simp; exact hKv); intro Kd hKd; go_simp; refine hKd _ ?_; clear hKd Kd
         refine anyL_end rfl (by kernel_rfl) (HG6.out) (fun Kd hKd => ?_); go_wp2; go_meet; have e1 : (ps ++ [(helloA e4)]).length = ps.length + 1 := by simp
         have ho7 : w6.ownsRow (w.heap.size + 4) 44 7 (.slice P6 (ps ++ [(helloA e4)]).length c6) (ps ++ [(helloA e4)]).length (pks (ps ++ [(helloA e4)])) := by
          rw [e1, pks_snoc]; exact HO6.out
         have hst := HR7.out.setP HEp.out HG6.out ho7; rw [e1] at hst; have e0 : ps ++ [helloA e4] = [helloA e4] := by rw [← HPS.out]; rfl
         rw [e0] at hst; exact ⟨P6, c6, hst⟩
       case rest =>
        obtain ⟨V5, rfl⟩ : ∃ V5, V5 = wc := ⟨wc, rfl⟩; obtain ⟨P, cp, hrs, hep⟩ := hcut; obtain ⟨pk0, hpk0⟩ : ∃ l : List Pk, (if mine then [] else [helloA e4]) = l := ⟨_, rfl⟩; rw [hpk0] at hrs; have HPK := Lib.hid hpk0; have HPL : Hid (pk0.length ≤ 1) := by
         show _ ≤ _; rw [← hpk0]; cases mine
         ·exact Nat.le_refl _
         ·exact Nat.zero_le _
        have HRs := Lib.hid hrs; have HEp := Lib.hid hep; clear hrs hep hpk0; obtain ⟨F4, HF4⟩ : ∃ F, Hid (flyN e4 = F) := ⟨_, rfl⟩; obtain ⟨sn, hsn⟩ : ∃ s : Int, e1.base + (F : Int) = s := ⟨_, rfl⟩; have HSN := Lib.hid hsn; have hfl4 := fly_le e4; rw [HF4.out] at hfl4; rw [hsn]; clear hsn; go_wp2_with fail
        go_loopg [12] F4 (fun g iv wr => ∃ (k : Nat) (P : Option Addr) (cp : Nat), k + g = F4 ∧ iv = Value.int .i64 (k : Int) ∧ Rs w wr b7 p e4 A3 c3 D4 d4 ⟨pk0 ++ frS e4 (sn - e4.base).toNat k, ts, ls⟩ P cp T ct L cl ∧ Ep w wr e4 A3 c3 D4 d4)
        case atStart => exact ⟨0, P, cp, Nat.zero_add _, rfl, by rw [show frS e4 (sn - e4.base).toNat 0 = [] by unfold frS; rw [List.range_zero, List.drop_nil]; rfl, List.append_nil]; exact HRs.out, HEp.out⟩
        case round =>
         clear HRs HEp; obtain ⟨k, P, cp, hk, rfl, hrs, hep⟩ := hrel; have HKK := Lib.hid hk; have HRs := Lib.hid hrs; have HEp := Lib.hid hep; have hk4 : k ≤ 4 := by omega
         clear hk hrs hep; obtain ⟨x0, x1, x2, x3, x4, x5, x6, xl⟩ := Blk.d7 HRs.out.be; by_cases hlt : (k : Int) < (F4 : Int)
         ·skip
          go_wp2_with fail
          refine (flying_any e4 A3 c3 D4 d4 wr).mono ?_; rintro r w2 ⟨rfl, hB2⟩; rw [HF4.out]; have HR6 := Lib.hid (HRs.out.below hB2); have HE6 := Lib.hid (HEp.out.below hB2); clear x0 x1 x2 x3 x4 x5 x6 xl; clear hB2; obtain ⟨x0, x1, x2, x3, x4, x5, x6, xl⟩ := Blk.d7 HR6.out.be; have HBX : Hid (0 ≤ e4.base ∧ e4.base + e4.out.length ≤ 1000000000) := ⟨HG4.out.base, HG4.out.room⟩; have hw1 : IntKind.i64.wrap ((k : Int) + 1) = (k : Int) + 1 := wrap_ok ⟨by omega, by omega⟩; have hw2 : IntKind.i64.wrap (e4.base + (k : Int)) = e4.base + (k : Int) := wrap_ok ⟨by have := HBX.out; omega, by have := HBX.out; omega⟩; have HKL : Hid (k < e4.out.length) := by show _ < _; omega
          have HME : Hid (F4 - (k + 1) < gk ∧ k + 1 + (F4 - (k + 1)) = F4) := by have := HKK.out; show _ ∧ _; omega
          by_cases hs : sn ≤ e4.base + (k : Int)
          ·have q1 : decide (sn ≤ e4.base + (k : Int)) = true := decide_eq_true hs; have HST := Lib.hid (frS_yes (e := e4) (s := (sn - e4.base).toNat) (k := k) (by omega)); clear hs; obtain ⟨ps, hps⟩ : ∃ ps : List Pk, pk0 ++ frS e4 (sn - e4.base).toNat k = ps := ⟨_, rfl⟩; have HPS := Lib.hid hps; have HR7 : Hid (Rs w w2 b7 p e4 A3 c3 D4 d4 ⟨ps, ts, ls⟩ P cp T ct L cl) := by rw [← hps]; exact HR6.out
           have hpl : ps.length ≤ 100 := by
            rw [← hps, List.length_append]; have := frS_len e4 (sn - e4.base).toNat k; have := HPL.out; omega
           clear hps HR6; go_upto_region 26 with fail
           obtain ⟨X, rfl⟩ : ∃ X, X = w2 := ⟨_, rfl⟩; clear x0 x1 x2 x3 x4 x5 x6 xl; have HEp := HE6; refine drawl (fun w' => Frame (fun b => (Value.slice P ps.length cp).ownBlock = some b) X w') 8 8 rfl (by kernel_rfl) (fun Qd hQd => ?_); have hb4 : w.heap.size + 4 ≤ X.heap.size := by have := HR7.out.h7; have := HR7.out.k7.lt; omega
           iterate 4 (first | apply sL 0 (by rfl) (by kernel_rfl) rfl (by kernel_rfl) | apply sL 2 (by rfl) (by kernel_rfl) rfl (by kernel_rfl) | apply sL 3 (by rfl) (by kernel_rfl) rfl (by kernel_rfl) | apply sL 1 (by rfl) (by kernel_rfl) rfl (by kernel_rfl)); (focus intro wI hI Kv hKv; have q9 := HR7.out.be.frame hI (own_ne HR7.out.gp.pk HR7.out.be (by decide)); obtain ⟨x0, x1, x2, x3, x4, x5, x6, xl⟩ := Blk.d7 q9; clear q9; have q9 := HR7.out.k7.frame hI (own_ne HR7.out.gp.pk HR7.out.k7 (by decide)); have g0 := q9.cell 0 (v := .slice P ps.length cp) rfl; have gl := q9.lt; clear q9; go_simp; exact hKv); intro Kd hKd; go_simp; refine hKd _ ?_; clear hKd Kd
           refine anyL_one 4 rfl (by kernel_rfl) ((Frame.refl _ X).drew) (fun Kd hKd => ?_); go_wp2_with (go_at_call 46; go_must (refine (data46_any e4 A3 c3 D4 d4 k _ (HE6.out.at_.below (Below.refl _ X).drew) HG4.out.want HKL.out ⟨HG4.out.base, by have := HBX.out; unfold most; omega⟩ (by unfold most; omega)).mono ?_); rintro r u1 ⟨rfl, hBu⟩; unfold pkV)
           have HBu : Hid (Below X.heap.size X u1) := below_in (Below.refl _ X).drew hBu; have HOu := Lib.hid (own_frame HR7.out.gp.pk (Frame.of_all (S := fun _ => False) HBu.out) (fun _ _ h => h)); have HFu : Hid (Frame (fun b => (Value.slice P ps.length cp).ownBlock = some b) X u1) := Frame.of_all HBu.out; have hsu := HBu.out.size; clear hBu; refine anyL_one 5 rfl (by kernel_rfl) (HFu.out) (fun Kd hKd => ?_); go_wp2; refine anyL_one 6 rfl (by kernel_rfl) ((HFu.out.alloc _)) (fun Kd hKd => ?_); go_wp2_with (at_builtin; go_must (refine wpList_app1' rPk _ rfl _ _ rfl HOu.out rfl [_, _, _, _, _, _, _] 1 rfl rfl (by simp [Value.oneCell']) (by show (ps.length + 1) * 64 ≤ _; omega) (by omega) ?_); intro v6 w6 ho6 hB6 hg6 hloc6; obtain ⟨P6, c6, rfl⟩ := own_fits ho6)
           have HG6 : Hid (Frame (fun b => (Value.slice P ps.length cp).ownBlock = some b) X w6) := HFu.out.trans (Frame.of_grown hg6) (fun _ _ h => h); have bx6 := HR7.out.k7.frame HG6.out (own_ne HR7.out.gp.pk HR7.out.k7 (by decide)); have k2 := bx6.cell 0 (v := .slice P ps.length cp) rfl; have k3 := bx6.free 0; have k4 := bx6.lt; have HO6 := Lib.hid ho6; clear ho6 hB6 hg6 hloc6 bx6; apply anyL_step 7 (by kernel_rfl) rfl (by kernel_rfl); (focus intro wI hI Kv hKv; go_simp; exact hKv); intro Kd hKd; go_simp; refine hKd _ ?_; clear hKd Kd
           refine anyL_end rfl (by kernel_rfl) (HG6.out) (fun Kd hKd => ?_); go_wp2; go_roundg (F4 - (k + 1))
           case measure => exact HME.out.1
           case rel =>
            have e1 : (ps ++ [(dataA e4 k)]).length = ps.length + 1 := by simp
            have ho7 : w6.ownsRow (w.heap.size + 4) 44 7 (.slice P6 (ps ++ [(dataA e4 k)]).length c6) (ps ++ [(dataA e4 k)]).length (pks (ps ++ [(dataA e4 k)])) := by
             rw [e1, pks_snoc]; exact HO6.out
            have hst := HR7.out.setP HEp.out HG6.out ho7; rw [e1] at hst; have e0 : ps ++ [dataA e4 k] = pk0 ++ frS e4 (sn - e4.base).toNat (k + 1) := by rw [HST.out, ← HPS.out, List.append_assoc]
            rw [e0] at hst; exact ⟨k + 1, P6, c6, HME.out.2, rfl, hst.1, hst.2⟩
          ·have q1 : decide (sn ≤ e4.base + (k : Int)) = false := decide_eq_false hs; have HST := Lib.hid (frS_no (e := e4) (s := (sn - e4.base).toNat) (k := k) (by omega)); clear hs; go_wp2_with fail
           go_roundg (F4 - (k + 1))
           case measure => exact HME.out.1
           case rel => exact ⟨k + 1, P, cp, HME.out.2, rfl, by rw [HST.out]; exact HR6.out, HE6.out⟩
         ·obtain rfl : k = F4 := by have := HKK.out; omega
          go_wp2_with fail
          refine (flying_any e4 A3 c3 D4 d4 wr).mono ?_; rintro r w2 ⟨rfl, hB2⟩; rw [HF4.out]; have HR6 := Lib.hid (HRs.out.below hB2); have HE6 := Lib.hid (HEp.out.below hB2); clear x0 x1 x2 x3 x4 x5 x6 xl; clear hB2; obtain ⟨ps, hps⟩ : ∃ ps : List Pk, pk0 ++ frS e4 (sn - e4.base).toNat k = ps := ⟨_, rfl⟩; have HPS := Lib.hid hps; have HR7 : Hid (Rs w w2 b7 p e4 A3 c3 D4 d4 ⟨ps, ts, ls⟩ P cp T ct L cl) := by rw [← hps]; exact HR6.out
          have HEp := HE6; have hpl : ps.length ≤ 100 := by
           rw [← hps, List.length_append]; have := frS_len e4 (sn - e4.base).toNat k; have := HPL.out; omega
          obtain ⟨tb, htb⟩ : ∃ b, (op || (mine && kd)) = b := ⟨_, rfl⟩; have HTBB := Lib.hid htb; have hkd := HKD.out; clear hps HR6 HE6 HRs htb; obtain ⟨pp0, pp1, pp2, pp3, pp4, pp5, pp6, ppl⟩ := Blk.d7 HR7.out.bp; go_upto_region 27 with fail
          go_cut [126] from 13 (fun q wx => q = Value.bool tb ∧ wx = w2)
          case first =>
           cases op with
           | true =>
            go_wp2_with fail
            go_meet; exact ⟨by rw [← HTBB.out]; rfl, rfl⟩
           | false =>
            cases mine with
            | false =>
             go_wp2_with fail
             go_meet; exact ⟨by rw [← HTBB.out]; rfl, rfl⟩
            | true =>
             go_wp2_with fail
             go_meet; exact ⟨by rw [← HTBB.out]; cases kd <;> rfl, rfl⟩
          obtain ⟨rfl, hwc⟩ := hcut; obtain rfl := hwc.symm; clear hwc; go_upto_if 126 with fail
          go_cut [] from 13 (fun wx => ∃ (P : Option Addr) (cp : Nat), Rs w wx b7 p e4 A3 c3 D4 d4 ⟨ps ++ (if op || (mine && kd) then [reportA e4] else []), ts, ls⟩ P cp T ct L cl ∧ Ep w wx e4 A3 c3 D4 d4)
          case first =>
           cases tb with
           | false =>
            go_wp2_with fail
            go_meet; exact ⟨P, cp, by rw [if_neg (by rw [HTBB.out]; decide), List.append_nil]; exact HR7.out, HEp.out⟩
           | true =>
            go_upto_region 28 with fail
            obtain ⟨X, rfl⟩ : ∃ X, X = w2 := ⟨_, rfl⟩; clear pp0 pp1 pp2 pp3 pp4 pp5 pp6 ppl; refine drawl (fun w' => Frame (fun b => (Value.slice P ps.length cp).ownBlock = some b) X w') 7 7 rfl (by kernel_rfl) (fun Qd hQd => ?_); have hb4 : w.heap.size + 4 ≤ X.heap.size := by have := HR7.out.h7; have := HR7.out.k7.lt; omega
            iterate 3 (first | apply sL 0 (by rfl) (by kernel_rfl) rfl (by kernel_rfl) | apply sL 2 (by rfl) (by kernel_rfl) rfl (by kernel_rfl) | apply sL 1 (by rfl) (by kernel_rfl) rfl (by kernel_rfl)); (focus intro wI hI Kv hKv; have q9 := HR7.out.be.frame hI (own_ne HR7.out.gp.pk HR7.out.be (by decide)); obtain ⟨x0, x1, x2, x3, x4, x5, x6, xl⟩ := Blk.d7 q9; clear q9; have q9 := HR7.out.k7.frame hI (own_ne HR7.out.gp.pk HR7.out.k7 (by decide)); have g0 := q9.cell 0 (v := .slice P ps.length cp) rfl; have gl := q9.lt; clear q9; go_simp; exact hKv); intro Kd hKd; go_simp; refine hKd _ ?_; clear hKd Kd
            refine anyL_one 3 rfl (by kernel_rfl) ((Frame.refl _ X).drew) (fun Kd hKd => ?_); go_wp2_with (go_at_call 52; go_must (refine (report52_any e4 A3 c3 D4 d4 _ (HEp.out.at_.below (Below.refl _ X).drew) HG4.out.want).mono ?_); rintro r u1 ⟨rfl, hBu⟩; unfold pkV)
            have HBu : Hid (Below X.heap.size X u1) := below_in (Below.refl _ X).drew hBu; have HOu := Lib.hid (own_frame HR7.out.gp.pk (Frame.of_all (S := fun _ => False) HBu.out) (fun _ _ h => h)); have HFu : Hid (Frame (fun b => (Value.slice P ps.length cp).ownBlock = some b) X u1) := Frame.of_all HBu.out; have hsu := HBu.out.size; clear hBu; refine anyL_one 4 rfl (by kernel_rfl) (HFu.out) (fun Kd hKd => ?_); go_wp2; refine anyL_one 5 rfl (by kernel_rfl) ((HFu.out.alloc _)) (fun Kd hKd => ?_); go_wp2_with (at_builtin; go_must (refine wpList_app1' rPk _ rfl _ _ rfl HOu.out rfl [_, _, _, _, _, _, _] 1 rfl rfl (by simp [Value.oneCell']) (by show (ps.length + 1) * 64 ≤ _; omega) (by omega) ?_); intro v6 w6 ho6 hB6 hg6 hloc6; obtain ⟨P6, c6, rfl⟩ := own_fits ho6)
            have HG6 : Hid (Frame (fun b => (Value.slice P ps.length cp).ownBlock = some b) X w6) := HFu.out.trans (Frame.of_grown hg6) (fun _ _ h => h); have bx6 := HR7.out.k7.frame HG6.out (own_ne HR7.out.gp.pk HR7.out.k7 (by decide)); have k2 := bx6.cell 0 (v := .slice P ps.length cp) rfl; have k3 := bx6.free 0; have k4 := bx6.lt; have HO6 := Lib.hid ho6; clear ho6 hB6 hg6 hloc6 bx6; apply anyL_step 6 (by kernel_rfl) rfl (by kernel_rfl); (focus intro wI hI Kv hKv; go_simp; exact hKv); intro Kd hKd; go_simp; refine hKd _ ?_; clear hKd Kd
            refine anyL_end rfl (by kernel_rfl) (HG6.out) (fun Kd hKd => ?_); go_wp2; go_meet; have e1 : (ps ++ [(reportA e4)]).length = ps.length + 1 := by simp
            have ho7 : w6.ownsRow (w.heap.size + 4) 44 7 (.slice P6 (ps ++ [(reportA e4)]).length c6) (ps ++ [(reportA e4)]).length (pks (ps ++ [(reportA e4)])) := by
             rw [e1, pks_snoc]; exact HO6.out
            have hst := HR7.out.setP HEp.out HG6.out ho7; rw [e1] at hst; exact ⟨P6, c6, by rw [if_pos HTBB.out]; exact hst⟩
          case rest =>
           clear pp0 pp1 pp2 pp3 pp4 pp5 pp6 ppl; clear hkd; obtain ⟨V6, rfl⟩ : ∃ V6, V6 = wc := ⟨wc, rfl⟩; obtain ⟨P, cp, hrs, hep⟩ := hcut; obtain ⟨pf, hpf⟩ : ∃ l : List Pk, ps ++ (if op || (mine && kd) then [reportA e4] else []) = l := ⟨_, rfl⟩; have hpfl : pf.length ≤ 101 := by
            rw [← hpf, List.length_append]; have : (if op || (mine && kd) then [reportA e4] else []).length ≤ 1 := by split <;> simp
            omega
           have HTK : Hid (takeA e p = (e4, ⟨pf, ts, ls⟩, 0)) := by
            show _ = _; have hfr : fromA e4 (sn - e4.base).toNat = frS e4 (sn - e4.base).toNat k := by
             unfold fromA frS; rw [HF4.out]
            rw [HTB.out, takeB_eq HMI.out HB2.out HKH.out HKN.out HKD.out HE2.out (by rw [HF.out]; exact HE3.out) HE4.out, HF.out, HSN.out, HPK.out, hfr, HPS.out, HOP.out, hpf]
           rw [hpf] at hrs; have HRs := Lib.hid hrs; have HEp := Lib.hid hep; clear hrs hep hpf HR7; obtain ⟨G, hG⟩ : ∃ G : Gn, (⟨pf, ts, ls⟩ : Gn) = G := ⟨_, rfl⟩; have HGL : Hid (G.packets.length ≤ 1000 ∧ G.taken.length ≤ 1000 ∧ G.lost.length ≤ 1000) := by
            rw [← hG]; have h1 := HTS.out; have h2 := HLS.out; exact ⟨by show pf.length ≤ _; omega, by show ts.length ≤ _; omega, by show ls.length ≤ _; omega⟩
           rw [hG] at HRs HTK; have HO1 : Hid (V6.ownsRow V6.heap.size 71 2 (.slice none 0 0) 0 []) := World.ownsRow_nil _ _ _ _; have HCO := Lib.hid HEp.out.out; have hA3 : A3 = none → e4.out.length = 0 ∧ c3 = 0 := fun h9 => by have h1 := HEp.out.nil h9; have h2 := HEp.out.cap; omega
           have hlen4 := HG4.out.len; have hil4 := HG4.out.ins_len; have hszV := HRs.out.bel.size; have q9 := HRs.out.be; have x4 := q9.cell 4 (v := .slice A3 e4.out.length c3) rfl; have xl := q9.lt; clear q9 hG; go_upto_region 30 with (at_builtin; go_must (refine wpList_appN rOu _ rfl _ _ rfl HO1.out rfl A3 e4.out.length c3 (ous e4.out) rfl hA3 HCO.out (ous_len _) (ouC_one _) (by omega) (Nat.le_refl _) ?_); intro v1 u1 hown1 hB1 hg1 hloc1; rw [Nat.zero_add, List.nil_append] at hown1; obtain ⟨A5, c5, rfl⟩ := own_fits hown1; have HRu := Lib.hid (HRs.out.below hB1); have HEu := Lib.hid (HEp.out.below hB1); have HOu := Lib.hid hown1; have y4 := HRu.out.be.cell 4 (v := .slice A3 e4.out.length c3) rfl; have y5 := HRu.out.be.free 4; have yl := HRu.out.be.lt; clear hown1 hB1 hg1 hloc1)
           clear x4 xl y4 y5 yl; have hst := HRu.out.setA HEu.out HOu.out hszV hlen4; obtain ⟨Y, hY⟩ : ∃ Y, u1.setCell ⟨w.heap.size, 4, none⟩ (.slice A5 e4.out.length c5) = Y := ⟨_, rfl⟩; rw [hY] at hst ⊢; have HRy := Lib.hid hst.1; have HEy := Lib.hid hst.2; clear hst hY; have HO2 : Hid (Y.ownsRow Y.heap.size 73 2 (.slice none 0 0) 0 []) := World.ownsRow_nil _ _ _ _; have HCI := Lib.hid HEy.out.inn; have hD4 : D4 = none → e4.inn.length = 0 ∧ d4 = 0 := fun h9 => by have h1 := HEy.out.dnil h9; have h2 := HEy.out.dcap; omega
           have q9 := HRy.out.be; have x6 := q9.cell 6 (v := .slice D4 e4.inn.length d4) rfl; have xl := q9.lt; clear q9; go_upto_region 31 with (at_builtin; go_must (refine wpList_appN rIm _ rfl _ _ rfl HO2.out rfl D4 e4.inn.length d4 (ims e4.inn) rfl hD4 HCI.out (ims_len _) (imC_one _) (by omega) (Nat.le_refl _) ?_); intro v2 u2 hown2 hB2 hg2 hloc2; rw [Nat.zero_add, List.nil_append] at hown2; obtain ⟨D5, d5, rfl⟩ := own_fits hown2; have HRv := Lib.hid (HRy.out.below hB2); have HEv := Lib.hid (HEy.out.below hB2); have HOv := Lib.hid hown2; have y6 := HRv.out.be.cell 6 (v := .slice D4 e4.inn.length d4) rfl; have y7 := HRv.out.be.free 6; have yl := HRv.out.be.lt; clear hown2 hB2 hg2 hloc2)
           clear x6 xl y6 y7 yl HRs HEp; have hst := HRv.out.setD HEv.out HOv.out (by omega); obtain ⟨X, hX⟩ : ∃ X, u2.setCell ⟨w.heap.size, 6, none⟩ (.slice D5 e4.inn.length d5) = X := ⟨_, rfl⟩; rw [hX] at hst ⊢; have HRs := Lib.hid hst.1; have HEp := Lib.hid hst.2; clear hst hX; have HRd := Lib.hid (HRs.out.below (Below.refl _ X).drew); have HEd := Lib.hid (HEp.out.below (Below.refl _ X).drew); have hr7 := HRs.out.h7; have hn26 : ¬ (w.heap.size = w.heap.size + 1 + 1 ∨ w.heap.size = w.heap.size + 1 + 1 + 1) := by omega
           have hn47 : ¬ (b7 = w.heap.size + 1 + 1 ∨ b7 = w.heap.size + 1 + 1 + 1) := by omega
           refine draw (fun w' => Frame (fun b => b = w.heap.size + 1 + 1 ∨ b = w.heap.size + 1 + 1 + 1) X w') 5 rfl (by kernel_rfl) (fun Qd hQd => ?_); iterate 2 (first | apply sI 0 (by rfl) rfl (by kernel_rfl) | apply sI 1 (by rfl) rfl (by kernel_rfl)); (focus intro wI hI Kv hKv; obtain ⟨x0, x1, x2, x3, x4, x5, x6, xl⟩ := Blk.d7 (HRs.out.be.frame hI hn26); obtain ⟨g0, g1, g2, gl⟩ := Blk.d3 (HRs.out.k7.frame hI hn47); go_simp; exact hKv); intro Kd hKd; go_simp; refine hKd _ ?_; clear hKd Kd
           have HF1 : Hid (Frame (fun b => b = w.heap.size + 1 + 1 ∨ b = w.heap.size + 1 + 1 + 1) X (setEn X.drew (w.heap.size + 1 + 1) e4 A5 c5 D5 d5)) := setEn_frame (Frame.refl _ X).drew (.inl (.inl rfl)); have HK5 := Lib.hid (HRd.out.k5.frame (setEn_frame (e := e4) (A := A5) (c := c5) (B := D5) (d := d5) (Frame.refl (fun b => b = w.heap.size + 1 + 1) X.drew) (.inl rfl)) (by show ¬ _ = _; omega)); refine anyI_one' 2 rfl (by kernel_rfl) ((Frame.refl _ X).drew) (fun Kd hKd => ?_); refine wpList_store26 (e := e4) (A := A5) (c := c5) (D := D5) (d := d5) rfl _ _ rfl HRd.out.k4 rfl rfl ?_; refine ⟨rfl, hKd _ _ ?_⟩; clear hKd Kd; refine anyI_one' 3 rfl (by kernel_rfl) (HF1.out) (fun Kd hKd => ?_); refine wpList_store47 (g := G) (P := P) (cp := cp) (T := T) (ct := ct) (L := L) (cl := cl) rfl _ _ rfl HK5.out rfl rfl ?_; refine ⟨rfl, hKd _ _ ?_⟩; clear hKd Kd; apply anyI_step 4 rfl (by kernel_rfl); (focus intro wI hI Kv hKv; go_simp; exact hKv); intro Kd hKd; go_simp; refine hKd _ ?_; clear hKd Kd
           refine anyI_end (by kernel_rfl) ((setGn_frame HF1.out (.inl (.inr rfl)))) (hQd _ _ ?_); clear hQd Qd; go_wp2_with fail
           obtain ⟨q1, q2, q3⟩ := tk_end (e' := e4) (A := A5) (c := c5) (D := D5) (d := d5) (g := G) (P := P) (cp := cp) (T := T) (ct := ct) (L := L) (cl := cl) HRd.out.k4 HRd.out.k5; have hl1 := load26 q1; have hl2 := load47 q2; have n26 : ∀ {b : Nat} {cs : Array Value} {t : TypeId}, Blk X.drew b (.cells cs t) → t ≠ 26 → t ≠ 47 → ¬ (b = w.heap.size + 1 + 1 ∨ b = w.heap.size + 1 + 1 + 1) := fun hb t1 t2 e2 => by
            rcases e2 with e2 | e2
            ·exact blk_ne hb HRd.out.k4 t1 e2
            ·exact blk_ne hb HRd.out.k5 t2 e2
           have hen := HEd.out.frame q3 (fun b cur hb => n26 hb (by decide) (by decide)) (fun b cur hb => n26 hb (by decide) (by decide)); have hgn := HRd.out.gp.frame q3 (fun b cur hb => n26 hb (by decide) (by decide)) (fun b cur hb => n26 hb (by decide) (by decide)); refine bodyPost_ret (v := .tuple #[enV e4 A5 c5 D5 d5, gnV G P cp T ct L cl, .int .i64 0]) (results_cct rfl rfl rfl rfl hl1 hl2) rfl ?_; exact ⟨A5, c5, D5, d5, P, cp, T, ct, L, cl, by rw [HTK.out], by rw [HTK.out]; exact ⟨hen.at_, hgn.at_ HGL.out.1 HGL.out.2.1 HGL.out.2.2, hen.nil, hen.cap, hen.row, hen.im, fun a ha => (hgn.tk.lt a.block (by rw [ha]; rfl)).1, fun a ha => Nat.le_trans (Nat.le_add_right _ 4) (hgn.pk.lt a.block (by rw [ha]; rfl)).1, fun a ha => (hgn.ls.lt a.block (by rw [ha]; rfl)).1, own_nil hgn.tk, own_nil hgn.ls⟩, hen.dnil, HRd.out.bel.trans (q3.below (B := w.heap.size) (fun b e2 => by rcases e2 with e2 | e2 <;> omega) HRd.out.bel.size)⟩
end Go.Proofs.Ytejabnoidhlfaaa
