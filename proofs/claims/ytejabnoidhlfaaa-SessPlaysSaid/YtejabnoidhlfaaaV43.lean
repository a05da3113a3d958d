/- Contracts and lemmas that the claim uses. -/
import Derived.Test.YtejabnoidhlfaaaV42
set_option maxRecDepth 100000
set_option maxHeartbeats 16000000
namespace Go.Proofs.Ytejabnoidhlfaaa
open Go.RowKit Go.Maps
structure Rk (l : Lp) (n : Nat) : Prop where
 good : ∀ i, goodB (l.end_ i) = true
 wire : ∀ x ∈ l.wire, properB x.p = true ∧ (x.to = 0 ∨ x.to = 1)
 len : l.wire.length ≤ n
 tales : l.tales.length ≤ n
 txt : ∀ v ∈ l.tales, v.sent.length ≤ n ∧ v.lost.length ≤ n ∧ v.taken.length ≤ n
theorem does66_any (B eb : Nat) (l : Lp) (m : Lm) (d : Dd) (w : World) (h : Lv w B eb l m) (hd : deedB d = true) (hk : Rk l 900000) (hfr : l.free = false) :
  Calls Try.prog 66 #[lvV eb l m, ddV d] w fun r w' => ∃ m', r = .returned (lvV eb (rDoes l d) m') ∧ Lv w' B eb (rDoes l d) m' ∧ Lw eb l m w (rDoes l d) m' w' := by
 have HL := Lib.hid h; have HK := Lib.hid hk; have HD := Lib.hid hd; have HZ : Hid (m.zs.length ≤ 900000) := by have h1 := congrArg List.length h.tz; rw [List.length_map] at h1; have := hk.tales; show _ ≤ _; omega
 have HDE : Hid (d.end_ = 0 ∨ d.end_ = 1) := deed_end hd; have HN : Hid (l.wire.length ≤ 900000) := hk.len; clear h hk hd; unfold lvV ddV; go_enter Try.func66, Try.ntmps66
 obtain ⟨W, hW⟩ : ∃ W, ((w.alloc (.cells #[.slice (some ⟨eb, 0, none⟩) 2 2, .slice m.W l.wire.length m.cw, .slice m.T m.zs.length m.ct] 59)).alloc (.cells #[.int .i64 d.do_, .int .i64 d.end_, .int .i64 d.at_, .string d.t] 77)).alloc (.cells #[.slice none 0 0, .slice none 0 0, .slice none 0 0] 59) = W := ⟨_, rfl⟩; have HBW : Hid (Below w.heap.size w W) := by rw [← hW]; exact (((Below.refl _ w).alloc (Nat.le_refl _) _).alloc (by simp) _).alloc (by simp; omega) _
 have HXW : Hid (Blk W w.heap.size (.cells (lvX eb l m) 59)) := by rw [← hW]; exact ((Blk.new _ _).alloc _).alloc _
 have HDW : Hid (Blk W (w.heap.size + 1) (.cells (ddB d) 77)) := by
  rw [← hW]; have e1 := (Blk.new (w.alloc (.cells (lvX eb l m) 59)) (.cells (ddB d) 77)).alloc (.cells z59 59); rw [World.size_alloc] at e1; exact e1
 have HYW : Hid (Blk W (w.heap.size + 1 + 1) (.cells z59 59)) := by
  rw [← hW]; have e1 := Blk.new ((w.alloc (.cells (lvX eb l m) 59)).alloc (.cells (ddB d) 77)) (.cells z59 59); rw [World.size_alloc, World.size_alloc] at e1; exact e1
 have HLW := Lib.hid (HL.out.below HBW.out); have HSW : Hid (Lw eb l m w l m W) := Lw.of_below HBW.out; obtain ⟨x0, x1, x2, xl⟩ := Blk.d3 HXW.out; obtain ⟨d0, d1, d2, d3, dl⟩ := Blk.d4 HDW.out; by_cases k1 : d.do_ = 1
 ·have q1 : (d.do_ == 1) = true := beq_iff_eq.2 k1; have HRD : Hid (rDoes l d = rSends l d.end_ d.t) := by show _ = _; unfold rDoes; simp only; rw [if_pos k1]
  clear k1; go_wp2_with fail
  clear hW; refine (sends83_any B eb l m d.end_ d.t W HLW.out HDE.out (HK.out.good _) (by have := HZ.out; omega) hfr (by have := HN.out; omega) (fun v hv => by have := (HK.out.txt v hv).1; omega)).mono ?_; rintro r w5 ⟨m5, rfl, hl5, hw5⟩; have HL9 := Lib.hid hl5; have HS9 := Lib.hid (HSW.out.trans hw5); have HY9 : Hid (Blk w5 (w.heap.size + 1 + 1) (.cells z59 59)) := HYW.out.frame hw5.fr (fun e9 => HLW.out.ne HYW.out (by decide) (by decide) (by decide) (by decide) e9); obtain ⟨L9, HE9⟩ : ∃ L9, Hid (rSends l d.end_ d.t = L9) := ⟨_, rfl⟩; rw [HE9.out] at HL9 HS9 HRD ⊢; clear hl5 hw5 x0 x1 x2 xl d0 d1 d2 d3 dl; unfold lvV; have q9 := HY9.out; obtain ⟨y0, y1, y2⟩ := Blk.c3 q9; obtain ⟨z0, z1, z2, yl⟩ := Blk.g3 q9; clear q9; go_wp2; have hbk : Blk (set59 w5 (w.heap.size + 1 + 1) eb L9 m5) (w.heap.size + 1 + 1) (.cells (lvX eb L9 m5) 59) := set59_blk HY9.out; refine bodyPost_ret (v := lvV eb L9 m5) (results_c rfl rfl (load59 hbk)) rfl ⟨m5, by rw [HRD.out]; rfl, by rw [HRD.out]; exact set59_lv HL9.out HY9.out, by rw [HRD.out]; exact ((HS9.out.set (by show _ ≤ w.heap.size + 1 + 1; omega) _).set (by show _ ≤ w.heap.size + 1 + 1; omega) _).set (by show _ ≤ w.heap.size + 1 + 1; omega) _⟩
 have q1 : (d.do_ == 1) = false := beq_eq_false_iff_ne.2 k1; by_cases k2 : d.do_ = 2
 ·have q2 : (d.do_ == 2) = true := beq_iff_eq.2 k2; have HRD : Hid (rDoes l d = wayA l d.end_ (tickA (l.end_ d.end_)).1) := by show _ = _; unfold rDoes; simp only; rw [if_neg k1, if_pos k2]
  clear k1 k2; have hix := ix55 (b := eb) HDE.out; have HG := Lib.hid (good_iff.1 (HK.out.good d.end_)); have HEW := Lib.hid (HLW.out.end_ HDE.out); obtain ⟨e0, e1, e2, e3, e4, e5, e6⟩ := HLW.out.endc HDE.out; have hel := HLW.out.box.lt; obtain ⟨o, ho⟩ : ∃ o, Hid (7 * d.end_.toNat = o) := ⟨_, rfl⟩; obtain ⟨E0, HE0⟩ : ∃ E0, Hid (l.end_ d.end_ = E0) := ⟨_, rfl⟩; obtain ⟨A0, HA0⟩ : ∃ A0, Hid (m.A d.end_ = A0) := ⟨_, rfl⟩; obtain ⟨c0, HC0⟩ : ∃ c0, Hid (m.c d.end_ = c0) := ⟨_, rfl⟩; obtain ⟨D0, HD0⟩ : ∃ D0, Hid (m.D d.end_ = D0) := ⟨_, rfl⟩; obtain ⟨d9, Hd9⟩ : ∃ d9, Hid (m.d d.end_ = d9) := ⟨_, rfl⟩; rw [ho.out] at hix; rw [HE0.out, ho.out] at e0 e1 e2 e3 e4 e5 e6; rw [HA0.out, HC0.out] at e4; rw [HD0.out, Hd9.out] at e6; rw [HE0.out] at HG; rw [HE0.out, HA0.out, HC0.out, HD0.out] at HEW; go_wp2_with fail
  clear hW; refine (rtick_any E0 A0 c0 D0 d9 W HEW.out.at_ (wf_good' HG.out)).mono ?_; rintro r w4 ⟨P, cp, rfl, hP, hPf, hB4⟩; obtain ⟨T, HT⟩ : ∃ T, Hid (tickA E0 = T) := ⟨_, rfl⟩; have HTL : Hid (T.1.length ≤ 1000) := by show _ ≤ _; rw [← HT.out]; exact tickA_len _
  rw [HE0.out, HT.out] at HRD; rw [HT.out] at hP ⊢; have HO4 : Hid (OffV w4 eb l m P (pks T.1)) := ⟨hP, fun _ a ha hb => by have h1 := hPf a ha; have h2 := (HLW.out.lb hb).2; omega⟩; have HL4 := Lib.hid (HLW.out.below hB4); have HS4 : Hid (Lw eb l m w l m w4) := Lw.of_below (HBW.out.trans (hB4.mono HBW.out.size)); have HX4 := Lib.hid (HXW.out.below hB4 HXW.out.lt); have HY4 := Lib.hid (HYW.out.below hB4 HYW.out.lt); have HD4 := Lib.hid (HDW.out.below hB4 HDW.out.lt); clear hP hPf hB4 x0 x1 x2 xl d0 d1 d2 d3 dl e0 e1 e2 e3 e4 e5 e6 hel hix; obtain ⟨x0, x1, x2, xl⟩ := Blk.d3 HX4.out; have d1 := HD4.out.cell 1 (v := .int .i64 d.end_) rfl; have dl := HD4.out.lt; go_wp2_with fail
  refine (post69_any B eb l m d.end_ P cp T.1 true w4 HL4.out HDE.out HO4.out (by rw [hfr]; rfl) (by have := HN.out; have := HTL.out; omega)).mono ?_; rintro r w5 ⟨m5, rfl, hl5, hw5⟩; have HL9 := Lib.hid hl5; have HS9 := Lib.hid (HS4.out.trans hw5); have HY9 : Hid (Blk w5 (w.heap.size + 1 + 1) (.cells z59 59)) := HY4.out.frame hw5.fr (fun e9 => HL4.out.ne HY4.out (by decide) (by decide) (by decide) (by decide) e9); obtain ⟨L9, HE9⟩ : ∃ L9, Hid (wayA l d.end_ T.1 = L9) := ⟨_, rfl⟩; rw [HE9.out] at HL9 HS9 HRD ⊢; clear hl5 hw5 x0 x1 x2 xl d1 dl; unfold lvV; have q9 := HY9.out; obtain ⟨y0, y1, y2⟩ := Blk.c3 q9; obtain ⟨z0, z1, z2, yl⟩ := Blk.g3 q9; clear q9; go_wp2; have hbk : Blk (set59 w5 (w.heap.size + 1 + 1) eb L9 m5) (w.heap.size + 1 + 1) (.cells (lvX eb L9 m5) 59) := set59_blk HY9.out; refine bodyPost_ret (v := lvV eb L9 m5) (results_c rfl rfl (load59 hbk)) rfl ⟨m5, by rw [HRD.out]; rfl, by rw [HRD.out]; exact set59_lv HL9.out HY9.out, by rw [HRD.out]; exact ((HS9.out.set (by show _ ≤ w.heap.size + 1 + 1; omega) _).set (by show _ ≤ w.heap.size + 1 + 1; omega) _).set (by show _ ≤ w.heap.size + 1 + 1; omega) _⟩
 have q2 : (d.do_ == 2) = false := beq_eq_false_iff_ne.2 k2; by_cases k3 : d.do_ = 3
 ·have q3 : (d.do_ == 3) = true := beq_iff_eq.2 k3; have HRD : Hid (rDoes l d = if (againA (l.end_ d.end_)).2 = 0 then l.setEnd d.end_ (againA (l.end_ d.end_)).1 else l) := by show _ = _; unfold rDoes; simp only; rw [if_neg k1, if_neg k2, if_pos k3]
  clear k1 k2 k3; have hix := ix55 (b := eb) HDE.out; have HG := Lib.hid (good_iff.1 (HK.out.good d.end_)); have HEW := Lib.hid (HLW.out.end_ HDE.out); obtain ⟨e0, e1, e2, e3, e4, e5, e6⟩ := HLW.out.endc HDE.out; have hel := HLW.out.box.lt; obtain ⟨o, ho⟩ : ∃ o, Hid (7 * d.end_.toNat = o) := ⟨_, rfl⟩; obtain ⟨E0, HE0⟩ : ∃ E0, Hid (l.end_ d.end_ = E0) := ⟨_, rfl⟩; obtain ⟨A0, HA0⟩ : ∃ A0, Hid (m.A d.end_ = A0) := ⟨_, rfl⟩; obtain ⟨c0, HC0⟩ : ∃ c0, Hid (m.c d.end_ = c0) := ⟨_, rfl⟩; obtain ⟨D0, HD0⟩ : ∃ D0, Hid (m.D d.end_ = D0) := ⟨_, rfl⟩; obtain ⟨d9, Hd9⟩ : ∃ d9, Hid (m.d d.end_ = d9) := ⟨_, rfl⟩; rw [ho.out] at hix; rw [HE0.out, ho.out] at e0 e1 e2 e3 e4 e5 e6; rw [HA0.out, HC0.out] at e4; rw [HD0.out, Hd9.out] at e6; rw [HE0.out] at HG; rw [HE0.out, HA0.out, HC0.out, HD0.out] at HEW; go_wp2_with fail
  clear hW; refine (ragain_any E0 A0 c0 D0 d9 W HEW.out.at_ (wf_good' HG.out)).mono ?_; rintro r w2 ⟨rfl, hB2⟩; obtain ⟨R, HR⟩ : ∃ R, Hid (againA E0 = R) := ⟨_, rfl⟩; have HNI : Hid (R.1.out = [] ∧ R.1.inn = []) := by show _ ∧ _; rw [← HR.out]; exact again_nil _
  rw [HE0.out, HR.out] at HRD; rw [HR.out]; have HB2 := Lib.hid hB2; clear hB2 x0 x1 x2 xl d0 d1 d2 d3 dl e0 e1 e2 e3 e4 e5 e6 hel; unfold enV; go_upto_region 9 with fail
  obtain ⟨V, hV⟩ : ∃ V, w2.alloc (.cells #[.int .i64 R.1.life, .int .i64 R.1.peer, .int .i64 R.1.phase, .int .i64 R.1.base, .slice none R.1.out.length 0, .int .i64 R.1.want, .slice none R.1.inn.length 0] 26) = V := ⟨_, rfl⟩; have hbv : Below w2.heap.size w2 V := by rw [← hV]; exact (Below.refl _ w2).alloc (Nat.le_refl _) _
  have HBV : Hid (Below W.heap.size W V) := below_in HB2.out hbv; have HKV : Hid (Blk V w2.heap.size (.cells (enB R.1 none 0 none 0) 26)) := by rw [← hV]; exact Blk.new _ _
  have HLV := Lib.hid (HLW.out.below HBV.out); have HXV := Lib.hid (HXW.out.below HBV.out HXW.out.lt); have HYV := Lib.hid (HYW.out.below HBV.out HYW.out.lt); have HDV := Lib.hid (HDW.out.below HBV.out HDW.out.lt); have HSV : Hid (Lw eb l m w l m V) := Lw.of_below (HBW.out.trans (HBV.out.mono HBW.out.size)); rw [hV]; clear hV hbv; obtain ⟨x0, x1, x2, xl⟩ := Blk.d3 HXV.out; by_cases hok : R.2 = 0
  ·have q4 : (R.2 == 0) = true := beq_iff_eq.2 hok; have HRD : Hid (rDoes l d = l.setEnd d.end_ R.1) := by show _ = _; rw [HRD.out, if_pos hok]
   clear hok; have hc := HLV.out.endc HDE.out; rw [ho.out] at hc; obtain ⟨k1, k2, k3, k4, k5, k6⟩ := setEnO_chain (.int .i64 R.1.life) (.int .i64 R.1.peer) (.int .i64 R.1.phase) (.int .i64 R.1.base) (.slice none R.1.out.length 0) (.int .i64 R.1.want) hc; have hc0 := hc.1; clear hc; obtain ⟨b0, b1, b2, b3, b4, b5, b6, bl⟩ := Blk.d7 HKV.out; have y0 := HLV.out.box.free o; have y1 := HLV.out.box.free (o + 1); have y2 := HLV.out.box.free (o + 2); have y3 := HLV.out.box.free (o + 3); have y4 := HLV.out.box.free (o + 4); have y5 := HLV.out.box.free (o + 5); have y6 := HLV.out.box.free (o + 6); have yl := HLV.out.box.lt; have d1 := HDV.out.cell 1 (v := .int .i64 d.end_) rfl; have dl := HDV.out.lt; go_upto_region 11 with fail
   clear k1 k2 k3 k4 k5 k6 hc0 b0 b1 b2 b3 b4 b5 b6 bl y0 y1 y2 y3 y4 y5 y6 yl x0 x1 x2 xl d1 dl hix; obtain ⟨U, hU⟩ : ∃ U, setEnO V eb o R.1 none 0 none 0 = U := ⟨_, rfl⟩; have HFU : Hid (Frame (fun b => b = eb) V U) := by rw [← hU]; exact setEnO_frame (Frame.refl (fun b => b = eb) V) (.inl rfl)
   have hVE := HLV.out.setEnd HDE.out 0 (enT_nil V HNI.out.1 HNI.out.2) (fun _ => rfl); rw [ho.out, hU] at hVE; obtain ⟨hX1, hX2⟩ := lvX_setE eb l m d.end_ R.1 none 0 none 0; obtain ⟨L9, HE9⟩ : ∃ L9, Hid (l.setEnd d.end_ R.1 = L9) := ⟨_, rfl⟩; obtain ⟨m5, hM5⟩ : ∃ m5, m.setE d.end_ none 0 none 0 = m5 := ⟨_, rfl⟩; rw [HE9.out] at hVE hX1 HRD; rw [hM5] at hVE hX1 hX2; have HL9 := Lib.hid hVE.1; have HS9 : Hid (Lw eb l m w L9 m5 U) := HSV.out.trans hVE.2; have hXU := HXV.out.frame HFU.out (show ¬ _ = _ from fun e9 => blk_ne HXV.out HLV.out.box (by decide) e9); rw [← hX1] at hXU; have HXU := Lib.hid hXU; have HY9 : Hid (Blk U (w.heap.size + 1 + 1) (.cells z59 59)) := HYV.out.frame HFU.out (show ¬ _ = _ from fun e9 => blk_ne HYV.out HLV.out.box (by decide) e9); unfold setEnO at hU; rw [hU]; clear hU hVE hX1 hX2 hM5 hXU; obtain ⟨x0, x1, x2, xl⟩ := Blk.d3 HXU.out; have q9 := HY9.out; obtain ⟨y0, y1, y2⟩ := Blk.c3 q9; obtain ⟨z0, z1, z2, yl⟩ := Blk.g3 q9; clear q9; go_wp2; have hbk : Blk (set59 U (w.heap.size + 1 + 1) eb L9 m5) (w.heap.size + 1 + 1) (.cells (lvX eb L9 m5) 59) := set59_blk HY9.out; refine bodyPost_ret (v := lvV eb L9 m5) (results_c rfl rfl (load59 hbk)) rfl ⟨m5, by rw [HRD.out]; rfl, by rw [HRD.out]; exact set59_lv HL9.out HY9.out, by rw [HRD.out]; exact ((HS9.out.set (by show _ ≤ w.heap.size + 1 + 1; omega) _).set (by show _ ≤ w.heap.size + 1 + 1; omega) _).set (by show _ ≤ w.heap.size + 1 + 1; omega) _⟩
  ·have q4 : (R.2 == 0) = false := beq_eq_false_iff_ne.2 hok; have HRD : Hid (rDoes l d = l) := by show _ = _; rw [HRD.out, if_neg hok]
   clear hok; have HL9 := HLV; have HS9 := HSV; have HY9 := HYV; have q9 := HY9.out; obtain ⟨y0, y1, y2⟩ := Blk.c3 q9; obtain ⟨z0, z1, z2, yl⟩ := Blk.g3 q9; clear q9; go_wp2; have hbk : Blk (set59 V (w.heap.size + 1 + 1) eb l m) (w.heap.size + 1 + 1) (.cells (lvX eb l m) 59) := set59_blk HY9.out; refine bodyPost_ret (v := lvV eb l m) (results_c rfl rfl (load59 hbk)) rfl ⟨m, by rw [HRD.out]; rfl, by rw [HRD.out]; exact set59_lv HL9.out HY9.out, by rw [HRD.out]; exact ((HS9.out.set (by show _ ≤ w.heap.size + 1 + 1; omega) _).set (by show _ ≤ w.heap.size + 1 + 1; omega) _).set (by show _ ≤ w.heap.size + 1 + 1; omega) _⟩
 have q3 : (d.do_ == 3) = false := beq_eq_false_iff_ne.2 k3; have HK456 : Hid (d.do_ = 4 ∨ d.do_ = 5 ∨ d.do_ = 6) := by
  show _ ∨ _ ∨ _; have h9 := HD.out; unfold deedB at h9; rw [if_neg k1, if_neg (by omega)] at h9; split at h9
  ·assumption
  ·cases h9
 have HAT : Hid (0 ≤ d.at_) := by
  show 0 ≤ _; have h9 := HD.out; unfold deedB at h9; rw [if_neg k1, if_neg (by omega), if_pos HK456.out] at h9; simp only [Bool.and_eq_true, decide_eq_true_eq] at h9; exact h9.1.2
 have HR0 : Hid (l.wire.length = 0 → rDoes l d = l) := fun h9 => by unfold rDoes; simp only; rw [if_neg k1, if_neg k2, if_neg k3, if_pos h9]
 have HRX : Hid (∀ x, ¬ l.wire.length = 0 → l.wire[(d.at_ % (l.wire.length : Int)).toNat]? = some x → rDoes l d = if d.do_ = 6 then wayA l (1 - x.to) [x.p] else if d.do_ = 4 then rTakes { l with wire := l.wire.eraseIdx (d.at_ % (l.wire.length : Int)).toNat } x else { l with wire := l.wire.eraseIdx (d.at_ % (l.wire.length : Int)).toNat }) := fun x h8 h9 => by
  unfold rDoes; simp only; rw [if_neg k1, if_neg k2, if_neg k3, if_neg h8, h9]
 clear k1 k2 k3; by_cases h0 : l.wire.length = 0
 ·have q4 : ((l.wire.length : Int) == 0) = true := beq_iff_eq.2 (by omega); have HRD : Hid (rDoes l d = l) := HR0.out h0; have HL9 := HLW; have HS9 := HSW; have HY9 := HYW; clear h0; go_upto_region 13 with fail
  clear hW; have q9 := HY9.out; obtain ⟨y0, y1, y2⟩ := Blk.c3 q9; obtain ⟨z0, z1, z2, yl⟩ := Blk.g3 q9; clear q9; go_wp2; have hbk : Blk (set59 W (w.heap.size + 1 + 1) eb l m) (w.heap.size + 1 + 1) (.cells (lvX eb l m) 59) := set59_blk HY9.out; refine bodyPost_ret (v := lvV eb l m) (results_c rfl rfl (load59 hbk)) rfl ⟨m, by rw [HRD.out]; rfl, by rw [HRD.out]; exact set59_lv HL9.out HY9.out, by rw [HRD.out]; exact ((HS9.out.set (by show _ ≤ w.heap.size + 1 + 1; omega) _).set (by show _ ≤ w.heap.size + 1 + 1; omega) _).set (by show _ ≤ w.heap.size + 1 + 1; omega) _⟩
 have q4 : ((l.wire.length : Int) == 0) = false := beq_eq_false_iff_ne.2 (by omega); obtain ⟨k, hk⟩ : ∃ k : Nat, Hid ((d.at_ % (l.wire.length : Int)).toNat = k) := ⟨_, rfl⟩; have hkz : d.at_ % (l.wire.length : Int) = (k : Int) := by
  have h2 := Int.emod_nonneg d.at_ (show (l.wire.length : Int) ≠ 0 by omega); have := hk.out; omega
 have hkl : k < l.wire.length := by
  have h1 := Int.emod_lt_of_pos d.at_ (show (0 : Int) < (l.wire.length : Int) by omega); omega
 have htm : d.at_.tmod (l.wire.length : Int) = (k : Int) := by rw [Int.tmod_eq_emod_of_nonneg HAT.out, hkz]
 have hz1 : ¬ (l.wire.length : Int) = 0 := by omega
 have HCW : Hid (Cells W m.W (tps l.wire)) := (Cells.of_own HLW.out.wire (by rw [tps_len]; have := HN.out; omega)).1; obtain ⟨x, b, f, hx, hb, hix, c0, c1, c2, c3, c4, c5, c6, c7⟩ := tp_at (c := m.cw) HCW.out hkl; have HX := Lib.hid hx; have HXP := Lib.hid (HK.out.wire x (List.mem_of_getElem? hx)); have HKL := Lib.hid hkl; have hrd := HRX.out x h0 (by rw [hk.out]; exact hx); rw [hk.out] at hrd; have HRD := Lib.hid hrd; clear hrd; clear hx hkz hkl; go_upto_region 16 with fail
 obtain ⟨V, hV⟩ : ∃ V, W.alloc (.cells #[.int .i64 x.to, .int .i64 x.p.kind, .int .i64 x.p.frm, .int .i64 x.p.to, .int .i64 x.p.num, .string x.p.t, .int .i64 x.p.ack, .int .i64 x.p.held] 116) = V := ⟨_, rfl⟩; have HBV : Hid (Below W.heap.size W V) := by rw [← hV]; exact (Below.refl _ W).alloc (Nat.le_refl _) _
 have HTV : Hid (Blk V W.heap.size (.cells (tpX x) 116)) := by rw [← hV]; exact Blk.new _ _
 have HLV := Lib.hid (HLW.out.below HBV.out); have HXV := Lib.hid (HXW.out.below HBV.out HXW.out.lt); have HYV := Lib.hid (HYW.out.below HBV.out HYW.out.lt); have HDV := Lib.hid (HDW.out.below HBV.out HDW.out.lt); have HSV : Hid (Lw eb l m w l m V) := Lw.of_below (HBW.out.trans (HBV.out.mono HBW.out.size)); rw [hV]; clear hV hW c0 c1 c2 c3 c4 c5 c6 c7 hix hb htm hz1 h0 x0 x1 x2 xl d0 d1 d2 d3 dl; obtain ⟨x0, x1, x2, xl⟩ := Blk.d3 HXV.out; have d0 := HDV.out.cell 0 (v := .int .i64 d.do_) rfl; have dl := HDV.out.lt; by_cases k6 : d.do_ = 6
 ·have q6 : (d.do_ == 6) = true := beq_iff_eq.2 k6; have HRD : Hid (rDoes l d = wayA l (1 - x.to) [x.p]) := by show _ = _; rw [HRD.out, if_pos k6]
  have hwt : IntKind.i64.wrap (1 - x.to) = 1 - x.to := wrap_ok (by have := HXP.out.2; exact ⟨by omega, by omega⟩); clear k6; obtain ⟨t0, t1, t2, t3, t4, t5, t6, t7, tl⟩ := Blk.d8 HTV.out; go_wp2_with fail
  obtain ⟨Y, hY⟩ : ∃ Y, V.alloc (.cells #[.int .i64 x.p.kind, .int .i64 x.p.frm, .int .i64 x.p.to, .int .i64 x.p.num, .string x.p.t, .int .i64 x.p.ack, .int .i64 x.p.held] 44) = Y := ⟨_, rfl⟩; have hbY : Below V.heap.size V Y := by rw [← hY]; exact (Below.refl _ V).alloc (Nat.le_refl _) _
  have hoY : Y.ownsRow V.heap.size 44 7 (.slice (some ⟨V.heap.size, 0, none⟩) 1 1) 1 (pks [x.p]) := by rw [← hY]; exact World.ownsRow_lit V _ 1 (Nat.le_refl _) (by unfold maxLen; omega) rfl
  have HOY : Hid (OffV Y eb l m (some ⟨V.heap.size, 0, none⟩) (pks [x.p])) := ⟨(Cells.of_own hoY (by show (7 : Nat) ≤ _; omega)).1, fun _ a ha hb => by
   injection ha with ha; rw [← ha] at hb; have h2 : V.heap.size < V.heap.size := (HLV.out.lb hb).2; omega⟩
  have HLY := Lib.hid (HLV.out.below hbY); have HSY : Hid (Lw eb l m w l m Y) := HSV.out.trans (Lw.of_below hbY); have HYY := Lib.hid (HYV.out.below hbY HYV.out.lt); rw [hY]; clear hY hbY hoY hwt x0 x1 x2 xl d0 dl t0 t1 t2 t3 t4 t5 t6 t7 tl; refine (post69_any B eb l m (1 - x.to) (some ⟨V.heap.size, 0, none⟩) 1 [x.p] true Y HLY.out (by have := HXP.out.2; omega) HOY.out (by rw [hfr]; rfl) (by have := HN.out; simp; omega)).mono ?_; rintro r w5 ⟨m5, rfl, hl5, hw5⟩; have HL9 := Lib.hid hl5; have HS9 := Lib.hid (HSY.out.trans hw5); have HY9 : Hid (Blk w5 (w.heap.size + 1 + 1) (.cells z59 59)) := HYY.out.frame hw5.fr (fun e9 => HLY.out.ne HYY.out (by decide) (by decide) (by decide) (by decide) e9); obtain ⟨L9, HE9⟩ : ∃ L9, Hid (wayA l (1 - x.to) [x.p] = L9) := ⟨_, rfl⟩; rw [HE9.out] at HL9 HS9 HRD ⊢; clear hl5 hw5; unfold lvV; have q9 := HY9.out; obtain ⟨y0, y1, y2⟩ := Blk.c3 q9; obtain ⟨z0, z1, z2, yl⟩ := Blk.g3 q9; clear q9; go_wp2; have hbk : Blk (set59 w5 (w.heap.size + 1 + 1) eb L9 m5) (w.heap.size + 1 + 1) (.cells (lvX eb L9 m5) 59) := set59_blk HY9.out; refine bodyPost_ret (v := lvV eb L9 m5) (results_c rfl rfl (load59 hbk)) rfl ⟨m5, by rw [HRD.out]; rfl, by rw [HRD.out]; exact set59_lv HL9.out HY9.out, by rw [HRD.out]; exact ((HS9.out.set (by show _ ≤ w.heap.size + 1 + 1; omega) _).set (by show _ ≤ w.heap.size + 1 + 1; omega) _).set (by show _ ≤ w.heap.size + 1 + 1; omega) _⟩
 have q6 : (d.do_ == 6) = false := beq_eq_false_iff_ne.2 k6; have HRD := Lib.hid (HRD.out.trans (if_neg k6)); clear k6; go_wp2_with fail
 refine (without71_any B eb l m k V HLV.out (by have := HN.out; omega) (by have := HKL.out; have := HN.out; omega)).mono ?_; rintro r w4 ⟨m4, rfl, hl4, hw4⟩; obtain ⟨L4, HE4⟩ : ∃ L4, Hid (({ l with wire := l.wire.eraseIdx k } : Lp) = L4) := ⟨_, rfl⟩; rw [HE4.out] at hl4 hw4 HRD ⊢; have HX4 : Hid (Blk w4 w.heap.size (.cells (lvX eb l m) 59)) := HXV.out.frame hw4.fr (fun e9 => HLV.out.ne HXV.out (by decide) (by decide) (by decide) (by decide) e9); have HY4 : Hid (Blk w4 (w.heap.size + 1 + 1) (.cells z59 59)) := HYV.out.frame hw4.fr (fun e9 => HLV.out.ne HYV.out (by decide) (by decide) (by decide) (by decide) e9); have HD4 : Hid (Blk w4 (w.heap.size + 1) (.cells (ddB d) 77)) := HDV.out.frame hw4.fr (fun e9 => HLV.out.ne HDV.out (by decide) (by decide) (by decide) (by decide) e9); have HT4 : Hid (Blk w4 W.heap.size (.cells (tpX x) 116)) := HTV.out.frame hw4.fr (fun e9 => by have h9 := (HLW.out.lb (show LV eb l m W.heap.size from e9)).2; omega); have HL4 := Lib.hid hl4; have HS4 := Lib.hid (HSV.out.trans hw4); clear hl4 hw4 x0 x1 x2 xl d0 dl; obtain ⟨x0, x1, x2, xl⟩ := Blk.d3 HX4.out; obtain ⟨z0, z1, z2⟩ := Blk.f3 HX4.out; have d0 := HD4.out.cell 0 (v := .int .i64 d.do_) rfl; have dl := HD4.out.lt; unfold lvV; go_upto_region 19 with fail
 obtain ⟨U, hU⟩ : ∃ U, set59 w4 w.heap.size eb L4 m4 = U := ⟨_, rfl⟩; have hwW := HXW.out.lt; have HLU : Hid (Lv U B eb L4 m4) := by rw [← hU]; exact set59_lv HL4.out HX4.out
 have HXU : Hid (Blk U w.heap.size (.cells (lvX eb L4 m4) 59)) := by rw [← hU]; exact set59_blk HX4.out
 have HSU : Hid (Lw eb l m w L4 m4 U) := by rw [← hU]; exact ((HS4.out.set (p := ⟨w.heap.size, 0, none⟩) (Nat.le_refl _) _).set (p := ⟨w.heap.size, 1, none⟩) (Nat.le_refl _) _).set (p := ⟨w.heap.size, 2, none⟩) (Nat.le_refl _) _
 have hfar : ∀ {b : Nat} {cs : Array Value} {t : TypeId}, Blk w4 b (.cells cs t) → b ≠ w.heap.size → Blk U b (.cells cs t) := fun hb hne => by rw [← hU]; exact ((hb.far (p := ⟨w.heap.size, 0, none⟩) hne _).far (p := ⟨w.heap.size, 1, none⟩) hne _).far (p := ⟨w.heap.size, 2, none⟩) hne _
 have HYU := Lib.hid (hfar HY4.out (by omega)); have HDU := Lib.hid (hfar HD4.out (by omega)); have HTU := Lib.hid (hfar HT4.out (by omega)); unfold set59 at hU; rw [hU]; clear hU hfar x0 x1 x2 xl z0 z1 z2 d0 dl hwW; obtain ⟨x0, x1, x2, xl⟩ := Blk.d3 HXU.out; have d0 := HDU.out.cell 0 (v := .int .i64 d.do_) rfl; have dl := HDU.out.lt; by_cases k4 : d.do_ = 4
 ·have q8 : (d.do_ == 4) = true := beq_iff_eq.2 k4; have HRD := Lib.hid (HRD.out.trans (if_pos k4)); clear k4; obtain ⟨t0, t1, t2, t3, t4, t5, t6, t7, tl⟩ := Blk.d8 HTU.out; go_wp2_with fail
  have HK4 : Hid (Rk L4 900000) := by
   rw [← HE4.out]; exact ⟨HK.out.good, fun y hy => HK.out.wire y (List.mem_of_mem_eraseIdx hy), Nat.le_trans (eraseIdx_len_le _ _) HK.out.len, HK.out.tales, HK.out.txt⟩
  have HF4 : Hid (L4.free = false) := by rw [← HE4.out]; exact hfr
  refine (takes70_any B eb L4 m4 x true U HLU.out HXP.out.2 (HK4.out.good _) HXP.out.1 (by have h1 := congrArg List.length HLU.out.tz; rw [List.length_map] at h1; have := HK4.out.tales; omega) HF4.out (by have := HK4.out.len; omega) (fun v hv => by have := HK4.out.txt v hv; omega)).mono ?_; rintro r w5 ⟨m5, rfl, hl5, hw5⟩; have HL9 := Lib.hid hl5; have HS9 := Lib.hid (HSU.out.trans hw5); have HY9 : Hid (Blk w5 (w.heap.size + 1 + 1) (.cells z59 59)) := HYU.out.frame hw5.fr (fun e9 => HLU.out.ne HYU.out (by decide) (by decide) (by decide) (by decide) e9); obtain ⟨L9, HE9⟩ : ∃ L9, Hid (rTakes L4 x = L9) := ⟨_, rfl⟩; rw [HE9.out] at HL9 HS9 HRD ⊢; clear hl5 hw5 x0 x1 x2 xl d0 dl t0 t1 t2 t3 t4 t5 t6 t7 tl; unfold lvV; have q9 := HY9.out; obtain ⟨y0, y1, y2⟩ := Blk.c3 q9; obtain ⟨z0, z1, z2, yl⟩ := Blk.g3 q9; clear q9; go_wp2; have hbk : Blk (set59 w5 (w.heap.size + 1 + 1) eb L9 m5) (w.heap.size + 1 + 1) (.cells (lvX eb L9 m5) 59) := set59_blk HY9.out; refine bodyPost_ret (v := lvV eb L9 m5) (results_c rfl rfl (load59 hbk)) rfl ⟨m5, by rw [HRD.out]; rfl, by rw [HRD.out]; exact set59_lv HL9.out HY9.out, by rw [HRD.out]; exact ((HS9.out.set (by show _ ≤ w.heap.size + 1 + 1; omega) _).set (by show _ ≤ w.heap.size + 1 + 1; omega) _).set (by show _ ≤ w.heap.size + 1 + 1; omega) _⟩
 ·have q8 : (d.do_ == 4) = false := beq_eq_false_iff_ne.2 k4; have HRD := Lib.hid (HRD.out.trans (if_neg k4)); clear k4; go_upto_region 21 with fail
  have HL9 := HLU; have HS9 := HSU; have HY9 := HYU; have q9 := HY9.out; obtain ⟨y0, y1, y2⟩ := Blk.c3 q9; obtain ⟨z0, z1, z2, yl⟩ := Blk.g3 q9; clear q9; go_wp2; have hbk : Blk (set59 U (w.heap.size + 1 + 1) eb L4 m4) (w.heap.size + 1 + 1) (.cells (lvX eb L4 m4) 59) := set59_blk HY9.out; refine bodyPost_ret (v := lvV eb L4 m4) (results_c rfl rfl (load59 hbk)) rfl ⟨m4, by rw [HRD.out]; rfl, by rw [HRD.out]; exact set59_lv HL9.out HY9.out, by rw [HRD.out]; exact ((HS9.out.set (by show _ ≤ w.heap.size + 1 + 1; omega) _).set (by show _ ≤ w.heap.size + 1 + 1; omega) _).set (by show _ ≤ w.heap.size + 1 + 1; omega) _⟩
end Go.Proofs.Ytejabnoidhlfaaa
namespace Go.Proofs.Ytejabnoidhlfaaa
def isKey (i a b : Int) (t : Ta) : Bool := t.end_ == i && t.life == a && t.peer == b
theorem isKey_iff {i a b : Int} {t : Ta} : isKey i a b t = true ↔ t.end_ = i ∧ t.life = a ∧ t.peer = b := by
 unfold isKey; simp only [Bool.and_eq_true, beq_iff_eq, and_assoc]
def tale (ts : List Ta) (i a b : Int) : Option Ta := ts.find? (isKey i a b)
def sentOf (ts : List Ta) (i a b : Int) : List ByteArray := match tale ts i a b with
 | some t => t.sent
 | none => []
def takenOf (ts : List Ta) (i a b : Int) : List ByteArray := match tale ts i a b with
 | some t => t.taken
 | none => []
def Ord (ts : List Ta) : Prop := ts.Pairwise fun t u => t.end_ = u.end_ → t.life = u.life → t.peer < u.peer
theorem tale_key {ts : List Ta} {i a b : Int} {t : Ta} (h : tale ts i a b = some t) : t ∈ ts ∧ t.end_ = i ∧ t.life = a ∧ t.peer = b := ⟨List.mem_of_find?_eq_some h, isKey_iff.1 (List.find?_some h)⟩
theorem tale_of_mem : ∀ {ts : List Ta}, Ord ts → ∀ {t : Ta}, t ∈ ts → tale ts t.end_ t.life t.peer = some t
 | [], _, t, h => by cases h
 | u :: ts, ho, t, h => by
  have ho' := List.pairwise_cons.1 ho; unfold tale; rw [List.find?_cons]; cases hk : isKey t.end_ t.life t.peer u with
  | true =>
   obtain ⟨h1, h2, h3⟩ := isKey_iff.1 hk; rcases List.mem_cons.1 h with rfl | h
   ·rfl
   ·have := ho'.1 t h h1 h2; omega
  | false =>
   rcases List.mem_cons.1 h with rfl | h
   ·have : isKey t.end_ t.life t.peer t = true := isKey_iff.2 ⟨rfl, rfl, rfl⟩; rw [this] at hk; cases hk
   ·exact tale_of_mem ho'.2 h
theorem tale_at {ts : List Ta} (ho : Ord ts) {k : Nat} {t : Ta} (h : ts[k]? = some t) {i a b : Int} (h1 : t.end_ = i) (h2 : t.life = a) (h3 : t.peer = b) : tale ts i a b = some t := by
 subst h1 h2 h3; exact tale_of_mem ho (List.mem_of_getElem? h)
theorem setAt_split {α : Type} (f : α → α) : ∀ {l : List α} {k : Nat} {x : α}, l[k]? = some x → ∃ p s, l = p ++ x :: s ∧ p.length = k ∧ setAt f k l = p ++ f x :: s
 | [], k, x, h => by simp at h
 | y :: l, 0, x, h => by
  have e : y = x := by simpa using h
  subst e; exact ⟨[], l, rfl, rfl, rfl⟩
 | y :: l, k + 1, x, h => by
  obtain ⟨p, s, h1, h2, h3⟩ := setAt_split f (l := l) (k := k) (x := x) (by simpa using h); exact ⟨y :: p, s, by rw [h1]; rfl, by simp [h2], by rw [setAt, h3]; rfl⟩
theorem tale_set {ts : List Ta} (ho : Ord ts) {k : Nat} {t : Ta} (h : ts[k]? = some t) {f : Ta → Ta} (hf : (f t).end_ = t.end_ ∧ (f t).life = t.life ∧ (f t).peer = t.peer) (i a b : Int) :
  tale (setAt f k ts) i a b = if isKey i a b t = true then some (f t) else tale ts i a b := by
 obtain ⟨p, s, h1, h2, h3⟩ := setAt_split f h; have hk : isKey i a b (f t) = isKey i a b t := by unfold isKey; rw [hf.1, hf.2.1, hf.2.2]
 rw [h3]; unfold tale; rw [h1, List.find?_append, List.find?_append, List.find?_cons, List.find?_cons, hk]; cases hq : isKey i a b t with
 | false => rfl
 | true =>
  have hn : p.find? (isKey i a b) = none := by
   rw [List.find?_eq_none]; intro u hu hku; obtain ⟨q1, q2, q3⟩ := isKey_iff.1 hq; obtain ⟨r1, r2, r3⟩ := isKey_iff.1 hku; rw [h1] at ho; have := (List.pairwise_append.1 ho).2.2 u hu t List.mem_cons_self (by rw [r1, q1]) (by rw [r2, q2]); omega
  rw [hn]; rfl
theorem ord_set {ts : List Ta} (ho : Ord ts) {k : Nat} {f : Ta → Ta} (hf : ∀ t, (f t).end_ = t.end_ ∧ (f t).life = t.life ∧ (f t).peer = t.peer) : Ord (setAt f k ts) := by
 cases h : ts[k]? with
 | none =>
  have : setAt f k ts = ts := by
   apply List.ext_getElem?; intro j; rw [setAt_get]; split
   ·rename_i e; rw [e, h]; rfl
   ·rfl
  rw [this]; exact ho
 | some t =>
  obtain ⟨p, s, h1, h2, h3⟩ := setAt_split f h; rw [h3]; rw [h1] at ho; have hp := List.pairwise_append.1 ho; have hc := List.pairwise_cons.1 hp.2.1; obtain ⟨f1, f2, f3⟩ := hf t; refine List.pairwise_append.2 ⟨hp.1, List.pairwise_cons.2 ⟨fun u hu => ?_, hc.2⟩, fun u hu v hv => ?_⟩
  ·rw [f1, f2, f3]; exact hc.1 u hu
  ·rcases List.mem_cons.1 hv with rfl | hv
   ·rw [f1, f2, f3]; exact hp.2.2 u hu t List.mem_cons_self
   ·exact hp.2.2 u hu v (List.mem_cons_of_mem _ hv)
theorem tale_app {ts : List Ta} {n : Ta} (hn : tale ts n.end_ n.life n.peer = none) (i a b : Int) : tale (ts ++ [n]) i a b = if isKey i a b n = true then some n else tale ts i a b := by
 unfold tale; rw [List.find?_append]; cases hk : isKey i a b n with
 | true =>
  obtain ⟨h1, h2, h3⟩ := isKey_iff.1 hk; subst h1 h2 h3; unfold tale at hn; rw [hn]; simp [hk]
 | false => simp [hk]
theorem ord_app {ts : List Ta} (ho : Ord ts) {n : Ta} (h : ∀ t ∈ ts, t.end_ = n.end_ → t.life = n.life → t.peer < n.peer) : Ord (ts ++ [n]) := by
 refine List.pairwise_append.2 ⟨ho, List.pairwise_cons.2 ⟨fun u hu => (by cases hu), List.Pairwise.nil⟩, fun u hu v hv => ?_⟩; have : v = n := by simpa using hv
 subst this; exact h u hu
end Go.Proofs.Ytejabnoidhlfaaa
