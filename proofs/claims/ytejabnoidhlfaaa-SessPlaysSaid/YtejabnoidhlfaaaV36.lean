/- Contracts and lemmas that the claim uses. -/
import Derived.Test.YtejabnoidhlfaaaV35
set_option maxRecDepth 100000
set_option maxHeartbeats 16000000
namespace Go.Proofs.Ytejabnoidhlfaaa
open Go.RowKit Go.Maps
theorem Lv.dnil {w : World} {B bl : Nat} {l : Lp} {m : Lm} (h : Lv w B bl l m) {i : Int} (hi : i = 0 ∨ i = 1) : m.D i = none → m.d i = 0 := by
 rcases hi with rfl | rfl
 ·exact h.dn.1
 ·exact h.dn.2
theorem wf_good' {e : En} (h : GoodP e) : Wf e := by
 have hb := h.base; have hr := h.room; have hw := h.want; have hi := h.ins; unfold most at hr hw; refine ⟨by unfold inI; omega, fun x hx => ?_⟩; have h1 := hi.1.gt x hx; have h2 := (hi.2 x hx).2.1; unfold most at h2; unfold inI; omega
theorem EnT.dnl {w : World} {e : En} {A : Option Addr} {c : Nat} {D : Option Addr} (h : EnT w e A c D) (hD : D = none) : e.inn.length = 0 := by
 cases hi : e.inn with
 | nil => rfl
 | cons x l =>
  obtain ⟨b, off, cur, h1, _⟩ := h.im (by rw [hi]; simp); rw [hD] at h1; cases h1
theorem Lp.setEnd_end (l : Lp) {i : Int} (hi : i = 0 ∨ i = 1) (e : En) : (l.setEnd i e).end_ i = e := by
 rcases hi with rfl | rfl <;> rfl
theorem Lp.setEnd_keep (l : Lp) (i : Int) (e : En) : (l.setEnd i e).wire = l.wire ∧ (l.setEnd i e).tales = l.tales ∧ (l.setEnd i e).free = l.free := by
 unfold Lp.setEnd; split <;> exact ⟨rfl, rfl, rfl⟩
theorem lvX_setE (eb : Nat) (l : Lp) (m : Lm) (i : Int) (e : En) (A : Option Addr) (c : Nat) (D : Option Addr) (d : Nat) : lvX eb (l.setEnd i e) (m.setE i A c D d) = lvX eb l m ∧ (m.setE i A c D d).zs = m.zs := by
 unfold lvX Lp.setEnd Lm.setE; split <;> exact ⟨rfl, rfl⟩
theorem onTale_keep (l : Lp) (i : Int) (f : Ta → Ta) : (onTale l i f).wire = l.wire ∧ (onTale l i f).free = l.free := by
 unfold onTale; simp only; split <;> exact ⟨rfl, rfl⟩
theorem sends83_any (B eb : Nat) (l : Lp) (m : Lm) (i : Int) (t : ByteArray) (w : World) (h : Lv w B eb l m) (hi : i = 0 ∨ i = 1) (hg : goodB (l.end_ i) = true) (hz : m.zs.length ≤ 1000000) (hfr : l.free = false) (hn : l.wire.length ≤ 1000000) (hsl : ∀ v ∈ l.tales, v.sent.length ≤ 1000000) :
  Calls Try.prog 83 #[lvV eb l m, .int .i64 i, .string t] w fun r w' => ∃ m', r = .returned (lvV eb (rSends l i t) m') ∧ Lv w' B eb (rSends l i t) m' ∧ Lw eb l m w (rSends l i t) m' w' := by
 have HL := Lib.hid h; have HI := Lib.hid hi; have HG := Lib.hid (good_iff.1 hg); have hix := ix55 (b := eb) hi; clear h hi hg; unfold lvV; go_enter Try.func83, Try.ntmps83
 obtain ⟨W, hW⟩ : ∃ W, (w.alloc (.cells #[.slice (some ⟨eb, 0, none⟩) 2 2, .slice m.W l.wire.length m.cw, .slice m.T m.zs.length m.ct] 59)).alloc (.cells #[.slice none 0 0, .slice none 0 0, .slice none 0 0] 59) = W := ⟨_, rfl⟩; have HBW : Hid (Below w.heap.size w W) := by rw [← hW]; exact ((Below.refl _ w).alloc (Nat.le_refl _) _).alloc (by simp) _
 have HXW : Hid (Blk W w.heap.size (.cells (lvX eb l m) 59)) := by rw [← hW]; exact (Blk.new _ _).alloc _
 have HYW : Hid (Blk W (w.heap.size + 1) (.cells z59 59)) := by
  rw [← hW]; have e1 := Blk.new (w.alloc (.cells (lvX eb l m) 59)) (.cells z59 59); rw [World.size_alloc] at e1; exact e1
 have HLW := Lib.hid (HL.out.below HBW.out); have HEW := Lib.hid (HLW.out.end_ HI.out); have HDW := Lib.hid (HLW.out.dnil HI.out); obtain ⟨e0, e1, e2, e3, e4, e5, e6⟩ := HLW.out.endc HI.out; have hel := HLW.out.box.lt; obtain ⟨o, ho⟩ : ∃ o, Hid (7 * i.toNat = o) := ⟨_, rfl⟩; obtain ⟨E0, HE0⟩ : ∃ E0, Hid (l.end_ i = E0) := ⟨_, rfl⟩; obtain ⟨A0, HA0⟩ : ∃ A0, Hid (m.A i = A0) := ⟨_, rfl⟩; obtain ⟨c0, HC0⟩ : ∃ c0, Hid (m.c i = c0) := ⟨_, rfl⟩; obtain ⟨D0, HD0⟩ : ∃ D0, Hid (m.D i = D0) := ⟨_, rfl⟩; obtain ⟨d0, Hd0⟩ : ∃ d0, Hid (m.d i = d0) := ⟨_, rfl⟩; rw [ho.out] at hix; rw [HE0.out, ho.out] at e0 e1 e2 e3 e4 e5 e6; rw [HA0.out, HC0.out] at e4; rw [HD0.out, Hd0.out] at e6; rw [HE0.out] at HG; rw [HE0.out, HA0.out, HC0.out, HD0.out] at HEW; rw [HD0.out, Hd0.out] at HDW; obtain ⟨x0, x1, x2, xl⟩ := Blk.d3 HXW.out; go_wp2_with fail
 clear hW; refine (rsend_any E0 A0 c0 D0 d0 t W HEW.out.at_ (wf_good' HG.out) HEW.out.nl (fun h9 => ⟨HEW.out.dnl h9, HDW.out h9⟩)).mono ?_; rintro r w2 ⟨A2, c2, D2, d2, P2, p2, rfl, hE2, hC2, hP2, hd2, hB2⟩; obtain ⟨R, HR⟩ : ∃ R, Hid (sendA E0 t = R) := ⟨_, rfl⟩; rw [HR.out] at hE2 hC2 ⊢; have HET := Lib.hid hE2; have HPC := Lib.hid hC2; have HPF := Lib.hid hP2; have HDN := Lib.hid hd2; have HB2 : Hid (Below W.heap.size W w2) := hB2; clear hE2 hC2 hP2 hd2 hB2 x0 x1 x2 xl e0 e1 e2 e3 e4 e5 e6 hel; unfold enV; go_upto_region 2 with fail
 obtain ⟨V, hV⟩ : ∃ V, w2.alloc (.cells #[.int .i64 R.1.life, .int .i64 R.1.peer, .int .i64 R.1.phase, .int .i64 R.1.base, .slice A2 R.1.out.length c2, .int .i64 R.1.want, .slice D2 R.1.inn.length d2] 26) = V := ⟨_, rfl⟩; have hbv : Below w2.heap.size w2 V := by rw [← hV]; exact (Below.refl _ w2).alloc (Nat.le_refl _) _
 have HBV : Hid (Below W.heap.size W V) := below_in HB2.out hbv; have HKV : Hid (Blk V w2.heap.size (.cells (enB R.1 A2 c2 D2 d2) 26)) := by rw [← hV]; exact Blk.new _ _
 have HETV : Hid (EnT V R.1 A2 c2 D2) := HET.out.frame (Frame.of_all (S := fun _ => False) hbv) (fun _ _ _ h => h) (fun _ _ _ h => h); have HPCV := Lib.hid (HPC.out.below hbv (Nat.le_refl _)); have HLV := Lib.hid (HLW.out.below HBV.out); have HXV := Lib.hid (HXW.out.below HBV.out HXW.out.lt); have HYV := Lib.hid (HYW.out.below HBV.out HYW.out.lt); have HBwV : Hid (Below w.heap.size w V) := HBW.out.trans (HBV.out.mono HBW.out.size); have HSZ : Hid (W.heap.size ≤ w2.heap.size) := HB2.out.size; rw [hV]; clear hV hbv HET HPC; obtain ⟨x0, x1, x2, xl⟩ := Blk.d3 HXV.out; by_cases hok : R.2.2 = 0
 ·have q1 : (R.2.2 != 0) = false := by simp [hok]
  have HOK := Lib.hid hok; clear hok; have hc := HLV.out.endc HI.out; rw [HE0.out, ho.out, HA0.out, HC0.out, HD0.out, Hd0.out] at hc; obtain ⟨k1, k2, k3, k4, k5, k6⟩ := setEnO_chain (.int .i64 R.1.life) (.int .i64 R.1.peer) (.int .i64 R.1.phase) (.int .i64 R.1.base) (.slice A2 R.1.out.length c2) (.int .i64 R.1.want) hc; have hc0 := hc.1; clear hc; obtain ⟨b0, b1, b2, b3, b4, b5, b6, bl⟩ := Blk.d7 HKV.out; have y0 := HLV.out.box.free o; have y1 := HLV.out.box.free (o + 1); have y2 := HLV.out.box.free (o + 2); have y3 := HLV.out.box.free (o + 3); have y4 := HLV.out.box.free (o + 4); have y5 := HLV.out.box.free (o + 5); have y6 := HLV.out.box.free (o + 6); have yl := HLV.out.box.lt; go_upto_region 5 with fail
  clear k1 k2 k3 k4 k5 k6 hc0 b0 b1 b2 b3 b4 b5 b6 bl y0 y1 y2 y3 y4 y5 y6 yl x0 x1 x2 xl; obtain ⟨U, hU⟩ : ∃ U, setEnO V eb o R.1 A2 c2 D2 d2 = U := ⟨_, rfl⟩; have HFU : Hid (Frame (fun b => b = eb) V U) := by rw [← hU]; exact setEnO_frame (Frame.refl (fun b => b = eb) V) (.inl rfl)
  have hVE := HLV.out.setEnd HI.out d2 HETV.out HDN.out; rw [ho.out, hU] at hVE; obtain ⟨hX1, hX2⟩ := lvX_setE eb l m i R.1 A2 c2 D2 d2; obtain ⟨hq1, hq2, hq3⟩ := Lp.setEnd_keep l i R.1; have hq4 := Lp.setEnd_end l HI.out R.1; have HRS : Hid (rSends l i t = wayA (onTale (l.setEnd i R.1) i (fun v => { v with sent := v.sent ++ textsA R.2.1 })) i R.2.1) := by show _ = _; unfold rSends; simp only [HE0.out, HR.out]; rw [if_pos HOK.out]
  obtain ⟨L1, hL1⟩ : ∃ L1, l.setEnd i R.1 = L1 := ⟨_, rfl⟩; obtain ⟨M1, hM1⟩ : ∃ M1, m.setE i A2 c2 D2 d2 = M1 := ⟨_, rfl⟩; rw [hL1] at hVE hX1 hq1 hq2 hq3 hq4 HRS; rw [hM1] at hVE hX1 hX2; have HLU := Lib.hid hVE.1; have HSU : Hid (Lw eb l m w L1 M1 U) := (Lw.of_below HBwV.out).trans hVE.2; have hXU := HXV.out.frame HFU.out (show ¬ _ = _ from fun e9 => blk_ne HXV.out HLV.out.box (by decide) e9); rw [← hX1] at hXU; have HXU := Lib.hid hXU; have HYU := Lib.hid (HYV.out.frame HFU.out (show ¬ _ = _ from fun e9 => blk_ne HYV.out HLV.out.box (by decide) e9)); have HPU : Hid (OffV U eb L1 M1 P2 (pks R.2.1)) := by
   have h0 : OffV V eb l m P2 (pks R.2.1) := ⟨HPCV.out, fun hn a ha hb => by have h1 := HPF.out a ha; have h2 := (HLW.out.lb hb).2; omega⟩; exact h0.step hVE.2
  have HQ := Lib.hid (And.intro hq1 (And.intro hq2 (And.intro hq3 hq4))); have HZL : Hid (M1.zs.length ≤ 1000000) := by show _ ≤ _; rw [hX2]; exact hz
  unfold setEnO at hU; rw [hU]; clear hU hVE hX1 hX2 hq1 hq2 hq3 hq4 hL1 hM1 hXU; obtain ⟨x0, x1, x2, xl⟩ := Blk.d3 HXU.out; go_wp2_with fail
  refine (tale86_any B eb L1 M1 i HI.out U HLU.out HZL.out).mono ?_; rintro r w5 ⟨z, rfl, hz5, hB5⟩; rw [HQ.out.2.2.2] at hz5; have HZR := Lib.hid hz5; have HIX : Hid (z = taleIx R.1 i L1.tales) := hz5.ix; have HL5 := Lib.hid (HLU.out.below hB5); have HX5 := Lib.hid (HXU.out.below hB5 HXU.out.lt); have HY5 := Lib.hid (HYU.out.below hB5 HYU.out.lt); have HS5 : Hid (Lw eb l m w L1 M1 w5) := HSU.out.trans (Lw.of_below hB5); have HP5 := Lib.hid (HPU.out.step (Lw.of_below hB5)); have HSZ5 : Hid (w.heap.size ≤ w5.heap.size) := HS5.out.fr.size; clear hz5 hB5 x0 x1 x2 xl; obtain ⟨L2, HL2⟩ : ∃ L2, Hid (onTale L1 i (fun v => { v with sent := v.sent ++ textsA R.2.1 }) = L2) := ⟨_, rfl⟩; rw [HL2.out] at HRS; obtain ⟨zb, hzb⟩ : ∃ b, decide (0 ≤ z) = b := ⟨_, rfl⟩; go_upto_if 34 with fail
  go_cut [] from 11 (fun wx => ∃ M2 : Lm, Lv wx B eb L2 M2 ∧ Lw eb l m w L2 M2 wx ∧ Blk wx w.heap.size (.cells (lvX eb L2 M2) 59) ∧ Blk wx (w.heap.size + 1) (.cells z59 59) ∧ OffV wx eb L2 M2 P2 (pks R.2.1))
  case first =>
   cases zb with
   | true =>
    have h0 := of_decide_eq_true hzb; have HRL : Hid (R.2.1.length ≤ 1000) := by show _ ≤ _; rw [← HR.out]; exact sendA_len _ _
    obtain ⟨k, v0, rfl, htk⟩ : ∃ (k : Nat) (v0 : Ta), z = (k : Int) ∧ L1.tales[k]? = some v0 := by
     rcases HZR.out with ⟨h1, _⟩ | ⟨k, v0, h1, h2, _⟩
     ·omega
     ·exact ⟨k, v0, h1, h2⟩
    obtain ⟨zt, g, hzt, hzv, hT, hkl, hgl, ⟨cur, hcur⟩, _, _, _, c3, _, _, hfree⟩ := HL5.out.tale htk; have hixk : ∀ w', (Instr.indexAt 57 (.slice M1.T M1.zs.length M1.ct) (.int .i64 (k : Int))).run Try.prog w' = .ok (.pointer (some ⟨g, k * 6, none⟩)) w' := by rw [hT]; exact ix57 hkl
    have HLE : Hid (L2 = { L1 with tales := L1.tales.set k { v0 with sent := v0.sent ++ textsA R.2.1 } }) := by
     show _ = _; rw [← HL2.out]; unfold onTale; simp only [HQ.out.2.2.2, ← HIX.out]; rw [if_pos h0, Int.toNat_natCast, setAt_eq htk]
    have hsn : zt.v.sent.length ≤ 1000000 := by rw [hzv]; exact hsl v0 (by rw [← HQ.out.2.1]; exact List.mem_of_getElem? htk)
    have hxm : ((.slice zt.S zt.v.sent.length zt.cs, zt.v.sent) : Value × List ByteArray) ∈ txs M1.zs := List.mem_flatMap.2 ⟨zt, List.mem_of_getElem? hzt, by simp [tx]⟩; have HXO : Hid (w5.ownsRow B 9 1 (.slice zt.S zt.v.sent.length zt.cs) zt.v.sent.length (strs zt.v.sent)) := HL5.out.txt.own _ hxm; have HCU := Lib.hid hcur; have HZT := Lib.hid hzt; have HZV := Lib.hid hzv; have HTT := Lib.hid hT; have HC3 := Lib.hid c3; have HGL := Lib.hid hgl; have nx := own_ne HXO.out HX5.out (by decide); have ng := own_ne HXO.out hcur (by decide); have NX := Lib.hid nx; have NG := Lib.hid ng; have hB5' := HL5.out.lo; have hB5'' := HL5.out.box.lt; clear h0 hzb htk hzt hzv hT hkl hcur hfree hxm c3 hgl nx ng; go_upto_region 7 with fail
    obtain ⟨X, rfl⟩ : ∃ X, X = w5 := ⟨_, rfl⟩; refine drawl (fun w' => Frame (fun b => (Value.slice zt.S zt.v.sent.length zt.cs).ownBlock = some b) X w') 14 14 rfl (by kernel_rfl) (fun Qd hQd => ?_); iterate 10 (first | apply sL 0 (by rfl) (by kernel_rfl) rfl (by kernel_rfl) | apply sL 2 (by rfl) (by kernel_rfl) rfl (by kernel_rfl) | apply sL 3 (by rfl) (by kernel_rfl) rfl (by kernel_rfl) | apply sL 5 (by rfl) (by kernel_rfl) rfl (by kernel_rfl) | apply sL 9 (by rfl) (by kernel_rfl) rfl (by kernel_rfl) | apply sL 1 (by rfl) (by kernel_rfl) rfl (by kernel_rfl) | apply sL 4 (by rfl) (by kernel_rfl) rfl (by kernel_rfl) | apply sL 6 (by rfl) (by kernel_rfl) rfl (by kernel_rfl) | apply sL 7 (by rfl) (by kernel_rfl) rfl (by kernel_rfl) | apply sL 8 (by rfl) (by kernel_rfl) rfl (by kernel_rfl)); (focus intro wI hI Kv hKv; have q9 := HX5.out.frame hI NX.out; have g2 := q9.cell 2 (v := .slice M1.T M1.zs.length M1.ct) rfl; have gl := q9.lt; clear q9; have g3 := cell_frame hI HGL.out NG.out HC3.out; go_simp; exact hKv); intro Kd hKd; go_simp; refine hKd _ ?_; clear hKd Kd
    refine anyL_one 10 rfl (by kernel_rfl) ((Frame.refl _ X).drew) (fun Kd hKd => ?_); go_wp2_with (go_at_call 87; go_must (refine (texts87_any P2 p2 R.2.1 _ (HP5.out.at_.below (Below.refl _ X).drew (Nat.le_refl _)) HRL.out).mono ?_); rintro r u1 ⟨T, ct, rfl, hoT, hBu⟩)
    have HBu : Hid (Below X.heap.size X u1) := below_in (Below.refl _ X).drew hBu; have HFu : Hid (Frame (fun b => (Value.slice zt.S zt.v.sent.length zt.cs).ownBlock = some b) X u1) := Frame.of_all HBu.out; have HOu := Lib.hid (own_frame HXO.out (Frame.of_all (S := fun _ => False) HBu.out) (fun _ _ h => h)); have htl := textsA_len R.2.1; have HRL1 := HRL.out; have HCT : Hid (Cells u1 T (strs (textsA R.2.1))) := (Cells.of_own hoT (by rw [strs_len]; omega)).1; have hT0 : T = none → (textsA R.2.1).length = 0 ∧ ct = 0 := fun h9 => by have h1 := own_nil hoT h9; have h2 := own_cap hoT; omega
    have hsu := HBu.out.size; clear hoT hBu; refine anyL_one 11 rfl (by kernel_rfl) (HFu.out) (fun Kd hKd => ?_); go_wp2_with (at_builtin; go_must (refine wpList_appN rSt _ rfl _ _ rfl HOu.out rfl T (textsA R.2.1).length ct (strs (textsA R.2.1)) rfl hT0 HCT.out (by rw [strs_len, Nat.mul_one]) (stC_one _) (by omega) (by omega) ?_); intro v6 w6 ho6 hB6 hg6 hl6; obtain ⟨A6, c6, rfl⟩ := own_fits ho6)
    have HG6 : Hid (Frame (fun b => (Value.slice zt.S zt.v.sent.length zt.cs).ownBlock = some b) X w6) := HFu.out.trans (Frame.of_grown hg6) (fun _ _ h => h); have r1 := cell_frame HG6.out HGL.out NG.out HC3.out; have r2 := (HCU.out.frame HG6.out NG.out).free (k * 6 + 3); have r3 := (HCU.out.frame HG6.out NG.out).lt; have HO6 := Lib.hid ho6; have HL6 : Hid (∀ g, (Value.slice A6 (zt.v.sent.length + (textsA R.2.1).length) c6).ownBlock = some g → (Value.slice zt.S zt.v.sent.length zt.cs).ownBlock = some g ∨ X.heap.size ≤ g) := fun g hg => by
     rcases hl6 g hg with h9 | h9
     ·exact .inl h9
     ·exact .inr (Nat.le_trans hsu h9)
    clear ho6 hB6 hg6 hl6; refine anyL_one 12 rfl (by kernel_rfl) (HG6.out) (fun Kd hKd => ?_); go_wp2; apply anyL_step 13 (by kernel_rfl) rfl (by kernel_rfl); (focus intro wI hI Kv hKv; go_simp; exact hKv); intro Kd hKd; go_simp; refine hKd _ ?_; clear hKd Kd
    refine anyL_end rfl (by kernel_rfl) (HG6.out) (fun Kd hKd => ?_); go_wp2; go_meet; have e1 : (zt.v.sent ++ textsA R.2.1).length = zt.v.sent.length + (textsA R.2.1).length := List.length_append; have es : strs (zt.v.sent ++ textsA R.2.1) = strs zt.v.sent ++ strs (textsA R.2.1) := by simp [strs]
    have ho : w6.ownsRow B 9 1 (.slice A6 (zt.v.sent ++ textsA R.2.1).length c6) (zt.v.sent ++ textsA R.2.1).length (strs (zt.v.sent ++ textsA R.2.1)) := by rw [e1, es]; exact HO6.out
    have hst := HL5.out.setText (k := k) (j := 0) (g := g) (z := zt) (z' := { zt with v := { zt.v with sent := zt.v.sent ++ textsA R.2.1 }, S := A6, cs := c6 }) (x := (.slice zt.S zt.v.sent.length zt.cs, zt.v.sent)) HZT.out (by omega) HTT.out rfl rfl rfl HG6.out ho (by rw [e1]; exact HL6.out); rw [e1] at hst; have hxg : w.heap.size ≠ g := fun e9 => by have h9 := HCU.out; rw [← e9] at h9; exact blk_ne h9 HX5.out (by decide) rfl
    have hyg : w.heap.size + 1 ≠ g := fun e9 => by have h9 := HCU.out; rw [← e9] at h9; exact blk_ne h9 HY5.out (by decide) rfl
    rw [HLE.out, ← HZV.out]; refine ⟨{ M1 with zs := M1.zs.set k { zt with v := { zt.v with sent := zt.v.sent ++ textsA R.2.1 }, S := A6, cs := c6 } }, hst.1, HS5.out.trans hst.2, ?_, (HY5.out.frame HG6.out (own_ne HXO.out HY5.out (by decide))).far (p := ⟨g, _, none⟩) hyg _, HP5.out.step hst.2⟩; have h8 := (HX5.out.frame HG6.out NX.out).far (p := ⟨g, k * 6 + 3, none⟩) hxg (.slice A6 (zt.v.sent.length + (textsA R.2.1).length) c6); unfold lvX at h8 ⊢; simp only [List.length_set]; exact h8
   | false =>
    have h0 := of_decide_eq_false hzb; have HLE : Hid (L2 = L1) := by
     show _ = _; rw [← HL2.out]; unfold onTale; simp only [HQ.out.2.2.2, ← HIX.out]; rw [if_neg h0]
    clear h0; go_wp2_with fail
    go_meet; rw [HLE.out]; exact ⟨M1, HL5.out, HS5.out, HX5.out, HY5.out, HP5.out⟩
  case rest =>
   clear hzb HL5 HX5 HY5 HS5 HP5 HSZ5 HLU HXU HYU HSU HPU; obtain ⟨V6, rfl⟩ : ∃ V6, V6 = wc := ⟨_, rfl⟩; obtain ⟨M2, hlv, hlw, hx6, hy6, hp6⟩ := hcut; have HL6 := Lib.hid hlv; have HS6 := Lib.hid hlw; have HX6 := Lib.hid hx6; have HY6 := Lib.hid hy6; have HP6 := Lib.hid hp6; have hkeep := onTale_keep L1 i (fun v => { v with sent := v.sent ++ textsA R.2.1 }); rw [HL2.out] at hkeep; have HKP := Lib.hid hkeep; have HRL : Hid (R.2.1.length ≤ 1000) := by
    show _ ≤ _; rw [← HR.out]; exact sendA_len _ _
   clear hlv hlw hx6 hy6 hp6 hkeep; obtain ⟨x0, x1, x2, xl⟩ := Blk.d3 HX6.out; go_wp2_with fail
   refine (post69_any B eb L2 M2 i P2 p2 R.2.1 true V6 HL6.out HI.out HP6.out (by rw [HKP.out.2, HQ.out.2.2.1, hfr]; rfl) (by rw [HKP.out.1, HQ.out.1]; have := HRL.out; omega)).mono ?_; rintro r w7 ⟨M3, rfl, hl7, hw7⟩; have HL7 := Lib.hid hl7; have HS7 : Hid (Lw eb l m w (wayA L2 i R.2.1) M3 w7) := HS6.out.trans hw7; have HY7 : Hid (Blk w7 (w.heap.size + 1) (.cells z59 59)) := HY6.out.frame hw7.fr (fun e9 => HL6.out.ne HY6.out (by decide) (by decide) (by decide) (by decide) e9); obtain ⟨L3, HL3⟩ : ∃ L3, Hid (wayA L2 i R.2.1 = L3) := ⟨_, rfl⟩; rw [HL3.out] at HL7 HS7 HRS ⊢; clear hl7 hw7 x0 x1 x2 xl; unfold lvV; have q9 := HY7.out; obtain ⟨y0, y1, y2⟩ := Blk.c3 q9; obtain ⟨z0, z1, z2, yl⟩ := Blk.g3 q9; clear q9; go_wp2; have hbk : Blk (set59 w7 (w.heap.size + 1) eb L3 M3) (w.heap.size + 1) (.cells (lvX eb L3 M3) 59) := set59_blk HY7.out; refine bodyPost_ret (v := lvV eb L3 M3) (results_c rfl rfl (load59 hbk)) rfl ⟨M3, by rw [HRS.out]; rfl, by rw [HRS.out]; exact set59_lv HL7.out HY7.out, by rw [HRS.out]; exact ((HS7.out.set (by show _ ≤ w.heap.size + 1; omega) _).set (by show _ ≤ w.heap.size + 1; omega) _).set (by show _ ≤ w.heap.size + 1; omega) _⟩
 ·have q1 : (R.2.2 != 0) = true := by simpa using hok
  have HRS : Hid (rSends l i t = l) := by show _ = _; unfold rSends; simp only [HE0.out, HR.out]; rw [if_neg hok]
  have q9 := HYV.out; obtain ⟨y0, y1, y2⟩ := Blk.c3 q9; obtain ⟨z0, z1, z2, yl⟩ := Blk.g3 q9; clear q9; clear hok; go_wp2; have hbk : Blk (set59 V (w.heap.size + 1) eb l m) (w.heap.size + 1) (.cells (lvX eb l m) 59) := set59_blk HYV.out; refine bodyPost_ret (v := lvV eb l m) (results_c rfl rfl (load59 hbk)) rfl ⟨m, by rw [HRS.out]; rfl, by rw [HRS.out]; exact set59_lv HLV.out HYV.out, by rw [HRS.out]; exact (((Lw.of_below HBwV.out).set (by show _ ≤ w.heap.size + 1; omega) _).set (by show _ ≤ w.heap.size + 1; omega) _).set (by show _ ≤ w.heap.size + 1; omega) _⟩
def overE (e : En) (peer : Int) : En := ⟨e.life, peer, 2, 0, e.out.drop (flyN e), 0, []⟩
theorem outOk_free : ∀ (l : List Ou) (i : Nat) (f : Nat), f ≤ i → outOk f i l = true → l.map (fun x => (⟨x.t, false⟩ : Ou)) = l
 | [], _, _, _, _ => rfl
 | x :: l, i, f, hf, h => by
  simp only [outOk, Bool.and_eq_true] at h; have ih := outOk_free l (i + 1) f (by omega) h.2; have h1 := h.1.2; rw [decide_eq_false (show ¬ i < f by omega), Bool.and_false, Bool.or_false] at h1; rw [List.map_cons, ih]; congr 1; obtain ⟨xt, xh⟩ := x; simp only [Bool.not_eq_true'] at h1; rw [h1]
theorem outOk_drop : ∀ (l : List Ou) (i f g : Nat), outOk f i l = true → outOk f (i + g) (l.drop g) = true
 | l, i, f, 0, h => h
 | [], i, f, g + 1, h => by simp [outOk]
 | x :: l, i, f, g + 1, h => by
  simp only [outOk, Bool.and_eq_true] at h; have ih := outOk_drop l (i + 1) f g h.2; rw [List.drop_succ_cons, show i + (g + 1) = i + 1 + g by omega]; exact ih
theorem overE_eq {e : En} (h : outOk (flyN e) 0 e.out = true) (peer : Int) : overA e peer = (overE e peer, (e.out.take (flyN e)).map (·.t)) := by
 unfold overA overE; have h1 := outOk_drop e.out 0 (flyN e) (flyN e) h; rw [outOk_free _ _ _ (by omega) h1]
theorem over58_any (e : En) (A : Option Addr) (c : Nat) (D : Option Addr) (d : Nat) (peer : Int) (w : World) (h : EnAt w e A D) (hcap : e.out.length ≤ c) (_hlen : e.out.length ≤ 12) :
  Calls Try.prog 58 #[enV e A c D d, .int .i64 peer] w fun r w' => ∃ T ct, r = .returned (.tuple #[enV (overE e peer) (cutA A c (flyN e)) (c - flyN e) none 0, .slice T (flyN e) ct]) ∧ w'.ownsRow w.heap.size 9 1 (.slice T (flyN e) ct) (flyN e) (strs ((e.out.take (flyN e)).map (·.t))) ∧ Below w.heap.size w w' := by
 have HE := Lib.hid h; clear h; unfold enV; go_enter Try.func58, Try.ntmps58
 obtain ⟨W, hW⟩ : ∃ W, (w.alloc (.cells #[.int .i64 e.life, .int .i64 e.peer, .int .i64 e.phase, .int .i64 e.base, .slice A e.out.length c, .int .i64 e.want, .slice D e.inn.length d] 26)).alloc (.cells #[.int .i64 0, .int .i64 0, .int .i64 0, .int .i64 0, .slice none 0 0, .int .i64 0, .slice none 0 0] 26) = W := ⟨_, rfl⟩; have HBW : Hid (Below w.heap.size w W) := by rw [← hW]; exact (((Below.refl _ w).alloc (Nat.le_refl _) _).alloc (by simp) _)
 have hsW : W.heap.size = w.heap.size + 2 := by rw [← hW]; simp
 have HK1 : Hid (Blk W w.heap.size (.cells (enB e A c D d) 26)) := by rw [← hW]; exact (Blk.new _ _).alloc _
 have HK2 : Hid (Blk W (w.heap.size + 1) (.cells (enB noEn none 0 none 0) 26)) := by
  rw [← hW]; have e1 := Blk.new (w.alloc (.cells #[.int .i64 e.life, .int .i64 e.peer, .int .i64 e.phase, .int .i64 e.base, .slice A e.out.length c, .int .i64 e.want, .slice D e.inn.length d] 26)) (.cells #[.int .i64 0, .int .i64 0, .int .i64 0, .int .i64 0, .slice none 0 0, .int .i64 0, .slice none 0 0] 26); rw [World.size_alloc] at e1; exact e1
 obtain ⟨x0, x1, x2, x3, x4, x5, x6, xl⟩ := Blk.d7 HK1.out; go_wp2_with fail
 clear hW x0 x1 x2 x3 x4 x5 x6 xl; refine (flying_any e A c D d W).mono ?_; rintro r w1 ⟨rfl, hB1⟩; have HB1 : Hid (Below w.heap.size w w1) := HBW.out.trans (hB1.mono HBW.out.size); have HK3 := Lib.hid (HK1.out.below hB1 HK1.out.lt); have HK4 := Lib.hid (HK2.out.below hB1 HK2.out.lt); have HEc := Lib.hid (HE.out.below HB1.out); have hfl := fly_le e; obtain ⟨F, HF⟩ : ∃ F, Hid (flyN e = F) := ⟨_, rfl⟩; rw [HF.out] at hfl ⊢; clear hB1; go_wp2_with fail
 go_loopg [7, 8] F (fun g vo iv wr => ∃ k : Nat, k + g = F ∧ iv = .int .i64 (k : Int) ∧ wr.ownsRow w1.heap.size 9 1 vo k (strs ((e.out.take k).map (·.t))) ∧ Below w1.heap.size w1 wr)
 case atStart => exact ⟨0, Nat.zero_add _, rfl, World.ownsRow_nil _ _ _ _, Below.refl _ _⟩
 case round =>
  obtain ⟨k, hk, rfl, hown, hB⟩ := hrel; have HKK := Lib.hid hk; have HO := Lib.hid hown; have HB := Lib.hid hB; have HKr := Lib.hid (HK3.out.below hB HK3.out.lt); have HK4r := Lib.hid (HK4.out.below hB HK4.out.lt); have hk12 : k ≤ 12 := by omega
  have hsr := HB.out.size; clear hk hown hB; have q9 := HKr.out; obtain ⟨x0, x1, x2, x3, x4, x5, x6, xl⟩ := Blk.d7 q9; by_cases hlt : (k : Int) < (F : Int)
  ·clear q9; have hkl : k < e.out.length := by omega
   obtain ⟨x, xb, xo, hx, hxb, hxi, ht, hh⟩ := ou_at (c := c) (k := k) (HEc.out.below HB.out).out hkl; have hw1 : IntKind.i64.wrap ((k : Int) + 1) = (k : Int) + 1 := wrap_ok ⟨by omega, by omega⟩; have HT : Hid (strs ((e.out.take (k + 1)).map (·.t)) = strs ((e.out.take k).map (·.t)) ++ [.string x.t]) := by
    show _ = _; rw [take_succ_of hx, List.map_append, List.map_cons, List.map_nil, strs_snoc]
   clear hx hh; go_wp2_with (at_builtin; go_must (refine wpList_app1' rSt _ rfl _ _ rfl HO.out rfl [_] 1 rfl rfl (by simp [Value.oneCell']) (by omega) (by omega) ?_); intro v' w2 hown2 hB2 hg2 hloc2)
   go_roundg (F - (k + 1))
   case measure => have := HKK.out; omega
   case rel => exact ⟨k + 1, by have := HKK.out; omega, rfl, by rw [HT.out]; exact hown2, HB.out.trans hB2⟩
  ·have q8 := q9; obtain ⟨y0, y1, y2, y3, y4, y5, y6⟩ := Blk.f7 q9; clear q9 q8; obtain rfl : k = F := by have := HKK.out; omega
   have hcut := cut_run (A := A) (n := e.out.length) (c := c) (g := k) (by omega) hcap; obtain ⟨T, ct, rfl⟩ := own_fits HO.out; go_upto_region 13 with fail
   clear x0 x1 x2 x3 x4 x5 x6 xl y0 y1 y2 y3 y4 y5 y6 hcut; obtain ⟨V, hV⟩ : ∃ V, ((((((wr.setCell ⟨w.heap.size, 4, none⟩ (.slice (cutA A c k) (e.out.length - k) (c - k))).setCell ⟨w.heap.size, 1, none⟩ (.int .i64 peer)).setCell ⟨w.heap.size, 2, none⟩ (.int .i64 2)).setCell ⟨w.heap.size, 3, none⟩ (.int .i64 0)).setCell ⟨w.heap.size, 5, none⟩ (.int .i64 0)).setCell ⟨w.heap.size, 6, none⟩ (.slice none 0 0)) = V := ⟨_, rfl⟩; have hEl : (overE e peer).out.length = e.out.length - k := by show (e.out.drop (flyN e)).length = _; rw [HF.out, List.length_drop]
   have HKV : Hid (Blk V w.heap.size (.cells (enB (overE e peer) (cutA A c k) (c - k) none 0) 26)) := by
    unfold enB; rw [hEl, ← hV]; exact (((((HKr.out.set 4 _).set 1 _).set 2 _).set 3 _).set 5 _).set 6 _
   have HFV : Hid (Frame (fun b => b = w.heap.size) wr V) := by
    rw [← hV]; exact ((((((Frame.refl (fun b => b = w.heap.size) wr).setCell (p := ⟨_, 4, none⟩) (.inl rfl) _).setCell (p := ⟨_, 1, none⟩) (.inl rfl) _).setCell (p := ⟨_, 2, none⟩) (.inl rfl) _).setCell (p := ⟨_, 3, none⟩) (.inl rfl) _).setCell (p := ⟨_, 5, none⟩) (.inl rfl) _).setCell (p := ⟨_, 6, none⟩) (.inl rfl) _
   have HK4V : Hid (Blk V (w.heap.size + 1) (.cells (enB noEn none 0 none 0) 26)) := HK4r.out.frame HFV.out (by show ¬ _ = _; omega); have HBV : Hid (Below w.heap.size w V) := by
    rw [← hV]; exact ((((((HB1.out.trans (HB.out.mono HB1.out.size)).setCell (Nat.le_refl _) _).setCell (Nat.le_refl _) _).setCell (Nat.le_refl _) _).setCell (Nat.le_refl _) _).setCell (Nat.le_refl _) _).setCell (Nat.le_refl _) _
   have hOV := own_frame HO.out HFV.out (fun g hg e2 => own_ne HO.out HKr.out (by decide) (by rw [hg, e2])); rw [hV]; clear hV hEl; obtain ⟨x0, x1, x2, x3, x4, x5, x6, xl⟩ := Blk.d7 HKV.out; have q9 := HK4V.out; obtain ⟨z0, z1, z2, z3, z4, z5, z6⟩ := Blk.c7 q9; obtain ⟨u0, u1, u2, u3, u4, u5, u6, ul⟩ := Blk.g7 q9; clear q9; go_wp2; have q := setEn_frame (e := overE e peer) (A := cutA A c k) (c := c - k) (B := none) (d := 0) (Frame.refl (fun b => b = w.heap.size + 1) V) (.inl rfl); have hl := load26 (setEn_blk (e := overE e peer) (A := cutA A c k) (c := c - k) (B := none) (d := 0) HK4V.out); have hb := setEn_below (e := overE e peer) (A := cutA A c k) (c := c - k) (B := none) (d := 0) HBV.out (show w.heap.size ≤ w.heap.size + 1 by omega); refine bodyPost_ret (v := .tuple #[enV (overE e peer) (cutA A c k) (c - k) none 0, .slice T k ct]) (results_ct rfl rfl rfl hl) rfl ⟨T, ct, by rw [HF.out]; rfl, ?_, hb⟩; rw [HF.out, ← List.map_take]; exact own_mono (own_frame hOV q (fun g hg e2 => own_ne hOV HK4V.out (by decide) (by rw [hg, e2]))) (by have := HB1.out.size; omega)
end Go.Proofs.Ytejabnoidhlfaaa
