/- Contracts and lemmas that the claim uses. -/
import Derived.Test.YtejabnoidhlfaaaV21
import Derived.Test.YtejabnoidhlfaaaV22
set_option maxRecDepth 100000
set_option maxHeartbeats 16000000
namespace Go.Proofs.Ytejabnoidhlfaaa
open Go.RowKit Go.Maps
theorem again_any (e : En) (A : Option Addr) (c : Nat) (Bi : Option Addr) (d : Nat) (w : World) (h : EnAt w e A Bi) :
  Calls Try.prog 12 #[enV e A c Bi d] w fun r w' => r = .returned (.tuple #[enV (againA e).1 none 0 none 0, .int .i64 (againA e).2]) ∧ Below w.heap.size w w' := by
 have HE := Lib.hid h; unfold enV; go_enter Try.func12, Try.ntmps12
 go_wp2_with fail
 obtain ⟨W, hW⟩ : ∃ W, (w.alloc (.cells #[.int .i64 e.life, .int .i64 e.peer, .int .i64 e.phase, .int .i64 e.base, .slice A e.out.length c, .int .i64 e.want, .slice Bi e.inn.length d] 26)).alloc (.cells #[.int .i64 0, .int .i64 0, .int .i64 0, .int .i64 0, .slice none 0 0, .int .i64 0, .slice none 0 0] 26) = W := ⟨_, rfl⟩; rw [hW]; have HB0 : Hid (Below w.heap.size w W) := by rw [← hW]; exact (((Below.refl _ w).alloc (Nat.le_refl _) _).alloc (by simp) _)
 have hsW : W.heap.size = w.heap.size + 2 := by rw [← hW]; simp
 have HK1 : Hid (Blk W w.heap.size (.cells (enB e A c Bi d) 26)) := by rw [← hW]; exact (Blk.new _ _).alloc _
 have HK2 : Hid (Blk W (w.heap.size + 1) (.cells (enB noEn none 0 none 0) 26)) := by
  rw [← hW]; have e1 := Blk.new (w.alloc (.cells #[.int .i64 e.life, .int .i64 e.peer, .int .i64 e.phase, .int .i64 e.base, .slice A e.out.length c, .int .i64 e.want, .slice Bi e.inn.length d] 26)) (.cells #[.int .i64 0, .int .i64 0, .int .i64 0, .int .i64 0, .slice none 0 0, .int .i64 0, .slice none 0 0] 26); rw [World.size_alloc] at e1; exact e1
 clear hW; refine (fine_any e A c Bi d W (HE.out.below HB0.out)).mono ?_; rintro r w1 ⟨rfl, hB1⟩; have HBZ := Lib.hid hB1; clear hB1; obtain ⟨bg, hbg⟩ : ∃ b, Hid (goodB e = b) := ⟨_, rfl⟩; rw [hbg.out]; cases bg with
 | false =>
  have HAG : Hid (againA e = (noEn, 2)) := by show _ = _; unfold againA; rw [if_pos hbg.out]
  have h2z := HK2.out.below HBZ.out (by omega); have H2Z := Lib.hid h2z; obtain ⟨z0, z1, z2, z3, z4, z5, z6⟩ := Blk.c7 h2z; obtain ⟨y0, y1, y2, y3, y4, y5, y6, yl⟩ := Blk.g7 h2z; clear h2z; go_wp2; have q1 := setEn_blk (e := noEn) (A := none) (c := 0) (B := none) (d := 0) H2Z.out; have q9 := setEn_below (e := noEn) (A := none) (c := 0) (B := none) (d := 0) (HB0.out.trans (HBZ.out.mono (by omega))) (show w.heap.size ≤ w.heap.size + 1 by omega); have hl1 := load26 q1; refine bodyPost_ret (v := .tuple #[enV noEn none 0 none 0, .int .i64 2]) (results_ct rfl rfl rfl hl1) rfl ⟨by rw [HAG.out]; rfl, ?_⟩; exact q9
 | true =>
  have h1 := HK1.out.below HBZ.out (by omega); have x0 := h1.cell 0 (v := .int .i64 e.life) rfl; have xl := h1.lt; clear h1; by_cases hm : e.life = 1000000000
  ·have q1 : (e.life == 1000000000) = true := beq_iff_eq.2 hm; have HAG : Hid (againA e = (noEn, 3)) := by show _ = _; unfold againA most; rw [if_neg (by rw [hbg.out]; decide), if_pos hm]
   clear hm; have h2z := HK2.out.below HBZ.out (by omega); have H2Z := Lib.hid h2z; obtain ⟨z0, z1, z2, z3, z4, z5, z6⟩ := Blk.c7 h2z; obtain ⟨y0, y1, y2, y3, y4, y5, y6, yl⟩ := Blk.g7 h2z; clear h2z; go_wp2; have q1 := setEn_blk (e := noEn) (A := none) (c := 0) (B := none) (d := 0) H2Z.out; have q9 := setEn_below (e := noEn) (A := none) (c := 0) (B := none) (d := 0) (HB0.out.trans (HBZ.out.mono (by omega))) (show w.heap.size ≤ w.heap.size + 1 by omega); have hl1 := load26 q1; refine bodyPost_ret (v := .tuple #[enV noEn none 0 none 0, .int .i64 3]) (results_ct rfl rfl rfl hl1) rfl ⟨by rw [HAG.out]; rfl, ?_⟩; exact q9
  ·have q1 : (e.life == 1000000000) = false := beq_eq_false_iff_ne.2 hm; have HAG0 : Hid (againA e = startA (e.life + 1)) := by show _ = _; unfold againA most; rw [if_neg (by rw [hbg.out]; decide), if_neg hm]
   have hlf := (good_iff.1 hbg.out).life; unfold most at hlf; have hw1 : IntKind.i64.wrap (e.life + 1) = e.life + 1 := wrap_ok ⟨by omega, by omega⟩; clear hm; go_wp2_with fail
   refine (start_any (e.life + 1) w1).mono ?_; rintro r w2 ⟨rfl, hB2⟩; have HBZ2 : Hid (Below W.heap.size W w2) := below_in HBZ.out hB2; clear HBZ x0 xl hB2 q1 hw1; have HBZ := HBZ2; clear HBZ2; obtain ⟨S, HS⟩ : ∃ S, Hid (startA (e.life + 1) = S) := ⟨_, rfl⟩; have HNO : Hid (S.1.out = [] ∧ S.1.inn = []) := by
    show _ ∧ _; rw [← HS.out]; unfold startA; split <;> exact ⟨rfl, rfl⟩
   have HAG : Hid (againA e = (S.1, S.2)) := by show _ = _; rw [HAG0.out, HS.out]
   rw [HS.out]; unfold enV; have h2z := HK2.out.below HBZ.out (by omega); have H2Z := Lib.hid h2z; obtain ⟨z0, z1, z2, z3, z4, z5, z6⟩ := Blk.c7 h2z; obtain ⟨y0, y1, y2, y3, y4, y5, y6, yl⟩ := Blk.g7 h2z; clear h2z; go_wp2; have q1 := setEn_blk (e := S.1) (A := none) (c := 0) (B := none) (d := 0) H2Z.out; have q9 := setEn_below (e := S.1) (A := none) (c := 0) (B := none) (d := 0) (HB0.out.trans (HBZ.out.mono (by omega))) (show w.heap.size ≤ w.heap.size + 1 by omega); have hl1 := load26 q1; refine bodyPost_ret (v := .tuple #[enV S.1 none 0 none 0, .int .i64 (S.2)]) (results_ct rfl rfl rfl hl1) rfl ⟨by rw [HAG.out]; rfl, ?_⟩; exact q9
theorem deed_at {d : Dd} (h : deedB d = true) : 0 ≤ d.at_ := by
 by_cases hk : d.do_ = 1 ∨ d.do_ = 2 ∨ d.do_ = 3 ∨ d.do_ = 4 ∨ d.do_ = 5 ∨ d.do_ = 6
 ·rw [deedB_eq hk] at h; simp only [Bool.and_eq_true, decide_eq_true_eq] at h; exact h.1.2
 ·rw [deedB_no hk] at h; cases h
structure Sk (V wx : World) (R : En × List Pk × Int) (b5 : Nat) (A : Option Addr) (c : Nat) (D : Option Addr) (d : Nat) (P : Option Addr) (cp : Nat) : Prop where
 below : Below V.heap.size V wx
 k5 : Blk wx b5 (.cells (enB R.1 A c D d) 26)
 en : EnT wx R.1 A c D
 ow : wx.ownsRow V.heap.size 44 7 (.slice P R.2.1.length cp) R.2.1.length (pks R.2.1)
theorem sk_make {V U0 UT U : World} {E : En} {t : ByteArray} {b5 : Nat} {A : Option Addr} {c : Nat} {D : Option Addr} {d : Nat} {P : Option Addr} {cp : Nat}
  (hs : V.heap.size ≤ U0.heap.size) (hB : Below V.heap.size V U) (hU : Below UT.heap.size UT U) (h5 : Blk U b5 (.cells (enB noEn none 0 none 0) 26)) (g5 : V.heap.size ≤ b5)
  (he : EnAt UT (sendA E t).1 A D) (hn : A = none → c = 0) (hc : (sendA E t).1.out.length ≤ c) (hr : RowAt UT U0.heap.size A (sendA E t).1.out) (hi : ImAt UT D (sendA E t).1.inn) (hp : UT.ownsRow U0.heap.size 44 7 (.slice P (sendA E t).2.1.length cp) (sendA E t).2.1.length (pks (sendA E t).2.1)) :
  Sk V (setEn U b5 (sendA E t).1 A c D d) (sendA E t) b5 A c D d P cp := by
 have q1 := setEn_blk (e := (sendA E t).1) (A := A) (c := c) (B := D) (d := d) h5; have q3 := setEn_frame (e := (sendA E t).1) (A := A) (c := c) (B := D) (d := d) (Frame.refl (fun b => b = b5) U) (.inl rfl); have n1 : ∀ {b : Nat} {cs : Array Value} {t : TypeId}, Blk U b (.cells cs t) → t ≠ 26 → ¬ (b = b5) := fun hb t1 e => blk_ne hb h5 t1 e; have hsU := hB.size; have hfU : Frame (fun _ => False) UT U := Frame.of_all hU; have hr2 := hr.frame hfU (fun _ _ _ h => h); have hi2 := hi.frame hfU (fun _ _ _ h => h); have f71 : ∀ b cur, Blk U b (.cells cur 71) → ¬ (b = b5) := fun b cur hb => n1 hb (by decide); have f73 : ∀ b cur, Blk U b (.cells cur 73) → ¬ (b = b5) := fun b cur hb => n1 hb (by decide); have ho := own_frame hp hfU (fun _ _ h => h); refine ⟨hB.trans (q3.below (B := V.heap.size) (fun b e => by omega) hsU), q1, ⟨⟨hr2.cells (he.out.below hU (Nat.le_refl _)) q3 f71, ?_⟩, (hr2.frame q3 f71).mono (Nat.zero_le _), hi2.frame q3 f73, hn, hc⟩, own_mono (own_frame ho q3 (fun g hg e => own_ne ho h5 (by decide) (by rw [hg, e]))) hs⟩; refine (he.inn.below hU (Nat.le_refl _)).frame q3 fun h0 a ha => ?_; obtain ⟨b, off, cur, e1, e2⟩ := hi2 (by rintro h1; exact h0 (by rw [h1]; rfl)); rw [e1] at ha; injection ha with ha; rw [← ha]; exact f73 b cur e2
theorem off_own {V wx : World} {B bl : Nat} {l : Lp} {m : Lm} {P : Option Addr} {cp n : Nat} {t : TypeId} {size : Nat} {xs : List Value} (hl : Lo V B bl l m) (h : wx.ownsRow V.heap.size t size (.slice P n cp) n xs) (hx : xs.length ≤ 17592186043904) : Off wx bl l m P xs :=
 ⟨(Cells.of_own h hx).1, fun _ a ha hb => by have h1 := (h.lt a.block (by rw [ha]; rfl)).1; have h2 := (hl.lb hb).2; omega⟩
theorem does_1 {l : Lp} {d : Dd} (h : d.do_ = 1) : doesA l d = if (sendA (l.end_ d.end_) d.t).2.2 = 0 then wayA (becomesA l d.end_ (sendA (l.end_ d.end_) d.t).1) d.end_ (sendA (l.end_ d.end_) d.t).2.1 else l := by
 unfold doesA; simp only; rw [if_pos h]
theorem does_send (B bl : Nat) (l : Lp) (m : Lm) (d : Dd) (w : World) (n : Nat) (h : Lo w B bl l m) (hn : LineK l n) (hnn : n ≤ 80000000) (hd : deedB d = true) (hk : d.do_ = 1) :
  Calls Try.prog 81 #[.pointer (some ⟨bl, 0, none⟩), ddV d] w fun r w' => r = .returned (.tuple #[]) ∧ ∃ m', Lo w' B bl (doesA l d) m' ∧ Ls bl l m w (doesA l d) m' w' := by
 have HDO := Lib.hid (does_1 (l := l) hk); have q1 : (d.do_ == 1) = true := beq_iff_eq.2 hk; have HLO := Lib.hid h; have HLK := Lib.hid hn; have HD := Lib.hid hd; have HEI : Hid (d.end_ = 0 ∨ d.end_ = 1) := deed_end hd; have hat := deed_at hd; have hwl : l.wire.length ≤ 80000000 := by have := hn.bulk.wire; omega
 have HWL := Lib.hid hwl; have HAT := Lib.hid hat; obtain ⟨kk, HKK⟩ : ∃ kk : Nat, Hid ((d.at_ % (l.wire.length : Int)).toNat = kk) := ⟨_, rfl⟩; have HK := Lib.hid hk; clear h hn hd hk; unfold ddV; go_enter Try.func81, Try.ntmps81
 obtain ⟨W, hW⟩ : ∃ W, w.alloc (.cells #[.int .i64 d.do_, .int .i64 d.end_, .int .i64 d.at_, .string d.t] 77) = W := ⟨_, rfl⟩; have HBW : Hid (Below w.heap.size w W) := by rw [← hW]; exact (Below.refl _ w).alloc (Nat.le_refl _) _
 have HKW : Hid (Blk W w.heap.size (.cells (ddB d) 77)) := by rw [← hW]; exact Blk.new _ _
 have HLW : Hid (Lo W B bl l m) := HLO.out.below HBW.out; have c14 := HLW.out.box.cell 14 (v := .slice m.W l.wire.length m.cw) rfl; have c2 := HKW.out.cell 2 (v := .int .i64 d.at_) rfl; have lbW := HLW.out.box.lt; have lkW := HKW.out.lt; go_upto_if 18 with fail
 clear hW; go_cut [4] from 13 (fun v wx => ∃ z : Int, v = .int .i64 z ∧ (l.wire.length ≠ 0 → z = (kk : Int)) ∧ Lo wx B bl l m ∧ Ls bl l m w l m wx ∧ Blk wx w.heap.size (.cells (ddB d) 77))
 case first =>
  by_cases h0 : (0 : Int) < (l.wire.length : Int)
  ·have q0 : decide ((0 : Int) < (l.wire.length : Int)) = true := decide_eq_true h0; have hne : ¬ (l.wire.length : Int) = 0 := by omega
   have hnl : ¬ l.wire.length = 0 := by omega
   go_upto_region 3 with fail
   refine sall (by kernel_rfl) (by kernel_rfl) (fun Kq hKq => ?_); repeat still_step
   refine wpStill_nil (hKq _ ?_); clear hKq Kq; go_wp2_with fail
   go_meet; exact ⟨_, rfl, fun _ => by rw [← HKK.out, Int.tmod_eq_emod_of_nonneg HAT.out, Int.toNat_of_nonneg (Int.emod_nonneg _ hne)], HLW.out.drew, (Ls.of_below HBW.out).trans (Ls.of_below (Below.refl _ _).drew), HKW.out.drew⟩
  ·have q0 : decide ((0 : Int) < (l.wire.length : Int)) = false := decide_eq_false h0; go_wp2_with fail
   go_meet; exact ⟨0, rfl, fun h => absurd (by omega) h, HLW.out, Ls.of_below HBW.out, HKW.out⟩
 case rest =>
  obtain ⟨V, rfl⟩ : ∃ V, V = wc := ⟨wc, rfl⟩; obtain ⟨z, rfl, hz, hl, hs, hkb⟩ := hcut; have HZ := Lib.hid hz; have HLV := Lib.hid hl; have HSV := Lib.hid hs; have HKV := Lib.hid hkb; clear hz hl hs hkb c14 c2 lbW lkW; obtain ⟨E, HE⟩ : ∃ E, Hid (l.end_ d.end_ = E) := ⟨_, rfl⟩; have HEN : Hid (EnT V E (m.A d.end_) (m.c d.end_) (m.D d.end_)) := by have h1 := HLV.out.end_ HEI.out; rw [HE.out] at h1; exact h1
  have HGE : Hid (goodB E = true) := by have h1 := HLK.out.ok.good d.end_; rw [HE.out] at h1; exact h1
  have hixE : ∀ w', (Instr.indexAt 107 (.pointer (some ⟨bl, 0, none⟩)) (.int .i64 d.end_)).run Try.prog w' = .ok (.pointer (some ⟨bl, 7 * d.end_.toNat, none⟩)) w' := fun w' => ix107 HEI.out w'; obtain ⟨o, ho⟩ : ∃ o, Hid (7 * d.end_.toNat = o) := ⟨_, rfl⟩; rw [ho.out] at hixE; obtain ⟨d0, d1, d2, d3, dl⟩ := Blk.d4 HKV.out; rw [HE.out] at HDO; go_upto_region 7 with fail
  go_cut [5, 6, 7] from 42 (fun v5 v6 v7 wx => ∃ b5 A c D dd P cp, v5 = .pointer (some ⟨b5, 0, none⟩) ∧ v6 = .slice P (sendA E d.t).2.1.length cp ∧ v7 = .int .i64 (sendA E d.t).2.2 ∧ Sk V wx (sendA E d.t) b5 A c D dd P cp)
  case first =>
   refine draw (fun w' => Below V.heap.size V w') 18 rfl (by kernel_rfl) (fun Qd hQd => ?_); iterate 9 (first | apply sI 0 (by rfl) rfl (by kernel_rfl) | apply sI 1 (by rfl) rfl (by kernel_rfl) | apply sI 7 (by rfl) rfl (by kernel_rfl) | apply sI 2 (by rfl) rfl (by kernel_rfl) | apply sI 3 (by rfl) rfl (by kernel_rfl) | apply sI 8 (by rfl) rfl (by kernel_rfl) | apply sI 4 (by rfl) rfl (by kernel_rfl) | apply sI 5 (by rfl) rfl (by kernel_rfl) | apply sI 6 (by rfl) rfl (by kernel_rfl)); (focus intro wI hI Kv hKv; have q9 := (HLV.out.below hI).endc HEI.out; rw [HE.out, ho.out] at q9; obtain ⟨e0, e1, e2, e3, e4, e5, e6⟩ := q9; have k1 := cell_chain hI dl d1; have k3 := cell_chain hI dl d3; go_simp; exact hKv); intro Kd hKd; go_simp; refine hKd _ ?_; clear hKd Kd
   refine anyI_two' 9 14 rfl rfl (by kernel_rfl) ((Below.refl _ V).drew) (fun Kd hKd => ?_) (fun Kd hKd => ?_)
   ·skip
    obtain ⟨U0, hU0⟩ : ∃ U0, V.drew = U0 := ⟨_, rfl⟩; have HB0 : Hid (Below V.heap.size V U0) := by rw [← hU0]; exact (Below.refl _ V).drew
    have hs0 := HB0.out.size; rw [hU0]; go_wp2_with (go_at_call 15; go_must (refine (send_any E (m.A d.end_) (m.c d.end_) (m.D d.end_) (m.d d.end_) d.t U0 (HEN.out.at_.below HB0.out) HEN.out.nl).mono ?_); rintro r wt ⟨A, c, D, dd, vv, rfl, hE, hRo, hIm, hA0, hAc, hOw, hBt⟩; obtain ⟨P, cp, rfl⟩ := own_fits hOw)
    have HTK : Hid (EnAt wt (sendA E d.t).1 A D ∧ (A = none → c = 0) ∧ (sendA E d.t).1.out.length ≤ c ∧ RowAt wt U0.heap.size A (sendA E d.t).1.out ∧ ImAt wt D (sendA E d.t).1.inn ∧ wt.ownsRow U0.heap.size 44 7 (.slice P (sendA E d.t).2.1.length cp) (sendA E d.t).2.1.length (pks (sendA E d.t).2.1)) := ⟨hE, hA0, hAc, hRo, hIm, hOw⟩; have HBU : Hid (Below U0.heap.size U0 wt) := hBt; have HBT : Hid (Below V.heap.size V wt) := below_in HB0.out hBt; have hst := HBU.out.size; clear hE hRo hIm hA0 hAc hOw hBt; unfold enV; iterate 4 (first | apply sI 10 (by rfl) rfl (by kernel_rfl) | apply sI 11 (by rfl) rfl (by kernel_rfl) | apply sI 12 (by rfl) rfl (by kernel_rfl) | apply sI 13 (by rfl) rfl (by kernel_rfl)); (focus intro wI hI Kv hKv; go_simp; exact hKv); intro Kd hKd; go_simp; refine hKd _ ?_; clear hKd Kd
    refine anyI_one' 14 rfl (by kernel_rfl) (HBT.out) (fun Kd hKd => ?_); go_wp2; obtain ⟨U, hU⟩ : ∃ U, wt.alloc (.cells #[.int .i64 0, .int .i64 0, .int .i64 0, .int .i64 0, .slice none 0 0, .int .i64 0, .slice none 0 0] 26) = U := ⟨_, rfl⟩; have HUT : Hid (Below wt.heap.size wt U) := by rw [← hU]; exact (Below.refl _ wt).alloc (Nat.le_refl _) _
    have H5 : Hid (Blk U (wt.heap.size) (.cells (enB noEn none 0 none 0) 26)) := by rw [← hU]; exact Blk.new _ _
    have HVU : Hid (Below V.heap.size V U) := HBT.out.trans (HUT.out.mono (by omega)); have HG5 : Hid (V.heap.size ≤ wt.heap.size) := by show _ ≤ _; omega
    rw [hU]; clear hU; obtain ⟨z0, z1, z2, z3, z4, z5, z6⟩ := Blk.c7 H5.out; obtain ⟨y0, y1, y2, y3, y4, y5, y6, yl⟩ := Blk.g7 H5.out; refine anyI_one' 15 rfl (by kernel_rfl) (HVU.out) (fun Kd hKd => ?_); go_wp2; have HK9 : Hid (Sk V (setEn U (wt.heap.size) (sendA E d.t).1 A c D dd) (sendA E d.t) (wt.heap.size) A c D dd P cp) := by
     obtain ⟨hE, hA0, hAc, hRo, hIm, hOw⟩ := HTK.out; exact sk_make hs0 HVU.out HUT.out H5.out HG5.out hE hA0 hAc hRo hIm hOw
    iterate 2 (first | apply sI 16 (by rfl) rfl (by kernel_rfl) | apply sI 17 (by rfl) rfl (by kernel_rfl)); (focus intro wI hI Kv hKv; go_simp; exact hKv); intro Kd hKd; go_simp; refine hKd _ ?_; clear hKd Kd
    refine anyI_end (by kernel_rfl) ((by have q := HK9.out.below; exact q)) (hQd _ _ ?_); clear hQd Qd; go_wp2_with fail
    go_meet; exact ⟨wt.heap.size, A, c, D, dd, P, cp, rfl, rfl, rfl, HK9.out⟩
   ·go_wp2; refine anyI_one' 9 rfl (by kernel_rfl) ((((Below.refl _ V).alloc (Nat.le_refl _) _).drew)) (fun Kd hKd => ?_); obtain ⟨U0, hU0⟩ : ∃ U0, (V.alloc (.cells #[.int .i64 0, .int .i64 0, .int .i64 0, .int .i64 0, .slice none 0 0, .int .i64 0, .slice none 0 0] 26)).drew = U0 := ⟨_, rfl⟩; have HB0 : Hid (Below V.heap.size V U0) := by rw [← hU0]; exact ((Below.refl _ V).alloc (Nat.le_refl _) _).drew
    have hs0 := HB0.out.size; rw [hU0]; have HZ5 : Hid (Blk U0 V.heap.size (.cells #[.int .i64 0, .int .i64 0, .int .i64 0, .int .i64 0, .slice none 0 0, .int .i64 0, .slice none 0 0] 26)) := by rw [← hU0]; exact (Blk.new _ _).drew
    have hz5 := HZ5.out.lt; go_wp2_with (go_at_call 15; go_must (refine (send_any E (m.A d.end_) (m.c d.end_) (m.D d.end_) (m.d d.end_) d.t U0 (HEN.out.at_.below HB0.out) HEN.out.nl).mono ?_); rintro r wt ⟨A, c, D, dd, vv, rfl, hE, hRo, hIm, hA0, hAc, hOw, hBt⟩; obtain ⟨P, cp, rfl⟩ := own_fits hOw)
    have HTK : Hid (EnAt wt (sendA E d.t).1 A D ∧ (A = none → c = 0) ∧ (sendA E d.t).1.out.length ≤ c ∧ RowAt wt U0.heap.size A (sendA E d.t).1.out ∧ ImAt wt D (sendA E d.t).1.inn ∧ wt.ownsRow U0.heap.size 44 7 (.slice P (sendA E d.t).2.1.length cp) (sendA E d.t).2.1.length (pks (sendA E d.t).2.1)) := ⟨hE, hA0, hAc, hRo, hIm, hOw⟩; have HBU : Hid (Below U0.heap.size U0 wt) := hBt; have HBT : Hid (Below V.heap.size V wt) := below_in HB0.out hBt; have hst := HBU.out.size; clear hE hRo hIm hA0 hAc hOw hBt; unfold enV; iterate 4 (first | apply sI 10 (by rfl) rfl (by kernel_rfl) | apply sI 11 (by rfl) rfl (by kernel_rfl) | apply sI 12 (by rfl) rfl (by kernel_rfl) | apply sI 13 (by rfl) rfl (by kernel_rfl)); (focus intro wI hI Kv hKv; go_simp; exact hKv); intro Kd hKd; go_simp; refine hKd _ ?_; clear hKd Kd
    obtain ⟨U, hU⟩ : ∃ U, wt = U := ⟨_, rfl⟩; have HUT : Hid (Below wt.heap.size wt U) := by rw [← hU]; exact Below.refl _ wt
    have H5 : Hid (Blk U (V.heap.size) (.cells (enB noEn none 0 none 0) 26)) := by rw [← hU]; exact HZ5.out.below HBU.out hz5
    have HVU : Hid (Below V.heap.size V U) := HBT.out.trans (HUT.out.mono (by omega)); have HG5 : Hid (V.heap.size ≤ V.heap.size) := by show _ ≤ _; omega
    rw [hU]; clear hU; obtain ⟨z0, z1, z2, z3, z4, z5, z6⟩ := Blk.c7 H5.out; obtain ⟨y0, y1, y2, y3, y4, y5, y6, yl⟩ := Blk.g7 H5.out; refine anyI_one' 15 rfl (by kernel_rfl) (HVU.out) (fun Kd hKd => ?_); go_wp2; have HK9 : Hid (Sk V (setEn U (V.heap.size) (sendA E d.t).1 A c D dd) (sendA E d.t) (V.heap.size) A c D dd P cp) := by
     obtain ⟨hE, hA0, hAc, hRo, hIm, hOw⟩ := HTK.out; exact sk_make hs0 HVU.out HUT.out H5.out HG5.out hE hA0 hAc hRo hIm hOw
    iterate 2 (first | apply sI 16 (by rfl) rfl (by kernel_rfl) | apply sI 17 (by rfl) rfl (by kernel_rfl)); (focus intro wI hI Kv hKv; go_simp; exact hKv); intro Kd hKd; go_simp; refine hKd _ ?_; clear hKd Kd
    refine anyI_end (by kernel_rfl) ((by have q := HK9.out.below; exact q)) (hQd _ _ ?_); clear hQd Qd; go_wp2_with fail
    go_meet; exact ⟨V.heap.size, A, c, D, dd, P, cp, rfl, rfl, rfl, HK9.out⟩
  case rest =>
   obtain ⟨V2, rfl⟩ : ∃ V2, V2 = wc := ⟨wc, rfl⟩; obtain ⟨b5, A, c, D, dd, P, cp, rfl, rfl, rfl, hsk⟩ := hcut; have HSK := Lib.hid hsk; have HL2 : Hid (Lo V2 B bl l m) := HLV.out.below hsk.below; have HS2 : Hid (Ls bl l m w l m V2) := HSV.out.trans (Ls.of_below hsk.below); have HK2 : Hid (Blk V2 w.heap.size (.cells (ddB d) 77)) := HKV.out.below hsk.below dl; have HOP : Hid (Off V2 bl l m P (pks (sendA E d.t).2.1)) := off_own HLV.out hsk.ow (by rw [pks_len]; have := send_packets E d.t; omega); clear hsk d0 d1 d2 d3 dl; have x1 := HK2.out.cell 1 (v := .int .i64 d.end_) rfl; have xl := HK2.out.lt; obtain ⟨R, HR⟩ : ∃ R, Hid (sendA E d.t = R) := ⟨_, rfl⟩; have HPL : Hid (R.2.1.length ≤ 4) := by show _ ≤ _; rw [← HR.out]; exact send_packets E d.t
   have HOK : Hid (R.2.2 = 0 → GoodP R.1 ∧ Cont E R.1) := fun h0 => by
    rw [← HR.out] at h0 ⊢; exact ⟨good_iff.1 (send_ok HGE.out h0).2.1, send_cont HGE.out h0⟩
   rw [HR.out] at HSK HOP HDO ⊢; cases h0 : (R.2.2 == 0) with
   | true =>
    have h00 : R.2.2 = 0 := beq_iff_eq.1 h0; obtain ⟨hg, hct⟩ := HOK.out h00; have HG := Lib.hid hg; rw [if_pos h00] at HDO; obtain ⟨hold, hnew⟩ := becomes_hold HLK.out.now HLK.out.bulk (by omega) HEI.out (e := R.1) (by rw [HE.out]; exact hct); have HOLD := Lib.hid hold; have HNEW := Lib.hid hnew; clear hold hnew hg hct h00; obtain ⟨y0, y1, y2, y3, y4, y5, y6, yl⟩ := Blk.d7 HSK.out.k5; go_wp2_with fail
    refine (becomes_any B bl l m d.end_ HEI.out R.1 A c D dd V2 HL2.out HSK.out.en HG.out (by have := HLK.out.bulk.tales; omega) HOLD.out HNEW.out).mono ?_; rintro r w3 ⟨rfl, M3, hl3, hs3⟩; have HL3 := Lib.hid hl3; have HS3 := Lib.hid hs3; have h3 := HK2.out.frame hs3.fr (HL2.out.ne HK2.out (by decide) (by decide) (by decide) (by decide)); clear x1 xl y0 y1 y2 y3 y4 y5 y6 yl hl3 hs3; have x1 := h3.cell 1 (v := .int .i64 d.end_) rfl; have xl := h3.lt; clear h3; go_wp2_with fail
    refine (way_any B bl (becomesA l d.end_ R.1) M3 d.end_ P cp R.2.1 w3 HL3.out HEI.out (HOP.out.step HS3.out) (by rw [(becomes_e l d.end_ R.1).2.2.1]; have := HWL.out; have := HPL.out; omega)).mono ?_; rintro r w9 ⟨rfl, M9, hl9, hs9⟩; go_wp2; go_end0
    rw [HDO.out]; exact ⟨rfl, M9, hl9, (HS2.out.trans HS3.out).trans hs9⟩
   | false =>
    have h00 : ¬ R.2.2 = 0 := beq_eq_false_iff_ne.1 h0; rw [if_neg h00] at HDO; clear h00; go_wp2; go_end0
    rw [HDO.out]; exact ⟨rfl, m, HL2.out, HS2.out⟩
end Go.Proofs.Ytejabnoidhlfaaa
